/-
  Parts of a proof: lemmas that the last text uses.
-/
import Derived.Test.YtpkekfapphbgjaaGreatDoorB4
set_option linter.unusedVariables false
set_option linter.unusedSimpArgs false
set_option maxHeartbeats 16000000
variable {A stmt:Go.Proofs.Z.Rd Go.Aw.Nd} {p:Go.Aw.Nd->Bool} {b i v k deep:Int} {cs:List Go.Aw.V} {n o:Go.Aw.Nd} {es:List (List Go.Aw.V)} {c:Go.Code} {Q:Go.Aw.AD->Go.Aw.Env->Go.Aw.St->Prop} {env:Go.Aw.Env} {st':Go.Aw.St} {x t s m w:List UInt8} {α σ β:Type} {f g:Go.FuncId} {P:Go.Program} {l:List Go.Aw.Nd} {K:Int->Prop} {pos:Nat}
namespace Go.Proofs.Z
open Go Go.Aw
section
variable {st0 st:St} {b d:Nat} {s:Al} {rows:List (AA×List Nd)} {K:At->St->Prop} {L:EN} {atom:Rd Nd}
attribute [local irreducible] Go.Aw.Ag
theorem gH (U:AY enc 349 (λb=>[pv b d]) atom):AY enc 341 (λb=>[pv b d,.func 349 [] [],.func 409 [] []]) (Dr atom KK):=
 Kd U λ_ _ k=>TV k
theorem TC (h:Rd.A7 A):Rd.A7 (Dr A p):=Rd.A7.look λs v s' e=>Rd.A7.at (h _) e
theorem da (hL:KS d L) (ha:AY enc 349 (λb=>[pv b d]) atom) (hF:Rd.A7 atom):AY enc 394 (λb=>[pv b d]) (Mk L atom):=by
 refine ⟨λ{st0 b s st rows K} U h=>?_⟩
 simp only [Mk,Rd.wp_seq,Rd.wp_ret] at h
 refine pB Tryz.func394 ?_
 have hmu:=U.mu
 repeat' ((conv=>whnf);(first|  refine Fq ?_ ?_|refine S4 ?_|refine KA ?_ ?_|exact EZ|refine Jn ?_|refine KE ?_|refine B5 ?_)<;>intros)
 refine Cn (λl own=>[(3,.slice 6 (l.map AB) own)]) (λ_ _=>[]) [1,2] [0,1] (λl own=>(own,l)::rows) (λl=>l.length) .full (Cx.push ‹_› _) ‹_› (by show 1+_<=_;omega) Yl ?_
 intro l s1 st1 own1 U h hl hm1
 simp only [T0,OW,Rd.Ap,Rd.AF,Rd.wp_seq,Rd.wp_ret,Rd.Bu] at h
 repeat' ((conv=>whnf);(first|  refine Fq ?_ ?_|refine S4 ?_|refine KA ?_ ?_|exact EZ|refine Jn ?_|refine KE ?_|refine B5 ?_|refine AY.pK (gH ha) (TC hF) ‹_› ‹_› ?_ ?_|refine Fm.go (by first|  exact (hL.exp).a) ?_ ?_)<;>intros)
theorem Y9 (U:KS d L) (ha:AY enc 349 (λb=>[pv b d]) atom) (hF:Rd.A7 atom):AY enc 370 (λb=>[pv b d]) (Ij L atom):=by
 refine ⟨λ{st0 b s st rows K} hc h=>?_⟩
 simp only [Ij,M4,nw,ZX,Rd.Ap,Rd.AF,Rd.wp_seq,Rd.wp_ret] at h
 refine pB Tryz.func370 ?_
 have hmu:=hc.mu
 repeat' ((conv=>whnf);(first|exact C4|refine BM ?_|(refine C5 ?_ ?_ ?_;rotate_left)|refine Fq ?_ ?_|refine S4 ?_|refine Lv ?_|refine KA ?_ ?_|exact EZ|refine Jn ?_|refine KE ?_|refine Aq ?_|refine Fm.go (by first|exact AY.q|exact (da U ha hF).a|exact (cn U).a|exact (kI U).a|exact (U.decls).a|exact (V2 U.exp).a|exact (U.exp).a|exact (U.alts).a) ?_ ?_|refine Cx.Fo (l:=[_,_,_]) (Cx.push ‹_› _) (Nat.le_of_ble_eq_true rfl) ?_|refine AM [1,3,5,9,6,10,12,14] [1] ?_|refine AM [1,3,7,11,13,4,8,14,17,19] [] ?_|fail)<;>intros)
 all_goals refine Cn (λl own=>[(5,.slice 6 (l.map AB) own)]) (λ_ _=>[]) [1,2] [0,1] (λl own=>(own,l)::rows) (λl=>l.length) .full (Cx.push ‹_› _) ‹_› (by show 1+_<=_;omega) Yl ?_
 all_goals intro l s1 st1 own1 hc h hl hm1
 all_goals simp only [Yb,Rd.Ap,Rd.AF,Rd.wp_seq,Rd.wp_ret,Rd.Bu] at h
 all_goals (repeat' ((conv=>whnf);(first|exact C4|refine BM ?_|(refine C5 ?_ ?_ ?_;rotate_left)|refine Fq ?_ ?_|refine S4 ?_|refine Lv ?_|refine KA ?_ ?_|exact EZ|refine Jn ?_|refine KE ?_|refine Aq ?_|refine AY.pK ha hF ‹_› ‹_› ?_ ?_|fail)<;>intros))
end
end Go.Proofs.Z
namespace Go.Aw
open Go
def St.IC (st:St) (b:Nat):St:={st with box:=λx=>if x=b then none else st.box x}
theorem St.YM {st:St} {b:Nat} (h:st.box b=none):st.le ((st.Aa b cs).IC b):=
 ⟨λx c e=>by
   simp only [St.IC,St.Aa]
   grind,λ_ _ e=>e⟩
theorem BN.of_flat {I:Mem} {sz:Nat}:∀{es:List (List V)} {vs:List Value},(∀e ∈ es,e.length=sz)->Ao I es.flatten vs->BN I sz es vs
 |[],vs,_,h=>by simpa only [List.flatten_nil,Ao,BN] using h
 |e::r,vs,hl,h=>by
  rw [List.flatten_cons] at h
  have U:=Ao.take e.length h
  have h2:=Ao.drop e.length h
  rw [List.take_left' rfl] at U
  rw [List.drop_left' rfl] at h2
  simp only [BN]
  exact ⟨_,_,(List.take_append_drop e.length vs).symm,hl e List.mem_cons_self,U,BN.of_flat (λx hx=>hl x (List.mem_cons_of_mem _ hx)) h2⟩
section
variable {P:Program} {D:List Deferred} {I0 I:Mem} {st0 st:St} {w0 w:World} {β:Nat->Option Nat} {env:Env} {a:Act}
theorem Rel.freeze (h:Rel D I0 st0 w0 I β env st a w) {b:Nat} (hb:st.box b=some cs):
 ∃vs:List Value,Ao I cs vs/\I.le (I.add b 0 vs vs.length)/\Rel D I0 st0 w0 (I.add b 0 vs vs.length) β env (st.IC b) a w:=by
 obtain ⟨vs,ty,hw,hv⟩:=h.s.box b cs hb
 obtain ⟨i1,i2,i3⟩:=h.s.HD b kw
 have hl:I.le (I.add b 0 vs vs.length):=Mem.Nw (λo _=>i1 o) (.inl i3)
 have hd:=h.fr.J9 b (.inl kw)
 have nb:∀x,(st.IC b).box x≠none->x≠b/\st.box x≠none:=λx e=>by
  by_cases U:x=b
  .subst U;exact absurd (if_pos rfl) e
  .refine ⟨U,?_⟩
   have e':(if x=b then none else st.box x)≠none:=e
   simp_all
 refine ⟨vs,hv,hl,⟨⟨h.fr.os,h.fr.tape,h.fr.output,h.fr.size,h.fr.KB,Mem.le_trans h.fr.le hl,?_,?_,λx e=>h.fr.J9 x (e.imp (λe=>(nb x e).2) id)⟩,⟨?_,?_,?_,?_,?_,TO hl.1 hl.2 h.s.SP⟩,G9.mem h.f hl ?_⟩⟩
 .intro x o h1 h2
  by_cases e:x=b
  .simp_all
  .exact h.fr.new x o h1 (by simpa [Mem.add,e] using h2)
 .intro x h1 h2
  by_cases e:x=b
  .simp_all
  .exact h.fr.JI x h1 (by simpa [Mem.add,e] using h2)
 .intro x o v e
  simp only [Mem.add] at e
  split at e
  .rename_i U
   obtain ⟨rfl,h1,h2⟩:=U
   simp only [World.cell?,hw,Option.isSome_none,Bool.false_eq_true,if_false,List.getElem?_toArray]
   exact e
  .exact h.s.cell x o v e
 .intro x n e
  simp only [Mem.add] at e
  split at e
  .simp_all
  .exact h.s.shape x n e
 .intro x c e
  have U:=(nb x kw).1
  have e':st.box x=some c:=by
   have:(if x=b then none else st.box x)=some c:=e
   rwa [if_neg U] at this
  obtain ⟨us,ty',h1,h2⟩:=h.s.box x c e'
  exact ⟨us,ty',h1,Ao.mono hl _ _ h2⟩
 .intro x e
  obtain ⟨U,e'⟩:=nb x e
  obtain ⟨h1,h2,h3⟩:=h.s.HD x e'
  exact ⟨λo=>by simp [Mem.add,U,h1 o],h2,by simp [Mem.add,U,h3]⟩
 .intro x n e
  have U:x≠b:=λU=>by subst U;rw [show (st.IC x).hw x=st.hw x from rfl,i2] at e;cases e
  exact ⟨(h.s.hw x n e).1,λo ho=>by simp only [Mem.add];rw [if_neg (by simp [U])];exact (h.s.hw x n e).2 o ho⟩
 .intro id x e
  obtain ⟨h1,h2,h3,h4,h5,h6⟩:=h.f.sep id x e
  have U:x≠b:=λU=>by simp_all
  exact ⟨λo=>by simp [Mem.add,U,h3 o],by simp [Mem.add,U,h4],by grind,h6⟩
theorem Zi {b sz n cap:Nat} {rest:List V} {vs:List Value} (hv:Ao I (es.flatten++rest) vs) (hl:I.le (I.add b 0 vs vs.length)) (hz:∀e ∈ es,e.length=sz) (hn:es.length=n) {c:Value} (h:AH I (.Fp sz b n cap) c):
 AH (I.add b 0 vs vs.length) (.slice sz es .any) c:=by
 simp only [AH] at h |-
 obtain ⟨rfl,h1,h2,h3⟩:=h
 subst hn
 refine ⟨_,cap,rfl,h1,h2,h3,trivial,.inr rfl,?_⟩
 have U:=Ao.take es.flatten.length hv
 rw [List.take_left' rfl] at U
 refine B8.add es _ 0 (BN.of_flat hz U) hl λj c e=>?_
 rw [Nat.zero_add]
 have e':vs[j]? =some c:=by
  rw [List.getElem?_take] at e
  split at e
  .exact e
  .cases e
 have:=Mem.M1 (I:=I) (b:=b) (h:=0) (n:=vs.length) e'
 simp_all
theorem ZL {env':Env} {st:St} (h:AW P c Q env' st') (U:env'.Ek env) (hs:St.le st' st):AW P c Q env st:=
 λD I0 st0 w0 I β a w hr=>h D I0 st0 w0 I _ a w ((hr.H0 (Env.Ie U)).Gw hs)
theorem ZK {st:St} (e:st'=st) (h:AW P c Q env st'):AW P c Q env st:=e ▸ h
theorem lH {x y:Code} {st:St} (E:α->Env) (S:α->St) (J:α->Prop) (hy:∀p,J p->AW P y Q (E p) (S p))
 (hx:AW P x (BF (λenv' st'=>∃p,J p/\(E p).Ek env'/\St.le (S p) st') Q) env st):AW P (.seq x y) Q env st:=
 Af (lJ hx λe env st h=>by
  cases e with
  |normal=>obtain ⟨p,U,h2,h3⟩:=h;exact ZL (hy p U) h2 h3
  |exit i=>exact h
  |goto i=>exact h
  |ret=>exact h
  |BK v=>exact h)
theorem bN {st:St} (t:Nat) {b sz n cap:Nat} (rest:List V) (ht:env.get t=.Fp sz b n cap) (hts:t<env.sz) (hb:st.box b=some (es.flatten++rest)) (hz:∀e ∈ es,e.length=sz) (hn:es.length=n)
 (h:AW P c Q {env with tmps:=(t,.slice sz es .any)::env.tmps} (st.IC b)):AW P c Q env st:=λD I0 st0 w0 I β a w hr=>by
 obtain ⟨vs,hv,hl,U⟩:=hr.freeze hb
 have h1:=hr.f.get t
 rw [ht] at h1
 have h2:=Zi hv hl hz hn (show AH I (.Fp sz b n cap) _ from h1)
 refine h D I0 st0 w0 _ β a w ⟨U.fr,U.s,{U.f with tmps:=?_}⟩
 intro t' v e
 rw [Bf] at e
 cases hbq:Nat.beq t t' with
 |true=>
  rw [hbq] at e
  have:=Nat.eq_of_beq_eq_true hbq
  subst this
  simp only [cond_true,Option.some.injEq] at e
  subst e
  exact h2
 |false=>
  rw [hbq] at e
  exact U.f.tmps t' v e
theorem AP {T : List (Nat × Ty)} (hP : MZ P T) {fn : Func} (gl : List Nat) {args : List V} {R : At -> St -> Prop} (hf : P.funcs[f]? = some fn) (hb : fn.body = some c) (hn : (fn.name == "runtime.NumGoroutine") = false) (hle : Nat.ble args.length fn.ntmps = true)
 (h:AW P c (bu T fn (Ends R)) {tmps:=Hg 0 args,boxes:=[],BG:=0,sz:=fn.ntmps,gl} st):A0 P f args st R:=by
 refine ⟨?_,fn,hf,kw,hn⟩
 intro I w cargs hs hargs
 refine calls_of_wp hf hb ?_
 refine wp_mono (h [] I st w I _ _ w (EX gl hs hargs hle)) ?_
 rintro e a w' ⟨I1,β1,env1,st1,ae,h1,h2,h3⟩
 have hret:(Es T env1 st1 fn.results.toList λvs=>match vs with
  |[v]=>Ends R (.ret v) st1
  |vs=>Ends R (.ret (.Bj vs)) st1)->
  a.defers=[]/\∃v,(results fn a.tmps).run P w'=.ok v w'/\∃I' st' r,Fr I st w I' st' w'/\B7 I' st' w'/\dJ I' (.returned v) r/\R r st':=by
  intro h3
  obtain ⟨v,c,g1,g2,r2,st2,g3,g4,g5⟩:=B6 (P:=P) (R:=Ends R) hP.t h1 h3
  have U:=h1.Gw g4
  refine ⟨h1.f.defers,c,g1,I1,st2,r2,U.fr,U.s,?_,g5⟩
  rcases g3 with rfl|rfl
  .exact g2
  .exact g2.wk
 cases ae with
 |normal=>cases e<;>first|exact hret h3|exact h2.elim
 |exit i=>exact h3.elim
 |goto i=>exact h3.elim
 |ret=>cases e<;>first|exact hret h3|exact h2.elim
 |BK v=>
  cases e<;>try exact h2.elim
  obtain ⟨r2,st2,g3,g4,g5⟩:=h3
  obtain ⟨c',rfl,h2⟩:=h2
  have U:=h1.Gw g4
  refine ⟨h1.f.defers,I1,st2,r2,U.fr,U.s,?_,g5⟩
  rcases g3 with rfl|rfl
  .exact ⟨c',rfl,h2⟩
  .exact ⟨c',rfl,h2.wk⟩
end
def V.iZ (id:Nat):V->V
 | .B3 i o=>bif Nat.beq i id then .BD else .B3 i o
 |v=>v
noncomputable def IE (id:Nat) (l:List (Nat×V)):List (Nat×V):=List.rec (motive:=λ_=>List (Nat×V)) [] (λp _ ih=>(p.1,p.2.iZ id)::ih) l
noncomputable def Hk (id:Nat) (l:List (Nat×List V)):List (Nat×List V):=List.rec (motive:=λ_=>List (Nat×List V)) [] (λp _ ih=>bif Nat.beq p.1 id then ih else p::ih) l
theorem Tu (id:Nat) (p:Nat×V) (r:List (Nat×V)):IE id (p::r)=(p.1,p.2.iZ id)::IE id r:=rfl
theorem Tt (id:Nat) (p:Nat×List V) (r:List (Nat×List V)):Hk id (p::r)=bif Nat.beq p.1 id then Hk id r else p::Hk id r:=rfl
theorem KG {id t:Nat}:∀{l:List (Nat×V)} {v:V},assoc (IE id l) t=some v->∃u,assoc l t=some u/\v=u.iZ id
 |[],v,h=>by cases h
 |p::r,v,h=>by
  rw [Tu,Bf] at h
  rw [Bf]
  cases hb:Nat.beq p.1 t with
  |true=>simp_all
  |false=>rw [hb] at h;simp only [cond_false] at h |-;exact KG h
theorem HC {id i:Nat}:∀{l:List (Nat×List V)} {cs:List V},assoc (Hk id l) i=some cs->i≠id/\assoc l i=some cs
 |[],cs,h=>by cases h
 |p::r,cs,h=>by
  rw [Tt] at h
  cases hb:Nat.beq p.1 id with
  |true=>
   rw [hb] at h
   simp only [cond_true] at h
   have hp:=Nat.eq_of_beq_eq_true hb
   obtain ⟨U,h2⟩:=HC h
   refine ⟨U,?_⟩
   rw [Bf]
   have:Nat.beq p.1 i=false:=by
    rw [hp]
    cases e:Nat.beq id i with
    |true=>simp_all
    |false=>rfl
   simp_all
  |false=>
   rw [hb] at h
   simp only [cond_false] at h
   rw [Bf] at h |-
   cases e:Nat.beq p.1 i with
   |true=>
    grind
   |false=>rw [e] at h;exact HC h
theorem bm {X:List Deferred->Mem->St->World->Act->World->Prop} {st:St} (t id:Nat) (ht:env.get t=.B3 id 0) (hb:assoc env.boxes id=some cs) (hn:NA cs=true)
 (h:∀b,st.fresh b->∀D I0 st0 w0 I β a w,Rel D I0 st0 w0 I β {env with tmps:=(t,.ptr b 0)::IE id env.tmps,boxes:=Hk id env.boxes} (st.Aa b cs) a w->X D I0 st0 w0 a w):
 ∀D I0 st0 w0 I β a w,Rel D I0 st0 w0 I β env st a w->X D I0 st0 w0 a w:=λD I0 st0 w0 I β a w U=>by
 obtain ⟨b,hβ,hl⟩:=U.f.box id cs hb
 obtain ⟨s1,s2,s3,s4,s5,s6⟩:=U.f.sep id b hβ
 have h1:=U.f.get t
 rw [ht] at h1
 obtain ⟨b',hβ',h1⟩:∃b,β id=some b/\_:=h1
 obtain rfl:b'=b:=Option.some.inj (hβ'.symm.trans hβ)
 refine h b' ⟨s5,s6⟩ D I0 st0 w0 I (λi=>if i=id then none else β i) a w ⟨⟨U.fr.os,U.fr.tape,U.fr.output,U.fr.size,U.fr.KB,U.fr.le,U.fr.new,U.fr.JI,λx hx=>?_⟩,⟨U.s.cell,U.s.shape,?_,?_,?_,U.s.SP⟩,⟨U.f.size,?_,?_,?_,?_,?_,U.f.defers⟩⟩
 .by_cases e:x=b'
  .omega
  .refine U.fr.J9 x (hx.imp (λhx=>?_) (λhx=>hx))
   simp only [St.Aa] at hx
   simp_all
 .intro x us hx
  by_cases e:x=b'
  .subst e
   simp only [St.Aa,if_true,Option.some.injEq] at hx
   subst hx
   exact hl.cells hn
  .simp only [St.Aa] at hx
   rw [if_neg e] at hx
   exact U.s.box x us hx
 .intro x hx
  by_cases e:x=b'
  .subst e;exact ⟨s3,s6,s4⟩
  .simp only [St.Aa] at hx
   rw [if_neg e] at hx
   exact U.s.HD x hx
 .exact U.s.hw
 .intro t' v e
  rw [Bf] at e
  cases hbq:Nat.beq t t' with
  |true=>
   rw [hbq] at e
   have:=Nat.eq_of_beq_eq_true hbq
   subst this
   simp only [cond_true,Option.some.injEq] at e
   subst e
   refine AQ.of ?_
   simp only [AH]
   exact h1
  |false=>
   rw [hbq] at e
   simp only [cond_false] at e
   obtain ⟨u,hu,rfl⟩:=KG e
   have hk:=U.f.tmps t' u hu
   cases u with
   |B3 i o=>
    show AQ I _ (bif Nat.beq i id then .BD else .B3 i o) _
    cases hi:Nat.beq i id with
    |true=>exact AQ.of (I:=I) (β:=_) (v:=.BD) trivial
    |false=>
     obtain ⟨b2,g1,g2⟩:∃b,β i=some b/\_:=hk
     refine ⟨b2,?_,g2⟩
     have:i≠id:=λx=>by simp_all
     simp_all
   |_=>exact hk
 .intro i us e
  obtain ⟨h2,h3⟩:=HC e
  obtain ⟨b2,g1,g2⟩:=U.f.box i us h3
  simp_all
 .intro i x e
  split at e
  .cases e
  .exact U.f.BG i x e
 .intro i j x e1 e2
  split at e1
  .cases e1
  .split at e2
   .cases e2
   .exact U.f.inj i j x e1 e2
 .intro i x e
  split at e
  .cases e
  .rename_i hi
   obtain ⟨g1,g2,g3,g4,g5,g6⟩:=U.f.sep i x e
   have hx:x≠b':=λhx=>by subst hx;exact hi (U.f.inj i id x e hβ)
   exact ⟨g1,g2,g3,g4,by simp only [St.Aa];simp_all,g6⟩
theorem KR {st:St} (t id:Nat) (U:env.get t=.B3 id 0) (hb:assoc env.boxes id=some cs) (hn:NA cs=true)
 (h:∀b,st.fresh b->AW P c Q {env with tmps:=(t,.ptr b 0)::IE id env.tmps,boxes:=Hk id env.boxes} (st.Aa b cs)):AW P c Q env st:=
 bm (X:=λD I0 st0 w0 a w=>c.wp P (Ci D I0 st0 w0 Q) a w) t id U hb hn h
def lC (Q:Env->St->Prop) (env:Env) (st:St):Prop:=∀D I0 st0 w0 I β a w,Rel D I0 st0 w0 I β env st a w->∃I β env' st',Rel D I0 st0 w0 I β env' st' a w/\Q env' st'
theorem lC.here {Q:Env->St->Prop} {st:St} (h:Q env st):lC Q env st:=λD I0 st0 w0 I β a w U=>⟨I,β,env,st,U,h⟩
theorem lC.uy {Q:Env->St->Prop} {st:St} (t id:Nat) (U:env.get t=.B3 id 0) (hb:assoc env.boxes id=some cs) (hn:NA cs=true)
 (h:∀b,st.fresh b->lC Q {env with tmps:=(t,.ptr b 0)::IE id env.tmps,boxes:=Hk id env.boxes} (st.Aa b cs)):lC Q env st:=
 bm (X:=λD I0 st0 w0 a w=>∃I β env' st',Rel D I0 st0 w0 I β env' st' a w/\Q env' st') t id U hb hn h
end Go.Aw
namespace Go.Proofs.Z
open Go Go.Aw
section
variable {st0 st:St} {b d:Nat} {s:Al} {rows:List (AA×List Nd)} {K:At->St->Prop} {L:EN} {atom:Rd Nd}
attribute [local irreducible] Go.Aw.Ag
theorem rm {P:Prop} {Q:Nd->Al->Prop} {E:Er->Al->Prop} (U:Cx st0 b s st rows)
 (h:if NP (Ac s).1=true then (if Bp (Ac s).2.1 15 [41]=true then Rd.wp AO s (λp s'=>Rd.wp AO s' (λc s'=>Q (Az 3 [o,p,c]) s') E) E else P) else P)
 (k1:∀n s' st',mu s'<=mu s->Cx st0 b s' st' rows->Q n s'->K (.ret (.Bj [enc n,.bool true])) st') (k2:∀st',Cx st0 b s st' rows->P->K (.ret (.Bj [enc Kj,.bool false])) st'):
 PC 416 [pv b d,enc o] st K:=by
 refine pB Tryz.func416 ?_
 have hmu:=U.mu
 have hc1:=U.look
 cases hy:NP (Ac s).1 with
 |false=>
  rw [if_neg (by rw [hy];decide)] at h
  repeat' ((conv=>whnf);first|exact C4|(refine BM ?_;intros)|(refine C5 ?_ ?_ ?_;rotate_left)|refine QT U (λst1 U=>?_)|refine It ?_|fail)
  all_goals exact Bm rfl (k2 st1 U h)
 |true=>
  rw [if_pos hy] at h
  have hkd:=UI hy
  cases hi:Bp (Ac s).2.1 15 [41] with
  |true=>
   rw [if_pos hi] at h
   repeat' ((conv=>whnf);first|exact C4|(refine BM ?_;intros)|(refine C5 ?_ ?_ ?_;rotate_left)|refine Ah (St.Ai ..) ?_|refine Gj U.has U.hb ?_|refine It ?_|refine O8 hc1 h hkd (λs1 st1 hz hm U h=>?_)|refine Un U (hz ▸ hi) (λst1 U=>?_)|refine UJ U h (hz ▸ hi) Do (λs2 st2 hz2 hm2 U h=>?_)|refine Ue ?_|refine Ad 9 [4,6,7] [2] ?_|fail)
   all_goals exact Bm rfl (k1 _ s2 st2 AC U h)
  |false=>
   rw [if_neg (by rw [hi];decide)] at h
   repeat' ((conv=>whnf);first|exact C4|(refine BM ?_;intros)|(refine C5 ?_ ?_ ?_;rotate_left)|refine Ah (St.Ai ..) ?_|refine Gj U.has U.hb ?_|refine It ?_|refine ss hc1 hkd (λs1 st1 hz hm U=>?_)|refine Zh U (hz ▸ hi) (λst1 U=>?_)|refine FU U hmu (λst2 U=>?_)|fail)
   all_goals exact Bm rfl (k2 st2 U h)
theorem jQ (hL:KS d L):AY enc 400 (λb=>[pv b d]) (Q7 L):=by
 refine ⟨λ{st0 b s st rows K} hc h=>?_⟩
 simp only [Q7,VL,Ut,Q6,Rd.Ap,Rd.AF,Rd.wp_seq,Rd.wp_ret] at h
 refine AP Ab [] Tryz.func400 rfl Do rfl ?_
 have hmu:=hc.mu
 refine Af (Ae Ab ?_)
 repeat' ((conv=>whnf);(first|exact C4|refine BM ?_|(refine C5 ?_ ?_ ?_;rotate_left)|refine Fq ?_ ?_|fail)<;>intros)
 refine Af (Ae Ab ?_)
 repeat' ((conv=>whnf);(first|exact C4|refine BM ?_|(refine C5 ?_ ?_ ?_;rotate_left)|refine Fq ?_ ?_|refine Gy.go ‹_› ‹_› ?_ ?_|exact BO ‹_› ‹_›|fail)<;>intros)
 refine Af (Ae Ab ?_)
 repeat' ((conv=>whnf);first|exact C4|(refine BM ?_;intros)|(refine C5 ?_ ?_ ?_;rotate_left)|(refine Fq ?_ ?_<;>intro e h)|(refine S4 ?_;intro U hc)|(refine KT ?_ ?_<;>intro U hc e h)|(refine Lv ?_;intro s1 U hz hm hc h)|(refine KA ?_ ?_<;>(first|intro n s1 U hr hm hc h|intro e s1 U hc h))|exact EZ|refine Jn ?_|(refine KE ?_;intro own1 U hc)|refine Aq (λe1=>?_)|fail)
 all_goals first
  |(refine Cn (λl own=>[(4,.slice 6 (l.map AB) own)]) (λ_ _=>[]) [1,2] [0,1] (λl own=>(own,l)::rows) (λl=>l.length) .full (hc.push _) h (by show 1+_<=_;omega) Yl ?_
    intro l s1 U own1 hc h hl hm1
    simp only [Tl,Rd.Ap,Rd.AF,Rd.wp_seq,Rd.wp_ret,Rd.Bu] at h
    repeat' ((conv=>whnf);(first|exact C4|refine BM ?_|(refine C5 ?_ ?_ ?_;rotate_left)|refine Fq ?_ ?_|refine S4 ?_|refine KT ?_ ?_|refine Lv ?_|refine KA ?_ ?_|exact EZ|refine Jn ?_|refine KE ?_|refine Aq ?_|fail)<;>intros))
  |skip
 refine Af (Ae Ab ?_)
 repeat' ((conv=>whnf);(first|exact C4|refine BM ?_|(refine C5 ?_ ?_ ?_;rotate_left)|refine Fq ?_ ?_|refine rm (Q:=λn s'=>∀st',Cx st0 b s' st' rows->K (.ret (enc n)) st') ‹_› ‹_› ?_ ?_|refine S4 ?_|refine KT ?_ ?_|refine Lv ?_|refine KA ?_ ?_|exact EZ|refine Jn ?_|refine KE ?_|refine Aq ?_|fail)<;>intros)
 refine Af (Ae Ab ?_)
 repeat' ((conv=>whnf);first|exact C4|(refine BM ?_;intros)|(refine C5 ?_ ?_ ?_;rotate_left)|(refine Fq ?_ ?_<;>intro e h)|(refine S4 ?_;intro U hc)|(refine KT ?_ ?_<;>intro U hc e h)|(refine Lv ?_;intro s1 U hz hm hc h)|(refine KA ?_ ?_<;>(first|intro n s1 U hr hm hc h|intro e s1 U hc h))|exact EZ|refine Jn ?_|(refine KE ?_;intro own1 U hc)|refine Aq (λe1=>?_)|refine O1.go hc h (λn s1 U hr hm hc h=>?_) (λe s1 U hc h=>?_)|refine AY.go hL.ops hc h (λn s1 U hr hm hc h=>?_) (λe s1 U hc h=>?_)|refine AM [1,3,5,9,11,6,12,15,16,18] [1] ?_|fail)
 all_goals refine KR 3 2 rfl rfl rfl (λc fc=>?_)
 all_goals have hne:=hc.TL fc
 all_goals refine Ae Ab ?_
 all_goals (repeat' ((conv=>whnf);first|exact C4|(refine BM ?_;intros)|(refine C5 ?_ ?_ ?_;rotate_left)|(refine Fq ?_ ?_<;>intro e h)|refine hL.GP (St.Ai ..) (hc.Uo fc) (Rd.wp_mono h (λv s1 hr h U hc=>?_) (λe s1 hr h U hc=>?_))|exact CL (hc.unbox hne) h rfl|exact BO (hc.unbox hne) h|fail))
end
section
variable {st0 st:St} {b d:Nat} {s:Al} {rows:List (AA×List Nd)} {K:At->St->Prop} {L:EN} {atom:Rd Nd}
attribute [local irreducible] Go.Aw.Ag
theorem ec (hL:KS d L):AY enc 401 (λb=>[pv b d]) (MP L):=by
 refine ⟨λ{st0 b s st rows K} U h=>?_⟩
 simp only [MP,Rd.Ap,Rd.AF,Rd.wp_seq,Rd.wp_ret] at h
 refine AP Ab [] Tryz.func401 rfl Do rfl ?_
 refine Af (Ae Ab ?_)
 repeat' ((conv=>whnf);(first|exact C4|refine BM ?_|(refine C5 ?_ ?_ ?_;rotate_left)|fail)<;>intros)
 refine Af (Ae Ab ?_)
 repeat' ((conv=>whnf);(first|exact C4|refine BM ?_|(refine C5 ?_ ?_ ?_;rotate_left)|refine Gy.go ‹_› ‹_› ?_ ?_|exact BO ‹_› ‹_›|fail)<;>intros)
 refine Af (Ae Ab ?_)
 repeat' ((conv=>whnf);first|exact C4|(refine BM ?_;intros)|(refine C5 ?_ ?_ ?_;rotate_left)|(refine KT ?_ ?_<;>intro st1 U e h)|(refine Lv ?_;intro s1 st1 hz hm U h)|exact EZ|refine Jn ?_|refine Ad 7 [3,5,6] [1] ?_|fail)
 all_goals refine KR 3 2 rfl rfl rfl (λc fc=>?_)
 all_goals have hne:=U.TL fc
 all_goals refine Ae Ab ?_
 all_goals (repeat' ((conv=>whnf);first|exact C4|(refine BM ?_;intros)|(refine C5 ?_ ?_ ?_;rotate_left)|refine hL.list (St.Ai ..) (U.Uo fc) (Rd.wp_mono h (λv s1 hr h st1 U=>?_) (λe s1 hr h st1 U=>?_))|exact CL (U.unbox hne) h rfl|exact BO (U.unbox hne) h|fail))
theorem lW (U:KS d L):AY enc 373 (λb=>[pv b d]) (Sd L):=by
 refine ⟨λ{st0 b s st rows K} hc h=>?_⟩
 simp only [Sd,Rd.Ap,Rd.AF,Rd.wp_seq,Rd.wp_ret] at h
 refine pB Tryz.func373 ?_
 repeat' ((conv=>whnf);(first|exact C4|refine BM ?_|(refine C5 ?_ ?_ ?_;rotate_left)|refine Fq ?_ ?_|refine S4 ?_|refine KT ?_ ?_|refine Lv ?_|refine sC ?_|exact EZ|refine Jn ?_|refine Aq ?_|refine Fm.go (by first|  exact (jQ U).a|exact (ec U).a|exact (U.atom).a) ?_ ?_|refine AM [1,3,7,4,8,11,12,14] [1] ?_|refine AM [1,3,5,9,6,10,13,14,16] [1] ?_|fail)<;>intros)
theorem hU:AY enc 151 (λb=>[.ptr b 0,.slice 1 [[.int .i64 1],[.int .i64 3]] .full]) (Df [1,3]):=DM (ks:=[1,3]) Do
theorem dH (hL:KS d L):AY enc 374 (λb=>[pv b d,enc n]) (Ko L n):=by
 refine ⟨λ{st0 b s st rows K} U h=>?_⟩
 simp only [Ko,Rd.Ap,Rd.AF,Rd.wp_seq,Rd.wp_ret] at h
 refine pB Tryz.func374 ?_
 have hmu:=U.mu
 repeat' ((conv=>whnf);(first|exact C4|refine BM ?_|(refine C5 ?_ ?_ ?_;rotate_left)|refine Fq ?_ ?_|refine KT ?_ ?_|refine Lv ?_|refine KA ?_ ?_|exact EZ|refine Jn ?_|refine KE ?_|refine B5 ?_|refine Aq ?_|refine Ad 6 [3] [] ?_|refine AM [1,3,5,7,11,8,12,15,16,19,20,23] [] ?_|fail)<;>intros)
 refine Cn (λl own=>[(5,.slice 6 (l.map AB) own)]) (λ_ _=>[]) [2,4] [0,2] (λl own=>(own,l)::rows) (λl=>l.length) .full (Cx.push ‹_› _) ‹_› (by show 2+_<=_;omega) Yl ?_
 intro l s1 st1 own1 U h hl hm1
 simp only [Up,TE,Rd.Ap,Rd.AF,Rd.wp_seq,Rd.wp_ret,Rd.Bu] at h
 repeat' ((conv=>whnf);(first|exact C4|refine BM ?_|(refine C5 ?_ ?_ ?_;rotate_left)|refine Fq ?_ ?_|refine KT ?_ ?_|refine Lv ?_|refine KA ?_ ?_|exact EZ|refine Jn ?_|refine KE ?_|refine B5 ?_|refine Aq ?_|refine AY.pK hU (Yr rfl) ‹_› ‹_› ?_ ?_|refine Fm.go (by first|  exact (hL.exp).a) ?_ ?_|refine Ad 6 [3] [] ?_|refine AM [1,3,5,7,11,8,12,15,16,19,20,23] [] ?_|fail)<;>intros)
 all_goals conv=>whnf
end
theorem Yq {L:EN}:Rd.A7 (Sd L):=Rd.A7.look λs v s' h=>by
 split at h
 .rename_i ha
  have hk:=(Sa ha).2
  have U:∀{v:Nd} {s':Al},AO.run s=.inr (v,s')->mu s'<mu s:=λe=>G6 e hk
  split at h
  .split at h
   .exact Rd.A7.at (λ_ _ e=>U e) h
   .exact Rd.A7.at (λ_ _ e=>U e) h
  .split at h
   .exact Rd.A7.at (λ_ _ e=>U e) h
   .split at h
    .exact Rd.A7.at (λ_ _ e=>U e) h
    .exact Rd.A7.at (λ_ _ e=>U e) h
 .cases h
theorem VC {L:EN}:Rd.A7 (Lz L):=Rd.A7.seq Yq
theorem TD {L:EN} {s s':Al} {v:Nd} (h:(Ko L n).run s=.inr (v,s')) (e:Bp s 15 [123]=true):mu s'<mu s:=by
 refine Rd.A7.at (λv s' U=>G6 U λz=>?_) h
 unfold Bp at e
 simp only [Bool.and_eq_true,beq_iff_eq] at e
 rw [z] at e;exact absurd e.1 Do
theorem SG {l':List Nd} {s s':Al} (h:(FF stmt l).run s=.inr (l',s')):l'.length+4*mu s'<=l.length+2+4*mu s:=by
 unfold FF at h
 obtain ⟨b,s1,U,h⟩:=Bb h
 obtain ⟨t,s2,h2,h⟩:=Bb h
 have e1:=(BA 10 [124]).le _ _ _ U
 have e2:=stmt.le _ _ _ h2
 have:=Rd.iE (body:=ND stmt) (w:=List.length) (w':=List.length) (c:=0) (λx s x' s' h=>by
  unfold ND at h
  replace h:(if Bp s 15 [44]=true then Rd.seq AO λc=>Rd.seq stmt λt=>.ret (.inl (x++[c]++[t])) else .ret (.inr x):Rd (Sum (List Nd) (List Nd))).run s=.inr (.inl x',s'):=h
  split at h
  .obtain ⟨_,_,_,h⟩:=Bb h
   obtain ⟨_,_,_,h⟩:=Bb h
   cases h
   simp
  .cases h) (λx s y s' h=>by
  unfold ND at h
  replace h:(if Bp s 15 [44]=true then Rd.seq AO λc=>Rd.seq stmt λt=>.ret (.inl (x++[c]++[t])) else .ret (.inr x):Rd (Sum (List Nd) (List Nd))).run s=.inr (.inr y,s'):=h
  split at h
  .obtain ⟨_,_,_,h⟩:=Bb h
   obtain ⟨_,_,_,h⟩:=Bb h
   cases h
  .cases h;exact Nat.le_refl _) _ _ _ _ h
 simp only [List.length_append,List.length_cons,List.length_nil] at this
 omega
theorem sO {c x y:Nat} (h:l.length+4*y<=c+2+4*x) (U:c<=500000000) (hx:x<=100000000):l.length+1<=1000000000:=AC
section
variable {st0 st:St} {b d:Nat} {s:Al} {rows:List (AA×List Nd)} {K:At->St->Prop} {L:EN}
attribute [local irreducible] Go.Aw.Ag
theorem lU (hL:KS d L):AY enc 349 (λb=>[pv b d]) (Lz L):=by
 refine ⟨λ{st0 b s st rows K} U h=>?_⟩
 simp only [Lz,Rd.wp_seq] at h
 refine pB Tryz.func349 ?_
 have hmu:=U.mu
 repeat' ((conv=>whnf);first|(refine BM ?_;intros)|refine AY.go (lW hL) U h (λn s1 st1 hr hm U h=>?_) (λe s1 st1 U h=>?_)|exact BO U h)
 refine Cn (λn own=>[]) (λn own=>[(2,AB n)]) [1,2,3] [0,1] (λl own=>rows) (λ_=>0) .full ‹_› ‹_› i7 Yl ?_
 intro n s1 st1 own1 U h hl hm1
 simp only [fk,Rd.Ap,Rd.AF,Rd.wp_seq,Rd.wp_ret,Rd.Bu] at h
 repeat' ((conv=>whnf);first|(refine BM ?_;intros)|(refine KT ?_ ?_<;>intro st1 U e h)|exact EZ|refine AY.go (dH hL) U h (λn s1 st1 hr hm U h=>?_) (λe s1 st1 U h=>?_))
 all_goals have hlt:=TD ‹_› ‹_›
 all_goals conv=>whnf
 all_goals exact ⟨⟨_,_,_,.full⟩,⟨U,Rd.En h hlt,So,So⟩,hlt,Yl,St.le_refl _⟩
theorem W6 (hs:AY enc 388 (λb=>[pv b d]) stmt):pj 354 (λb v=>[pv b d,v]) (λl=>FF stmt l):=by
 refine ⟨λ{st0 b s st rows K own l} hl U h=>?_⟩
 simp only [FF,Rd.wp_seq] at h
 refine pB Tryz.func354 ?_
 have hmu:=U.mu
 repeat' ((conv=>whnf);(first|refine BM ?_|refine KT ?_ ?_|refine Lv ?_|refine KA ?_ ?_|exact EZ|refine KE ?_|refine Fm.go (by first|exact AY.q) ?_ ?_)<;>intros)
 refine Cn (λl own=>[(1,.slice 6 (l.map AB) own)]) (λ_ _=>[]) [2] [0] (λl own=>(own,l)::rows) (λl=>l.length) _ ‹_› ‹_› PP Yl ?_
 intro l s1 st1 own1 U h hl hm1
 simp only [ND,Rd.Ap,Rd.AF,Rd.wp_seq,Rd.wp_ret,Rd.Bu] at h
 repeat' ((conv=>whnf);(first|refine BM ?_|refine KT ?_ ?_|refine Lv ?_|refine KA ?_ ?_|exact EZ|refine KE ?_|refine Fm.go (by first|exact AY.q) ?_ ?_)<;>intros)
theorem nE {exp:Rd Nd} (he:AY enc 353 (λb=>[pv b d]) exp) (hs:AY enc 388 (λb=>[pv b d]) stmt):AY enc 420 (λb=>[pv b d,enc o]) (Qz exp stmt o):=by
 refine ⟨λ{st0 b s st rows K} U h=>?_⟩
 simp only [Qz,Rd.Ap,Rd.AF,Rd.wp_seq,Rd.wp_ret] at h
 refine pB Tryz.func420 ?_
 have hmu:=U.mu
 repeat' ((conv=>whnf);(first|exact C4|refine BM ?_|(refine C5 ?_ ?_ ?_;rotate_left)|refine Fq ?_ ?_|refine KT ?_ ?_|refine Lv ?_|refine KA ?_ ?_|exact EZ|refine Jn ?_|refine KE ?_|refine B5 ?_|refine Aq ?_|refine Fm.go (by first|exact AY.q) ?_ ?_|refine Cx.Fo ‹_› (sO (SG ‹_›) (Nat.le_of_ble_eq_true rfl) AC) ?_|refine pj.go (l:=[_,_]) (W6 hs) (Nat.le_of_ble_eq_true rfl) (Cx.push ‹_› _) ‹_› ?_ ?_|refine Ad 5 [2] [] ?_|refine AM [1,3,7,9,4,10,13,14,16,18] [2] ?_|fail)<;>intros)
 refine Cn (λl own=>[(5,.slice 6 (l.map AB) own)]) (λ_ _=>[]) [2,4,6] [0,2] (λl own=>(own,l)::rows) (λl=>l.length) .full (Cx.push ‹_› _) ‹_› (by show 2+_<=_;omega) Yl ?_
 intro l s1 st1 own1 U h hl hm1
 simp only [iB,aJ,Rd.Ap,Rd.AF,Rd.wp_seq,Rd.wp_ret,Rd.Bu] at h
 repeat' ((conv=>whnf);(first|exact C4|refine BM ?_|(refine C5 ?_ ?_ ?_;rotate_left)|refine Fq ?_ ?_|refine KT ?_ ?_|refine Lv ?_|refine KA ?_ ?_|exact EZ|refine Jn ?_|refine KE ?_|refine B5 ?_|refine Aq ?_|refine Fm.go (by first|exact AY.q) ?_ ?_|fail)<;>intros)
end
section
variable {st0 st:St} {b d:Nat} {s:Al} {rows:List (AA×List Nd)} {K:At->St->Prop} {L:EN}
attribute [local irreducible] Go.Aw.Ag
theorem T9 (k:K (.BK (fault Hl.1)) st):PC 314 [pv b d,.bool false] st K:=by
 refine pB Tryz.func314 ?_
 repeat' ((conv=>whnf);(first|  refine Cf ?_)<;>intros)
 all_goals exact ⟨_,_,.inl rfl,St.le_refl _,k⟩
theorem Ua (k:K (.ret (.Bj [])) st):PC 314 [pv b d,.bool true] st K:=by
 refine pB Tryz.func314 ?_
 repeat' ((conv=>whnf);(first|  refine Cf ?_)<;>intros)
 all_goals exact ⟨_,_,.inl rfl,St.le_refl _,k⟩
theorem oJ (U:KS d L) {exp:Rd Nd} (he:AY enc 353 (λb=>[pv b d]) exp):AY enc 388 (λb=>[pv b d]) (SO L exp):=by
 refine ⟨λ{st0 b s st rows K} hc h=>?_⟩
 simp only [SO,Vc,Rd.Ap,Rd.AF,Rd.wp_seq,Rd.wp_ret,Rd.DP] at h
 refine pB Tryz.func388 ?_
 repeat' ((conv=>whnf);(first|exact C4|refine BM ?_|(refine C5 ?_ ?_ ?_;rotate_left)|refine Fq ?_ ?_|refine KT ?_ ?_|refine Lv ?_|exact EZ|refine Jn ?_|refine Aq ?_|refine Fm.go (by first|exact AY.q|exact (U.decls).a|exact (V2 U.exp).a) ?_ ?_|refine TV ?_|refine Ua ?_|refine T9 ?_|refine Ad 4 [2,3] [] ?_|refine AM [1,3,5,9,6,10,13,14,16] [1] ?_|fail)<;>intros)
 all_goals conv=>whnf
 all_goals exact BO hc.y h
end
theorem VD:Rd.A7 (FF stmt l):=Rd.A7.seq (K1 Do)
theorem Pr {x:Nd} {K:List V->Prop} (h:l[i.toNat]? =some x) (U:0<=i) (k:K (AB x)):0<=i/\∃e,(l.map AB)[i.toNat]? =some e/\K e:=⟨U,AB x,by rw [List.getElem?_map,h];rfl,k⟩
section
variable {st0 st:St} {b d:Nat} {s:Al} {rows:List (AA×List Nd)} {K:At->St->Prop} {L:EN}
attribute [local irreducible] Go.Aw.Ag
theorem Kn (hs:AY enc 388 (λb=>[pv b d]) stmt) {Q:List Nd->Al->Prop} {E:Er->Al->Prop} (hc:Cx st0 b s st rows) (h:Rd.wp (FF stmt []) s Q E)
 (k:∀l' U s' st',l'.length<=400000002->mu s'<mu s->Cx st0 b s' st' ((U,l')::rows)->Q l' s'->K (.ret (.slice 6 (l'.map AB) U)) st') (kb:∀e s' st',Cy st0 b s' st' rows->E e s'->K (.BK (fault e.1)) st'):PC 354 [pv b d,.slice 6 [] .full] st K:=
 pj.go (l:=[]) (own:=.full) (W6 hs) (Nat.le_of_ble_eq_true rfl) (hc.push _) h (λl' U s' st' hr hm hc' q=>k l' U s' st' (by have:=SG hr;have:=hc.mu;simp only [List.length_nil] at *;omega) (VD _ _ _ hr) hc' q) kb
theorem jL (hL:KS d L) {exp:Rd Nd} (he:AY enc 353 (λb=>[pv b d]) exp) (hs:AY enc 388 (λb=>[pv b d]) stmt):AY enc 316 (λb=>[pv b d,.str m]) (Zk L exp stmt m):=by
 refine ⟨λ{st0 b s st rows K} hc h=>?_⟩
 simp only [Zk,jK,Rd.Ap,Rd.AF,Rd.wp_seq,Rd.wp_ret] at h
 have hmu:=hc.mu
 refine pB Tryz.func316 ?_
 repeat' ((conv=>whnf);first|exact C4|(refine BM ?_;intros)|(refine C5 ?_ ?_ ?_;rotate_left)|(refine Fq ?_ ?_<;>intro e h)|(refine Dh ?_ ?_<;>intro _)|(refine KT ?_ ?_<;>intro U hc e h)|(refine Lv ?_;intro s1 U hz hm hc h)|(refine KA ?_ ?_<;>(first|intro n s1 U hr hm hc h|intro e s1 U hc h))|(refine sC ?_;intro e s1 U hc h)|exact EZ|refine Jn ?_|(refine KE ?_;intro own1 U hc)|refine B5 (λ_=>?_)|refine Aq (λe1=>?_)|refine AY.go he hc h (λn s1 U hr hm hc h=>?_) (λe s1 U hc h=>?_)|refine Cx.qp (l:=[]) (hc.push []) (Nat.le_of_ble_eq_true rfl) (λown1 U hc=>?_)|refine AM [1,3,5,9,6,10,13,14,17] [] ?_|refine AM [1,3,5,9,6,10,13,14,17,18,21] [] ?_|fail)
 .refine Cn (λl own=>[(5,.slice 6 (l.map AB) own)]) (λ_ _=>[]) [1,2,4] [0,1] (λl own=>(own,l)::rows) (λl=>l.length) _ hc h PP Yl ?_
  intro l s1 U own1 hc h hl hm1
  have hl2:l.length+1<=1000000000:=AC
  simp only [TQ,Ql,Rd.Ap,Rd.AF,Rd.wp_seq,Rd.wp_ret,Rd.Bu] at h
  clear hmu
  have hmu:=hc.mu
  by_cases hn:l=[]
  .subst hn
   rw [if_pos (show ((([]:List Nd).length:Int)==0)=true from rfl)] at h
   repeat' ((conv=>whnf);(first|exact C4|refine BM ?_|(refine C5 ?_ ?_ ?_;rotate_left)|refine Fq ?_ ?_|refine Dh ?_ ?_|refine KT ?_ ?_|refine Lv ?_|refine KA ?_ ?_|refine sC ?_|exact EZ|refine Jn ?_|refine KE ?_|refine B5 ?_|refine Aq ?_|refine Kn hs ‹_› ‹_› ?_ ?_|refine Fm.go (by first|exact AY.q|exact (hL.decls).a) ?_ ?_|exact absurd rfl ‹_›|refine Pr hx AC ?_|refine Cx.Fo ‹_› RK ?_|refine Cx.Fo (x:=Az 30 _) (Cx.drop ‹_›) hl2 ?_|refine AM [1,3,5,9,6,10,13,14,17] [] ?_|refine AM [1,3,5,9,6,10,13,14,17,18,21] [] ?_|fail)<;>intros)
   all_goals conv=>whnf
  .obtain ⟨x,hx⟩:∃x,l[((0:Int)).toNat]? =some x:=by
    cases l with
    |nil=>exact absurd rfl hn
    |cons x l=>exact ⟨x,rfl⟩
   have hz:((l.length:Int)==0)=false:=beq_eq_false_iff_ne.2 λe=>hn (List.length_eq_zero_iff.1 AC)
   have hd:l.headD Kj=x:=by
    cases l with
    |nil=>exact absurd rfl hn
    |cons y l=>cases hx;rfl
   rw [if_neg (by rw [hz];decide),hd] at h
   repeat' ((conv=>whnf);(first|exact C4|refine BM ?_|(refine C5 ?_ ?_ ?_;rotate_left)|refine Fq ?_ ?_|refine Dh ?_ ?_|refine KT ?_ ?_|refine Lv ?_|refine KA ?_ ?_|refine sC ?_|exact EZ|refine Jn ?_|refine KE ?_|refine B5 ?_|refine Aq ?_|refine Kn hs ‹_› ‹_› ?_ ?_|refine Fm.go (by first|exact AY.q|exact (hL.decls).a) ?_ ?_|exact absurd rfl ‹_›|refine Pr hx AC ?_|refine Cx.Fo ‹_› RK ?_|refine Cx.Fo (x:=Az 30 _) (Cx.drop ‹_›) hl2 ?_|refine AM [1,3,5,9,6,10,13,14,17] [] ?_|refine AM [1,3,5,9,6,10,13,14,17,18,21] [] ?_|fail)<;>intros)
   all_goals conv=>whnf
 .refine Cn (λl own=>[(5,.slice 6 (l.map AB) own)]) (λ_ _=>[]) [1,2,4] [0,1] (λl own=>(own,l)::rows) (λl=>l.length) .full (hc.push []) h PP Yl ?_
  intro l s1 U own1 hc h hl hm1
  have hl2:l.length+1<=1000000000:=AC
  simp only [TQ,Ql,Rd.Ap,Rd.AF,Rd.wp_seq,Rd.wp_ret,Rd.Bu] at h
  clear hmu
  have hmu:=hc.mu
  by_cases hn:l=[]
  .subst hn
   rw [if_pos (show ((([]:List Nd).length:Int)==0)=true from rfl)] at h
   repeat' ((conv=>whnf);(first|exact C4|refine BM ?_|(refine C5 ?_ ?_ ?_;rotate_left)|refine Fq ?_ ?_|refine Dh ?_ ?_|refine KT ?_ ?_|refine Lv ?_|refine KA ?_ ?_|refine sC ?_|exact EZ|refine Jn ?_|refine KE ?_|refine B5 ?_|refine Aq ?_|refine Kn hs ‹_› ‹_› ?_ ?_|refine Fm.go (by first|exact AY.q|exact (hL.decls).a) ?_ ?_|exact absurd rfl ‹_›|refine Pr hx AC ?_|refine Cx.Fo ‹_› RK ?_|refine Cx.Fo (x:=Az 30 _) (Cx.drop ‹_›) hl2 ?_|refine AM [1,3,5,9,6,10,13,14,17] [] ?_|refine AM [1,3,5,9,6,10,13,14,17,18,21] [] ?_|fail)<;>intros)
   all_goals conv=>whnf
  .obtain ⟨x,hx⟩:∃x,l[((0:Int)).toNat]? =some x:=by
    cases l with
    |nil=>exact absurd rfl hn
    |cons x l=>exact ⟨x,rfl⟩
   have hz:((l.length:Int)==0)=false:=beq_eq_false_iff_ne.2 λe=>hn (List.length_eq_zero_iff.1 AC)
   have hd:l.headD Kj=x:=by
    cases l with
    |nil=>exact absurd rfl hn
    |cons y l=>cases hx;rfl
   rw [if_neg (by rw [hz];decide),hd] at h
   repeat' ((conv=>whnf);(first|exact C4|refine BM ?_|(refine C5 ?_ ?_ ?_;rotate_left)|refine Fq ?_ ?_|refine Dh ?_ ?_|refine KT ?_ ?_|refine Lv ?_|refine KA ?_ ?_|refine sC ?_|exact EZ|refine Jn ?_|refine KE ?_|refine B5 ?_|refine Aq ?_|refine Kn hs ‹_› ‹_› ?_ ?_|refine Fm.go (by first|exact AY.q|exact (hL.decls).a) ?_ ?_|exact absurd rfl ‹_›|refine Pr hx AC ?_|refine Cx.Fo ‹_› RK ?_|refine Cx.Fo (x:=Az 30 _) (Cx.drop ‹_›) hl2 ?_|refine AM [1,3,5,9,6,10,13,14,17] [] ?_|refine AM [1,3,5,9,6,10,13,14,17,18,21] [] ?_|fail)<;>intros)
   all_goals conv=>whnf
end
section
variable {st0 st:St} {b d:Nat} {s:Al} {rows:List (AA×List Nd)} {K:At->St->Prop} {L:EN}
attribute [local irreducible] Go.Aw.Ag
theorem qn (U:KS d L) {ops exp:Rd Nd} (ho:AY enc 310 (λb=>[pv b d]) ops) (he:AY enc 353 (λb=>[pv b d]) exp) (hs:AY enc 388 (λb=>[pv b d]) stmt):
 AY enc 414 (λb=>[pv b d]) (bU L ops exp stmt):=by
 refine ⟨λ{st0 b s st rows K} hc h=>?_⟩
 simp only [bU,Rd.AF,Rd.wp_seq,Rd.wp_ret,Rd.DP] at h
 refine pB Tryz.func414 ?_
 repeat' ((conv=>whnf);(first|exact C4|(refine C5 ?_ ?_ ?_;rotate_left)|refine Fq ?_ ?_|exact EZ|refine Jn ?_|refine Aq ?_|refine Fm.go (by first|exact AY.q|exact (jL U he hs).a) ?_ ?_|refine TV ?_|refine Ua ?_|refine T9 ?_|refine Ad 4 [2,3] [] ?_|refine Ad 6 [2,4,5] [1] ?_|fail)<;>intros)
end
theorem Rd.iF {body:σ->Rd (Sum σ β)} {P:β->Prop} (h1:∀x s y s',(body x).run s=.inr (.inr y,s')->P y) (x:σ) (s:Al):∀y s',(Rd.loop body x).run s=.inr (y,s')->P y:=by
 show ∀y s',Rd.iter body x s=.inr (y,s')->_
 fun_induction Rd.iter body x s with
 |case1 x s e h=>intro y s' U;cases U
 |case2 x s y s1 h=>intro y s' U;cases U;exact h1 _ _ _ _ h
 |case3 x s x' s1 h hlt ih=>exact ih
 |case4 x s x' s1 h hlt=>intro y s' U;cases U
theorem jY {U:Rd Nd} {br:Bool} {s s':Al} {p:List Nd×Bool} (h:(Sp U br).run s=.inr (p,s')):∃x,p.1[((p.1.length:Nat) - 1:Int).toNat]? =some x/\p.1.getLastD Kj=x/\1<=p.1.length:=by
 have:∃l x,p.1=l++[x]:=by
  refine Rd.iF (body:=jR U br) (P:=λp=>∃l x,p.1=l++[x]) (λx s y s' h=>?_) _ _ _ _ h
  unfold jR at h
  obtain ⟨l,s1,_,h⟩:=Bb h
  obtain ⟨n,s2,_,h⟩:=Bb h
  replace h:(if Qn (Ac s2).1=true then .seq Ii λo=>
   if br=true then .look λs=>if Bp s 15 [41]=true then .ret (.inr (l++[n]++[o],true)) else .ret (.inl (l++[n]++[o]))
   else .ret (.inl (l++[n]++[o]))
   else .ret (.inr (l++[n],false)):Rd (Sum (List Nd) (List Nd×Bool))).run s2=.inr (.inr y,s'):=h
  split at h
  .obtain ⟨o,s3,_,h⟩:=Bb h
   split at h
   .replace h:(if Bp s3 15 [41]=true then .ret (.inr (l++[n]++[o],true)) else .ret (.inl (l++[n]++[o])):Rd (Sum (List Nd) (List Nd×Bool))).run s3=.inr (.inr y,s'):=h
    split at h
    .cases h;exact ⟨_,_,rfl⟩
    .cases h
   .cases h
  .cases h;exact ⟨_,_,rfl⟩
 obtain ⟨l,x,e⟩:=this
 refine ⟨x,?_,?_,?_⟩
 .rw [e];simp only [List.length_append,List.length_cons,List.length_nil]
  rw [show (((l.length+(0+1):Nat):Int) - 1).toNat=l.length by omega]
  simp
 .rw [e];simp
 .rw [e];simp
theorem Zq {K:List (List V)->Prop} (hn:1<=l.length) (k:K ((l.take (l.length - 1)).map AB)):
 ((0:Int)<=0/\(0:Int)<=(l.length:Int) - 1/\(l.length:Int) - 1=(l.length:Int) - 1/\(l.length:Int) - 1<=((l.map AB).length:Int))/\∀U,U=List.drop (Int.toNat 0) (List.take ((l.length:Int) - 1).toNat (l.map AB))->K U:=by
 refine ⟨⟨AC,AC,rfl,by rw [List.length_map];omega⟩,λU e=>?_⟩
 rw [e,show ((l.length:Int) - 1).toNat=l.length - 1 by omega,<-List.map_take]
 exact k
section
variable {st0 st:St} {b d:Nat} {s:Al} {rows:List (AA×List Nd)} {K:At->St->Prop} {L:EN}
attribute [local irreducible] Go.Aw.Ag
theorem Th {opd full exp:Rd Nd} (ho:AY enc 370 (λb=>[pv b d]) opd) (hf:AY enc 350 (λb=>[pv b d]) full) (he:AY enc 353 (λb=>[pv b d]) exp):
 AY enc 418 (λb=>[pv b d,enc o]) (EH opd full exp o):=by
 refine ⟨λ{st0 b s st rows K} hc h=>?_⟩
 simp only [EH,Rd.AF,Rd.wp_seq,Rd.wp_ret,Rd.DP] at h
 have hmu:=hc.mu
 refine AP Ab [] Tryz.func418 rfl Do rfl ?_
 refine Af (Ae Ab ?_)
 repeat' ((conv=>whnf);first|exact C4|(refine BM ?_;intros)|(refine C5 ?_ ?_ ?_;rotate_left)|(refine Fq ?_ ?_<;>intro e h)|fail)
 refine Af (Ae Ab ?_)
 repeat' ((conv=>whnf);first|exact C4|(refine BM ?_;intros)|(refine C5 ?_ ?_ ?_;rotate_left)|(refine Fq ?_ ?_<;>intro e h)|refine lD.go (jZ ho) hc h (λp own1 s1 U hr hm hc h=>?_) (λe s1 U hc h=>?_)|exact BO hc h|fail)
 all_goals obtain ⟨x,hx,hd,hn⟩:=jY hr
 all_goals try rw [hd] at h
 all_goals refine Ae Ab ?_
 all_goals (repeat' ((conv=>whnf);first|exact C4|(refine BM ?_;intros)|(refine C5 ?_ ?_ ?_;rotate_left)|(refine Fq ?_ ?_<;>intro e h)|(refine KT ?_ ?_<;>intro U hc e h)|(refine Lv ?_;intro s1 U hz hm hc h)|(refine KA ?_ ?_<;>(first|intro n s1 U hr hm hc h|intro e s1 U hc h))|exact EZ|refine Jn ?_|(refine KE ?_;intro own1 U hc)|refine B5 (λ_=>?_)|refine Aq (λe1=>?_)|refine Zq hn ?_|refine Pr hx AC ?_|refine AY.go (XN hf) hc h (λn s1 U hr hm hc h=>?_) (λe s1 U hc h=>?_)|refine AM [1,3,5,7,9,13,15,17,19,21,23,10,24,27,28,30] [2] ?_|refine Ad 7 [3,4] [] ?_|fail))
 all_goals refine Cn (λ(q:Int×List Nd) own=>[(9,.int .i64 q.1),(8,.slice 6 (q.2.map AB) own)]) (λ_ _=>[]) [2,4] [0,2] (λq own=>(own,q.2)::rows) (λq=>q.2.length) .full (hc.drop.push _) h (by show 2+_<=_;omega) Yl ?_
 all_goals intro q s1 U own1 hc h hl hm1
 all_goals simp only [ZD,Rd.Ap,Rd.AF,Rd.wp_seq,Rd.wp_ret,Rd.Bu] at h
 all_goals obtain ⟨k,l⟩:=q
 all_goals dsimp only at hc h hl
 all_goals (repeat' ((conv=>whnf);first|exact C4|(refine BM ?_;intros)|(refine C5 ?_ ?_ ?_;rotate_left)|(refine Fq ?_ ?_<;>intro e h)|exact ⟨⟨(5,_),_,_,_⟩,⟨hc,Rd.En h WF,cb,WF⟩,WF,Yl,St.le_refl _⟩|(refine KT ?_ ?_<;>intro U hc e h)|(refine Lv ?_;intro s1 U hz hm hc h)|(refine KA ?_ ?_<;>(first|intro n s1 U hr hm hc h|intro e s1 U hc h))|exact EZ|refine Jn ?_|(refine KE ?_;intro own1 U hc)|refine B5 (λ_=>?_)|refine Aq (λe1=>?_)|refine AY.go he hc h (λn s1 U hr hm hc h=>?_) (λe s1 U hc h=>?_)|refine AM [1,3,5,7,9,13,15,17,19,21,23,10,24,27,28,30] [2] ?_|refine Ad 7 [3,4] [] ?_|fail))
 all_goals conv=>whnf
end
section
variable {st0 st:St} {b d c:Nat} {s:Al} {rows:List (AA×List Nd)} {K:At->St->Prop} {L:EN} {o:Nd} {A:Rd Nd}
theorem jO (hb:AY enc 418 (λb=>[pv b d,enc o]) A) (U:st.box c=some (AB o)) (hc:Cx st0 b s st rows)
 (h:Rd.wp A s (λv s'=>∀st',Cx st0 b s' st' rows->K (.ret (enc v)) st') (λe s'=>∀st',Cy st0 b s' st' rows->K (.BK (fault e.1)) st')):PC 417 [pv b d,.ptr c 0] st K:=by
 refine pB Tryz.func417 ?_
 repeat' ((conv=>whnf);(first|  refine Ah U ?_|refine Fm.go (by first|exact AY.q) ?_ ?_|exact EZ|fail)<;>intros)
theorem dY (hb:AY enc 420 (λb=>[pv b d,enc o]) A) (U:st.box c=some (AB o)) (hc:Cx st0 b s st rows)
 (h:Rd.wp A s (λv s'=>∀st',Cx st0 b s' st' rows->K (.ret (enc v)) st') (λe s'=>∀st',Cy st0 b s' st' rows->K (.BK (fault e.1)) st')):PC 419 [pv b d,.ptr c 0] st K:=by
 refine pB Tryz.func419 ?_
 repeat' ((conv=>whnf);(first|  refine Ah U ?_|refine Fm.go (by first|exact AY.q) ?_ ?_|exact EZ|fail)<;>intros)
end
section
variable {st0 st:St} {b d:Nat} {s:Al} {rows:List (AA×List Nd)} {K:At->St->Prop} {L:EN}
attribute [local irreducible] Go.Aw.Ag
theorem Yy:AY enc 342 (λb=>[pv b d]) AO:=by
 refine ⟨λ{st0 b s st rows K} U h=>?_⟩
 refine pB Tryz.func342 ?_
 repeat' ((conv=>whnf);(first|  refine Gy.go ‹_› ‹_› ?_ ?_|exact EZ|fail)<;>intros)
theorem jv {x:Nd} (hx:n.kids[(Int.tdiv (n.kids.length:Int) 2).toNat]? =some x) (U:n.kids[n.kids.length / 2]? =some x) (h:K (.ret (.bool (Ld n))) st):PC 345 [enc n] st K:=by
 have e:Ld n= !(x.form==7||x.form==8||x.form==3||x.form==4):=by unfold Ld;rw [U]
 rw [e] at h
 refine pB Tryz.func345 ?_
 have h0:0<=Int.tdiv (n.kids.length:Int) 2:=Int.tdiv_nonneg AC AC
 repeat' ((conv=>whnf);(first|refine BM ?_|refine Dh ?_ ?_|refine Wm hx h0 ?_)<;>intros)
 all_goals conv=>whnf
 all_goals (refine Au h ?_;clear h;simp_all)
end
end Go.Proofs.Z
namespace Go.Aw
open Go
theorem Y6 {l:List UInt8} (h:(Cs l).1≠10):Ei l=(11,2+Bt (Cs l).1 (l.drop 2)):=if_pos h
theorem jh {l:List UInt8} (h:(Cs l).1=10) (k:Bt 10 l=0):Ei l=(0,0):=by unfold Ei;rw [if_neg (λe=>e h),if_pos k]
theorem Y7 {l:List UInt8} {n f e:Nat} (h:(Cs l).1=10) (hn:Bt 10 l=n) (U:n≠0) (hf:H4 (l.drop n)=f) (he:L3 (l.drop (n+f))=e):Ei l=(if 0<f\/0<e then 12 else 11,n+f+e):=by
 subst hn;subst hf;subst he
 unfold Ei;rw [if_neg (λe=>e h),if_neg U]
theorem bf {l:List UInt8} (h:Cs l=(b,2)):AE l=48/\2<=l.length:=by
 unfold Cs at h
 split at h
 .rename_i U
  refine ⟨U.1,?_⟩
  have:=U.2.2
  have h1:=Ec (Ee l) (l.drop 2)
  rw [List.length_drop] at h1
  omega
 .injection h with _ h;cases h
def QN (s:List UInt8) (pos:Nat):Int×Int:=if (Ei (s.drop pos)).1=0 then (0,0) else ((Ei (s.drop pos)).1,(pos+(Ei (s.drop pos)).2:Nat))
end Go.Aw
namespace Go.Proofs.Z
open Go Go.Aw
section
variable {st:St} {R:At->St->Prop}
theorem sW {n:Nat} (e:i.toNat=n) (h:R (.ret (.bool (decide (AE (s.drop n)=46)))) st):PC 73 [.str (s.drop i.toNat),.str [46]] st R:=by
 refine Il ?_
 rw [CS,e]
 exact h
theorem Yp {n:Nat} (e:i.toNat=n) (U:s.length<=4611686018427387903) (h:R (.ret (.int .i64 (L3 (s.drop n):Nat))) st):PC 199 [.str (s.drop i.toNat)] st R:=by
 rw [e];exact Yo IR h
theorem jW {n:Nat} (e:i.toNat=n) (U:s.length<=4611686018427387903) (h:R (.ret (.int .i64 (Bt b (s.drop n):Nat))) st):PC 198 [.str (s.drop i.toNat),.int .i64 b] st R:=by
 rw [e];exact p5 IR h
theorem p6 {n v:Nat} (e:i.toNat=n) (hv:Bt b (s.drop n)=v) (U:s.length<=4611686018427387903) (h:R (.ret (.int .i64 v)) st):PC 198 [.str (s.drop i.toNat),.int .i64 b] st R:=
 jW e U (by rw [hv];exact h)
theorem PZ {n v:Nat} (e:i.toNat=n) (hv:L3 (s.drop n)=v) (U:s.length<=4611686018427387903) (h:R (.ret (.int .i64 v)) st):PC 199 [.str (s.drop i.toNat)] st R:=
 Yp e U (by rw [hv];exact h)
theorem O0 {n:Nat} (U:Ei s=(k,n)) (e2:i.toNat=n):At.ret (.Bj [.int .i64 (Ei s).1,.str (s.take (Ei s).2)])=At.ret (.Bj [.int .i64 k,.str (s.take i.toNat)]):=by rw [U,e2]
theorem ji (U:Ei s=(0,0)):At.ret (.Bj [.int .i64 (Ei s).1,.str (s.take (Ei s).2)])=At.ret (.Bj [.int .i64 0,.str []]):=by rw [U];rfl
theorem IW {n:Nat} (hp:Cs s=(b,n)) (U:s.length<=4611686018427387903) (h:R (.ret (.Bj [.int .i64 b,.int .i64 n])) st):PC 197 [.str s] st R:=
 Zg U (by rw [hp];exact h)
theorem aR (hl:s.length<=4611686018427387903) (h:R (.ret (.Bj [.int .i64 (Ei s).1,.str (s.take (Ei s).2)])) st):PC 165 [.str s] st R:=by
 have hle:=Uf s
 refine pB Tryz.func165 ?_
 rcases Mz s with hp|⟨hp,_⟩|⟨hp,_⟩
 .have h1:=Ec 10 s
  have h2:=VI (s.drop (Bt 10 s))
  have h3:=al (s.drop (Bt 10 s+H4 (s.drop (Bt 10 s))))
  rw [List.length_drop] at h2 h3
  generalize hr:Bt 10 s=r at h1 h2 h3
  have hr0:Bt 10 (s.drop 0)=r:=hr
  generalize hf:H4 (s.drop r)=f at h2 h3
  generalize he:L3 (s.drop (r+f))=e at h3
  have h4:=Ec 10 (s.drop (r+1))
  have e0:(Cs s).1=10:=by rw [hp]
  have hlt:=fZ s r
  have hfd:(AE (s.drop r)=46/\Bt 10 (s.drop (r+1))≠0/\f=1+Bt 10 (s.drop (r+1)))\/((AE (s.drop r)≠46\/Bt 10 (s.drop (r+1))=0)/\f=0):=by
   rw [<-hf]
   unfold H4
   rw [List.drop_drop]
   split<;>omega
  rw [List.length_drop] at h4
  generalize hd:Bt 10 (s.drop (r+1))=d at h4 hfd
  repeat' ((conv=>whnf);first|exact Du|(refine Br ?_;intros)|(refine Dw ?_ ?_ ?_;rotate_left)|(refine BR ?_ ?_<;>intro _)|refine IW hp hl ?_|refine p6 AC hr0 hl ?_|refine p6 AC hd hl ?_|refine sW (n:=r) AC ?_|refine PZ AC he hl ?_|refine PZ AC he' hl ?_|refine An GE ?_|fail)
  all_goals first
   |(have U:=jh e0 AC;exact fin h (ji U))
   |(have U:=Y7 e0 hr AC hf he;rw [if_pos AC] at U;exact fin h (O0 U AC))
   |(have U:=Y7 e0 hr AC hf he;rw [if_neg AC] at U;exact fin h (O0 U AC))
 .have hr:=Ec 8 (s.drop 2)
  have h2:=(bf hp).2
  rw [List.length_drop] at hr
  repeat' ((conv=>whnf);first|exact Du|(refine Br ?_;intros)|(refine Dw ?_ ?_ ?_;rotate_left)|(refine BR ?_ ?_<;>intro _)|refine IW hp hl ?_|refine jW (n:=2) AC hl ?_|refine An GE ?_|fail)
  all_goals (have U:=Y6 (l:=s) (by rw [hp];decide);rw [hp] at U;dsimp only at U;exact fin h (O0 U AC))
 .have hr:=Ec 16 (s.drop 2)
  have h2:=(bf hp).2
  rw [List.length_drop] at hr
  repeat' ((conv=>whnf);first|exact Du|(refine Br ?_;intros)|(refine Dw ?_ ?_ ?_;rotate_left)|(refine BR ?_ ?_<;>intro _)|refine IW hp hl ?_|refine jW (n:=2) AC hl ?_|refine An GE ?_|fail)
  all_goals (have U:=Y6 (l:=s) (by rw [hp];decide);rw [hp] at U;dsimp only at U;exact fin h (O0 U AC))
theorem jf (hl:s.length<=4611686018427387903) (hp:pos<s.length) (h:R (.ret (.Bj [.int .i64 (QN s pos).1,.int .i64 (QN s pos).2])) st):PC 122 [.str s,.int .i64 pos] st R:=by
 have hw:=Uf (s.drop pos)
 have ht:((s.drop pos).take (Ei (s.drop pos)).2).length=(Ei (s.drop pos)).2:=Nm
 rw [List.length_drop] at hw
 have U:(s.drop pos).length<=4611686018427387903:=IR
 refine pB Tryz.func122 ?_
 repeat' ((conv=>whnf);first|(refine Br ?_;intros)|(refine BR ?_ ?_<;>intro _)|refine aR U ?_)
 .exact fin h (by unfold QN;rw [if_pos ‹_›];simp_all)
 .exact fin h (by unfold QN;rw [if_neg ‹_›];simp only [];rw [show (pos:Int).toNat=pos by omega] at *;rw [ht];rfl)
end
end Go.Proofs.Z
namespace Go.Aw
open Go
theorem dz {r:List V} {st:St} {R:At->St->Prop} (hb:Plain P f) (h:s.length<4611686018427387904->A0 P f (.str s::r) st R):A0 P f (.str s::r) st R:=by
 refine ⟨?_,hb⟩
 intro I w cargs hs U
 have hl:s.length<4611686018427387904:=by
  have h2:=U
  simp only [Ao,AH] at h2
  obtain ⟨c,rr,_,h2,_⟩:=h2
  exact h2.2
 exact (h hl).a I w cargs hs U
def JE (s:List UInt8) (k:Int):Bool:=(Ei s).1==k&&(s.take (Ei s).2==s)
theorem eo {n:Nat} (h:n<=s.length):s.take n=s↔n=s.length:=by
 constructor
 .intro e
  have:=congrArg List.length e
  rw [List.length_take] at this
  omega
 .intro e;rw [e,List.take_length]
theorem Nu:JE s k=true↔(Ei s).1=k/\(Ei s).2=s.length:=by
 unfold JE
 rw [Bool.and_eq_true,beq_iff_eq,beq_iff_eq,eo (Uf s)]
theorem eM (h:JE s 11=true):Bt (Cs s).1 (s.drop (Cs s).2)=s.length - (Cs s).2/\(Cs s).2<=s.length:=by
 obtain ⟨U,h2⟩:=Nu.1 h
 by_cases hb:(Cs s).1=10
 .have hp:Cs s=(10,0):=by
   rcases Mz s with e|⟨e,_⟩|⟨e,_⟩
   .exact e
   .rw [e] at hb;cases hb
   .rw [e] at hb;cases hb
  rw [hp]
  refine ⟨?_,Nat.zero_le _⟩
  show Bt 10 (s.drop 0)=s.length - 0
  rw [List.drop_zero,Nat.sub_zero]
  by_cases h0:Bt 10 s=0
  .rw [jh hb h0] at U;cases U
  .have e:=Y7 (l:=s) hb rfl h0 rfl rfl
   rw [e] at U h2
   dsimp only at U h2
   split at U
   .cases U
   .omega
 .have e:=Y6 (l:=s) hb
  have hp2:(Cs s).2=2:=by
   rcases Mz s with e|⟨e,_⟩|⟨e,_⟩
   .rw [e] at hb;exact absurd rfl hb
   .rw [e]
   .rw [e]
  rw [e] at h2
  dsimp only at h2
  rw [hp2]
  omega
theorem cu {c:Int} (hb:b<=16) (h:¬Bo c b<0):0<=Bo c b/\Bo c b<b/\Bo c b<=15:=by
 unfold Bo at h |-
 dsimp only at h |-
 (repeat' split at h)<;>(repeat' split)<;>omega
end Go.Aw
namespace Go.Proofs.Z
open Go Go.Aw
theorem XU {base:Int} {c m:Nat} (h:pos<s.length) (U:(c,m)=AR (s.drop pos)) (k:¬Bo (c:Int) base<0):
 m=1/\JV base (s.drop pos) v=if (4611686018427387904 - Bo (c:Int) base) / base<v then (0,3) else JV base (s.drop (pos+1)) (v*base+Bo (c:Int) base):=by
 obtain ⟨a,ha⟩:∃a,s[pos]? =some a:=⟨_,List.getElem?_eq_getElem h⟩
 have e:=drop_at ha
 have hlo:a.toNat<128:=by
  apply Classical.byContradiction
  intro hn
  have:=OR (r:=s.drop (pos+1)) hn
  rw [e] at U
  rw [<-U] at this
  exact k (HY (by dsimp only at this;omega))
 rw [e,J6 hlo] at U
 obtain ⟨rfl,rfl⟩:=Prod.mk.inj U
 refine ⟨rfl,?_⟩
 rw [e,JV]
theorem kB {n:Nat} {K:List UInt8->Prop} (ht:s.drop n=t) (U:0<=(n:Int)) (h1:(n:Int)<=s.length) (k:K t):
 (0<=(n:Int)/\(n:Int)<=(s.length:Int)/\(s.length:Int)<=s.length)/\∀s',s'=(s.take (s.length:Int).toNat).drop (n:Int).toNat->K s':=WN U h1 (by subst ht;exact k)
section
variable {st:St} {R:At->St->Prop}
theorem tD (U:s.length<=4611686018427387903) (h:R (.ret (.bool (JE s k))) st):PC 257 [.str s,.int .i64 k] st R:=by
 refine pB Tryz.func257 ?_
 repeat' ((conv=>whnf);(first|  refine Dh ?_ ?_|refine aR U ?_)<;>intros)
 all_goals conv=>whnf
 all_goals (refine Au h ?_;clear h;simp_all [JE])
theorem pQ {b:Bool} (e:JE s k=b) (U:s.length<=4611686018427387903) (h:R (.ret (.bool b)) st):PC 257 [.str s,.int .i64 k] st R:=tD U (by rw [e];exact h)
theorem mj {c m:Nat} (hb:b<=16) (hl:pos<t.length) (hd:(c,m)=AR (t.drop pos)) (hr:Bt b (t.drop pos)=t.length - pos) (k:∀d,d=Bo c b->0<=d->d<b->R (.ret (.int .i64 d)) st):PC 242 [.int .i32 c,.int .i64 b] st R:=by
 have hn:¬Bo (c:Int) b<0:=λe=>by
  have:=Hy hl hd e
  omega
 obtain ⟨U,h2,_⟩:=cu hb hn
 exact LY (k _ rfl U h2)
theorem tC {d:Int} (hb:b=10\/b=8\/b=16) (U:0<=v) (h1:0<=d) (h2:d<b) (h3:¬(4611686018427387904 - d) / b<v) (k:K (v*b)):∃r,r=IntKind.i64.wrap (v*b)/\K r:=by
 refine ⟨_,(Ky ?_ ?_).symm,k⟩<;>(rcases hb with rfl|rfl|rfl<;>omega)
theorem sN {d:Int} (hb:b=10\/b=8\/b=16) (U:0<=v) (h1:0<=d) (h2:d<b) (h3:¬(4611686018427387904 - d) / b<v) (k:K (v*b+d)):∃r,r=IntKind.i64.wrap (v*b+d)/\K r:=by
 refine ⟨_,(Ky ?_ ?_).symm,k⟩<;>(rcases hb with rfl|rfl|rfl<;>omega)
theorem td {d:Int} (hb:b=10\/b=8\/b=16) (U:0<=v) (h1:0<=d) (h2:d<b) (h3:¬(4611686018427387904 - d) / b<v):0<=v*b+d/\v*b+d<=4611686018427387904:=by
 rcases hb with rfl|rfl|rfl<;>omega
theorem eN {n:Nat} (hn:JE s 11=true) (U:Cs s=(b,n)):JU s=JV b (s.drop n) 0:=by
 unfold JU
 rw [if_pos (Nu.1 hn),U]
theorem pd (h:R (.ret (.Bj [.int .i64 (JU s).1,.int .i64 (JU s).2])) st):PC 212 [.str s] st R:=by
 refine dz ⟨_,Tryz.func212,Do,Do⟩ λhl0=>?_
 have hl:s.length<=4611686018427387903:=AC
 refine pB Tryz.func212 ?_
 cases hn:JE s 11 with
 |false=>
  have hw:JU s=(0,40):=by
   unfold JU
   rw [if_neg λe=>?_]
   rw [Nu.2 e] at hn;cases hn
  rw [hw] at h
  repeat' ((conv=>whnf);first|(refine BM ?_;intros)|(refine Dh ?_ ?_<;>intro _)|refine pQ hn hl ?_)
  all_goals exact fin h rfl
 |true=>
  obtain ⟨hr,hle⟩:=eM hn
  have key:∀(b:Int) (n:Nat),Cs s=(b,n)->b=10\/b=8\/b=16:=λb n e=>by
   rcases Mz s with h|⟨h,_⟩|⟨h,_⟩<;>(rw [h] at e;cases e;omega)
  generalize hp:Cs s=p at hr hle
  obtain ⟨b,n⟩:=p
  have hp0:Cs s=(b,n):=hp
  dsimp only at hr hle
  have hb:=key b n hp
  rw [eN hn hp] at h
  have hlen:(s.drop n).length=s.length - n:=by rw [List.length_drop]
  generalize ht:s.drop n=t at h hr hlen
  have hr:Bt b t=t.length:=AC
  clear hp key hlen
  repeat' ((conv=>whnf);first|(refine BM ?_;intros)|(refine Dh ?_ ?_<;>intro _)|refine pQ hn hl ?_|refine IW hp0 hl ?_|refine kB ht AC AC ?_)
  conv=>whnf
  refine K7 (α:=Nat) (β:=Int) (λpos v=>[(6,.int .i64 v)]) (λpos v=>[(0,[.OC t pos])]) [0,4,5,21] [] (λ_ _=>st) (λpos v=>pos<=t.length/\Bt b (t.drop pos)=t.length - pos/\JV b t 0=JV b (t.drop pos) v/\0<=v/\v<=4611686018427387904) (λpos v=>t.length - pos) 0 0 ⟨Nat.zero_le _,by rw [List.drop_zero];omega,by rw [List.drop_zero],AC,AC⟩ Yl (St.le_refl _) ?_
  rintro pos v ⟨j1,j2,j3,j4,j5⟩
  rw [j3] at h
  have hb0:0<b:=AC
  repeat' ((conv=>whnf);first|(refine BM ?_;intros)|(refine Dh ?_ ?_<;>intro _)|refine WK (λc m hd=>?_)|refine Wr hb0 AC AC ?_|refine mj AC ‹_› ‹_› j2 (λd U hd1 hd2=>?_)|refine tC hb j4 hd1 hd2 ‹_› ?_|refine sN hb j4 hd1 hd2 ‹_› ?_)
  .rename_i hlt hgt
   obtain ⟨e1,e2⟩:=XU (v:=v) (base:=b) hlt hd (by rw [<-U];omega)
   rw [e2,<-U,if_pos hgt] at h
   exact fin h rfl
  .rename_i hlt hgt
   obtain ⟨e1,e2⟩:=XU (v:=v) (base:=b) hlt hd (by rw [<-U];omega)
   have e3:=(ME (base:=b) hlt hd (by rw [<-U];omega)).2
   rw [<-U,if_neg hgt] at e2
   have hf:=td hb j4 hd1 hd2 hgt
   subst e1
   conv=>whnf
   exact ⟨(pos+1,v*b+d),⟨So,So,by rw [j3,e2],hf.1,hf.2⟩,So,Yl,St.le_refl _⟩
  .rename_i hlt
   rw [List.drop_eq_nil_iff.2 AC] at h
   exact fin h rfl
end
def E1:Er->Al->Prop:=λ_ _=>True
def Dv (A:Rd Nd):Prop:=∀s,Rd.wp A s (λn s'=>A8 [n] s s') E1
theorem Dv.at {A:Rd Nd} (h:Dv A) {s s':Al} {n:Nd} (e:A.run s=.inr (n,s')):A8 [n] s s':=by
 have:=h s
 unfold Rd.wp at this
 simp_all
theorem Dv.of (h:∀s n s',A.run s=.inr (n,s')->A8 [n] s s'):Dv A:=λs=>Rd.XV (λn s' e=>h s n s' e) (λ_ _ _=>trivial)
theorem Dv.size {A:Rd Nd} (h:Dv A) {s s':Al} {n:Nd} (e:A.run s=.inr (n,s')):n.size+4*mu s'<=4*mu s:=(h.at e).tJ
theorem BP {c:Prop} [Decidable c] {P Q:Prop} (U:c->P) (h2:¬c->Q):if c then P else Q:=kw
structure Real (s:Al):Prop where
 ok:(Ac s).2.2=0
 lt:(Ac s).1.kind<18
 ne:(Ac s).1.kind≠0
section
variable {A B C:Rd Nd} {s s0 s1 s2 s':Al} {Q:Nd->Al->Prop} {L:EN}
theorem BE (h:Bp s k x=true) (U:k≠0) (h1:k<18):Real s:=by
 have e:(Ac s).1.kind=k:=by
  unfold Bp at h
  simp only [Bool.and_eq_true,beq_iff_eq] at h
  exact h.1
 exact ⟨GX h U,AC,AC⟩
theorem MB (h:(Ac s).1.kind≠0) (U:(Ac s).1.kind<18):Real s:=⟨Ht h,U,h⟩
theorem Dt (h:((Ac s).1.kind==k)=true) (U:k≠0) (h1:k<18):Real s:=by
 rw [beq_iff_eq] at h;exact MB AC AC
theorem D9 (h:E3 (Ac s).1=true):Real s:=by
 unfold E3 at h
 simp only [Bool.or_eq_true,Bool.and_eq_true,beq_iff_eq] at h
 exact MB AC AC
theorem Eb (h:NP (Ac s).1=true):Real s:=by
 unfold NP at h
 simp only [Bool.or_eq_true,Bool.and_eq_true,beq_iff_eq] at h
 exact MB AC AC
theorem Ea (h:K4 (Ac s).1=true):Real s:=by
 unfold K4 at h
 simp only [Bool.or_eq_true,Bool.and_eq_true,beq_iff_eq] at h
 exact MB AC AC
theorem Ss {t:Tk} (h:KM t=true):Hq t=true:=by
 unfold KM at h
 unfold Hq
 grind
theorem HR (U:Dv A) (k:∀n s1,A8 [n] s s1->Q n s1):Rd.wp A s Q E1:=Rd.wp_mono (U s) (λn s1 _ h=>k n s1 h) (λ_ _ _ _=>trivial)
theorem CA (U:Real s) (k:A8 [BJ (Ac s).1] s (Ac s).2.1->Q (BJ (Ac s).1) (Ac s).2.1):Rd.wp AO s Q E1:=by
 unfold Rd.wp
 rw [Ey U.ok]
 exact k (.tok U.ok U.lt U.ne)
theorem RV (U:k≠0) (h1:k<18) (kk:∀n s1,A8 [n] s s1->Q n s1):Rd.wp (BA k x) s Q E1:=by
 unfold BA
 rw [Rd.Ap,Rd.AF]
 exact BP (λe=>CA (BE e U h1) (kk _ _)) (λ_=>trivial)
theorem cA {ks:List Int} (U:(ks.all λk=>decide (k≠0)&&decide (k<18))=true) (kk:∀n s1,A8 [n] s s1->Q n s1):Rd.wp (Df ks) s Q E1:=by
 unfold Df
 rw [Rd.Ap,Rd.AF]
 refine BP (λe=>?_) (λ_=>trivial)
 have:=List.all_eq_true.1 U _ (List.contains_iff_mem.1 e)
 simp only [Bool.and_eq_true,decide_eq_true_eq] at this
 exact CA (MB this.1 this.2) (kk _ _)
theorem tU {Q:Unit->Al->Prop} (hi:Hq (Ac s).1=true) (k:A8 [] s (Ac s).2.1->Q () (Ac s).2.1):Rd.wp JM s Q E1:=by
 have e:=Ht (OU hi).1
 unfold JM
 rw [Rd.wp_seq]
 unfold Rd.wp
 rw [Ey e]
 exact k (.skip e hi)
theorem EI {body:σ->Rd (Sum σ β)} {P:σ->Al->Prop} {Q:β->Al->Prop} (hb:∀x s,P x s->Rd.wp (body x) s (λr s'=>match r with| .inl x'=>P x' s'| .inr y=>Q y s') E1) {x:σ} {s:Al} (h0:P x s):Rd.wp (Rd.loop body x) s Q E1:=by
 have:∀y s',(Rd.loop body x).run s=.inr (y,s')->Q y s':=by
  show ∀y s',Rd.iter body x s=.inr (y,s')->Q y s'
  fun_induction Rd.iter body x s with
  |case1 x s e h=>simp_all
  |case2 x s y s1 h=>
   intro y' s' h';cases h'
   have:=hb x s h0
   unfold Rd.wp at this
   simp_all
  |case3 x s x' s1 h U ih=>
   have:=hb x s h0
   unfold Rd.wp at this
   simp_all
  |case4 x s x' s1 h U=>simp_all
 exact Rd.XV this (λ_ _ _=>trivial)
theorem A8.ij {t:Tk} (h:A8 [BJ t] s s') (hk:k≠1) (U:k≠30):A8 [Az k [BJ t]] s s':=.node h hk (by
 have:OD [BJ t]=3:=rfl
 unfold lG;simp_all)
theorem A8.gd (h:A8 l s s') (U:3<=l.length):A8 [Az 30 l] s s':=.node h Do (by have:=O6 (l:=l);have:lG 30=2:=rfl;omega)
theorem A8.HV {m:Nd} (h:A8 [n] s s1) (k:A8 (m::l) s1 s2):A8 (n::m::l) s s2:=.app h k
theorem A8.pass (h:A8 l s s1) (k:A8 [] s1 s2):A8 l s s2:=by
 have:=A8.app h k
 simp_all
theorem Fl {l:List α} {a b:α}:2<=(l++[a]++[b]).length:=kw
structure Lq (L:EN):Prop where
 atom:Dv L.atom
 exp:Dv L.exp
 ops:Dv L.ops
 decls:Dv L.decls
 stmts:Dv L.stmts
 alts:Dv L.alts
 GP:∀o s,Rd.wp (L.GP o) s (λn s'=>∀s0,A8 [o] s0 s->A8 [n] s0 s') E1
 list:∀o s,Rd.wp (L.list o) s (λn s'=>∀s0,A8 [o] s0 s->A8 [n] s0 s') E1
theorem uv {B:Nd->Rd Nd} (hB:∀o s,Rd.wp (B o) s (λn s'=>∀s0,A8 [o] s0 s->A8 [n] s0 s') E1) (U:A8 [o] s0 s) (k:∀n s1,A8 [n] s0 s1->Q n s1):Rd.wp (B o) s Q E1:=
 Rd.wp_mono (hB o s) (λn s1 _ h=>k n s1 (h s0 U)) (λ_ _ _ _=>trivial)
theorem Tx:Dv Ii:=λs=>by
 simp only [Ii,Rd.Ap,Rd.AF,Rd.wp_seq,Rd.wp_ret]
 repeat' (first
  |exact trivial
  |assumption
  |refine BP (λe=>?_) (λe=>?_)
  |refine CA (BE ‹_› Do Do) (λhn=>?_)
  |refine CA (Dt ‹_› Do Do) (λhn=>?_)
  |refine CA (D9 ‹_›) (λhn=>?_)
  |refine CA (Eb ‹_›) (λhn=>?_)
  |refine CA (Ea ‹_›) (λhn=>?_)
  |refine CA ‹_› (λhn=>?_)
  |refine RV Do Do (λn s1 hn=>?_)
  |refine cA Do (λn s1 hn=>?_)
  |refine HR ‹_› (λn s1 hn=>?_)
  |exact A8.ij ‹_› Do Do
  |refine A8.two ?_ Do Do (by first|exact Nat.le_of_ble_eq_true rfl|(simp only [List.length_append,List.length_cons,List.length_nil];omega))
  |apply A8.HV
  |apply A8.app)
theorem Nf (U:Dv A):Dv (Dr A p):=λs=>by
 simp only [Dr,Rd.Ap,Rd.AF,Rd.wp_seq,Rd.wp_ret,Rd.GK]
 repeat' (first
  |exact trivial
  |assumption
  |refine BP (λe=>?_) (λe=>?_)
  |refine CA (BE ‹_› Do Do) (λhn=>?_)
  |refine CA (Dt ‹_› Do Do) (λhn=>?_)
  |refine CA (D9 ‹_›) (λhn=>?_)
  |refine CA (Eb ‹_›) (λhn=>?_)
  |refine CA (Ea ‹_›) (λhn=>?_)
  |refine CA ‹_› (λhn=>?_)
  |refine RV Do Do (λn s1 hn=>?_)
  |refine cA Do (λn s1 hn=>?_)
  |refine HR ‹_› (λn s1 hn=>?_)
  |refine A8.two ?_ Do Do (by first|exact Nat.le_of_ble_eq_true rfl|(simp only [List.length_append,List.length_cons,List.length_nil];omega))
  |apply A8.HV
  |apply A8.app)
theorem gk {Q:List Nd->Al->Prop} (U:A8 l s0 s) (k:∀l s1,A8 l s0 s1->Q l s1):Rd.wp (YY l) s Q E1:=by
 refine EI (P:=λl s=>A8 l s0 s) (λl s U=>?_) U
 simp only [YX,Rd.Ap,Rd.AF,Rd.wp_seq,Rd.wp_ret]
 repeat' (first
  |exact trivial
  |assumption
  |refine BP (λe=>?_) (λe=>?_)
  |refine CA (BE ‹_› Do Do) (λhn=>?_)
  |refine CA (Dt ‹_› Do Do) (λhn=>?_)
  |refine CA (D9 ‹_›) (λhn=>?_)
  |refine CA (Eb ‹_›) (λhn=>?_)
  |refine CA (Ea ‹_›) (λhn=>?_)
  |refine CA ‹_› (λhn=>?_)
  |refine RV Do Do (λn s1 hn=>?_)
  |refine cA Do (λn s1 hn=>?_)
  |refine HR ‹_› (λn s1 hn=>?_)
  |exact A8.snoc U (A8.ij ‹_› Do Do)
  |exact k _ _ U
  |refine A8.two ?_ Do Do (by first|exact Nat.le_of_ble_eq_true rfl|(simp only [List.length_append,List.length_cons,List.length_nil];omega))
  |apply A8.HV
  |apply A8.app)
theorem gq {b:Bool} {Q:List Nd×Bool->Al->Prop} (hA:Dv A) (k:∀l b s1,1<=l.length->(b=true->2<=l.length/\Bp s1 15 [41]=true)->A8 l s s1->Q (l,b) s1):Rd.wp (Sp A b) s Q E1:=by
 refine EI (P:=λl s1=>A8 l s s1) (λl s1 h0=>?_) (A8.nil s)
 simp only [jR,Rd.Ap,Rd.AF,Rd.wp_seq,Rd.wp_ret]
 refine gk h0 (λl s1 h0=>?_)
 have ho:=Tx
 refine HR hA (λn s2 hn=>?_)
 refine BP (λe=>?_) (λe=>k _ _ _ kw (λh=>by cases h) (h0.snoc hn))
 refine HR ho (λo s3 U=>?_)
 exact BP (λ_=>BP (λe=>k _ _ _ (Nat.le_trans Do Fl) (λ_=>⟨Fl,e⟩) ((h0.snoc hn).snoc U)) λe=>(h0.snoc hn).snoc U) λe=>(h0.snoc hn).snoc U
theorem PO (hA:Dv A):Dv (Za A):=λs=>by
 simp only [Za,Rd.wp_seq,Rd.wp_ret]
 exact gq hA λl b s1 U _ h=>h.one Do Do U
theorem Vp (hA:Dv A) (U:A8 [n] s0 s) (k:∀n s1,A8 [n] s0 s1->Q n s1):Rd.wp (NU A n) s Q E1:=by
 simp only [NU,Rd.Ap,Rd.AF,Rd.wp_seq,Rd.wp_ret]
 repeat' (first
  |exact trivial
  |assumption
  |refine BP (λe=>?_) (λe=>?_)
  |refine CA (BE ‹_› Do Do) (λhn=>?_)
  |refine CA (Dt ‹_› Do Do) (λhn=>?_)
  |refine CA (D9 ‹_›) (λhn=>?_)
  |refine CA (Eb ‹_›) (λhn=>?_)
  |refine CA (Ea ‹_›) (λhn=>?_)
  |refine CA ‹_› (λhn=>?_)
  |refine RV Do Do (λn s1 hn=>?_)
  |refine cA Do (λn s1 hn=>?_)
  |refine HR ‹_› (λn s1 hn=>?_)
  |refine k _ _ ?_
  |refine A8.two ?_ Do Do (by first|exact Nat.le_of_ble_eq_true rfl|(simp only [List.length_append,List.length_cons,List.length_nil];omega))
  |apply A8.HV
  |apply A8.app)
theorem qF (U:Dv A) (hB:Dv B):Dv (cM A B):=λs=>by
 simp only [cM,Rd.wp_seq]
 exact HR (PO U) λn s1 h=>Vp hB h λn s1 h=>h
theorem Vn {a b:Nd} (hL:Lq L) (U:A8 [a,b] s0 s) (k:∀n s1,A8 [n] s0 s1->Q n s1):Rd.wp (Nx L a b) s Q E1:=by
 have h1:=hL.exp
 simp only [Nx,Rd.wp_seq,Rd.wp_ret]
 repeat' (first
  |exact trivial
  |assumption
  |refine BP (λe=>?_) (λe=>?_)
  |refine CA (BE ‹_› Do Do) (λhn=>?_)
  |refine CA (Dt ‹_› Do Do) (λhn=>?_)
  |refine CA (D9 ‹_›) (λhn=>?_)
  |refine CA (Eb ‹_›) (λhn=>?_)
  |refine CA (Ea ‹_›) (λhn=>?_)
  |refine CA ‹_› (λhn=>?_)
  |refine RV Do Do (λn s1 hn=>?_)
  |refine cA Do (λn s1 hn=>?_)
  |refine HR ‹_› (λn s1 hn=>?_)
  |exact k _ _ (A8.two (l:=[a,b,_,_]) (A8.app U (A8.HV ‹_› ‹_›)) Do Do (Nat.le_of_ble_eq_true rfl))
  |refine A8.two ?_ Do Do (by first|exact Nat.le_of_ble_eq_true rfl|(simp only [List.length_append,List.length_cons,List.length_nil];omega))
  |apply A8.HV
  |apply A8.app)
theorem cD (hL:Lq L) (hA:Dv A) (hr:Real s) (k:∀n s1,A8 [n] s s1->Q n s1):Rd.wp (Mk L A) s Q E1:=by
 have h1:=hL.exp
 simp only [Mk,Rd.wp_seq]
 refine CA hr λU=>?_
 refine EI (P:=λl s1=>A8 l s s1) (λl s1 U=>?_) U
 .have h2:=Nf (p:=KK) hA
  simp only [T0,OW,Rd.Ap,Rd.AF,Rd.wp_seq,Rd.wp_ret]
  repeat' (first
   |exact trivial
   |assumption
   |refine BP (λe=>?_) (λe=>?_)
   |refine CA (BE ‹_› Do Do) (λhn=>?_)
   |refine CA (Dt ‹_› Do Do) (λhn=>?_)
   |refine CA (D9 ‹_›) (λhn=>?_)
   |refine CA (Eb ‹_›) (λhn=>?_)
   |refine CA (Ea ‹_›) (λhn=>?_)
   |refine CA ‹_› (λhn=>?_)
   |refine RV Do Do (λn s1 hn=>?_)
   |refine cA Do (λn s1 hn=>?_)
   |refine HR ‹_› (λn s1 hn=>?_)
   |exact k _ _ (A8.two (A8.snoc (A8.snoc U ‹_›) ‹_›) Do Do Fl)
   |refine A8.two ?_ Do Do (by first|exact Nat.le_of_ble_eq_true rfl|exact Fl|(simp only [List.length_append,List.length_cons,List.length_nil];omega))
   |apply A8.HV
   |apply A8.app)
theorem mz {Q:Unit->Al->Prop} (k:∀s1,A8 [] s s1->Q () s1):Rd.wp (bB w) s Q E1:=by
 simp only [bB,Rd.Ap,Rd.AF,Rd.wp_ret]
 exact BP (λe=>BP (λ_=>tU (Ss e) (k _)) λ_=>k _ (.nil _)) λ_=>k _ (.nil _)
theorem ab {Q:List Nd->Al->Prop} (hL:Lq L) (U:A8 l s0 s) (k:∀a e s1,A8 (l++[a]++[e]) s0 s1->Q (l++[a]++[e]) s1):Rd.wp (Of L l w) s Q E1:=by
 have h1:=hL.exp
 simp only [Of,Rd.wp_seq,Rd.wp_ret]
 refine mz λs1 hs=>?_
 have U:=U.pass hs
 repeat' (first
  |exact trivial
  |assumption
  |refine BP (λe=>?_) (λe=>?_)
  |refine CA (BE ‹_› Do Do) (λhn=>?_)
  |refine CA (Dt ‹_› Do Do) (λhn=>?_)
  |refine CA (D9 ‹_›) (λhn=>?_)
  |refine CA (Eb ‹_›) (λhn=>?_)
  |refine CA (Ea ‹_›) (λhn=>?_)
  |refine CA ‹_› (λhn=>?_)
  |refine RV Do Do (λn s1 hn=>?_)
  |refine cA Do (λn s1 hn=>?_)
  |refine HR ‹_› (λn s1 hn=>?_)
  |refine k _ _ _ ?_
  |refine A8.two ?_ Do Do (by first|exact Nat.le_of_ble_eq_true rfl|(simp only [List.length_append,List.length_cons,List.length_nil];omega))
  |apply A8.HV
  |apply A8.app)
theorem cB (U:Lq L) (hr:Real s) (k:∀n s1,A8 [n] s s1->Q n s1):Rd.wp (LM L) s Q E1:=by
 have h1:=U.exp
 simp only [LM,Rd.wp_seq,Rd.wp_ret]
 refine CA hr λh0=>?_
 refine HR h1 λc s1 hc=>?_
 exact ab U (h0.cons hc) λa e s2 h2=>ab U h2 λa e s3 h3=>k _ _ (h3.two Do Do Fl)
theorem mv (U:Lq L) (hr:Real s) (k:∀n s1,A8 [n] s s1->Q n s1):Rd.wp (ZX L) s Q E1:=by
 have h1:=U.exp
 have h2:=U.alts
 simp only [ZX,Rd.wp_seq,Rd.wp_ret]
 refine CA hr λh0=>?_
 repeat' (first
  |exact trivial
  |assumption
  |refine BP (λe=>?_) (λe=>?_)
  |refine CA (BE ‹_› Do Do) (λhn=>?_)
  |refine CA (Dt ‹_› Do Do) (λhn=>?_)
  |refine CA (D9 ‹_›) (λhn=>?_)
  |refine CA (Eb ‹_›) (λhn=>?_)
  |refine CA (Ea ‹_›) (λhn=>?_)
  |refine CA ‹_› (λhn=>?_)
  |refine RV Do Do (λn s1 hn=>?_)
  |refine cA Do (λn s1 hn=>?_)
  |refine HR ‹_› (λn s1 hn=>?_)
  |refine k _ _ ?_
  |refine A8.two ?_ Do Do (by first|exact Nat.le_of_ble_eq_true rfl|(simp only [List.length_append,List.length_cons,List.length_nil];omega))
  |apply A8.HV
  |apply A8.app)
theorem gv (U:Lq L) (hr:Real s) (k:∀n s1,A8 [n] s s1->Q n s1):Rd.wp (Rr L) s Q E1:=by
 have h1:=U.stmts
 simp only [Rr,Rd.wp_seq,Rd.wp_ret,Rd.AF,Rd.DP]
 refine CA hr λh0=>?_
 repeat' (first
  |exact trivial
  |assumption
  |refine BP (λe=>?_) (λe=>?_)
  |refine CA (BE ‹_› Do Do) (λhn=>?_)
  |refine CA (Dt ‹_› Do Do) (λhn=>?_)
  |refine CA (D9 ‹_›) (λhn=>?_)
  |refine CA (Eb ‹_›) (λhn=>?_)
  |refine CA (Ea ‹_›) (λhn=>?_)
  |refine CA ‹_› (λhn=>?_)
  |refine RV Do Do (λn s1 hn=>?_)
  |refine cA Do (λn s1 hn=>?_)
  |refine HR ‹_› (λn s1 hn=>?_)
  |refine k _ _ ?_
  |refine A8.two ?_ Do Do (by first|exact Nat.le_of_ble_eq_true rfl|(simp only [List.length_append,List.length_cons,List.length_nil];omega))
  |apply A8.HV
  |apply A8.app)
theorem qG (U:Lq L) (hr:Real s) (k:∀n s1,A8 [n] s s1->Q n s1):Rd.wp (nw L) s Q E1:=by
 have h1:=U.decls
 simp only [nw,Rd.wp_seq]
 refine CA hr λh0=>?_
 exact HR h1 λb s1 hb=>Vn U (h0.cons hb) k
theorem gi (hA:Dv A) (k:∀n s1,A8 [n] s s1->Q n s1):Rd.wp (M4 A) s Q E1:=by
 simp only [M4,Rd.wp_seq,Rd.wp_ret]
 refine HR hA λn s1 hn=>?_
 refine EI (P:=λl s1=>A8 l s s1/\1<=l.length) (λl s1 U=>?_) ⟨hn,Nat.le_refl _⟩
 obtain ⟨U,hl⟩:=U
 simp only [Yb,Rd.Ap,Rd.AF,Rd.wp_seq,Rd.wp_ret]
 exact BP (λ_=>HR hA λn s1 hn=>⟨U.snoc hn,kw⟩) λ_=>k _ _ (U.one Do Do hl)
theorem Ym (hL:Lq L) (hA:Dv A):Dv (Ij L A):=λs=>by
 simp only [Ij,Rd.Ap,Rd.AF]
 have U:=gi (s:=s) (Q:=λn s'=>A8 [n] s s') hA λ_ _ h=>h
 refine BP (λe=>BP (λ_=>cD hL hA (Dt e Do Do) λ_ _ h=>h) λ_=>U) λ_=>BP (λe=>?_) λ_=>U
 have hr:=Dt e Do Do
 exact BP (λ_=>qG hL hr λ_ _ h=>h) λ_=>BP (λ_=>cB hL hr λ_ _ h=>h) λ_=>BP (λ_=>mv hL hr λ_ _ h=>h) λ_=>BP (λ_=>gv hL hr λ_ _ h=>h) λ_=>U
theorem aa (U:A8 [o] s0 s) (k:∀n s1,A8 [n] s0 s1->Q n s1):Rd.wp (VL o) s Q E1:=by
 simp only [VL,Rd.wp_seq,Rd.wp_ret]
 refine EI (P:=λl s1=>A8 l s0 s1/\1<=l.length) (λl s1 U=>?_) ⟨U,Nat.le_refl _⟩
 obtain ⟨U,hl⟩:=U
 simp only [Tl,Rd.Ap,Rd.AF,Rd.wp_seq,Rd.wp_ret]
 exact BP (λe=>CA (BE e Do Do) λh=>⟨U.snoc h,kw⟩) λ_=>RV Do Do λn s1 h=>k _ _ ((U.snoc h).two Do Do kw)
theorem cG (U:Lq L) (h0:A8 [o] s0 s) (k:∀n s1,A8 [n] s0 s1->Q n s1):Rd.wp (Q6 L o) s Q E1:=by
 have h1:=U.ops
 have h2:=Tx
 simp only [Q6,Rd.Ap,Rd.AF,Rd.wp_seq,Rd.wp_ret]
 repeat' (first
  |exact trivial
  |assumption
  |refine BP (λe=>?_) (λe=>?_)
  |refine CA (BE ‹_› Do Do) (λhn=>?_)
  |refine CA (Dt ‹_› Do Do) (λhn=>?_)
  |refine CA (D9 ‹_›) (λhn=>?_)
  |refine CA (Eb ‹_›) (λhn=>?_)
  |refine CA (Ea ‹_›) (λhn=>?_)
  |refine CA ‹_› (λhn=>?_)
  |refine RV Do Do (λn s1 hn=>?_)
  |refine cA Do (λn s1 hn=>?_)
  |refine HR ‹_› (λn s1 hn=>?_)
  |exact uv U.GP h0 k
  |refine k _ _ ?_
  |refine A8.two ?_ Do Do (by first|exact Nat.le_of_ble_eq_true rfl|(simp only [List.length_append,List.length_cons,List.length_nil];omega))
  |apply A8.HV
  |apply A8.app)
theorem cF (hL:Lq L) (U:A8 [o] s0 s) (k:∀n s1,A8 [n] s0 s1->Q n s1):Rd.wp (Ut L o) s Q E1:=by
 simp only [Ut,Rd.Ap,Rd.AF,Rd.wp_seq,Rd.wp_ret]
 have hc:=cG (Q:=Q) hL U k
 refine BP (λe=>BP (λe2=>?_) λ_=>hc) λ_=>hc
 exact CA (Eb e) λh1=>CA (BE e2 Do Do) λh2=>k _ _ ((U.cons (h1.cons h2)).two Do Do (Nat.le_of_ble_eq_true rfl))
theorem gp (hL:Lq L) (hr:Real s) (k:∀n s1,A8 [n] s s1->Q n s1):Rd.wp (Q7 L) s Q E1:=by
 simp only [Q7,Rd.Ap,Rd.AF,Rd.wp_seq]
 exact CA hr λU=>BP (λ_=>aa U k) λ_=>BP (λ_=>aa U k) λ_=>cF hL U k
theorem cH (hL:Lq L) (hr:Real s) (k:∀n s1,A8 [n] s s1->Q n s1):Rd.wp (MP L) s Q E1:=by
 simp only [MP,Rd.Ap,Rd.AF,Rd.wp_seq,Rd.wp_ret]
 refine CA hr λU=>?_
 repeat' (first
  |exact trivial
  |assumption
  |refine BP (λe=>?_) (λe=>?_)
  |refine CA (BE ‹_› Do Do) (λhn=>?_)
  |refine CA (Dt ‹_› Do Do) (λhn=>?_)
  |refine CA (D9 ‹_›) (λhn=>?_)
  |refine CA (Eb ‹_›) (λhn=>?_)
  |refine CA (Ea ‹_›) (λhn=>?_)
  |refine CA ‹_› (λhn=>?_)
  |refine RV Do Do (λn s1 hn=>?_)
  |refine cA Do (λn s1 hn=>?_)
  |refine HR ‹_› (λn s1 hn=>?_)
  |exact uv hL.list U k
  |refine k _ _ ?_
  |refine A8.two ?_ Do Do (by first|exact Nat.le_of_ble_eq_true rfl|(simp only [List.length_append,List.length_cons,List.length_nil];omega))
  |apply A8.HV
  |apply A8.app)
theorem mr (U:Lq L):Dv (Sd L):=λs=>by
 have h1:=U.atom
 simp only [Sd,Rd.Ap,Rd.AF,Rd.wp_seq,Rd.wp_ret]
 refine BP (λe=>?_) λ_=>trivial
 have hr:=D9 e
 repeat' (first
  |exact trivial
  |assumption
  |refine BP (λe=>?_) (λe=>?_)
  |refine CA (BE ‹_› Do Do) (λhn=>?_)
  |refine CA (Dt ‹_› Do Do) (λhn=>?_)
  |refine CA (D9 ‹_›) (λhn=>?_)
  |refine CA (Eb ‹_›) (λhn=>?_)
  |refine CA (Ea ‹_›) (λhn=>?_)
  |refine CA ‹_› (λhn=>?_)
  |refine RV Do Do (λn s1 hn=>?_)
  |refine cA Do (λn s1 hn=>?_)
  |refine HR ‹_› (λn s1 hn=>?_)
  |exact gp U hr λ_ _ h=>h
  |exact cH U hr λ_ _ h=>h
  |exact A8.ij ‹_› Do Do
  |refine A8.two ?_ Do Do (by first|exact Nat.le_of_ble_eq_true rfl|(simp only [List.length_append,List.length_cons,List.length_nil];omega))
  |apply A8.HV
  |apply A8.app)
theorem cE (hL:Lq L) (hr:Real s) (U:A8 [n] s0 s) (k:∀n s1,A8 [n] s0 s1->Q n s1):Rd.wp (Ko L n) s Q E1:=by
 have h1:=hL.exp
 simp only [Ko,Rd.wp_seq,Rd.wp_ret]
 refine CA hr λhb=>?_
 refine EI (P:=λl s1=>A8 l s0 s1/\1<=l.length) (λl s1 U=>?_) ⟨U.cons hb,Nat.le_of_ble_eq_true rfl⟩
 obtain ⟨U,hl⟩:=U
 have hend:∀{l:List Nd} {s:Al},A8 l s0 s->1<=l.length->Rd.wp (BA 15 [125]) s (λc s'=>Q (Az 12 (l++[c])) s') E1:=λU hl=>RV Do Do λn s1 h=>k _ _ ((U.snoc h).two Do Do kw)
 simp only [Up,TE,Rd.Ap,Rd.AF,Rd.wp_seq,Rd.wp_ret]
 have hf:Rd.wp (Df [1,3]) s1 (λnm s'=>Rd.wp (BA 10 [61]) s' (λq s'=>Rd.wp L.exp s' (λe s'=>if Bp s' 15 [44]=true then Rd.wp AO s' (λc s'=>A8 (l++[Az 13 [nm,q,e]]++[c]) s0 s'/\1<=(l++[Az 13 [nm,q,e]]++[c]).length) E1
  else Rd.wp (BA 15 [125]) s' (λc s'=>Q (Az 12 (l++[Az 13 [nm,q,e]]++[c])) s') E1) E1) E1) E1:=by
  refine cA Do λnm s2 g1=>RV Do Do λq s3 g2=>HR h1 λe s4 g3=>?_
  have h2:=U.snoc ((g1.cons (g2.cons g3)).two (k:=13) Do Do (Nat.le_of_ble_eq_true rfl))
  exact BP (λe=>CA (BE e Do Do) λh=>⟨h2.snoc h,Nat.le_trans Do Fl⟩) λ_=>hend h2 kw
 simp_all
theorem LZ (hL:Lq L):Dv (Lz L):=λs=>by
 simp only [Lz,Rd.wp_seq]
 refine HR (mr hL) λn s1 hn=>?_
 refine EI (P:=λn s1=>A8 [n] s s1) (λn s1 U=>?_) hn
 simp only [fk,Rd.Ap,Rd.AF,Rd.wp_seq,Rd.wp_ret]
 exact BP (λe=>cE hL (BE e Do Do) U λ_ _ h=>h) λ_=>U
end
section
variable {A B C D E:Rd Nd} {s s0 s1 s2 s':Al} {Q:Nd->Al->Prop} {L:EN}
theorem ek:∀{l:List Nd},2<=l.length->l.take (l.length - 1)++[l.getLastD Kj]=l/\1<=(l.take (l.length - 1)).length:=λ{l} h=>by
 have U:l≠[]:=λe=>by simp_all
 refine ⟨?_,by grind⟩
 have h1:=List.dropLast_concat_getLast U
 grind
theorem A8.split:∀{l:List Nd} {s s':Al},A8 l s s'->∀{a b:List Nd},l=a++b->∃s1,A8 a s s1/\A8 b s1 s':=by
 intro l s s' h
 induction h with
 |nil s=>intro a b e;obtain ⟨rfl,rfl⟩:=List.append_eq_nil_iff.1 e.symm;exact ⟨s,.nil s,.nil s⟩
 |app h1 h2 i1 i2=>
  intro a b e
  rcases List.append_eq_append_iff.1 e with ⟨x,U,e2⟩|⟨x,U,e2⟩
  .obtain ⟨s1,k1,k2⟩:=i2 e2
   subst U
   exact ⟨s1,.app h1 k1,k2⟩
  .obtain ⟨s1,k1,k2⟩:=i1 U
   subst e2
   exact ⟨s1,k1,.app k2 h2⟩
 |tok g1 g2 g3=>
  intro a b e
  match a with
  |[]=>rw [List.nil_append] at e;subst e;exact ⟨_,.nil _,.tok g1 g2 g3⟩
  |x::r=>
   rw [List.cons_append] at e
   injection e with U e2
   obtain ⟨rfl,rfl⟩:=List.append_eq_nil_iff.1 e2.symm
   subst U
   exact ⟨_,.tok g1 g2 g3,.nil _⟩
 |skip g1 g2=>intro a b e;obtain ⟨rfl,rfl⟩:=List.append_eq_nil_iff.1 e.symm;exact ⟨_,.nil _,.skip g1 g2⟩
 |close g1=>intro a b e;obtain ⟨rfl,rfl⟩:=List.append_eq_nil_iff.1 e.symm;exact ⟨_,.nil _,.close g1⟩
 |node g1 g2 g3 ih=>
  intro a b e
  match a with
  |[]=>rw [List.nil_append] at e;subst e;exact ⟨_,.nil _,.node g1 g2 g3⟩
  |x::r=>
   rw [List.cons_append] at e
   injection e with U e2
   obtain ⟨rfl,rfl⟩:=List.append_eq_nil_iff.1 e2.symm
   subst U
   exact ⟨_,.node g1 g2 g3,.nil _⟩
 |block g1 g2 g3 ih=>
  intro a b e
  match a with
  |[]=>rw [List.nil_append] at e;subst e;exact ⟨_,.nil _,.block g1 g2 g3⟩
  |x::r=>
   rw [List.cons_append] at e
   injection e with U e2
   obtain ⟨rfl,rfl⟩:=List.append_eq_nil_iff.1 e2.symm
   subst U
   exact ⟨_,.block g1 g2 g3,.nil _⟩
theorem gj (hA:Dv A) (hB:Dv B) (hC:Dv C):∀s,Rd.wp (EH A B C o) s (λn s'=>∀s0,A8 [o] s0 s->A8 [n] s0 s') E1:=λs=>by
 simp only [EH,Rd.AF,Rd.wp_seq,Rd.wp_ret]
 refine gq hA λl b s1 h1 h2 hl=>?_
 dsimp only
 refine BP (λe=>?_) λ_=>?_
 .obtain ⟨h3,h4⟩:=h2 e
  obtain ⟨t1,t2⟩:=ek h3
  obtain ⟨s2,k1,k2⟩:=hl.split t1.symm
  exact CA (BE h4 Do Do) λg1 s0 U=>(U.cons ((k1.one Do Do t2).cons (k2.cons g1))).two Do Do (Nat.le_of_ble_eq_true rfl)
 .refine Vp hB (hl.one Do Do h1) λn s1 hn=>?_
  refine EI (P:=λq s1=>(q.1=4\/q.1=5)/\2<=q.2.length/\∀s0,A8 [o] s0 s->A8 q.2 s0 s1) (λq s1 h0=>?_) ⟨.inl rfl,Nat.le_refl _,λs0 U=>U.cons hn⟩
  obtain ⟨hq,hl,h0⟩:=h0
  simp only [ZD,Rd.Ap,Rd.AF,Rd.wp_seq,Rd.wp_ret]
  refine BP (λe=>CA (BE e Do Do) λg1=>HR hC λn s2 g2=>⟨.inr trivial,Fl,λs0 U=>((h0 s0 U).snoc g1).snoc g2⟩) λ_=>RV Do Do λc s2 hc s0 U=>?_
  exact ((h0 s0 U).snoc hc).two AC AC (by grind)
theorem Vo {Q:List Nd->Al->Prop} (hA:Dv A) (U:A8 l s0 s) (k:∀l' s1,l.length+2<=l'.length->A8 l' s0 s1->Q l' s1):Rd.wp (FF A l) s Q E1:=by
 simp only [FF,Rd.wp_seq]
 refine RV Do Do λb s1 hb=>HR hA λt s2 ht=>?_
 refine EI (P:=λl' s1=>A8 l' s0 s1/\l.length+2<=l'.length) (λl' s1 U=>?_) ⟨(U.snoc hb).snoc ht,kw⟩
 obtain ⟨U,hl⟩:=U
 simp only [ND,Rd.Ap,Rd.AF,Rd.wp_seq,Rd.wp_ret]
 exact BP (λe=>CA (BE e Do Do) λg1=>HR hA λn s2 g2=>⟨(U.snoc g1).snoc g2,by grind⟩) λ_=>k _ _ hl U
theorem my (hA:Dv A) (hB:Dv B):∀s,Rd.wp (Qz A B o) s (λn s'=>∀s0,A8 [o] s0 s->A8 [n] s0 s') E1:=λs=>by
 simp only [Qz,Rd.Ap,Rd.AF,Rd.wp_seq,Rd.wp_ret]
 refine HR hA λe s1 he=>BP (λ_=>?_) λ_=>?_
 .have:Rd.wp (FF B [o,e]) s1 (λl s2=>Rd.wp (BA 15 [93]) s2 (λc s'=>∀s0,A8 [o] s0 s->A8 [Az 8 (l++[c])] s0 s') E1) E1:=by
   refine Rd.XV (λl s2 hr=>?_) (λ_ _ _=>trivial)
   refine RV Do Do λc s3 hc s0 ho=>?_
   have h1:Rd.wp (FF B [o,e]) s1 (λl s2=>A8 l s0 s2/\2<=l.length) E1:=Vo hB (ho.cons he) λl' s1 hl h=>⟨h,AC⟩
   unfold Rd.wp at h1
   rw [hr] at h1
   exact (h1.1.snoc hc).two Do Do (by grind)
  omega
 .refine EI (P:=λl s1=>2<=l.length/\∀s0,A8 [o] s0 s->A8 l s0 s1) (λl s1 h0=>?_) ⟨Nat.le_refl _,λs0 ho=>ho.cons he⟩
  obtain ⟨hl,h0⟩:=h0
  have U:∀{k:Int} {l:List Nd} {s1:Al},k≠1->k≠30->2<=l.length->(∀s0,A8 [o] s0 s->A8 l s0 s1)->Rd.wp (BA 15 [93]) s1 (λc s'=>∀s0,A8 [o] s0 s->A8 [Az k (l++[c])] s0 s') E1:=λhk h30 hl h0=>
   RV Do Do λc s3 hc s0 ho=>((h0 s0 ho).snoc hc).two hk h30 (by grind)
  simp only [iB,aJ,Rd.Ap,Rd.AF,Rd.wp_seq,Rd.wp_ret]
  have hc:if Bp s1 15 [44]=true then Rd.wp AO s1 (λc s'=>Rd.wp A s' (λe s'=>2<=(l++[c]++[e]).length/\∀s0,A8 [o] s0 s->A8 (l++[c]++[e]) s0 s') E1) E1
   else Rd.wp (BA 15 [93]) s1 (λc s'=>∀s0,A8 [o] s0 s->A8 [Az 6 (l++[c])] s0 s') E1:=
   BP (λe=>CA (BE e Do Do) λg1=>HR hA λn s2 g2=>⟨Fl,λs0 ho=>((h0 s0 ho).snoc g1).snoc g2⟩) λ_=>U Do Do hl h0
  refine BP (λ_=>BP (λe=>CA (BE e Do Do) λg1=>BP (λ_=>?_) λ_=>HR hA λn s2 g2=>?_) λ_=>hc) λ_=>hc
  .exact U Do Do (by grind) λs0 ho=>(h0 s0 ho).snoc g1
  .exact U Do Do Fl λs0 ho=>((h0 s0 ho).snoc g1).snoc g2
theorem Z8 (hA:Dv A) (U:A8 [n] s0 s) (k:∀n s1,A8 [n] s0 s1->Q n s1):Rd.wp (Vc A n) s Q E1:=by
 simp only [Vc,Rd.Ap,Rd.AF,Rd.wp_seq,Rd.wp_ret,Rd.DP]
 exact BP (λe=>BP (λ_=>CA (BE e Do Do) λg1=>HR hA λm s2 g2=>k _ _ ((U.cons (g1.cons g2)).two Do Do (Nat.le_of_ble_eq_true rfl))) λ_=>trivial) λ_=>k _ _ U
theorem mA (hL:Lq L) (U:Dv A):Dv (SO L A):=λs=>by
 simp only [SO,Rd.Ap,Rd.AF,Rd.wp_seq,Rd.wp_ret]
 exact BP (λe=>CA (BE e Do Do) λg1=>HR hL.decls λb s2 g2=>BP (λ_=>Vn hL (g1.cons g2) λn s3 g3=>Z8 U g3 λ_ _ h=>h) λ_=>(g1.cons g2).two Do Do (Nat.le_of_ble_eq_true rfl))
  λ_=>HR U λn s3 g3=>Z8 U g3 λ_ _ h=>h
theorem af (hL:Lq L) (hA:Dv A) (hB:Dv B) (U:A8 l s0 s) (hl:l=[]\/2<=OD l) (k:∀n s1,A8 [n] s0 s1->Q n s1):Rd.wp (jK L A B m l) s Q E1:=by
 simp only [jK,Rd.wp_seq,Rd.Ap,Rd.AF,Rd.wp_ret]
 refine EI (P:=λl s1=>A8 l s0 s1/\(l=[]\/2<=OD l)) (λl s1 U=>?_) ⟨U,hl⟩
 obtain ⟨U,hl⟩:=U
 have hs:Rd.wp (FF B []) s1 (λg s'=>Rd.wp (BA 10 m) s' (λq s'=>Rd.wp A s' (λe s'=>A8 (l++[Az 30 (g++[q]++[e])]) s0 s'/\(l++[Az 30 (g++[q]++[e])]=[]\/2<=OD (l++[Az 30 (g++[q]++[e])]))) E1) E1) E1:=by
  refine Vo hB (.nil s1) λg s2 hg h=>RV Do Do λq s3 g1=>HR hA λe s4 g2=>⟨U.snoc (A8.gd ((h.snoc g1).snoc g2) (by grind)),.inr ?_⟩
  rw [Ja]
  have:OD [Az 30 (g++[q]++[e])]=2:=rfl
  omega
 have he:∀{l:List Nd} {s1:Al},A8 l s0 s1->2<=OD l->if Bp s1 9 Je=true then Rd.wp AO s1 (λw s'=>Rd.wp L.decls s' (λb s'=>Q (Az 29 (l++[Az 31 [w,b]])) s') E1) E1 else Q (Az 29 l) s1:=λ{l s1} U hl=>
  BP (λe=>CA (BE e Do Do) λg1=>HR hL.decls λb s2 g2=>k _ _ (.node (U.snoc ((g1.cons g2).two Do Do (Nat.le_of_ble_eq_true rfl))) Do (by rw [Ja];have:lG 29=1:=rfl;omega)))
   λ_=>k _ _ (.node U Do (by have:lG 29=1:=rfl;omega))
 simp only [TQ,Ql,Rd.Ap,Rd.AF,Rd.wp_seq,Rd.wp_ret]
 grind
theorem gn (hL:Lq L) (hA:Dv A) (hB:Dv B):Dv (Zk L A B m):=λs=>by
 simp only [Zk,Rd.Ap,Rd.AF,Rd.wp_seq]
 refine BP (λe=>?_) λ_=>BP (λ_=>af hL hA hB (.nil s) (.inl rfl) λ_ _ h=>h) λ_=>trivial
 by_cases U:Real s
 .exact CA U λg1=>HR hA λe s2 g2=>af hL hA hB (g1.cons g2) (.inr (Nat.le_trans (Nat.le_of_ble_eq_true rfl) O6)) λ_ _ h=>h
 .exact absurd (BE e Do Do) U
theorem qE (hL:Lq L) (U:Dv A) (hB:Dv B) (hC:Dv C):Dv (bU L A B C):=λs=>by
 simp only [bU,Rd.AF,Rd.wp_seq,Rd.wp_ret,Rd.DP]
 exact HR U λn s1 g1=>BP (λ_=>HR (gn hL hB hC) λr s2 g2=>(g1.cons g2).two Do Do (Nat.le_of_ble_eq_true rfl)) λ_=>trivial
theorem PM (U:A8 l s0 s) (hl:1<=l.length) (k:∀n s1,A8 [n] s0 s1->Q n s1):Rd.wp (L6 l) s Q E1:=by
 have ho:=Nf (p:=Ld) Tx
 simp only [L6,Rd.wp_seq]
 refine HR ho λo s1 g1=>?_
 refine EI (P:=λl s1=>A8 l s0 s1/\2<=l.length) (λl s1 U=>?_) ⟨U.snoc g1,kw⟩
 obtain ⟨U,hl⟩:=U
 simp only [TI,Rd.Ap,Rd.AF,Rd.wp_seq,Rd.wp_ret]
 exact BP (λe=>CA (BE e Do Do) λg1=>HR ho λo s2 g2=>⟨(U.snoc g1).snoc g2,Fl⟩) λ_=>k _ _ (U.two Do Do hl)
theorem cC (U:Real s) (k:∀n s1,A8 [n] s s1->Q n s1):Rd.wp L7 s Q E1:=by
 simp only [L7,Rd.Ap,Rd.AF,Rd.wp_seq]
 refine CA U λg1=>BP (λe=>?_) λ_=>PM g1 (Nat.le_of_ble_eq_true rfl) k
 simp only [Dr,Rd.Ap,Rd.AF,Rd.wp_seq,Rd.wp_ret,Rd.GK]
 exact CA (Dt e Do Do) λg2=>BP (λ_=>PM (g1.cons g2) (Nat.le_of_ble_eq_true rfl) k) λ_=>trivial
theorem gu (hA:Dv A) (hB:Dv B) (U:A8 [n] s0 s) (k:∀n s1,A8 [n] s0 s1->Q n s1):Rd.wp (dS A B n) s Q E1:=by
 have ho:=Nf (p:=eJ) hA
 simp only [dS,Rd.AF,Rd.wp_seq,Rd.DP]
 refine BP (λ_=>?_) λ_=>trivial
 refine EI (P:=λl s1=>A8 l s0 s1) (λl s1 U=>?_) U
 simp only [sl,Rd.Ap,Rd.AF,Rd.wp_seq,Rd.wp_ret]
 exact BP (λe=>CA (BE e Do Do) λg1=>HR ho λo s2 g2=>(U.snoc g1).snoc g2) λ_=>RV Do Do λc s2 g1=>HR hB λt s3 g2=>k _ _ (((U.snoc g1).snoc g2).two Do Do Fl)
theorem mw (hL:Lq L) (U:Dv A) (hB:Dv B) (hC:Dv C) (hD:Dv D) (hE:Dv E):Dv (Sl L A B C D E):=λs=>by
 simp only [Sl,Rd.Ap,Rd.AF,Rd.wp_seq,Rd.wp_ret,Rd.DP]
 exact BP (λe=>cC (Ea e) λ_ _ h=>h) λ_=>HR hB λn s1 g1=>BP (λ_=>gu U hE g1 λ_ _ h=>h) λ_=>BP (λ_=>gu U hE g1 λ_ _ h=>h) λ_=>
  BP (λ_=>HR (gn hL hC hD) λr s2 g2=>(g1.cons g2).two Do Do (Nat.le_of_ble_eq_true rfl)) λ_=>trivial
theorem gr {Q:Unit->Al->Prop} (k:∀s1,A8 [] s s1->Q () s1):Rd.wp Rc s Q E1:=by
 refine EI (P:=λ_ s1=>A8 [] s s1) (λ_ s1 U=>?_) (.nil s)
 simp only [Uy,Rd.Ap,Rd.AF,Rd.wp_seq,Rd.wp_ret]
 exact BP (λe=>tU (Ss e) λh=>U.pass h) λ_=>k _ U
theorem Vm {f m:Bool} {Q:Bool->Al->Prop} (k:∀b s1,A8 [] s s1->Q b s1):Rd.wp (IF f m) s Q E1:=by
 simp only [IF,Rd.Ap,Rd.AF,Rd.wp_seq,Rd.wp_ret]
 have hi:∀{f:Bool},(if f then Bp s 15 [125] else (Ac s).1.kind==20)=true->Hq (Ac s).1=true:=λ{f} e=>by
  unfold Hq
  cases f with
  |true=>
   rw [if_pos rfl] at e
   unfold Bp at e
   simp_all
  |false=>
   simp_all
 refine BP (λe=>tU (hi e) λh=>k _ _ h) λ_=>BP (λ_=>BP (λ_=>trivial) λ_=>?_) λ_=>k _ _ (.nil s)
 unfold Rd.wp M9
 dsimp only
 by_cases e:(DJ s).2=true
 .rw [if_pos e];exact k _ _ (.close e)
 .rw [if_neg e];trivial
theorem PJ {p:Tk->Bool} (hA:Dv A):Dv (E4 p A):=λs=>by
 simp only [E4,Rd.Ap,Rd.AF,Rd.wp_seq,Rd.wp_ret]
 have hb:∀{f:Bool} {s1:Al},(Ac s).2.2=0->Hq (Ac s).1=true->(Ac s).2.1=s1->Rd.wp (Rd.loop (Te p A f) []) s1 (λl s'=>A8 [Fy f l] s s') E1:=λ{f s1} e1 e2 e3=>by
  subst e3
  refine EI (P:=λl s1=>A8 l (Ac s).2.1 s1) (λl s1 U=>?_) (.nil _)
  simp only [Te,Rd.Ap,Rd.AF,Rd.wp_seq,Rd.wp_ret]
  refine gr λs2 g2=>Vm λb s3 g3=>BP (λ_=>.block e1 e2 ((U.pass g2).pass g3)) λ_=>HR hA λn s4 g4=>Vm λb s5 g5=>BP (λ_=>.block e1 e2 ((((U.pass g2).pass g3).snoc g4).pass g5)) λ_=>(((U.pass g2).pass g3).snoc g4).pass g5
 refine BP (λe=>?_) λ_=>?_
 .have hi:Hq (Ac s).1=true:=by rw [beq_iff_eq] at e;simp [Hq,e]
  exact tU hi λ_=>hb (Ht (OU hi).1) hi rfl
 .unfold BA
  rw [Rd.Ap,Rd.AF]
  refine BP (λe=>?_) λ_=>trivial
  have hi:Hq (Ac s).1=true:=by
   unfold Bp at e
   simp only [Bool.and_eq_true,beq_iff_eq] at e
   simp [Hq,e.1,e.2]
  exact CA (BE e Do Do) λ_=>hb (Ht (OU hi).1) hi rfl
theorem L0 (d:Nat):Dv (JC d):=Dv.of λs n s' h=>by
 have U:C8 (Gn (Dj (Dk (d - 1)))):=mn (Z5 (Z6 _))
 refine U s n s' ?_
 unfold JC IQ at h
 grind
theorem Z9 {e:Er}:∀s,Rd.wp (Rd.fail e:Rd Nd) s (λn s'=>∀s0,A8 [o] s0 s->A8 [n] s0 s') E1:=λs=>trivial
theorem Ng (U:Lq L):Dv (jq L):=Ym U (LZ U)
theorem Kb (U:Dv A) (hL:Lq L):Dv (PX A L):=qF (Ng hL) U
theorem Jx (hA:Dv A) (U:Lq L):Dv (MQ A L):=mA U (Kb hA U)
theorem Z7 (hA:Dv A) (U:Lq L):Dv (lN A L):=qE U (PO (Ng U)) (Kb hA U) (Jx hA U)
theorem PK (hA:Dv A) (U:Lq L):Dv (Sk A L):=mw U (LZ U) (PO (Ng U)) (Kb hA U) (Jx hA U) hA
theorem sY (hA:Dv A) (U:Lq L):Lq (ui A L) where
 atom:=LZ U
 exp:=Kb hA U
 ops:=PO (Ng U)
 decls:=PJ (PK hA U)
 stmts:=PJ (Jx hA U)
 alts:=PJ (Z7 hA U)
 GP:=λo=>gj (Ng U) hA (Kb hA U)
 list:=λo=>my (Kb hA U) (Jx hA U)
theorem Tw:∀d,Lq (dm d)
 |0=>⟨λ_=>trivial,λ_=>trivial,λ_=>trivial,λ_=>trivial,λ_=>trivial,λ_=>trivial,λo=>Z9,λo=>Z9⟩
 |d+1=>sY (L0 _) (Tw d)
end
theorem Dv.sz {s s':Al} (h:Dv A) (U:A.run s=.inr (n,s')) (hm:mu s<=100000000):n.size<=1000000000:=by have:=h.size U;omega
theorem jr {s s':Al} (h:Ii.run s=.inr (n,s')):∃x,n.kids[(Int.tdiv (n.kids.length:Int) 2).toNat]? =some x/\n.kids[n.kids.length / 2]? =some x:=by
 unfold Ii at h
 replace h:(if NP (Ac s).1=true then Rd.seq AO λt=>.ret (Az 18 [t]) else Rd.seq (BA 15 [96]) λo=>.seq (Df [1,2,3,4]) λn=>.seq (BA 15 [96]) λc=>.ret (Az 18 [o,n,c]):Rd Nd).run s=.inr (n,s'):=h
 split at h
 .obtain ⟨t,s1,_,h⟩:=Bb h
  cases h
  exact ⟨t,(by show [t][(Int.tdiv (1:Int) 2).toNat]? =some t;rw [show (Int.tdiv (1:Int) 2).toNat=0 by decide];rfl),by simp [Az,Nd.kids]⟩
 .obtain ⟨o,s1,_,h⟩:=Bb h
  obtain ⟨x,s2,_,h⟩:=Bb h
  obtain ⟨c,s3,_,h⟩:=Bb h
  cases h
  exact ⟨x,(by show [o,x,c][(Int.tdiv (3:Int) 2).toNat]? =some x;rw [show (Int.tdiv (3:Int) 2).toNat=1 by decide];rfl),by simp [Az,Nd.kids]⟩
section
variable {st0 st:St} {b d:Nat} {s:Al} {rows:List (AA×List Nd)} {K:At->St->Prop} {L:EN}
attribute [local irreducible] Go.Aw.Ag
theorem mi (h:K (.ret (.bool (Ts n))) st):PC 343 [enc n] st K:=by
 refine pB Tryz.func343 ?_
 repeat' ((conv=>whnf);(first|  refine Dh ?_ ?_|refine pd ?_)<;>intros)
 all_goals conv=>whnf
 all_goals (refine Au h ?_;clear h;simp_all [Ts])
theorem VF:AY enc 341 (λb=>[pv b d,.func 344 [] [],.func 345 [] []]) (Dr Ii Ld):=
 Kd O1 λhr _ k=>by obtain ⟨x,U,h2⟩:=jr hr;exact jv U h2 k
theorem mG:AY enc 341 (λb=>[pv b d,.func 342 [] [],.func 343 [] []]) (Dr AO Ts):=
 Kd Yy λ_ _ k=>mi k
theorem mM {atom:Rd Nd} (ha:AY enc 349 (λb=>[pv b d]) atom) (U:Dv atom):AY enc 341 (λb=>[pv b d,.func 349 [] [],.func 348 [] []]) (Dr atom eJ):=
 Kd ha λhr hm k=>aD (Dv.sz U hr hm) k
theorem cO:AY enc 309 (λb=>[pv b d]) L7:=by
 refine ⟨λ{st0 b s st rows K} U h=>?_⟩
 simp only [L7,L6,Rd.Ap,Rd.AF,Rd.wp_seq,Rd.wp_ret] at h
 have hmu:=U.mu
 refine pB Tryz.func309 ?_
 repeat' ((conv=>whnf);(first|refine BM ?_|refine Fq ?_ ?_|refine Cx.Fo (l:=[_]) (Cx.push ‹_› [_]) (Nat.le_of_ble_eq_true rfl) ?_|refine S4 ?_|refine KT ?_ ?_|refine Lv ?_|refine KA ?_ ?_|exact EZ|refine Jn ?_|refine KE ?_|refine Fm.go (by first|  exact mG.a|exact VF.a) ?_ ?_)<;>intros)
 all_goals refine Cn (λl own=>[(3,.slice 6 (l.map AB) own)]) (λ_ _=>[]) [1,2] [0,1] (λl own=>(own,l)::rows) (λl=>l.length) _ ‹_› ‹_› PP Yl ?_
 all_goals intro l s1 st1 own1 U h hl hm1
 all_goals simp only [TI,Rd.Ap,Rd.AF,Rd.wp_seq,Rd.wp_ret,Rd.Bu] at h
 all_goals (repeat' ((conv=>whnf);(first|refine BM ?_|refine Fq ?_ ?_|refine S4 ?_|refine KT ?_ ?_|refine Lv ?_|refine KA ?_ ?_|exact EZ|refine Jn ?_|refine KE ?_|refine Fm.go (by first|  exact VF.a) ?_ ?_)<;>intros))
theorem sm {atom full:Rd Nd} (hn:n.size<=1000000000) (ha:AY enc 349 (λb=>[pv b d]) atom) (hD:Dv atom) (hf:AY enc 350 (λb=>[pv b d]) full):AY enc 312 (λb=>[pv b d,enc n]) (dS atom full n):=by
 refine ⟨λ{st0 b s st rows K} U h=>?_⟩
 simp only [dS,Rd.AF,Rd.wp_seq,Rd.wp_ret,Rd.DP] at h
 have hmu:=U.mu
 refine pB Tryz.func312 ?_
 repeat' ((conv=>whnf);(first|exact C4|refine BM ?_|(refine C5 ?_ ?_ ?_;rotate_left)|refine Fq ?_ ?_|refine KT ?_ ?_|refine Lv ?_|refine KA ?_ ?_|exact EZ|refine Jn ?_|refine KE ?_|refine Aq ?_|refine aD hn ?_|refine Ua ?_|refine T9 ?_|refine Ad 4 [2,3] [] ?_|fail)<;>intros)
 all_goals refine Cn (λl own=>[(5,.slice 6 (l.map AB) own)]) (λ_ _=>[]) [2,3,4] [0,1,2] (λl own=>(own,l)::rows) (λl=>l.length) .full (Cx.push ‹_› _) ‹_› (by show 1+_<=_;omega) Yl ?_
 all_goals intro l s1 st1 own1 U h hl hm1
 all_goals simp only [sl,Rd.Ap,Rd.AF,Rd.wp_seq,Rd.wp_ret,Rd.Bu] at h
 all_goals (repeat' ((conv=>whnf);(first|exact C4|refine BM ?_|(refine C5 ?_ ?_ ?_;rotate_left)|refine Fq ?_ ?_|refine KT ?_ ?_|refine Lv ?_|refine KA ?_ ?_|exact EZ|refine Jn ?_|refine KE ?_|refine Aq ?_|refine Fm.go (by first|exact AY.q|exact (mM ha hD).a) ?_ ?_|fail)<;>intros))
theorem mh {atom ops exp full:Rd Nd} (hL:KS d L) (ha:AY enc 349 (λb=>[pv b d]) atom) (hD:Dv atom) (ho:AY enc 310 (λb=>[pv b d]) ops) (hE:Dv ops) (he:AY enc 353 (λb=>[pv b d]) exp)
 (hs:AY enc 388 (λb=>[pv b d]) stmt) (hf:AY enc 350 (λb=>[pv b d]) full):AY enc 272 (λb=>[pv b d]) (Sl L atom ops exp stmt full):=by
 refine ⟨λ{st0 b s st rows K} hc h=>?_⟩
 simp only [Sl,Rd.Ap,Rd.AF,Rd.wp_seq,Rd.wp_ret,Rd.DP] at h
 have U:=hc.mu
 refine pB Tryz.func272 ?_
 repeat' ((conv=>whnf);(first|exact C4|refine BM ?_|(refine C5 ?_ ?_ ?_;rotate_left)|refine Fq ?_ ?_|refine S4 ?_|refine KT ?_ ?_|exact EZ|refine Jn ?_|refine Aq ?_|refine TH ?_|refine Fm.go (by first|exact AY.q|exact cO.a|exact (sm (Dv.sz hE ‹_› U) ha hD hf).a|exact (jL hL he hs).a) ?_ ?_|refine tv ?_|refine Ua ?_|refine T9 ?_|refine Ad 6 [2,4,5] [1] ?_|fail)<;>intros)
end
end Go.Proofs.Z
namespace Go.Aw
theorem Qf {fs:List V} {k:List V->Prop} (h:k (fs++cs)):Fz (fs++([]++cs)) k:=A5.2 h
end Go.Aw
namespace Go.Proofs.Z
open Go Go.Aw
theorem Dv.pH (h:Dv A):Rd.A7 A:=λs n s' e=>by
 have U:=h.size e
 have h2:=size_pos n
 omega
def ON (starts:Tk->Bool) (item:List Nd->Rd Nd) (f:Bool) (l:List Nd):Rd (Sum (List Nd) (List Nd)):=.seq Rc λ_=>.look λs=>.seq (IF f (!starts (Ac s).1)) λe=>
 if e=true then .ret (.inr l) else .seq (item l) λn=>.look λs=>.seq (IF f (!KM (Ac s).1)) λe=>if e=true then .ret (.inr (l++[n])) else .ret (.inl (l++[n]))
def LI (starts:Tk->Bool) (item:List Nd->Rd Nd):Rd Nd:=.look λs=>if ((Ac s).1.kind==18)=true then .seq JM λ_=>.seq (.loop (ON starts item false) []) λl=>.ret (Fy false l)
 else .seq (BA 15 [123]) λ_=>.seq (.loop (ON starts item true) []) λl=>.ret (Fy true l)
theorem V3 {ih:(AD->Env->St->Prop)->Env->St->Prop} {Q0:AD->Env->St->Prop} {st:St} {b:Nat} {s:Al} {Q:β->Al->Prop} {E:Er->Al->Prop} {body:σ->Rd (Sum σ β)} {x0:σ} (base:σ->St)
 (f:σ->AA->List (Nat×V)) (g:σ->AA->List (Nat×List V)) (keep kb:List Nat) (rw:σ->AA->List (AA×List Nd)) (wt:σ->Nat) (U:AA) (hc:Cx (base x0) b s st (rw x0 U)) (h:Rd.wp (Rd.loop body x0) s Q E) (hl:wt x0+4*mu s<=500000000)
 (he:(env.KV (f x0 U) (g x0 U) keep kb).Ek env)
 (hb:∀x s1 st1 own1,Cx (base x) b s1 st1 (rw x own1)->Rd.wp (body x) s1 (Rd.again body s1 Q E) E->wt x+4*mu s1<=500000000->mu s1<=mu s->
   ih (BF (λenv' st'=>∃y:LS σ,(Cx (base y.x) b y.s y.m (rw y.x y.o)/\Rd.wp (Rd.loop body y.x) y.s Q E/\wt y.x+4*mu y.s<=500000000/\mu y.s<=mu s)/\mu y.s<mu s1/\(env.KV (f y.x y.o) (g y.x y.o) keep kb).Ek env'/\St.le y.m st') Q0)
    (env.KV (f x own1) (g x own1) keep kb) st1):
 ∃(α:Type) (E:α->Env) (S:α->St) (J:α->Prop) (μ:α->Nat) (x0:α),J x0/\(E x0).Ek env/\St.le (S x0) st/\
  ∀x,J x->ih (BF (λenv' st'=>∃y,J y/\μ y<μ x/\(E y).Ek env'/\St.le (S y) st') Q0) (E x) (S x):=
 ⟨LS σ,λy=>env.KV (f y.x y.o) (g y.x y.o) keep kb,λy=>y.m,
   λy=>Cx (base y.x) b y.s y.m (rw y.x y.o)/\Rd.wp (Rd.loop body y.x) y.s Q E/\wt y.x+4*mu y.s<=500000000/\mu y.s<=mu s,λy=>mu y.s,⟨x0,s,st,U⟩,⟨hc,h,hl,Nat.le_refl _⟩,he,St.le_refl _,
   λy ⟨j1,j2,j3,j4⟩=>hb y.x y.s y.m y.o j1 (by rw [<-Rd.wp_loop];exact j2) j3 j4⟩
section
variable {st0 st:St} {b d:Nat} {s:Al} {rows:List (AA×List Nd)} {K:At->St->Prop} {L:EN}
attribute [local irreducible] Go.Aw.Ag
theorem Z1 (hb:s.DS.length<=500000000) (h:K (.ret (.Bj [Dz (DJ s).1,.bool (DJ s).2])) st):PC 269 [Dz s] st K:=by
 refine pB Tryz.func269 ?_
 have h0:¬Jc s=0->s.DS≠[]:=λe e2=>e (by unfold Jc;rw [e2];rfl)
 unfold DJ at h
 by_cases U:T7 s=true
 .by_cases hw:s.wait=1
  .rw [if_neg AC] at h
   repeat' ((conv=>whnf);(first|refine BM ?_|refine Dh ?_ ?_|refine V6 ?_|refine Ox ?_)<;>intros)
   all_goals first|exact Bm rfl h|(rw [U] at *;simp at *)
  .by_cases ht:Jc s=0
   .rw [if_neg AC] at h
    repeat' ((conv=>whnf);(first|refine BM ?_|refine Dh ?_ ?_|refine V6 ?_|refine Ox ?_)<;>intros)
    all_goals first|exact Bm rfl h|(rw [U] at *;simp at *)
   .rw [if_pos ⟨U,hw,ht⟩] at h
    repeat' ((conv=>whnf);(first|refine BM ?_|refine Dh ?_ ?_|refine V6 ?_|refine Ox ?_|refine LQ (h0 ht) hb ?_)<;>intros)
    all_goals first|exact Bm rfl h|(rw [U] at *;simp at *)
 .rw [if_neg (by simp [U])] at h
  repeat' ((conv=>whnf);(first|refine BM ?_|refine Dh ?_ ?_|refine V6 ?_|refine Ox ?_)<;>intros)
  all_goals first|exact Bm rfl h|exact absurd ‹_› U
def bv (x:Bool):V:=.bool x
theorem gA {f m:Bool}:AY bv 223 (λb=>[.ptr b 0,.bool f,.bool m]) (IF f m):=by
 refine ⟨λ{st0 b s st rows K} U h=>?_⟩
 simp only [IF,Rd.Ap,Rd.AF,Rd.wp_seq,Rd.wp_ret] at h
 have hc1:=U.look
 refine pB Tryz.func223 ?_
 have hcl:Rd.wp M9 s (λ_ s'=>∀st',Cx st0 b s' st' rows->K (.ret (.bool true)) st') (λe s'=>∀st',Cy st0 b s' st' rows->K (.BK (fault e.1)) st')->if (DJ s).2=true then mu (DJ s).1<=mu s/\∀st',Cx st0 b (DJ s).1 st' rows->K (.ret (.bool true)) st'
  else Rd.wp (RR:Rd Unit) s (λ_ s'=>∀st',Cx st0 b s' st' rows->K (.ret (.bool true)) st') (λe s'=>∀st',Cy st0 b s' st' rows->K (.BK (fault e.1)) st'):=λh=>by
  unfold M9 Rd.wp at h
  dsimp only at h
  split
  .rename_i e;rw [if_pos e] at h;exact ⟨Na e,h⟩
  .rename_i e;rw [if_neg e] at h;exact h
 have hmu:=U.mu
 cases f
 .simp only [Bool.false_eq_true,if_false] at h
  cases m
  .simp only [Bool.false_eq_true,if_false] at h
   repeat' ((conv=>whnf);(first|refine BM ?_|refine Fq ?_ ?_|refine Dh ?_ ?_|refine Gj U.has U.hb ?_|refine Kt hc1 ‹_› AC ?_|exact CL hc1 ‹_› rfl|exact EZ|fail)<;>intros)
  .simp only [if_true] at h
   repeat' ((conv=>whnf);first|refine Va (hcl h) (λe h=>?_) (λe h=>?_)|(refine BM ?_;intros)|(refine Fq ?_ ?_<;>intro e h)|(refine Dh ?_ ?_<;>intro _)|refine Gj U.has U.hb ?_|refine Kt hc1 h AC (λs1 st1 hz hm U h=>?_)|refine Ah (St.Ai ..) ?_|refine Z1 U.hb ?_|refine ti hc1 AC (λst1 U=>?_)|exact CL U h.2 rfl|refine Sb hc1 h (λe s1 st1 U h=>?_)|exact EZ|fail)
 .simp only [if_true] at h
  by_cases hi:Bp s 15 [125]=true
  .rw [if_pos hi] at h
   obtain ⟨h1,h2⟩:(Ac s).1.kind=15/\(Ac s).1.text=[125]:=by
    unfold Bp at hi
    simp only [Bool.and_eq_true,beq_iff_eq] at hi
    exact hi
   repeat' ((conv=>whnf);(first|refine BM ?_|refine Fq ?_ ?_|refine Dh ?_ ?_|refine Gj U.has U.hb ?_|refine Kt hc1 ‹_› AC ?_|exact EZ|fail)<;>intros)
  .rw [if_neg hi] at h
   have hx:(Ac s).1.kind=15->¬(Ac s).1.text=[125]:=λh1 h2=>hi (by unfold Bp;rw [h1,h2];rfl)
   cases m
   .simp only [Bool.false_eq_true,if_false] at h
    repeat' ((conv=>whnf);(first|refine ft (beq_eq_false_iff_ne.2 (hx ‹_›)) ?_|refine BM ?_|refine Fq ?_ ?_|refine Dh ?_ ?_|refine Gj U.has U.hb ?_|exact CL hc1 ‹_› rfl|exact EZ|fail)<;>intros)
   .simp only [if_true] at h
    repeat' ((conv=>whnf);(first|refine ft (beq_eq_false_iff_ne.2 (hx ‹_›)) ?_|refine BM ?_|refine Fq ?_ ?_|refine Dh ?_ ?_|refine Gj U.has U.hb ?_|refine Ah (St.Ai ..) ?_|refine Z1 U.hb ?_|refine Sb hc1 ‹_› ?_|exact EZ|fail)<;>intros)
theorem OT {f m U:Bool} (e:U=m):AY bv 223 (λb=>[.ptr b 0,.bool f,.bool m]) (IF f U):=by rw [e];exact gA
theorem pS {b:Bool} (h:b=true):(!b)=false:=by rw [h];rfl
theorem pR {b:Bool} (h:b=false):(!b)=true:=by rw [h];rfl
theorem P9 {own:AA}:At.ret (enc (Fy false l))=(At.ret (.agg [.int .i64 2,.int .i64 0,.str [],.int .i64 0,.int .i64 0,.slice 6 (l.map AB) own])).wk:=by unfold Fy;rw [gx];rfl
theorem Qa {own:AA}:At.ret (enc (Fy true l))=(At.ret (.agg [.int .i64 2,.int .i64 1,.str [],.int .i64 0,.int .i64 0,.slice 6 (l.map AB) own])).wk:=by unfold Fy;rw [gx];rfl
def sK (base:List Nd->St) (st0:St) (b:Nat) (i:FuncId) (cs:List V) (item:List Nd->Rd Nd):Prop:=∀(l:List Nd) (s:Al) (st:St) (rows:List (AA×List Nd)) (K:At->St->Prop) (Q:Nd->Al->Prop) (E:Er->Al->Prop),Cx (base l) b s st rows->Rd.wp (item l) s Q E->
 (∀n s1 U,mu s1<mu s->Cx (base (l++[n])) b s1 U rows->Q n s1->K (.ret (enc n)) U)->(∀e s1 U,Cy st0 b s1 U rows->E e s1->K (.BK (fault e.1)) U)->PC i cs st K
theorem Se {i:FuncId} {fs:List V} {starts:Tk->Bool} {base:List Nd->St} {item:List Nd->Rd Nd} (hg:∀{t:Tk} {st:St} {K:At->St->Prop},K (.ret (.bool (starts t))) st->PC g [E7 t] st K)
 (hi:sK base st0 b i (fs++cs) item) (hx:∀{l s st rows},Cy (base l) b s st rows->Cy st0 b s st rows) (hc:Cx (base []) b s st rows)
 (h:Rd.wp (LI starts item) s (λn s'=>∀l st',Cx (base l) b s' st' rows->K (.ret (enc n)) st') (λe s'=>∀st',Cy st0 b s' st' rows->K (.BK (fault e.1)) st')):
 PC 189 [.ptr b 0,.func g [] [],.func i fs cs] st K:=by
 simp only [LI,Rd.Ap,Rd.AF,Rd.wp_seq,Rd.wp_ret] at h
 have hmu:=hc.mu
 refine pB Tryz.func189 ?_
 repeat' ((conv=>whnf);first|exact C4|(refine BM ?_;intros)|(refine C5 ?_ ?_ ?_;rotate_left)|(refine Fq ?_ ?_<;>intro e h)|(refine Dh ?_ ?_<;>intro _)|(refine S4 ?_;intro U hc)|(refine KA ?_ ?_<;>(first|intro n s1 U hr hm hc h|intro e s1 U hc h))|exact EZ|(refine KE ?_;intro own1 U hc)|refine Aq (λe1=>?_)|refine Kt hc h AC (λs1 U hz hm hc h=>?_)|exact BO (hx hc) h|refine Ad 10 [6,7,9] [] ?_|refine Ad 8 [3,5,7] [1] ?_|refine Ad 9 [5,6,8] [] ?_|fail)
 .refine V3 base (λl own=>[]) (λl own=>[(1,[.int .i64 2,.int .i64 0,.str [],.int .i64 0,.int .i64 0,.slice 6 (l.map AB) own])]) [0,1,2,6,7] [0] (λl own=>(own,l)::rows) (λl=>l.length) .full (hc.push []) h i7 Yl ?_
  intro l s1 U own1 hc h hl hm1
  simp only [ON,Rd.Ap,Rd.AF,Rd.wp_seq,Rd.wp_ret,Rd.Bu] at h
  repeat' ((conv=>whnf);(first|exact C4|refine BM ?_|(refine C5 ?_ ?_ ?_;rotate_left)|refine Fq ?_ ?_|refine Dh ?_ ?_|fail)<;>intros)
  unfold Rc at h
  refine Cn (λ_ _=>[]) (λ_ _=>[]) [0,1,2,6,7] [0,1] (λ_ _=>(own1,l)::rows) (λ_=>l.length) .full ‹_› ‹_› hl Yl ?_
  intro u s2 st2 own2 hc h hl hm2
  simp only [Uy,Rd.Ap,Rd.AF,Rd.wp_seq,Rd.wp_ret,Rd.Bu] at h
  repeat' ((conv=>whnf);first|exact C4|(refine BM ?_;intros)|(refine C5 ?_ ?_ ?_;rotate_left)|(refine Fq ?_ ?_<;>intro e h)|(refine Dh ?_ ?_<;>intro _)|(refine S4 ?_;intro U hc)|(refine KA ?_ ?_<;>(first|intro n s1 U hr hm hc h|intro e s1 U hc h))|exact EZ|(refine KE ?_;intro own1 U hc)|refine Aq (λe1=>?_)|refine Ux ?_|refine hg ?_|refine Kt hc h (O5 ‹_›) (λs1 U hz hm hc h=>?_)|refine AY.go (OT (pS ‹_›)) hc h (λv s1 U hr hm hc h=>?_) (λe s1 U hc h=>?_)|refine AY.go (OT (pR ‹_›)) hc h (λv s1 U hr hm hc h=>?_) (λe s1 U hc h=>?_)|refine Qf ?_|refine hi _ _ _ _ _ _ _ hc h (λn s1 U hm hc h=>?_) (λe s1 U hc h=>?_)|exact BO (hx hc).drop h|exact BO (Cy.drop hc) h|exact CL hc.drop (h l) P9|exact CL hc.drop (h (l++[_])) P9|refine Ad 10 [6,7,9] [] ?_|refine Ad 8 [3,5,7] [1] ?_|refine Ad 9 [5,6,8] [] ?_|fail)
  all_goals conv=>whnf
  all_goals exact ⟨⟨(),_,_,.full⟩,⟨hc,Rd.En h AC,So,So⟩,So,Yl,St.le_refl _⟩
 .refine V3 base (λl own=>[]) (λl own=>[(1,[.int .i64 2,.int .i64 1,.str [],.int .i64 0,.int .i64 0,.slice 6 (l.map AB) own])]) [0,1,2,6,7] [0] (λl own=>(own,l)::rows) (λl=>l.length) .full (hc.push []) h i7 Yl ?_
  intro l s1 U own1 hc h hl hm1
  simp only [ON,Rd.Ap,Rd.AF,Rd.wp_seq,Rd.wp_ret,Rd.Bu] at h
  repeat' ((conv=>whnf);(first|exact C4|refine BM ?_|(refine C5 ?_ ?_ ?_;rotate_left)|refine Fq ?_ ?_|refine Dh ?_ ?_|fail)<;>intros)
  unfold Rc at h
  refine Cn (λ_ _=>[]) (λ_ _=>[]) [0,1,2,6,7] [0,1] (λ_ _=>(own1,l)::rows) (λ_=>l.length) .full ‹_› ‹_› hl Yl ?_
  intro u s2 st2 own2 hc h hl hm2
  simp only [Uy,Rd.Ap,Rd.AF,Rd.wp_seq,Rd.wp_ret,Rd.Bu] at h
  repeat' ((conv=>whnf);first|exact C4|(refine BM ?_;intros)|(refine C5 ?_ ?_ ?_;rotate_left)|(refine Fq ?_ ?_<;>intro e h)|(refine Dh ?_ ?_<;>intro _)|(refine S4 ?_;intro U hc)|(refine KA ?_ ?_<;>(first|intro n s1 U hr hm hc h|intro e s1 U hc h))|exact EZ|(refine KE ?_;intro own1 U hc)|refine Aq (λe1=>?_)|refine Ux ?_|refine hg ?_|refine Kt hc h (O5 ‹_›) (λs1 U hz hm hc h=>?_)|refine AY.go (OT (pS ‹_›)) hc h (λv s1 U hr hm hc h=>?_) (λe s1 U hc h=>?_)|refine AY.go (OT (pR ‹_›)) hc h (λv s1 U hr hm hc h=>?_) (λe s1 U hc h=>?_)|refine Qf ?_|refine hi _ _ _ _ _ _ _ hc h (λn s1 U hm hc h=>?_) (λe s1 U hc h=>?_)|exact BO (hx hc).drop h|exact BO (Cy.drop hc) h|exact CL hc.drop (h l) Qa|exact CL hc.drop (h (l++[_])) Qa|refine Ad 10 [6,7,9] [] ?_|refine Ad 8 [3,5,7] [1] ?_|refine Ad 9 [5,6,8] [] ?_|fail)
  all_goals conv=>whnf
  all_goals exact ⟨⟨(),_,_,.full⟩,⟨hc,Rd.En h AC,So,So⟩,So,Yl,St.le_refl _⟩
theorem Pu {i:FuncId} {starts:Tk->Bool} {item:Rd Nd} (hg:∀{t:Tk} {st:St} {K:At->St->Prop},K (.ret (.bool (starts t))) st->PC g [E7 t] st K) (hi:AY enc i (λb=>[pv b d]) item) (hF:Dv item):
 AY enc 189 (λb=>[.ptr b 0,.func g [] [],.func i [pv b d] []]) (E4 starts item):=
 ⟨λ{st0 b s st rows K} U h=>Se (fs:=[pv b d]) (cs:=[]) (base:=λ_=>st0) (item:=λ_=>item) hg (λl s st rows K Q E U h k kb=>hi.pK hF.pH U h (λn s1 st1 _ hm U q=>k n s1 st1 hm U q) kb) (λh=>h) U
   (Rd.wp_mono (show Rd.wp (LI starts λ_=>item) s _ _ from h) (λ_ _ _ h _=>h) (λ_ _ _ h=>h))⟩
end
section
variable {st:St} {R:At->St->Prop}
attribute [local irreducible] Go.Aw.Ag
theorem ZY {c:Nat} {s:Al} {q:Rs} (hq:¬deep<1->∀(b:Nat) (st5:St) (R:At->St->Prop),st.le st5->Has st5 b s->Em st5 b R q->PC f [.ptr b 0,.int .i64 (if 100<deep then 100 else deep),.ptr c 0] st5 R) (h:R (.ret (Jh (Ce s deep q))) st):PC 64 [Dz s,.int .i64 deep,.func f [] [.ptr c 0]] st R:=by
 refine A0.ends (IV Ab [6,7,8,9,12] Tryz.func64 rfl Do rfl rfl rfl rfl rfl rfl ⟨_,Tryz.func107,rfl,Do⟩ rfl ?_)
 repeat' ((conv=>whnf);first|  (refine Dh ?_ ?_<;>intro _)|refine IL (λb5 f5=>?_)|refine Ah (St.Ai ..) ?_|fail)
 rename_i b1 f1 b2 f2 b3 f3 b4 f4
 obtain ⟨n12,f2a⟩:=A6 f2
 obtain ⟨n23,f3a⟩:=A6 f3
 obtain ⟨n13,f3b⟩:=A6 f3a
 obtain ⟨n34,f4a⟩:=A6 f4
 obtain ⟨n24,f4b⟩:=A6 f4a
 obtain ⟨n14,f4c⟩:=A6 f4b
 obtain ⟨n45,f5a⟩:=A6 f5
 obtain ⟨n35,f5b⟩:=A6 f5a
 obtain ⟨n25,f5c⟩:=A6 f5b
 obtain ⟨n15,f5d⟩:=A6 f5c
 conv=>whnf
 refine ⟨rfl,AL rfl ?_⟩
 generalize hst5:St.Aa _ b5 [V.ptr b4 0]=st5
 have k1:st5.box b1=some Cz:=by subst hst5;rw [St.Ak n15.symm,St.Ak n15.symm,St.Ak n14.symm,St.Ak n13.symm,St.Ak n12.symm,St.Ai];rfl
 have k2:st5.box b2=some [.slice 4 (A4 Ex.AV) .full,.int .i64 Ex.pos,.slice 1 (ints Ex.DS) .full,.int .i64 Ex.wait]:=by subst hst5;rw [St.Ak n25.symm,St.Ak n25.symm,St.Ak n24.symm,St.Ak n23.symm,St.Ai];rfl
 have k3:st5.box b3=some [.int .i64 0]:=by subst hst5;rw [St.Ak n35.symm,St.Ak n35.symm,St.Ak n34.symm,St.Ai]
 have k4:Has st5 b4 s:=by subst hst5;refine .inr ⟨kT,Ex,.full,.full,0,?_⟩;rw [St.Ak n45.symm,St.Ak n45.symm,St.Ai];rfl
 have k5:st5.box b5=some [.ptr b4 0]:=by subst hst5;rw [St.Ai]
 have kle:st.le st5:=by
  subst hst5
  exact St.Aj (St.Aj (St.Aj (St.Aj (St.Aj (St.Aj (St.le_refl _) f1.1 _) f2a.1 _) f3b.1 _) f4c.1 _) f5d.1 _) f5d.1 _
 have kpan:∀(U:St) (e:Int) (s':Al),Hf st5 U b4 s'->U.box b5=some [.ptr b4 0]/\U.box b1=some Cz/\U.box b2=some [.slice 4 (A4 Ex.AV) .full,.int .i64 Ex.pos,.slice 1 (ints Ex.DS) .full,.int .i64 Ex.wait]/\U.box b3=some [.int .i64 0]/\st.le U:=by
  rintro U e s' ⟨_,cs,rfl⟩
  exact ⟨by rw [St.Ak n45];exact k5,by rw [St.Ak n14.symm];exact k1,by rw [St.Ak n24.symm];exact k2,by rw [St.Ak n34.symm];exact k3,St.Aj kle f4c.1 _⟩
 clear hst5 f2 f3 f4 f5 f3a f4a f4b f5a f5b f5c
 refine Af (Ae Ab ?_)
 repeat' ((conv=>whnf);(first|  refine Dh ?_ ?_|refine Ah k5 ?_|refine Cf ?_|fail)<;>intros)
 .refine Iz (n0:=Kj) (s0:=Ex) k5 k4 k1 k2 k3 n15 n14 n12 n13 n25 n24 n23 ?_
  have g1:(((st5.Aa b1 Cz).Aa b2 s.cells).Aa b3 [.int .i64 2]).box b1=some Cz:=by rw [St.Ak n13.symm,St.Ak n12.symm,St.Ai]
  have g2:(((st5.Aa b1 Cz).Aa b2 s.cells).Aa b3 [.int .i64 2]).box b2=some s.cells:=by rw [St.Ak n23.symm,St.Ai]
  have gl:st.le (((st5.Aa b1 Cz).Aa b2 s.cells).Aa b3 [.int .i64 2]):=St.Aj (St.Aj (St.Aj kle f1.1 _) f2a.1 _) f3b.1 _
  unfold Ce at h
  rw [if_pos ‹_›] at h
  repeat' ((conv=>whnf);(first|  refine Dh ?_ ?_|refine Ah g1 ?_|refine Ah g2 ?_|refine Ah (St.Ai ..) ?_|fail)<;>intros)
  all_goals exact DK gl rfl h
 .rename_i hd
  unfold Ce at h
  rw [if_neg hd] at h
  have hq:=λst5 R h=>hq hd b4 st5 R h
  refine Af (Ae Ab ?_)
  cases q with
  |inl q=>
   obtain ⟨e,s'⟩:=q
   repeat' ((conv=>whnf);first|  (refine Dh ?_ ?_<;>intro _)|refine Ah k5 ?_|refine ⟨_,rfl,?_⟩|refine hq _ _ kle k4 (λU hu=>?_)|fail)
   obtain ⟨j5,j1,j2,j3,jle⟩:=kpan U e s' hu
   refine Iz (n0:=Kj) (s0:=Ex) j5 hu.1 j1 j2 j3 n15 n14 n12 n13 n25 n24 n23 ?_
   have g1:(((U.Aa b1 Cz).Aa b2 s'.cells).Aa b3 [.int .i64 e]).box b1=some Cz:=by rw [St.Ak n13.symm,St.Ak n12.symm,St.Ai]
   have g2:(((U.Aa b1 Cz).Aa b2 s'.cells).Aa b3 [.int .i64 e]).box b2=some s'.cells:=by rw [St.Ak n23.symm,St.Ai]
   have gl:st.le (((U.Aa b1 Cz).Aa b2 s'.cells).Aa b3 [.int .i64 e]):=St.Aj (St.Aj (St.Aj jle f1.1 _) f2a.1 _) f3b.1 _
   repeat' ((conv=>whnf);(first|  refine Dh ?_ ?_|refine Ah g1 ?_|refine Ah g2 ?_|refine Ah (St.Ai ..) ?_|fail)<;>intros)
   all_goals exact DK gl rfl h
  |inr q=>
   obtain ⟨n,s'⟩:=q
   have kret:=λU hu=>kpan U 0 s' hu
   repeat' ((conv=>whnf);first|  (refine Dh ?_ ?_<;>intro _)|refine Ah k5 ?_|refine ⟨_,rfl,?_⟩|refine hq _ _ kle k4 (λU hu=>?_)|refine Ah (kret U hu).2.1 ?_|fail)
   obtain ⟨j5,j1,j2,j3,jle⟩:=kret U hu
   generalize hst7:U.Aa b1 (AB n)=st7
   have i1:st7.box b1=some (AB n):=by subst hst7;rw [St.Ai]
   have i5:st7.box b5=some [.ptr b4 0]:=by subst hst7;rw [St.Ak n15];exact j5
   have i2:st7.box b2=some [.slice 4 (A4 Ex.AV) .full,.int .i64 Ex.pos,.slice 1 (ints Ex.DS) .full,.int .i64 Ex.wait]:=by subst hst7;rw [St.Ak n12];exact j2
   have i3:(st7.Aa b2 s'.cells).box b3=some [.int .i64 0]:=by subst hst7;rw [St.Ak n23,St.Ak n13];exact j3
   have i4:Has st7 b4 s':=by
    subst hst7
    rcases hu.1 with e|⟨t,u,o1,o2,e',e⟩
    .exact .inl (by rw [St.Ak n14];exact e)
    .exact .inr ⟨t,u,o1,o2,e',by rw [St.Ak n14];exact e⟩
   have ile:st.le st7:=by subst hst7;exact St.Aj jle f1.1 _
   refine Af (KW Ab (A2 _) (λbs=>fF bs b1 b2 b3 b4 b5 (AB n) s'.cells) (fH st7 b2 b3 s'.cells) OP GE Yl (by rw [<-hst7];exact St.le_refl _) ?_ ?_)
   .skip
    unfold OP
    rcases i4 with i4|⟨t,u,q1,q2,q3,i4⟩
    all_goals repeat' (first|refine List.forall_mem_cons.2 ⟨?_,?_⟩|exact λ_ h=>nomatch h)
    repeat' ((conv=>whnf);(first|  refine Dh ?_ ?_|refine Ah i5 ?_|refine Ah i1 ?_|refine Ah i4 ?_|refine Ah i2 ?_|refine Ah i3 ?_|fail)<;>intros)
    all_goals conv=>whnf
    all_goals (refine ⟨Yl,?_⟩)
    all_goals first|exact St.le_refl _|exact D7 i1
   .refine Ae Ab (PD (bp:=b5) ?_)
    have g1:((st7.Aa b2 s'.cells).Aa b3 [.int .i64 0]).box b1=some (AB n):=by rw [St.Ak n13.symm,St.Ak n12.symm];exact i1
    have g2:((st7.Aa b2 s'.cells).Aa b3 [.int .i64 0]).box b2=some s'.cells:=by rw [St.Ak n23.symm,St.Ai]
    have gl:st.le ((st7.Aa b2 s'.cells).Aa b3 [.int .i64 0]):=St.Aj (St.Aj ile f2a.1 _) f3b.1 _
    repeat' ((conv=>whnf);(first|  refine Dh ?_ ?_|refine Ah g1 ?_|refine Ah g2 ?_|refine Ah (St.Ai ..) ?_|fail)<;>intros)
    all_goals exact DK gl rfl h
end
def CT (A:Rd Nd) (s:Al):Rs:=match A.run s with
 | .inl p=>.inl (p.1.1,p.2)
 | .inr p=>.inr p
section
variable {st0 st:St} {b c d:Nat} {s:Al} {K R:At->St->Prop}
theorem Cx.tN {s':Al} (h:Has st' b s') (hr:∃cs,Rx (st.Aa b cs) st' []):∃U,Hf st U b s'/\St.le U st':=by
 obtain ⟨cs,hr⟩:=hr
 have hb:=hr.le.1 b cs (St.Ai ..)
 refine ⟨st.Aa b cs,⟨?_,cs,rfl⟩,hr.le⟩
 rcases h with e|⟨t,u,o1,o2,e0,e⟩
 .rw [hb] at e;injection e with e;subst e;exact .inl (St.Ai ..)
 .rw [hb] at e;injection e with e;subst e;exact .inr ⟨t,u,o1,o2,e0,St.Ai ..⟩
theorem Ru {mk:Nat->List V} (hf:AY enc f mk A) (hs:Has st b s) (hm:mu s<=100000000) (ht:Em st b K (CT A s)):PC f (mk b) st K:=by
 refine A0.ends (hf.ap (Cx.start hs hm) (Rd.XV (λv s' e st' hc=>?_) (λe s' he st' hc=>?_)))
 .unfold CT at ht
  rw [e] at ht
  obtain ⟨U,hu,hl⟩:=Cx.tN hc.has hc.rx
  exact ⟨_,U,.inl rfl,hl,ht U hu⟩
 .unfold CT at ht
  rw [he] at ht
  obtain ⟨U,hu,hl⟩:=Cx.tN hc.has hc.rx
  exact ⟨_,U,.inl rfl,hl,ht U hu⟩
theorem sg (hA:AY enc g (λb=>[pv b d]) A) (hx:st.box c=some [.func g [] []]) (hs:Has st b s) (hm:mu s<=100000000) (ht:Em st b K (CT A s)):PC 308 [.ptr b 0,.int .i64 (d:Int),.ptr c 0] st K:=by
 have U:∀{K:At->St->Prop},Em st b K (CT A s)->PC g [pv b d] st K:=λh=>Ru hA hs hm h
 refine pB Tryz.func308 ?_
 unfold CT at *
 cases hr:A.run s with
 |inl p=>
  rw [hr] at ht U
  repeat' ((conv=>whnf);first|  refine Ah hx ?_|refine U (λst1 hu=>?_))
  all_goals exact ⟨_,_,.inl rfl,St.le_refl _,ht _ hu⟩
 |inr p=>
  rw [hr] at ht U
  repeat' ((conv=>whnf);first|  refine Ah hx ?_|refine U (λst1 hu=>?_))
  all_goals exact Bm rfl (ht _ hu)
theorem gC {A:Nat->Rd Nd} (hA:∀d:Nat,1<=d->d<=100->AY enc g (λb=>[pv b d]) (A d)) (hm:mu s<=100000000) (h:K (.ret (Jh (Ce s deep (CT (A (Dp deep)) s)))) st):
 PC 271 [Dz s,.int .i64 deep,.func g [] []] st K:=by
 refine AP Ab [] Tryz.func271 rfl Do rfl ?_
 refine Af (Ae Ab ?_)
 repeat' ((conv=>whnf);(first|  fail)<;>intros)
 refine KR 5 1 rfl rfl rfl (λc fc=>?_)
 refine Ae Ab ?_
 have hq:¬deep<1->∀(b:Nat) (U:St) (R:At->St->Prop),(st.Aa c [.func g [] []]).le U->Has U b s->Em U b R (CT (A (Dp deep)) s)->PC 308 [.ptr b 0,.int .i64 (if 100<deep then 100 else deep),.ptr c 0] U R:=λhd b U R hle hs ht=>by
  have e:(if 100<deep then 100 else deep)=((Dp deep:Nat):Int):=by unfold Dp;split<;>omega
  rw [e]
  exact sg (hA _ (by unfold Dp;split<;>omega) (by unfold Dp;split<;>omega)) (hle.1 _ _ (St.Ai ..)) hs hm ht
 obtain ⟨n,s',e,hq3⟩:∃n s' e,Ce s deep (CT (A (Dp deep)) s)=(n,s',e):=⟨_,_,_,rfl⟩
 rw [hq3] at h
 have hcat:∀{K:At->St->Prop},K (.ret (PR n s' e)) (st.Aa c [.func g [] []])->PC 64 [Dz s,.int .i64 deep,.func 308 [] [.ptr c 0]] (st.Aa c [.func g [] []]) K:=λk=>ZY (s:=s) (q:=CT (A (Dp deep)) s) hq (by rw [hq3];exact k)
 repeat' ((conv=>whnf);(first|  refine hcat ?_)<;>intros)
 all_goals exact DK (St.Aj (St.le_refl _) fc.1 _) rfl h
end
section
variable {d:Nat}
theorem fX {t:Tk} {st:St} {K:At->St->Prop} (h:K (.ret (.bool (Nc t))) st):PC 389 [E7 t] st K:=by
 refine pB Tryz.func389 ?_
 repeat' ((conv=>whnf);(first|  refine Dh ?_ ?_|refine LD ?_|refine TH ?_)<;>intros)
 all_goals conv=>whnf
 all_goals (refine Au h ?_;clear h;simp_all [Nc])
theorem cf {item:Rd Nd} (hi:AY enc 272 (λb=>[pv b d]) item) (U:Dv item):AY enc 356 (λb=>[pv b d]) (E4 Nc item):=by
 refine ⟨λ{st0 b s st rows K} hc h=>?_⟩
 refine pB Tryz.func356 ?_
 repeat' ((conv=>whnf);(first|  exact EZ|refine Fm.go (by first|  exact (Pu (λh=>fX ‹_›) hi U).a) ?_ ?_)<;>intros)
theorem cg {item:Rd Nd} (hi:AY enc 388 (λb=>[pv b d]) item) (U:Dv item):AY enc 415 (λb=>[pv b d]) (E4 FP item):=by
 refine ⟨λ{st0 b s st rows K} hc h=>?_⟩
 refine pB Tryz.func415 ?_
 repeat' ((conv=>whnf);(first|  exact EZ|refine Fm.go (by first|  exact (Pu (λh=>LD ‹_›) hi U).a) ?_ ?_)<;>intros)
theorem fA {item:Rd Nd} (hi:AY enc 414 (λb=>[pv b d]) item) (U:Dv item):AY enc 397 (λb=>[pv b d]) (E4 FP item):=by
 refine ⟨λ{st0 b s st rows K} hc h=>?_⟩
 refine pB Tryz.func397 ?_
 repeat' ((conv=>whnf);(first|  exact EZ|refine Fm.go (by first|  exact (Pu (λh=>LD ‹_›) hi U).a) ?_ ?_)<;>intros)
structure uq (D:Nat) (full:Rd Nd) (L:EN):Prop where
 atom:AY enc 349 (λb=>[pv b D]) (pw L)
 exp:AY enc 353 (λb=>[pv b D]) (PX full L)
 ops:AY enc 310 (λb=>[pv b D]) (opsL L)
 stmt:AY enc 388 (λb=>[pv b D]) (MQ full L)
 alt:AY enc 414 (λb=>[pv b D]) (lN full L)
 decl:AY enc 272 (λb=>[pv b D]) (Sk full L)
 decls:AY enc 356 (λb=>[pv b D]) (E4 Nc (Sk full L))
 stmts:AY enc 415 (λb=>[pv b D]) (E4 FP (MQ full L))
 alts:AY enc 397 (λb=>[pv b D]) (E4 FP (lN full L))
 GP:∀o,AY enc 418 (λb=>[pv b D,enc o]) (EH (jq L) full (PX full L) o)
 list:∀o,AY enc 420 (λb=>[pv b D,enc o]) (Qz (PX full L) (MQ full L) o)
theorem uw {full:Rd Nd} {L:EN} (hL:KS d L) (hD:Lq L) (hf:AY enc 350 (λb=>[pv b d]) full) (hF:Dv full):uq d full L:=by
 have atom:=lU hL
 have dat:=LZ hD
 have U:=Y9 hL atom VC
 have ops:=js U
 have exp:=qL U hf
 have stmt:=oJ hL exp
 have alt:=qn hL ops exp stmt
 have decl:=mh hL atom dat ops (PO (Ng hD)) exp stmt hf
 exact ⟨atom,exp,ops,stmt,alt,decl,cf decl (PK hF hD),cg stmt (Jx hF hD),fA alt (Z7 hF hD),λo=>Th U hf exp,λo=>nE exp stmt⟩
theorem tw:∀d,d<=100->KS (d+1) (dm d)
 |0,_=>⟨DA AC (λ_=>rfl) (λh=>absurd rfl h),DA AC (λ_=>rfl) (λh=>absurd rfl h),DA AC (λ_=>rfl) (λh=>absurd rfl h),DA AC (λ_=>rfl) (λh=>absurd rfl h),
   DA AC (λ_=>rfl) (λh=>absurd rfl h),DA AC (λ_=>rfl) (λh=>absurd rfl h),λhx U h=>OV AC (λ_=>rfl) U h (λh=>absurd rfl h),λhx U h=>OV AC (λ_=>rfl) U h (λh=>absurd rfl h)⟩
 |d+1,h=>by
  have l:=uw (tw d AC) (Tw d) (ar (d:=d) AC) (L0 _)
  have no:∀{p:Prop},d+1=0->p:=λe=>by cases e
  exact ⟨DA AC no λ_=>l.atom,DA AC no λ_=>l.exp,DA AC no λ_=>l.ops,DA AC no λ_=>l.decls,DA AC no λ_=>l.stmts,DA AC no λ_=>l.alts,
   λhx U h=>OV AC no U h λ_ K h=>jO (l.GP _) hx U h,λhx U h=>OV AC no U h λ_ K h=>dY (l.list _) hx U h⟩
theorem tr (U:1<=d) (h:d<=100):uq d (JC d) (dm (d - 1)):=by
 obtain ⟨d,rfl⟩:∃e,d=e+1:=⟨d - 1,AC⟩
 exact uw (tw d AC) (Tw d) (ar (d:=d) AC) (L0 _)
def Sj (d:Nat):Rd Nd:=Sk (JC d) (dm (d - 1))
def Yj (d:Nat):Rd Nd:=E4 Nc (Sj d)
end
section
variable {st:St} {K:At->St->Prop} {s:Al} {deep:Int}
theorem pg (hm:mu s<=100000000) (h:K (.ret (Jh (Ce s deep (CT (Sj (Dp deep)) s)))) st):PC 226 [Dz s,.int .i64 deep] st K:=by
 refine pB Tryz.func226 ?_
 repeat' ((conv=>whnf);(first|  refine gC (s:=s) (A:=Sj) (λd U h1=>(tr U h1).decl) hm ?_)<;>intros)
 all_goals exact Bm rfl h
theorem lz (hm:mu s<=100000000) (h:K (.ret (Jh (Ce s deep (CT (Yj (Dp deep)) s)))) st):PC 326 [Dz s,.int .i64 deep] st K:=by
 refine pB Tryz.func326 ?_
 repeat' ((conv=>whnf);(first|  refine gC (s:=s) (A:=Yj) (λd U h1=>(tr U h1).decls) hm ?_)<;>intros)
 all_goals exact Bm rfl h
end
end Go.Proofs.Z
