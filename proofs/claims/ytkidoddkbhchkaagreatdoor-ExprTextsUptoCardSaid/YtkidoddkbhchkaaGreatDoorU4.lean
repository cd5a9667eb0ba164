/-
  Parts of a proof: lemmas that the last text uses.
-/
import Derived.Test.YtkidoddkbhchkaaGreatDoorU3
set_option linter.unusedVariables false
set_option linter.unusedSimpArgs false
set_option maxHeartbeats 16000000
variable {i v D d kd h:Int} {env env':Go.Aw.Env} {cs:List Go.Aw.V} {P:Prop} {Q:Go.Aw.Nd->Go.Proofs.Z.Af->Prop} {st' st0:Go.Aw.St} {o n:Go.Aw.Nd} {E:Go.Proofs.Z.Er->Go.Proofs.Z.Af->Prop} {L:Go.Proofs.Z.C8} {s x m w:List UInt8} {s':Go.Proofs.Z.Af} {stmt opd A:Go.Proofs.Z.Rd Go.Aw.Nd} {l:List Go.Aw.Nd} {U:Bool} {K:List (List Go.Aw.V)->Prop} {p:List Go.Aw.Nd×Bool} {b cap pos:Nat} {σ β α:Type} {f:Go.FuncId} {ih:(Go.Aw.AM->Go.Aw.Env->Go.Aw.St->Prop)->Go.Aw.Env->Go.Aw.St->Prop} {Q0:Go.Aw.AM->Go.Aw.Env->Go.Aw.St->Prop} {rows:List (Go.Aw.AF×List Go.Aw.Nd)} {keep:List Nat}
namespace Go.Aw
open Go
def V.jc (id:Nat):V->V
 | .Cu i o=>bif Nat.beq i id then .Cj else .Cu i o
 |v=>v
noncomputable def Lb (id:Nat) (l:List (Nat×V)):List (Nat×V):=List.rec (motive:=λ_=>List (Nat×V)) [] (λp _ U=>(p.1,p.2.jc id)::U) l
noncomputable def JG (id:Nat) (l:List (Nat×List V)):List (Nat×List V):=List.rec (motive:=λ_=>List (Nat×List V)) [] (λp _ U=>bif Nat.beq p.1 id then U else p::U) l
theorem Tz (id:Nat) (p:Nat×V) (r:List (Nat×V)):Lb id (p::r)=(p.1,p.2.jc id)::Lb id r:=rfl
theorem Tx (id:Nat) (p:Nat×List V) (r:List (Nat×List V)):JG id (p::r)=bif Nat.beq p.1 id then JG id r else p::JG id r:=rfl
theorem LL {id t:Nat}:∀{l:List (Nat×V)} {v:V},assoc (Lb id l) t=some v->∃u,assoc l t=some u/\v=u.jc id
 |[],v,h=>by cases h
 |p::r,v,h=>by
  rw [Tz,BC] at h
  rw [BC]
  cases hb:Nat.beq p.1 t with
  |true=>rw [hb] at h;simp only [cond_true,Option.some.injEq] at h |-;exact ⟨_,rfl,h.symm⟩
  |false=>rw [hb] at h;simp only [cond_false] at h |-;exact LL h
theorem Iv {id i:Nat}:∀{l:List (Nat×List V)} {cs:List V},assoc (JG id l) i=some cs->i≠id/\assoc l i=some cs
 |[],cs,h=>by cases h
 |p::r,cs,h=>by
  rw [Tx] at h
  cases hb:Nat.beq p.1 id with
  |true=>
   rw [hb] at h
   simp only [cond_true] at h
   have hp:=Nat.eq_of_beq_eq_true hb
   obtain ⟨U,h2⟩:=Iv h
   refine ⟨U,?_⟩
   rw [BC]
   have:Nat.beq p.1 i=false:=by
    rw [hp]
    cases e:Nat.beq id i with
    |true=>exact absurd (Nat.eq_of_beq_eq_true e).symm U
    |false=>rfl
   rw [this];exact h2
  |false=>
   rw [hb] at h
   simp only [cond_false] at h
   rw [BC] at h |-
   cases e:Nat.beq p.1 i with
   |true=>
    rw [e] at h
    refine ⟨?_,h⟩
    have:=Nat.eq_of_beq_eq_true e
    rintro rfl
    rw [this,Nat.beq_refl] at hb;cases hb
   |false=>rw [e] at h;exact Iv h
theorem bC {X:List Deferred->Mem->St->World->Act->World->Prop} {st:St} (t id:Nat) (ht:env.get t=.Cu id 0) (hb:assoc env.boxes id=some cs) (hn:O8 cs=true)
 (h:∀b,st.fresh b->∀D I0 st0 w0 I β a w,Rel D I0 st0 w0 I β {env with tmps:=(t,.ptr b 0)::Lb id env.tmps,boxes:=JG id env.boxes} (st.Ab b cs) a w->X D I0 st0 w0 a w):
 ∀D I0 st0 w0 I β a w,Rel D I0 st0 w0 I β env st a w->X D I0 st0 w0 a w:=λD I0 st0 w0 I β a w U=>by
 obtain ⟨b,hβ,hl⟩:=U.f.box id cs hb
 obtain ⟨s1,s2,s3,s4,s5,s6⟩:=U.f.sep id b hβ
 have h1:=U.f.get t
 rw [ht] at h1
 obtain ⟨b',hβ',h1⟩:∃b,β id=some b/\_:=h1
 obtain rfl:b'=b:=Option.some.inj (hβ'.symm.trans hβ)
 refine h b' ⟨s5,s6⟩ D I0 st0 w0 I (λi=>if i=id then none else β i) a w ⟨⟨U.fr.os,U.fr.tape,U.fr.output,U.fr.size,U.fr.Mq,U.fr.le,U.fr.new,U.fr.Mo,λx hx=>?_⟩,⟨U.s.cell,U.s.shape,?_,?_,?_,U.s.UF⟩,⟨U.f.size,?_,?_,?_,?_,?_,U.f.defers⟩⟩
 .by_cases e:x=b'
  .subst e;exact .inl s1
  .refine U.fr.Mb x (hx.imp (λhx=>?_) (λhx=>hx))
   simp only [St.Ab] at hx
   rwa [if_neg e] at hx
 .intro x us hx
  by_cases e:x=b'
  .subst e
   simp only [St.Ab,if_true,Option.some.injEq] at hx
   subst hx
   exact hl.cells hn
  .simp only [St.Ab] at hx
   rw [if_neg e] at hx
   exact U.s.box x us hx
 .intro x hx
  by_cases e:x=b'
  .subst e;exact ⟨s3,s6,s4⟩
  .simp only [St.Ab] at hx
   rw [if_neg e] at hx
   exact U.s.JB x hx
 .exact U.s.hw
 .intro t' v e
  rw [BC] at e
  cases hbq:Nat.beq t t' with
  |true=>
   rw [hbq] at e
   have:=Nat.eq_of_beq_eq_true hbq
   subst this
   simp only [cond_true,Option.some.injEq] at e
   subst e
   refine A8.of ?_
   simp only [AE]
   exact h1
  |false=>
   rw [hbq] at e
   simp only [cond_false] at e
   obtain ⟨u,hu,rfl⟩:=LL e
   have hk:=U.f.tmps t' u hu
   cases u with
   |Cu i o=>
    show A8 I _ (bif Nat.beq i id then .Cj else .Cu i o) _
    cases hi:Nat.beq i id with
    |true=>exact A8.of (I:=I) (β:=_) (v:=.Cj) trivial
    |false=>
     obtain ⟨b2,g1,g2⟩:∃b,β i=some b/\_:=hk
     refine ⟨b2,?_,g2⟩
     have:i≠id:=λx=>by subst x;rw [Nat.beq_refl] at hi;cases hi
     show (if i=id then none else β i)=some b2
     rw [if_neg this];exact g1
   |_=>exact hk
 .intro i us e
  obtain ⟨h2,h3⟩:=Iv e
  obtain ⟨b2,g1,g2⟩:=U.f.box i us h3
  exact ⟨b2,by show (if i=id then none else β i)=some b2;rw [if_neg h2];exact g1,g2⟩
 .intro i x e
  split at e
  .cases e
  .exact U.f.BI i x e
 .intro i j x e1 e2
  split at e1
  .cases e1
  .split at e2
   .cases e2
   .exact U.f.inj i j x e1 e2
 .intro i x e
  split at e
  .cases e
  .rename_i hi
   obtain ⟨g1,g2,g3,g4,g5,g6⟩:=U.f.sep i x e
   have hx:x≠b':=λhx=>by subst hx;exact hi (U.f.inj i id x e hβ)
   exact ⟨g1,g2,g3,g4,by simp only [St.Ab];rw [if_neg hx];exact g5,g6⟩
theorem Tl {P:Program} {c:Code} {Q:AM->Env->St->Prop} {st:St} (t id:Nat) (U:env.get t=.Cu id 0) (hb:assoc env.boxes id=some cs) (hn:O8 cs=true)
 (h:∀b,st.fresh b->AW P c Q {env with tmps:=(t,.ptr b 0)::Lb id env.tmps,boxes:=JG id env.boxes} (st.Ab b cs)):AW P c Q env st:=
 bC (X:=λD I0 st0 w0 a w=>c.wp P (Cg D I0 st0 w0 Q) a w) t id U hb hn h
def eY (Q:Env->St->Prop) (env:Env) (st:St):Prop:=∀D I0 st0 w0 I β a w,Rel D I0 st0 w0 I β env st a w->∃I β env' st',Rel D I0 st0 w0 I β env' st' a w/\Q env' st'
theorem eY.here {Q:Env->St->Prop} {st:St} (h:Q env st):eY Q env st:=λD I0 st0 w0 I β a w U=>⟨I,β,env,st,U,h⟩
theorem eY.uJ {Q:Env->St->Prop} {st:St} (t id:Nat) (U:env.get t=.Cu id 0) (hb:assoc env.boxes id=some cs) (hn:O8 cs=true)
 (h:∀b,st.fresh b->eY Q {env with tmps:=(t,.ptr b 0)::Lb id env.tmps,boxes:=JG id env.boxes} (st.Ab b cs)):eY Q env st:=
 bC (X:=λD I0 st0 w0 a w=>∃I β env' st',Rel D I0 st0 w0 I β env' st' a w/\Q env' st') t id U hb hn h
theorem eY.le {Q:Env->St->Prop} {env env':Env} {st st':St} (U:env'.C7 env) (hs:St.le st' st) (h:eY Q env' st'):eY Q env st:=λD I0 st0 w0 I β a w hr=>h _ _ _ _ _ _ _ _ ((hr.IK hs).Ke (Env.Kf U))
end Go.Aw
namespace Go.Proofs.Z
open Go Go.Aw
section
variable {st0 st:St} {b d:Nat} {s:Af} {rows:List (AF×List Nd)} {K:AL->St->Prop} {L:C8} {atom:Rd Nd}
attribute [local irreducible] Go.Aw.Ag
theorem qZ (hc:Cx st0 b s st rows)
 (h:if H0 (Aa s).1=true then (if A9 (Aa s).2.1 15 [41]=true then Rd.wp A0 s (λp s'=>Rd.wp A0 s' (λc s'=>Q (Ar 3 [o,p,c]) s') E) E else P) else P)
 (k1:∀n s' st',mu s'<=mu s->Cx st0 b s' st' rows->Q n s'->K (.ret (.Bh [enc n,.bool true])) st') (k2:∀st',Cx st0 b s st' rows->P->K (.ret (.Bh [enc FR,.bool false])) st'):
 PC 338 [pv b d,enc o] st K:=by
 refine pB Tryz.func338 ?_
 have hmu:=hc.mu
 have hc1:=hc.look
 cases hy:H0 (Aa s).1 with
 |false=>
  rw [if_neg (by rw [hy];decide)] at h
  repeat' ((conv=>whnf);first|exact Dk|(refine AG ?_;intros)|(refine Dl ?_ ?_ ?_;rotate_left)|(refine AH ?_ ?_<;>intro e h)|(refine AJ ?_ ?_<;>intro _)|refine Uk hc (λU hc=>?_)|refine Js ?_|with_reducible refine WF ?_)
  all_goals exact AZ rfl (k2 U hc h)
 |true=>
  rw [if_pos hy] at h
  have hkd:=KZ hy
  cases hi:A9 (Aa s).2.1 15 [41] with
  |true=>
   rw [if_pos hi] at h
   repeat' ((conv=>whnf);first|exact Dk|(refine AG ?_;intros)|(refine Dl ?_ ?_ ?_;rotate_left)|(refine AH ?_ ?_<;>intro e h)|(refine AJ ?_ ?_<;>intro _)|refine AB (St.An ..) ?_|refine Hc hc.has hc.hb ?_|refine Js ?_|refine P1 hc1 h hkd (λs1 U hz hm hc h=>?_)|refine Um hc (hz ▸ hi) (λU hc=>?_)|refine P0 hc h (hz ▸ hi) Do (λs2 st2 hz2 hm2 hc h=>?_)|refine Ua ?_|refine Ae [(0,true),(1,true),(2,true),(3,true),(4,false),(5,true),(6,false),(7,false),(8,true)] [2] GE ?_|with_reducible refine WF ?_)
   all_goals exact AZ rfl (k1 _ s2 st2 AC hc h)
  |false=>
   rw [if_neg (by rw [hi];decide)] at h
   repeat' ((conv=>whnf);first|exact Dk|(refine AG ?_;intros)|(refine Dl ?_ ?_ ?_;rotate_left)|(refine AH ?_ ?_<;>intro e h)|(refine AJ ?_ ?_<;>intro _)|refine AB (St.An ..) ?_|refine Hc hc.has hc.hb ?_|refine Js ?_|refine sd hc1 hkd (λs1 U hz hm hc=>?_)|refine Zg hc (hz ▸ hi) (λU hc=>?_)|refine MY hc hmu (λst2 hc=>?_)|with_reducible refine WF ?_)
   all_goals exact AZ rfl (k2 st2 hc h)
theorem jV (hL:L0 d L):Bx enc 302 (λb=>[pv b d]) (Oe L):=by
 refine ⟨λ{st0 b s st rows K} hc h=>?_⟩
 simp only [Oe,M1,Od,J2,Rd.Ah,Rd.Az,Rd.wp_seq,Rd.wp_ret] at h
 refine Bu Ad [] Tryz.func302 rfl Do rfl ?_
 have hmu:=hc.mu
 refine Ak (Al Ad ?_)
 repeat' ((conv=>whnf);first|exact Dk|(refine AG ?_;intros)|(refine Dl ?_ ?_ ?_;rotate_left)|(refine AH ?_ ?_<;>intro e h)|(refine AJ ?_ ?_<;>intro _)|with_reducible refine WF ?_)
 refine Ak (Al Ad ?_)
 repeat' ((conv=>whnf);first|exact Dk|(refine AG ?_;intros)|(refine Dl ?_ ?_ ?_;rotate_left)|(refine AH ?_ ?_<;>intro e h)|(refine AJ ?_ ?_<;>intro _)|refine J6.go hc h (λo s1 U hr hm hc h=>?_) (λe s1 U hc h=>?_)|exact DJ hc h|with_reducible refine WF ?_)
 refine Ak (Al Ad ?_)
 repeat' ((conv=>whnf);first|exact Dk|(refine AG ?_;intros)|(refine Dl ?_ ?_ ?_;rotate_left)|(refine AH ?_ ?_<;>intro e h)|(refine AJ ?_ ?_<;>intro _)|(refine It ?_;intro U hc)|(refine L1 ?_ ?_<;>intro U hc e h)|(refine K1 ?_;intro s1 U hz hm hc h)|refine Jv (λn s1 U hr hm hc h=>?_) (λe s1 U hc h=>?_)|exact F5|refine Kq ?_|(refine LJ ?_;intro own1 U hc)|refine Ac (λe1=>?_)|with_reducible refine WF ?_)
 all_goals first
  |(refine Dh (λl own=>[(4,.slice 6 (l.map Ax) own)]) (λ_ _=>[]) [1,2] [0,1] (λl own=>(own,l)::rows) (λl=>l.length) .full (hc.push _) h (by show 1+_<=_;omega) Yl ?_
    intro l s1 U own1 hc h hl hm1
    simp only [MO,Rd.Ah,Rd.Az,Rd.wp_seq,Rd.wp_ret,Rd.A5] at h
    repeat' ((conv=>whnf);first|exact Dk|(refine AG ?_;intros)|(refine Dl ?_ ?_ ?_;rotate_left)|(refine AH ?_ ?_<;>intro e h)|(refine AJ ?_ ?_<;>intro _)|(refine It ?_;intro U hc)|(refine L1 ?_ ?_<;>intro U hc e h)|(refine K1 ?_;intro s1 U hz hm hc h)|refine Jv (λn s1 U hr hm hc h=>?_) (λe s1 U hc h=>?_)|exact F5|refine Kq ?_|(refine LJ ?_;intro own1 U hc)|refine Ac (λe1=>?_)|with_reducible refine WF ?_))
  |skip
 refine Ak (Al Ad ?_)
 repeat' ((conv=>whnf);first|exact Dk|(refine AG ?_;intros)|(refine Dl ?_ ?_ ?_;rotate_left)|(refine AH ?_ ?_<;>intro e h)|(refine AJ ?_ ?_<;>intro _)|refine qZ (Q:=λn s'=>∀st',Cx st0 b s' st' rows->K (.ret (enc n)) st') hc h (λn s1 U hm hc h=>?_) (λU hc h=>?_)|(refine It ?_;intro U hc)|(refine L1 ?_ ?_<;>intro U hc e h)|(refine K1 ?_;intro s1 U hz hm hc h)|refine Jv (λn s1 U hr hm hc h=>?_) (λe s1 U hc h=>?_)|exact F5|refine Kq ?_|(refine LJ ?_;intro own1 U hc)|refine Ac (λe1=>?_)|with_reducible refine WF ?_)
 refine Ak (Al Ad ?_)
 repeat' ((conv=>whnf);first|exact Dk|(refine AG ?_;intros)|(refine Dl ?_ ?_ ?_;rotate_left)|(refine AH ?_ ?_<;>intro e h)|(refine AJ ?_ ?_<;>intro _)|(refine It ?_;intro U hc)|(refine L1 ?_ ?_<;>intro U hc e h)|(refine K1 ?_;intro s1 U hz hm hc h)|refine Jv (λn s1 U hr hm hc h=>?_) (λe s1 U hc h=>?_)|exact F5|refine Kq ?_|(refine LJ ?_;intro own1 U hc)|refine Ac (λe1=>?_)|refine PG.go hc h (λn s1 U hr hm hc h=>?_) (λe s1 U hc h=>?_)|refine Bx.go hL.ops hc h (λn s1 U hr hm hc h=>?_) (λe s1 U hc h=>?_)|refine Ae [(0,true),(1,true),(2,true),(4,true),(5,true),(3,false),(6,false),(7,true),(8,false),(9,false)] [1] GE ?_|with_reducible refine WF ?_)
 all_goals refine Tl 3 2 rfl rfl rfl (λc fc=>?_)
 all_goals have hne:=hc.YH fc
 all_goals refine Al Ad ?_
 all_goals (repeat' ((conv=>whnf);first|exact Dk|(refine AG ?_;intros)|(refine Dl ?_ ?_ ?_;rotate_left)|(refine AH ?_ ?_<;>intro e h)|(refine AJ ?_ ?_<;>intro _)|refine hL.DT (St.An ..) (hc.bB fc) (Rd.wp_mono h (λv s1 hr h U hc=>?_) (λe s1 hr h U hc=>?_))|exact Fo (hc.unbox hne) h rfl|exact DJ (hc.unbox hne) h|with_reducible refine WF ?_))
end
section
variable {st0 st:St} {b d:Nat} {s:Af} {rows:List (AF×List Nd)} {K:AL->St->Prop} {L:C8} {atom:Rd Nd}
attribute [local irreducible] Go.Aw.Ag
theorem eE (hL:L0 d L):Bx enc 303 (λb=>[pv b d]) (LA L):=by
 refine ⟨λ{st0 b s st rows K} hc h=>?_⟩
 simp only [LA,Rd.Ah,Rd.Az,Rd.wp_seq,Rd.wp_ret] at h
 refine Bu Ad [] Tryz.func303 rfl Do rfl ?_
 refine Ak (Al Ad ?_)
 repeat' ((conv=>whnf);first|exact Dk|(refine AG ?_;intros)|(refine Dl ?_ ?_ ?_;rotate_left)|(refine AH ?_ ?_<;>intro e h)|(refine AJ ?_ ?_<;>intro _)|with_reducible refine WF ?_)
 refine Ak (Al Ad ?_)
 repeat' ((conv=>whnf);first|exact Dk|(refine AG ?_;intros)|(refine Dl ?_ ?_ ?_;rotate_left)|(refine AH ?_ ?_<;>intro e h)|(refine AJ ?_ ?_<;>intro _)|refine J6.go hc h (λo s1 U hr hm hc h=>?_) (λe s1 U hc h=>?_)|exact DJ hc h|with_reducible refine WF ?_)
 refine Ak (Al Ad ?_)
 repeat' ((conv=>whnf);first|exact Dk|(refine AG ?_;intros)|(refine Dl ?_ ?_ ?_;rotate_left)|(refine AH ?_ ?_<;>intro e h)|(refine AJ ?_ ?_<;>intro _)|(refine It ?_;intro U hc)|(refine L1 ?_ ?_<;>intro U hc e h)|(refine K1 ?_;intro s1 U hz hm hc h)|refine Jv (λn s1 U hr hm hc h=>?_) (λe s1 U hc h=>?_)|exact F5|refine Kq ?_|refine Ac (λe1=>?_)|refine Ae [(0,true),(1,true),(2,true),(3,false),(4,true),(5,false),(6,false)] [1] GE ?_|with_reducible refine WF ?_)
 all_goals refine Tl 3 2 rfl rfl rfl (λc fc=>?_)
 all_goals have hne:=hc.YH fc
 all_goals refine Al Ad ?_
 all_goals (repeat' ((conv=>whnf);first|exact Dk|(refine AG ?_;intros)|(refine Dl ?_ ?_ ?_;rotate_left)|(refine AH ?_ ?_<;>intro e h)|(refine AJ ?_ ?_<;>intro _)|refine hL.list (St.An ..) (hc.bB fc) (Rd.wp_mono h (λv s1 hr h U hc=>?_) (λe s1 hr h U hc=>?_))|exact Fo (hc.unbox hne) h rfl|exact DJ (hc.unbox hne) h|with_reducible refine WF ?_))
theorem lV (hL:L0 d L):Bx enc 252 (λb=>[pv b d]) (Kb L):=by
 refine ⟨λ{st0 b s st rows K} hc h=>?_⟩
 simp only [Kb,Rd.Ah,Rd.Az,Rd.wp_seq,Rd.wp_ret] at h
 refine pB Tryz.func252 ?_
 repeat' ((conv=>whnf);first|exact Dk|(refine AG ?_;intros)|(refine Dl ?_ ?_ ?_;rotate_left)|(refine AH ?_ ?_<;>intro e h)|(refine AJ ?_ ?_<;>intro _)|(refine It ?_;intro U hc)|(refine L1 ?_ ?_<;>intro U hc e h)|(refine K1 ?_;intro s1 U hz hm hc h)|refine Jv (λn s1 U hr hm hc h=>?_) (λe s1 U hc h=>?_)|(refine fp ?_;intro e s1 U hc h)|exact F5|refine Kq ?_|refine Ac (λe1=>?_)|refine Bx.go (jV hL) hc h (λn s1 U hr hm hc h=>?_) (λe s1 U hc h=>?_)|refine Bx.go (eE hL) hc h (λn s1 U hr hm hc h=>?_) (λe s1 U hc h=>?_)|refine Bx.go hL.atom hc h (λn s1 U hr hm hc h=>?_) (λe s1 U hc h=>?_)|refine Ae [(0,true),(1,true),(3,true),(2,false),(4,false),(5,true),(6,false),(7,false)] [1] GE ?_|refine Ae [(0,true),(1,true),(2,true),(4,true),(3,false),(5,false),(6,true),(7,false),(8,false)] [1] GE ?_|with_reducible refine WF ?_)
theorem ir:Bx enc 250 (λb=>[.ptr b 0,.slice 1 [[.int .i64 1],[.int .i64 3]] .full]) (HK [1,3]):=aF (ks:=[1,3]) Do
theorem dV (hL:L0 d L):Bx enc 253 (λb=>[pv b d,enc n]) (Hr L n):=by
 refine ⟨λ{st0 b s st rows K} hc h=>?_⟩
 simp only [Hr,Rd.Ah,Rd.Az,Rd.wp_seq,Rd.wp_ret] at h
 refine pB Tryz.func253 ?_
 have hmu:=hc.mu
 repeat' ((conv=>whnf);first|exact Dk|(refine AG ?_;intros)|(refine Dl ?_ ?_ ?_;rotate_left)|(refine AH ?_ ?_<;>intro e h)|(refine AJ ?_ ?_<;>intro _)|(refine It ?_;intro U hc)|(refine L1 ?_ ?_<;>intro U hc e h)|(refine K1 ?_;intro s1 U hz hm hc h)|refine Jv (λn s1 U hr hm hc h=>?_) (λe s1 U hc h=>?_)|exact F5|refine Kq ?_|(refine LJ ?_;intro own1 U hc)|refine Bj (λ_=>?_)|refine Ac (λe1=>?_)|refine Ae [(0,true),(1,true),(2,true),(3,false),(4,true),(5,true)] [] GE ?_|refine Ae [(0,true),(1,true),(2,true),(3,true),(5,true),(4,false),(6,false),(7,true),(8,false),(9,true),(10,false),(11,true)] [] GE ?_|with_reducible refine WF ?_)
 refine Dh (λl own=>[(5,.slice 6 (l.map Ax) own)]) (λ_ _=>[]) [2,4] [0,2] (λl own=>(own,l)::rows) (λl=>l.length) .full (hc.push _) h (by show 2+_<=_;omega) Yl ?_
 intro l s1 U own1 hc h hl hm1
 simp only [Np,NX,Rd.Ah,Rd.Az,Rd.wp_seq,Rd.wp_ret,Rd.A5] at h
 repeat' ((conv=>whnf);first|exact Dk|(refine AG ?_;intros)|(refine Dl ?_ ?_ ?_;rotate_left)|(refine AH ?_ ?_<;>intro e h)|(refine AJ ?_ ?_<;>intro _)|(refine It ?_;intro U hc)|(refine L1 ?_ ?_<;>intro U hc e h)|(refine K1 ?_;intro s1 U hz hm hc h)|refine Jv (λn s1 U hr hm hc h=>?_) (λe s1 U hc h=>?_)|exact F5|refine Kq ?_|(refine LJ ?_;intro own1 U hc)|refine Bj (λ_=>?_)|refine Ac (λe1=>?_)|refine Bx.UN ir (YD rfl) hc h (λn s1 U hr hm hc h=>?_) (λe s1 U hc h=>?_)|refine Bx.go hL.exp hc h (λn s1 U hr hm hc h=>?_) (λe s1 U hc h=>?_)|refine Ae [(0,true),(1,true),(2,true),(3,false),(4,true),(5,true)] [] GE ?_|refine Ae [(0,true),(1,true),(2,true),(3,true),(5,true),(4,false),(6,false),(7,true),(8,false),(9,true),(10,false),(11,true)] [] GE ?_|with_reducible refine WF ?_)
 all_goals conv=>whnf
end
theorem YB:Rd.A7 (Kb L):=Rd.A7.look λs v s' h=>by
 split at h
 .rename_i ha
  have hk:=(Hu ha).2
  have U:∀{v:Nd} {s':Af},A0.run s=.inr (v,s')->mu s'<mu s:=λe=>K0 e hk
  split at h
  .split at h
   .exact Rd.A7.at (λ_ _ e=>U e) h
   .exact Rd.A7.at (λ_ _ e=>U e) h
  .split at h
   .exact Rd.A7.at (λ_ _ e=>U e) h
   .split at h
    .exact Rd.A7.at (λ_ _ e=>U e) h
    .exact Rd.A7.at (λ_ _ e=>U e) h
 .cases h
theorem Oy:Rd.A7 (Ka L):=Rd.A7.seq YB
theorem MV {s:Af} {v:Nd} (h:(Hr L n).run s=.inr (v,s')) (e:A9 s 15 [123]=true):mu s'<mu s:=by
 refine Rd.A7.at (λv s' U=>K0 U λz=>?_) h
 unfold A9 at e
 simp only [Bool.and_eq_true,beq_iff_eq] at e
 rw [z] at e;exact absurd e.1 Do
theorem Lq {U:List Nd} {s:Af} (h:(Ed stmt l).run s=.inr (U,s')):U.length+4*mu s'<=l.length+2+4*mu s:=by
 unfold Ed at h
 obtain ⟨b,s1,h1,h⟩:=B4 h
 obtain ⟨t,s2,h2,h⟩:=B4 h
 have e1:=(BU 10 [124]).le _ _ _ h1
 have e2:=stmt.le _ _ _ h2
 have:=Rd.iN (body:=KO stmt) (w:=List.length) (w':=List.length) (c:=0) (λx s x' s' h=>by
  unfold KO at h
  replace h:(if A9 s 15 [44]=true then Rd.seq A0 λc=>Rd.seq stmt λt=>.ret (.inl (x++[c]++[t])) else .ret (.inr x):Rd (Sum (List Nd) (List Nd))).run s=.inr (.inl x',s'):=h
  split at h
  .obtain ⟨_,_,_,h⟩:=B4 h
   obtain ⟨_,_,_,h⟩:=B4 h
   cases h
   simp
  .cases h) (λx s y s' h=>by
  unfold KO at h
  replace h:(if A9 s 15 [44]=true then Rd.seq A0 λc=>Rd.seq stmt λt=>.ret (.inl (x++[c]++[t])) else .ret (.inr x):Rd (Sum (List Nd) (List Nd))).run s=.inr (.inr y,s'):=h
  split at h
  .obtain ⟨_,_,_,h⟩:=B4 h
   obtain ⟨_,_,_,h⟩:=B4 h
   cases h
  .cases h;exact Nat.le_refl _) _ _ _ _ h
 simp only [List.length_append,List.length_cons,List.length_nil] at this
 omega
theorem sH {c x y:Nat} (h:l.length+4*y<=c+2+4*x) (hc:c<=500000000) (U:x<=100000000):l.length+1<=1000000000:=AC
section
variable {st0 st:St} {b d:Nat} {s:Af} {rows:List (AF×List Nd)} {K:AL->St->Prop} {L:C8}
attribute [local irreducible] Go.Aw.Ag
theorem lS (hL:L0 d L):Bx enc 202 (λb=>[pv b d]) (Ka L):=by
 refine ⟨λ{st0 b s st rows K} hc h=>?_⟩
 simp only [Ka,Rd.wp_seq] at h
 refine pB Tryz.func202 ?_
 have hmu:=hc.mu
 repeat' ((conv=>whnf);first|(refine AG ?_;intros)|(refine AH ?_ ?_<;>intro e h)|(refine AJ ?_ ?_<;>intro _)|refine Bx.go (lV hL) hc h (λn s1 U hr hm hc h=>?_) (λe s1 U hc h=>?_)|exact DJ hc h)
 refine Dh (λn own=>[]) (λn own=>[(2,Ax n)]) [1,2,3] [0,1] (λl own=>rows) (λ_=>0) .full hc h la Yl ?_
 intro n s1 U own1 hc h hl hm1
 simp only [UU,Rd.Ah,Rd.Az,Rd.wp_seq,Rd.wp_ret,Rd.A5] at h
 repeat' ((conv=>whnf);first|(refine AG ?_;intros)|(refine AH ?_ ?_<;>intro e h)|(refine AJ ?_ ?_<;>intro _)|(refine It ?_;intro U hc)|(refine L1 ?_ ?_<;>intro U hc e h)|exact F5|refine Ac (λe1=>?_)|refine Bx.go (dV hL) hc h (λn s1 U hr hm hc h=>?_) (λe s1 U hc h=>?_))
 all_goals have hlt:=MV ‹_› ‹_›
 all_goals conv=>whnf
 all_goals exact ⟨⟨_,_,_,.full⟩,⟨hc,Rd.BF h hlt,UV,UV⟩,hlt,Yl,St.le_refl _⟩
theorem WR (hs:Bx enc 60 (λb=>[pv b d]) stmt):ph 192 (λb v=>[pv b d,v]) (λl=>Ed stmt l):=by
 refine ⟨λ{st0 b s st rows K own l} hl hc h=>?_⟩
 simp only [Ed,Rd.wp_seq] at h
 refine pB Tryz.func192 ?_
 have hmu:=hc.mu
 repeat' ((conv=>whnf);first|(refine AG ?_;intros)|(refine AH ?_ ?_<;>intro e h)|(refine AJ ?_ ?_<;>intro _)|refine Hx (λ_=>?_) ?_|(refine It ?_;intro U hc)|(refine L1 ?_ ?_<;>intro U hc e h)|(refine K1 ?_;intro s1 U hz hm hc h)|refine Jv (λn s1 U hr hm hc h=>?_) (λe s1 U hc h=>?_)|exact F5|(refine LJ ?_;intro own1 U hc)|refine Ac (λe1=>?_)|refine Bx.go hs hc h (λn s1 U hr hm hc h=>?_) (λe s1 U hc h=>?_))
 refine Dh (λl own=>[(1,.slice 6 (l.map Ax) own)]) (λ_ _=>[]) [2] [0] (λl own=>(own,l)::rows) (λl=>l.length) _ hc h RK Yl ?_
 intro l s1 U own1 hc h hl hm1
 simp only [KO,Rd.Ah,Rd.Az,Rd.wp_seq,Rd.wp_ret,Rd.A5] at h
 repeat' ((conv=>whnf);first|(refine AG ?_;intros)|(refine AH ?_ ?_<;>intro e h)|(refine AJ ?_ ?_<;>intro _)|refine Hx (λ_=>?_) ?_|(refine It ?_;intro U hc)|(refine L1 ?_ ?_<;>intro U hc e h)|(refine K1 ?_;intro s1 U hz hm hc h)|refine Jv (λn s1 U hr hm hc h=>?_) (λe s1 U hc h=>?_)|exact F5|(refine LJ ?_;intro own1 U hc)|refine Ac (λe1=>?_)|refine Bx.go hs hc h (λn s1 U hr hm hc h=>?_) (λe s1 U hc h=>?_))
theorem nC {exp:Rd Nd} (he:Bx enc 80 (λb=>[pv b d]) exp) (hs:Bx enc 60 (λb=>[pv b d]) stmt):Bx enc 342 (λb=>[pv b d,enc o]) (OG exp stmt o):=by
 refine ⟨λ{st0 b s st rows K} hc h=>?_⟩
 simp only [OG,Rd.Ah,Rd.Az,Rd.wp_seq,Rd.wp_ret] at h
 refine pB Tryz.func342 ?_
 have hmu:=hc.mu
 repeat' ((conv=>whnf);first|exact Dk|(refine AG ?_;intros)|(refine Dl ?_ ?_ ?_;rotate_left)|(refine AH ?_ ?_<;>intro e h)|(refine AJ ?_ ?_<;>intro _)|(refine It ?_;intro U hc)|(refine L1 ?_ ?_<;>intro U hc e h)|(refine K1 ?_;intro s1 U hz hm hc h)|refine Jv (λn s1 U hr hm hc h=>?_) (λe s1 U hc h=>?_)|exact F5|refine Kq ?_|(refine LJ ?_;intro own1 U hc)|refine Bj (λ_=>?_)|refine Ac (λe1=>?_)|refine Bx.go he hc h (λn s1 U hr hm hc h=>?_) (λe s1 U hc h=>?_)|refine hc.Fk (sH (Lq ‹_›) (Nat.le_of_ble_eq_true rfl) AC) (λown1 U hc=>?_)|refine ph.go (l:=[_,_]) (WR hs) (Nat.le_of_ble_eq_true rfl) (hc.push _) h (λl own1 s1 U hr hm hc h=>?_) (λe s1 U hc h=>?_)|refine Ae [(0,true),(1,true),(2,false),(3,true),(4,true)] [] GE ?_|refine Ae [(0,true),(1,true),(3,true),(4,true),(2,false),(5,false),(6,true),(7,false),(8,false),(9,false)] [2] GE ?_|with_reducible refine WF ?_)
 refine Dh (λl own=>[(5,.slice 6 (l.map Ax) own)]) (λ_ _=>[]) [2,4,6] [0,2] (λl own=>(own,l)::rows) (λl=>l.length) .full (hc.push _) h (by show 2+_<=_;omega) Yl ?_
 intro l s1 U own1 hc h hl hm1
 simp only [VJ,VK,Rd.Ah,Rd.Az,Rd.wp_seq,Rd.wp_ret,Rd.A5] at h
 repeat' ((conv=>whnf);first|exact Dk|(refine AG ?_;intros)|(refine Dl ?_ ?_ ?_;rotate_left)|(refine AH ?_ ?_<;>intro e h)|(refine AJ ?_ ?_<;>intro _)|(refine It ?_;intro U hc)|(refine L1 ?_ ?_<;>intro U hc e h)|(refine K1 ?_;intro s1 U hz hm hc h)|refine Jv (λn s1 U hr hm hc h=>?_) (λe s1 U hc h=>?_)|exact F5|refine Kq ?_|(refine LJ ?_;intro own1 U hc)|refine Bj (λ_=>?_)|refine Ac (λe1=>?_)|refine Bx.go he hc h (λn s1 U hr hm hc h=>?_) (λe s1 U hc h=>?_)|with_reducible refine WF ?_)
end
section
variable {st0 st:St} {b d:Nat} {s:Af} {rows:List (AF×List Nd)} {K:AL->St->Prop} {L:C8}
attribute [local irreducible] Go.Aw.Ag
theorem T5 (k:K (.Cz (fault LM.1)) st):PC 123 [pv b d,.bool false] st K:=by
 refine pB Tryz.func123 ?_
 repeat' ((conv=>whnf);first|(refine AG ?_;intros)|(refine AH ?_ ?_<;>intro e h)|(refine AJ ?_ ?_<;>intro _)|refine FI ?_)
 all_goals exact ⟨_,_,.inl rfl,St.le_refl _,k⟩
theorem T6 (k:K (.ret (.Bh [])) st):PC 123 [pv b d,.bool true] st K:=by
 refine pB Tryz.func123 ?_
 repeat' ((conv=>whnf);first|(refine AG ?_;intros)|(refine AH ?_ ?_<;>intro e h)|(refine AJ ?_ ?_<;>intro _)|refine FI ?_)
 all_goals exact ⟨_,_,.inl rfl,St.le_refl _,k⟩
theorem oM (hL:L0 d L) {exp:Rd Nd} (he:Bx enc 80 (λb=>[pv b d]) exp):Bx enc 60 (λb=>[pv b d]) (RD L exp):=by
 refine ⟨λ{st0 b s st rows K} hc h=>?_⟩
 simp only [RD,Sh,Rd.Ah,Rd.Az,Rd.wp_seq,Rd.wp_ret,Rd.BK] at h
 refine pB Tryz.func60 ?_
 repeat' ((conv=>whnf);first|exact Dk|(refine AG ?_;intros)|(refine Dl ?_ ?_ ?_;rotate_left)|(refine AH ?_ ?_<;>intro e h)|(refine AJ ?_ ?_<;>intro _)|(refine It ?_;intro U hc)|(refine L1 ?_ ?_<;>intro U hc e h)|(refine K1 ?_;intro s1 U hz hm hc h)|refine Jv (λn s1 U hr hm hc h=>?_) (λe s1 U hc h=>?_)|exact F5|refine Kq ?_|refine Ac (λe1=>?_)|refine Bx.go he hc h (λn s1 U hr hm hc h=>?_) (λe s1 U hc h=>?_)|refine Bx.go hL.decls hc h (λn s1 U hr hm hc h=>?_) (λe s1 U hc h=>?_)|refine Bx.go (VO hL.exp) hc h (λn s1 U hr hm hc h=>?_) (λe s1 U hc h=>?_)|refine TR ?_|refine T6 ?_|refine T5 ?_|refine Ae [(0,true),(1,true),(2,false),(3,false)] [] GE ?_|refine Ae [(0,true),(1,true),(2,true),(4,true),(3,false),(5,false),(6,true),(7,false),(8,false)] [1] GE ?_|with_reducible refine WF ?_)
 all_goals conv=>whnf
 all_goals exact DJ hc.y h
end
theorem Oz:Rd.A7 (Ed stmt l):=Rd.A7.seq (Mg Do)
theorem L3 {x:Nd} {K:List V->Prop} (h:l[i.toNat]? =some x) (U:0<=i) (k:K (Ax x)):0<=i/\∃e,(l.map Ax)[i.toNat]? =some e/\K e:=⟨U,Ax x,by rw [List.getElem?_map,h];rfl,k⟩
section
variable {st0 st:St} {b d:Nat} {s:Af} {rows:List (AF×List Nd)} {K:AL->St->Prop} {L:C8}
attribute [local irreducible] Go.Aw.Ag
theorem Lr (hs:Bx enc 60 (λb=>[pv b d]) stmt) {Q:List Nd->Af->Prop} (hc:Cx st0 b s st rows) (h:Rd.wp (Ed stmt []) s Q E)
 (k:∀l' U s' st',l'.length<=400000002->mu s'<mu s->Cx st0 b s' st' ((U,l')::rows)->Q l' s'->K (.ret (.slice 6 (l'.map Ax) U)) st') (kb:∀e s' st',Cy st0 b s' st' rows->E e s'->K (.Cz (fault e.1)) st'):PC 192 [pv b d,.slice 6 [] .full] st K:=
 ph.go (l:=[]) (own:=.full) (WR hs) (Nat.le_of_ble_eq_true rfl) (hc.push _) h (λl' U s' st' hr hm hc' q=>k l' U s' st' (by have:=Lq hr;have:=hc.mu;simp only [List.length_nil] at *;omega) (Oz _ _ _ hr) hc' q) kb
theorem jK (hL:L0 d L) {exp:Rd Nd} (he:Bx enc 80 (λb=>[pv b d]) exp) (hs:Bx enc 60 (λb=>[pv b d]) stmt):Bx enc 131 (λb=>[pv b d,.str m]) (Xc L exp stmt m):=by
 refine ⟨λ{st0 b s st rows K} hc h=>?_⟩
 simp only [Xc,Ob,Rd.Ah,Rd.Az,Rd.wp_seq,Rd.wp_ret] at h
 have hmu:=hc.mu
 refine pB Tryz.func131 ?_
 repeat' ((conv=>whnf);first|exact Dk|(refine AG ?_;intros)|(refine Dl ?_ ?_ ?_;rotate_left)|(refine AH ?_ ?_<;>intro e h)|(refine AJ ?_ ?_<;>intro _)|refine Hx (λ_=>?_) ?_|(refine It ?_;intro U hc)|(refine L1 ?_ ?_<;>intro U hc e h)|(refine K1 ?_;intro s1 U hz hm hc h)|refine Jv (λn s1 U hr hm hc h=>?_) (λe s1 U hc h=>?_)|(refine fp ?_;intro e s1 U hc h)|exact F5|refine Kq ?_|(refine LJ ?_;intro own1 U hc)|refine Bj (λ_=>?_)|refine Ac (λe1=>?_)|refine Bx.go he hc h (λn s1 U hr hm hc h=>?_) (λe s1 U hc h=>?_)|refine Cx.tX (l:=[]) (hc.push []) (Nat.le_of_ble_eq_true rfl) (λown1 U hc=>?_)|refine Ae [(0,true),(1,true),(2,true),(4,true),(3,false),(5,false),(6,true),(7,false),(8,true)] [] GE ?_|refine Ae [(0,true),(1,true),(2,true),(4,true),(3,false),(5,false),(6,true),(7,false),(8,true),(9,false),(10,true)] [] GE ?_|with_reducible refine WF ?_)
 .refine Dh (λl own=>[(5,.slice 6 (l.map Ax) own)]) (λ_ _=>[]) [1,2,4] [0,1] (λl own=>(own,l)::rows) (λl=>l.length) _ hc h RK Yl ?_
  intro l s1 U own1 hc h hl hm1
  have hl2:l.length+1<=1000000000:=AC
  simp only [HE,Ml,Rd.Ah,Rd.Az,Rd.wp_seq,Rd.wp_ret,Rd.A5] at h
  clear hmu
  have hmu:=hc.mu
  by_cases hn:l=[]
  .subst hn
   rw [if_pos (show ((([]:List Nd).length:Int)==0)=true from rfl)] at h
   repeat' ((conv=>whnf);first|exact Dk|(refine AG ?_;intros)|(refine Dl ?_ ?_ ?_;rotate_left)|(refine AH ?_ ?_<;>intro e h)|(refine AJ ?_ ?_<;>intro _)|refine Hx (λ_=>?_) ?_|(refine It ?_;intro U hc)|(refine L1 ?_ ?_<;>intro U hc e h)|(refine K1 ?_;intro s1 U hz hm hc h)|refine Jv (λn s1 U hr hm hc h=>?_) (λe s1 U hc h=>?_)|(refine fp ?_;intro e s1 U hc h)|exact F5|refine Kq ?_|(refine LJ ?_;intro own1 U hc)|refine Bj (λ_=>?_)|refine Ac (λe1=>?_)|refine Lr hs hc h (λg own2 s1 U hg hm hc h=>?_) (λe s1 U hc h=>?_)|refine Bx.go he hc h (λn s1 U hr hm hc h=>?_) (λe s1 U hc h=>?_)|refine Bx.go hL.decls hc h (λn s1 U hr hm hc h=>?_) (λe s1 U hc h=>?_)|exact absurd rfl ‹_›|refine L3 hx AC ?_|refine hc.Fk So (λown1 U hc=>?_)|refine Cx.Fk (x:=Ar 30 _) hc.drop hl2 (λown1 U hc=>?_)|refine Ae [(0,true),(1,true),(2,true),(4,true),(3,false),(5,false),(6,true),(7,false),(8,true)] [] GE ?_|refine Ae [(0,true),(1,true),(2,true),(4,true),(3,false),(5,false),(6,true),(7,false),(8,true),(9,false),(10,true)] [] GE ?_|with_reducible refine WF ?_)
   all_goals conv=>whnf
  .obtain ⟨x,hx⟩:∃x,l[((0:Int)).toNat]? =some x:=by
    cases l with
    |nil=>exact absurd rfl hn
    |cons x l=>exact ⟨x,rfl⟩
   have hz:((l.length:Int)==0)=false:=beq_eq_false_iff_ne.2 λe=>hn (List.length_eq_zero_iff.1 AC)
   have hd:l.headD FR=x:=by
    cases l with
    |nil=>exact absurd rfl hn
    |cons y l=>cases hx;rfl
   rw [if_neg (by rw [hz];decide),hd] at h
   repeat' ((conv=>whnf);first|exact Dk|(refine AG ?_;intros)|(refine Dl ?_ ?_ ?_;rotate_left)|(refine AH ?_ ?_<;>intro e h)|(refine AJ ?_ ?_<;>intro _)|refine Hx (λ_=>?_) ?_|(refine It ?_;intro U hc)|(refine L1 ?_ ?_<;>intro U hc e h)|(refine K1 ?_;intro s1 U hz hm hc h)|refine Jv (λn s1 U hr hm hc h=>?_) (λe s1 U hc h=>?_)|(refine fp ?_;intro e s1 U hc h)|exact F5|refine Kq ?_|(refine LJ ?_;intro own1 U hc)|refine Bj (λ_=>?_)|refine Ac (λe1=>?_)|refine Lr hs hc h (λg own2 s1 U hg hm hc h=>?_) (λe s1 U hc h=>?_)|refine Bx.go he hc h (λn s1 U hr hm hc h=>?_) (λe s1 U hc h=>?_)|refine Bx.go hL.decls hc h (λn s1 U hr hm hc h=>?_) (λe s1 U hc h=>?_)|exact absurd rfl ‹_›|refine L3 hx AC ?_|refine hc.Fk So (λown1 U hc=>?_)|refine Cx.Fk (x:=Ar 30 _) hc.drop hl2 (λown1 U hc=>?_)|refine Ae [(0,true),(1,true),(2,true),(4,true),(3,false),(5,false),(6,true),(7,false),(8,true)] [] GE ?_|refine Ae [(0,true),(1,true),(2,true),(4,true),(3,false),(5,false),(6,true),(7,false),(8,true),(9,false),(10,true)] [] GE ?_|with_reducible refine WF ?_)
   all_goals conv=>whnf
 .refine Dh (λl own=>[(5,.slice 6 (l.map Ax) own)]) (λ_ _=>[]) [1,2,4] [0,1] (λl own=>(own,l)::rows) (λl=>l.length) .full (hc.push []) h RK Yl ?_
  intro l s1 U own1 hc h hl hm1
  have hl2:l.length+1<=1000000000:=AC
  simp only [HE,Ml,Rd.Ah,Rd.Az,Rd.wp_seq,Rd.wp_ret,Rd.A5] at h
  clear hmu
  have hmu:=hc.mu
  by_cases hn:l=[]
  .subst hn
   rw [if_pos (show ((([]:List Nd).length:Int)==0)=true from rfl)] at h
   repeat' ((conv=>whnf);first|exact Dk|(refine AG ?_;intros)|(refine Dl ?_ ?_ ?_;rotate_left)|(refine AH ?_ ?_<;>intro e h)|(refine AJ ?_ ?_<;>intro _)|refine Hx (λ_=>?_) ?_|(refine It ?_;intro U hc)|(refine L1 ?_ ?_<;>intro U hc e h)|(refine K1 ?_;intro s1 U hz hm hc h)|refine Jv (λn s1 U hr hm hc h=>?_) (λe s1 U hc h=>?_)|(refine fp ?_;intro e s1 U hc h)|exact F5|refine Kq ?_|(refine LJ ?_;intro own1 U hc)|refine Bj (λ_=>?_)|refine Ac (λe1=>?_)|refine Lr hs hc h (λg own2 s1 U hg hm hc h=>?_) (λe s1 U hc h=>?_)|refine Bx.go he hc h (λn s1 U hr hm hc h=>?_) (λe s1 U hc h=>?_)|refine Bx.go hL.decls hc h (λn s1 U hr hm hc h=>?_) (λe s1 U hc h=>?_)|exact absurd rfl ‹_›|refine L3 hx AC ?_|refine hc.Fk So (λown1 U hc=>?_)|refine Cx.Fk (x:=Ar 30 _) hc.drop hl2 (λown1 U hc=>?_)|refine Ae [(0,true),(1,true),(2,true),(4,true),(3,false),(5,false),(6,true),(7,false),(8,true)] [] GE ?_|refine Ae [(0,true),(1,true),(2,true),(4,true),(3,false),(5,false),(6,true),(7,false),(8,true),(9,false),(10,true)] [] GE ?_|with_reducible refine WF ?_)
   all_goals conv=>whnf
  .obtain ⟨x,hx⟩:∃x,l[((0:Int)).toNat]? =some x:=by
    cases l with
    |nil=>exact absurd rfl hn
    |cons x l=>exact ⟨x,rfl⟩
   have hz:((l.length:Int)==0)=false:=beq_eq_false_iff_ne.2 λe=>hn (List.length_eq_zero_iff.1 AC)
   have hd:l.headD FR=x:=by
    cases l with
    |nil=>exact absurd rfl hn
    |cons y l=>cases hx;rfl
   rw [if_neg (by rw [hz];decide),hd] at h
   repeat' ((conv=>whnf);first|exact Dk|(refine AG ?_;intros)|(refine Dl ?_ ?_ ?_;rotate_left)|(refine AH ?_ ?_<;>intro e h)|(refine AJ ?_ ?_<;>intro _)|refine Hx (λ_=>?_) ?_|(refine It ?_;intro U hc)|(refine L1 ?_ ?_<;>intro U hc e h)|(refine K1 ?_;intro s1 U hz hm hc h)|refine Jv (λn s1 U hr hm hc h=>?_) (λe s1 U hc h=>?_)|(refine fp ?_;intro e s1 U hc h)|exact F5|refine Kq ?_|(refine LJ ?_;intro own1 U hc)|refine Bj (λ_=>?_)|refine Ac (λe1=>?_)|refine Lr hs hc h (λg own2 s1 U hg hm hc h=>?_) (λe s1 U hc h=>?_)|refine Bx.go he hc h (λn s1 U hr hm hc h=>?_) (λe s1 U hc h=>?_)|refine Bx.go hL.decls hc h (λn s1 U hr hm hc h=>?_) (λe s1 U hc h=>?_)|exact absurd rfl ‹_›|refine L3 hx AC ?_|refine hc.Fk So (λown1 U hc=>?_)|refine Cx.Fk (x:=Ar 30 _) hc.drop hl2 (λown1 U hc=>?_)|refine Ae [(0,true),(1,true),(2,true),(4,true),(3,false),(5,false),(6,true),(7,false),(8,true)] [] GE ?_|refine Ae [(0,true),(1,true),(2,true),(4,true),(3,false),(5,false),(6,true),(7,false),(8,true),(9,false),(10,true)] [] GE ?_|with_reducible refine WF ?_)
   all_goals conv=>whnf
end
namespace Rd
variable {α β γ σ:Type}
theorem iM {body:σ->Rd (Sum σ β)} {P:β->Af->Prop} (h1:∀x s y s',(body x).run s=.inr (.inr y,s')->P y s') (x:σ) (s:Af):∀y s',(loop body x).run s=.inr (y,s')->P y s':=by
 show ∀y s',iter body x s=.inr (y,s')->P y s'
 fun_induction iter body x s with
 |case1 x s e h=>intro y s' U;cases U
 |case2 x s y s1 h=>intro y s' U;cases U;exact h1 _ _ _ _ h
 |case3 x s x' s1 h hlt ih=>exact ih
 |case4 x s x' s1 h hlt=>intro y s' U;cases U
end Rd
theorem bN {s:Af} (h:(HB opd U).run s=.inr (p,s')):p.2=true->U=true/\A9 s' 15 [41]=true/\2<=p.1.length:=
 Rd.iM (body:=Xh opd U) (P:=λp s'=>p.2=true->U=true/\A9 s' 15 [41]=true/\2<=p.1.length) (λl s y s' h=>by
  unfold Xh at h
  obtain ⟨l2,s2,_,h⟩:=B4 h
  obtain ⟨n,s3,_,h⟩:=B4 h
  replace h:(if Gf (Aa s3).1=true then Rd.seq EK λo=>(if U=true then Rd.look λs=>if A9 s 15 [41]=true then Rd.ret (.inr (l2++[n]++[o],true)) else Rd.ret (.inl (l2++[n]++[o])) else Rd.ret (.inl (l2++[n]++[o]))) else Rd.ret (.inr (l2++[n],false)):Rd (Sum (List Nd) (List Nd×Bool))).run s3=.inr (.inr y,s'):=h
  split at h
  .obtain ⟨o,s4,_,h⟩:=B4 h
   split at h
   .rename_i hb
    replace h:(if A9 s4 15 [41]=true then Rd.ret (.inr (l2++[n]++[o],true)) else Rd.ret (.inl (l2++[n]++[o])):Rd (Sum (List Nd) (List Nd×Bool))).run s4=.inr (.inr y,s'):=h
    split at h
    .rename_i hi;cases h;exact λ_=>⟨hb,hi,GT⟩
    .cases h
   .cases h
  .cases h;exact λe=>Bool.noConfusion (show false=true from e)) _ _ _ _ h
mutual
def Hp:Nd->List Tk
 | .mk k f t l c ks=>if k=1 then [⟨f,t,l,c⟩] else Dc ks
def Dc:List Nd->List Tk
 |[]=>[]
 |n::r=>Hp n++Dc r
end
theorem Kg:∀{a b:List Nd},Dc (a++b)=Dc a++Dc b
 |[],b=>rfl
 |n::r,b=>by rw [List.cons_append,Dc,Dc,Kg,List.append_assoc]
theorem TU (t:Tk):Hp (Av t)=[t]:=rfl
theorem TV {k:Int} (h:¬k=1):Hp (Ar k l)=Dc l:=by unfold Ar;rw [Hp,if_neg h]
theorem JR:Dc [n]=Hp n:=by rw [Dc,Dc,List.append_nil]
inductive Path:Af->List Tk->Af->Prop where
 |nil (s:Af):Path s [] s
 |cons {s:Af} {l:List Tk} {t:Af}:(Aa s).2.2=0->mu (Aa s).2.1<mu s->Path (Aa s).2.1 l t->Path s ((Aa s).1::l) t
theorem Path.trans {s t u:Af} {l m:List Tk} (h:Path s l t) (k:Path t m u):Path s (l++m) u:=by
 induction h with
 |nil s=>exact k
 |cons U h2 _ ih=>exact .cons U h2 (ih k)
theorem Path.one {s:Af} (U:(Aa s).2.2=0) (h2:mu (Aa s).2.1<mu s):Path s [(Aa s).1] (Aa s).2.1:=.cons U h2 (.nil _)
theorem Path.is {s:Af} {k:Int} (h:A9 s k x=true) (U:k≠0) (h1:k≠21):Path s [(Aa s).1] (Aa s).2.1:=.one (FK h U) (C0 h U h1)
variable {A:Af->Rs}
theorem jX (l:List Nd) (s:Af):∀q s',Gt A l s=.inr (q,s')->∃r,q=l++r:=by
 fun_induction Gt A l s with
 |case1 l s U e1 h2=>intro q s' h;cases h
 |case2 l s U p h2 h3 ih=>intro q s' h;obtain ⟨r,e⟩:=ih q s' h;exact ⟨[p.1]++r,by rw [e,List.append_assoc]⟩
 |case3 l s U p h2 h3=>intro q s' h;cases h
 |case4 l s U=>intro q s' h;cases h;exact ⟨[],(List.append_nil _).symm⟩
section
variable {st:St} {R:AL->St->Prop}
attribute [local irreducible] Go.Aw.Ag
theorem Uw {a b:List Nd}:Dm (a++b)=Dm a+Dm b:=by
 induction a with
 |nil=>simp [Dm]
 |cons x r U=>rw [List.cons_append,Dm,Dm,U];omega
end
def lH (k:Int):Nat:=if k=1 then 3 else if k=30 then 2 else 1
def OV:List Nd->Nat
 |[]=>0
 |n::r=>lH n.kind+OV r
theorem oH (k:Int):1<=lH k:=by
 unfold lH
 (repeat' split)<;>omega
theorem J5:∀{a b:List Nd},OV (a++b)=OV a+OV b
 |[],b=>by rw [List.nil_append,OV,Nat.zero_add]
 |n::r,b=>by rw [List.cons_append,OV,OV,J5];omega
theorem PV:∀{l:List Nd},l.length<=OV l
 |[]=>Nat.le_refl _
 |n::r=>by have:=PV (l:=r);have:=oH n.kind;rw [OV,List.length_cons];omega
def Hg (t:Tk):Bool:=t.kind==18||t.kind==19||t.kind==20||(t.kind==15&&(t.text==[123]||t.text==[125]||t.text==[59]))
inductive Be:List Nd->Af->Af->Prop where
 |nil (s:Af):Be [] s s
 |app {l m:List Nd} {s s1 s2:Af}:Be l s s1->Be m s1 s2->Be (l++m) s s2
 |tok {s:Af}:(Aa s).2.2=0->(Aa s).1.kind<18->(Aa s).1.kind≠0->Be [Av (Aa s).1] s (Aa s).2.1
 |skip {s:Af}:(Aa s).2.2=0->Hg (Aa s).1=true->Be [] s (Aa s).2.1
 |close {s:Af}:(Dr s).2=true->Be [] s (Dr s).1
 |node {k:Int} {l:List Nd} {s s':Af}:Be l s s'->k≠1->1+lH k<=OV l->Be [Ar k l] s s'
 |block {f:Bool} {l:List Nd} {s s':Af}:(Aa s).2.2=0->Hg (Aa s).1=true->Be l (Aa s).2.1 s'->Be [DS f l] s s'
theorem Pv {t:Tk} (h:Hg t=true):t.kind≠0/\t.kind≠21:=by
 unfold Hg at h
 simp only [Bool.or_eq_true,Bool.and_eq_true,beq_iff_eq] at h
 omega
theorem Be.size {l:List Nd} {s s':Af} (h:Be l s s'):Dm l+OV l+4*mu s'<=4*mu s:=by
 induction h with
 |nil s=>simp only [Dm,OV];omega
 |app _ _ U h2=>rw [Uw,J5];omega
 |tok U h2 h3=>
  rename_i s
  have:=(CK U).2 AC
  have e:Dm [Av (Aa s).1]+OV [Av (Aa s).1]=4:=rfl
  omega
 |skip U h2=>have:=(CK U).1;simp only [Dm,OV];omega
 |close U=>have:=K8 U;simp only [Dm,OV];omega
 |node U h2 h3 ih=>
  rename_i k l s s'
  have e:Dm [Ar k l]+OV [Ar k l]=(1+Dm l+0)+(lH k+0):=by simp only [Ar,Dm,Nd.size,OV];rfl
  omega
 |block U h2 h3 ih=>
  rename_i f l s s'
  have:=(CK U).2 (Pv h2).2
  have e:Dm [DS f l]+OV [DS f l]=(1+Dm l+0)+(1+0):=by simp only [DS,Dm,Nd.size,OV];rfl
  omega
theorem Be.p4 {s:Af} (h:Be [n] s s'):n.size+4*mu s'<=4*mu s:=by
 have:=h.size
 simp only [Dm] at this
 omega
theorem Be.two {k:Int} {s:Af} (h:Be l s s') (hk:k≠1) (U:k≠30) (hl:2<=l.length):Be [Ar k l] s s':=
 .node h hk (by have:=PV (l:=l);unfold lH;rw [if_neg hk,if_neg U];omega)
theorem Be.is {s:Af} {k:Int} (h:A9 s k x=true) (U:k≠0) (h1:k<18):Be [Av (Aa s).1] s (Aa s).2.1:=by
 have e:(Aa s).1.kind=k:=by
  unfold A9 at h
  simp only [Bool.and_eq_true,beq_iff_eq] at h
  exact h.1
 exact .tok (FK h U) AC AC
theorem Be.cons {s s1 s2:Af} (h:Be [n] s s1) (k:Be l s1 s2):Be (n::l) s s2:=.app h k
theorem Be.snoc {s s1 s2:Af} (h:Be l s s1) (k:Be [n] s1 s2):Be (l++[n]) s s2:=.app h k
theorem Be.one {k:Int} {s:Af} (h:Be l s s') (hk:k≠1) (U:k≠30) (hl:1<=l.length):Be [IJ k l] s s':=by
 unfold IJ
 split
 .match l,‹l.length=1› with
  |[x],_=>exact h
 .exact h.two hk U AC
def DN (A:Af->Rs):Prop:=∀s n s',A s=.inr (n,s')->Be [n] s s'
variable {A:Af->Rs}
theorem eF {t:Tk} (h:Cm t=true):t.kind≠0/\t.kind<18:=by
 unfold Cm at h
 simp only [Bool.or_eq_true,Bool.and_eq_true,beq_iff_eq] at h
 omega
theorem TB {s:Af} (hs:Cm (Aa s).1=true) (h:Cs s=.inr (n,s')):Be [n] s s':=by
 have U:=eF hs
 unfold Cs at h
 split at h
 .rename_i e;cases h;exact .tok e U.2 U.1
 .cases h
theorem mv {s:Af} {k:Int} (U:k≠0) (h1:k<18) (h:De s k x=.inr (n,s')):Be [n] s s':=by
 unfold De at h
 split at h
 .rename_i e
  rw [DE e U] at h
  cases h
  exact .is e U h1
 .cases h
theorem Qy {s:Af} {k:Int} {s0:Af} (hk:k≠1) (U:k≠30) (hl:1<=l.length) (h0:Be l s0 s) (h:En k l s x=.inr (n,s')):Be [n] s0 s':=by
 unfold En at h
 split at h
 .cases h
 .rename_i p hp
  cases h
  exact (h0.snoc (mv Do Do hp)).two hk U Pi
theorem mr (hA:DN A) (l:List Nd) (s:Af):∀s0 q s',Be l s0 s->Gt A l s=.inr (q,s')->Be q s0 s':=by
 fun_induction Gt A l s with
 |case1 l s h1 e1 h2=>intro s0 q s' U h;cases h
 |case2 l s h1 p h2 h3 ih=>intro s0 q s' U h;exact ih s0 q s' (U.snoc (hA s p.1 p.2 h2)) h
 |case3 l s h1 p h2 h3=>intro s0 q s' U h;cases h
 |case4 l s h1=>intro s0 q s' U h;cases h;exact U
theorem Ys (hA:DN A):DN (A1 A):=λs n s' h=>by
 unfold A1 at h
 split at h
 .cases h
 .rename_i p hp
  have h1:=hA s p.1 p.2 hp
  split at h
  .cases h
  .rename_i q hq
   have h2:=mr hA _ _ _ _ _ h1 hq
   obtain ⟨r,U⟩:=jX _ _ _ _ hq
   split at h
   .rename_i hl
    cases h
    have:r=[]:=by
     rw [U,List.length_append,List.length_singleton] at hl
     exact List.eq_nil_iff_length_eq_zero.2 AC
    rw [this,List.append_nil] at U
    rw [U] at h2;exact h2
   .rename_i hl
    cases h
    exact h2.two Do Do (by rw [U,List.length_append,List.length_singleton] at *;omega)
theorem mo (hA:DN A) (l:List Nd) (s:Af):∀s0 q s',Be l s0 s->F2 A l s=.inr (q,s')->Be q s0 s'/\∃r,q=l++r:=by
 fun_induction F2 A l s with
 |case1 l s h1 e1 h2=>intro s0 q s' U h;cases h
 |case2 l s h1 p h2 h3 ih=>
  intro s0 q s' U h
  obtain ⟨k1,r,k2⟩:=ih s0 q s' (.app U (.cons (.is h1 Do Do) (Ys hA _ p.1 p.2 h2))) h
  exact ⟨k1,_,by rw [k2,List.append_assoc]⟩
 |case3 l s h1 p h2 h3=>intro s0 q s' U h;cases h
 |case4 l s h1=>intro s0 q s' U h;cases h;exact ⟨U,[],(List.append_nil _).symm⟩
theorem Ss (hA:DN A) {n':Nd} {s0 s:Af} (h0:Be [n] s0 s) (h:Cb A n s=.inr (n',s')):Be [n'] s0 s':=by
 unfold Cb at h
 split at h
 .cases h
 .rename_i q hq
  obtain ⟨k1,r,U⟩:=mo hA _ _ _ _ _ h0 hq
  split at h
  .rename_i hl
   cases h
   have:r=[]:=by
    rw [U,List.length_append,List.length_singleton] at hl
    exact List.eq_nil_iff_length_eq_zero.2 AC
   rw [this,List.append_nil] at U
   rw [U] at k1;exact k1
  .rename_i hl
   cases h
   exact k1.two Do Do (by rw [U,List.length_append,List.length_singleton] at *;omega)
theorem Va (U:DN A):DN (DI A):=λs n s' h=>by
 unfold DI at h
 split at h
 .cases h
 .rename_i p hp
  exact Ss U (Ys U _ p.1 p.2 hp) h
theorem mq (U:DN A):DN (EA A):=λs n s' h=>by
 unfold EA at h
 split at h
 .cases h
 .rename_i p hp
  have h1:=Ys U _ p.1 p.2 hp
  split at h
  .rename_i hi
   split at h
   .cases h
   .rename_i q hq
    cases h
    exact (h1.cons (.cons (.is hi Do Do) (Va U _ q.1 q.2 hq))).two Do Do (Nat.le_of_ble_eq_true rfl)
  .exact Ss U h1 h
theorem cR (hA:DN A) (l:List Nd) (s:Af):∀s0 q s',Be l s0 s->1<=l.length->Cw A l s=.inr (q,s')->Be q s0 s'/\1<=q.length:=by
 fun_induction Cw A l s with
 |case1 l s h1 e1 h2=>intro s0 q s' U hl h;cases h
 |case2 l s h1 p h2 h3 ih=>
  intro s0 q s' U hl h
  exact ih s0 q s' (.app U (.cons (.is h1 Do Do) (hA _ p.1 p.2 h2))) Nm h
 |case3 l s h1 p h2 h3=>intro s0 q s' U hl h;cases h
 |case4 l s h1=>intro s0 q s' U hl h;cases h;exact ⟨U,hl⟩
theorem gx (l:List Nd) (s:Af):∀s0,Be l s0 s->1<=l.length->Be (Ck l s).1 s0 (Ck l s).2/\1<=(Ck l s).1.length:=by
 fun_induction Ck l s with
 |case1 l s h1 h2 ih=>intro s0 U hl;exact ih s0 (U.snoc (.is h1 Do Do)) Nm
 |case2 l s h1 h2=>intro s0 U hl;exact ⟨U,hl⟩
 |case3 l s h1=>intro s0 U hl;exact ⟨U,hl⟩
theorem gy (hA:DN A) {s:Af} (hs:Cm (Aa s).1=true) (h:He A s=.inr (n,s')):Be [n] s s':=by
 unfold He at h
 split at h
 .cases h
 .rename_i p hp
  have U:=TB hs (n:=p.1) (s':=p.2) hp
  split at h
  .rename_i hi
   exact Qy Do Do (Nat.le_of_ble_eq_true rfl) (U.cons (.is hi Do Do)) h
  split at h
  .exact Qy Do Do (Nat.le_of_ble_eq_true rfl) U h
  split at h
  .obtain ⟨k1,k2⟩:=gx [p.1] p.2 s U (Nat.le_of_ble_eq_true rfl)
   exact Qy Do Do k2 k1 h
  split at h
  .cases h
  .rename_i q hq
   have h2:=hA _ q.1 q.2 hq
   split at h
   .cases h
   .rename_i r hr
    obtain ⟨k1,k2⟩:=cR hA _ _ _ _ _ (U.cons h2) (Nat.le_of_ble_eq_true rfl) hr
    exact Qy (by split<;>decide) (by split<;>decide) k2 k1 h
theorem cQ (hA:DN A) {s:Af} (hs:Cm (Aa s).1=true) (h:FG A s=.inr (n,s')):Be [n] s s':=by
 unfold FG at h
 split at h
 .cases h
 .rename_i p hp
  have U:=TB hs (n:=p.1) (s':=p.2) hp
  split at h
  .rename_i hi
   cases h
   exact (U.cons (.is hi Do Do)).two Do Do (Nat.le_of_ble_eq_true rfl)
  split at h
  .cases h
  .rename_i q hq
   exact Qy Do Do (Nat.le_of_ble_eq_true rfl) (U.cons (hA _ q.1 q.2 hq)) h
theorem Z7 (hA:DN A):DN (Cp A):=λs n s' h=>by
 unfold Cp at h
 split at h
 .rename_i U
  split at h
  .split at h
   .exact gy hA U h
   .exact cQ hA U h
  .exact TB U h
 .cases h
theorem Z8:∀d,DN (DL d)
 |0=>λs n s' h=>by cases h
 |d+1=>Va (Z7 (Z8 d))
namespace Rd
variable {α β γ σ:Type}
def Ap (a b:Rd α):Prop:=∀s,(∃e t,a.run s=.inl (e,t)/\e.1=2)\/b.run s=a.run s
theorem Ap.jJ {a:Rd α}:Ap a a:=λ_=>.inr rfl
theorem Ap.trans {a b c:Rd α} (h:Ap a b) (k:Ap b c):Ap a c:=λs=>by
 rcases h s with h|h
 .exact .inl h
 .rcases k s with ⟨e,t,k,U⟩|k
  .exact .inl ⟨e,t,h ▸ k,U⟩
  .exact .inr (k.trans h)
theorem Ap.seq {m m':Rd α} {k U:α->Rd β} (h:Ap m m') (hk:∀v,Ap (k v) (U v)):Ap (seq m k) (seq m' U):=λs=>by
 unfold Rd.seq
 dsimp only
 rcases h s with ⟨e,t,h,he⟩|h
 .left;rw [h];exact ⟨e,t,rfl,he⟩
 .rw [h]
  cases m.run s with
  |inl e=>exact .inr rfl
  |inr p=>exact hk p.1 p.2
theorem Ap.look {f U:Af->Rd α} (h:∀s,Ap (f s) (U s)):Ap (look f) (look U):=λs=>h s s
theorem Ap.ite {c:Prop} [Decidable c] {a b U b':Rd α} (h1:Ap a U) (h2:Ap b b'):Ap (if c then a else b) (if c then U else b'):=by split<;>assumption
theorem Ap.deep {b:Rd α}:Ap (fail E9) b:=λs=>.inl ⟨E9,s,rfl,rfl⟩
theorem Ap.loop {body U:σ->Rd (Sum σ β)} (h:∀x,Ap (body x) (U x)) (x:σ):Ap (loop body x) (loop U x):=λs=>by
 show (∃e t,iter body x s=.inl (e,t)/\e.1=2)\/iter U x s=iter body x s
 fun_induction iter body x s with
 |case1 x s e h1=>
  rcases h x s with ⟨e',t,h2,he⟩|h2
  .rw [h1] at h2;cases h2;exact .inl ⟨_,_,rfl,he⟩
  .right;rw [iter,h2,h1]
 |case2 x s y s1 h1=>
  rcases h x s with ⟨e',t,h2,he⟩|h2
  .rw [h1] at h2;cases h2
  .right;rw [iter,h2,h1]
 |case3 x s x' s1 h1 hlt ih=>
  rcases h x s with ⟨e',t,h2,he⟩|h2
  .rw [h1] at h2;cases h2
  .have e:iter U x s=iter U x' s1:=by
    rw [iter,h2,h1];dsimp only;rw [if_pos hlt]
   rw [e];exact ih
 |case4 x s x' s1 h1 hlt=>exact .inl ⟨_,_,rfl,rfl⟩
end Rd
open Rd (Ap)
structure uB (L L':C8):Prop where
 atom:Ap L.atom L'.atom
 exp:Ap L.exp L'.exp
 ops:Ap L.ops L'.ops
 decls:Ap L.decls L'.decls
 stmts:Ap L.stmts L'.stmts
 alts:Ap L.alts L'.alts
 DT:∀o,Ap (L.DT o) (L'.DT o)
 list:∀o,Ap (L.list o) (L'.list o)
def F4:Er->Af->Prop:=λ_ _=>True
def Dv (A:Rd Nd):Prop:=∀s,Rd.wp A s (λn s'=>Be [n] s s') F4
theorem Dv.at {A:Rd Nd} (h:Dv A) {s s':Af} {n:Nd} (e:A.run s=.inr (n,s')):Be [n] s s':=by
 have:=h s
 unfold Rd.wp at this
 rw [e] at this;exact this
theorem Dv.of {A:Rd Nd} (h:∀s n s',A.run s=.inr (n,s')->Be [n] s s'):Dv A:=λs=>Rd.O3 (λn s' e=>h s n s' e) (λ_ _ _=>trivial)
theorem Dv.size {A:Rd Nd} (h:Dv A) {s s':Af} {n:Nd} (e:A.run s=.inr (n,s')):n.size+4*mu s'<=4*mu s:=(h.at e).p4
theorem BL {c:Prop} [Decidable c] {Q:Prop} (U:c->P) (h2:¬c->Q):if c then P else Q:=by
 split
 .exact U ‹_›
 .exact h2 ‹_›
structure Real (s:Af):Prop where
 ok:(Aa s).2.2=0
 lt:(Aa s).1.kind<18
 ne:(Aa s).1.kind≠0
section
variable {A B C:Rd Nd} {s s0 s1 s2 s':Af} {Q:Nd->Af->Prop} {L:C8}
theorem BJ {k:Int} (h:A9 s k x=true) (U:k≠0) (h1:k<18):Real s:=by
 have e:(Aa s).1.kind=k:=by
  unfold A9 at h
  simp only [Bool.and_eq_true,beq_iff_eq] at h
  exact h.1
 exact ⟨FK h U,AC,AC⟩
theorem Nn (h:(Aa s).1.kind≠0) (U:(Aa s).1.kind<18):Real s:=⟨EY h,U,h⟩
theorem Ee {k:Int} (h:((Aa s).1.kind==k)=true) (U:k≠0) (h1:k<18):Real s:=by
 rw [beq_iff_eq] at h;exact Nn AC AC
theorem E2 (h:Df (Aa s).1=true):Real s:=by
 unfold Df at h
 simp only [Bool.or_eq_true,Bool.and_eq_true,beq_iff_eq] at h
 exact Nn AC AC
theorem E4 (h:H0 (Aa s).1=true):Real s:=by
 unfold H0 at h
 simp only [Bool.or_eq_true,Bool.and_eq_true,beq_iff_eq] at h
 exact Nn AC AC
theorem E3 (h:FJ (Aa s).1=true):Real s:=by
 unfold FJ at h
 simp only [Bool.or_eq_true,Bool.and_eq_true,beq_iff_eq] at h
 exact Nn AC AC
theorem Sz {t:Tk} (h:F0 t=true):Hg t=true:=by
 unfold F0 at h
 unfold Hg
 simp only [Bool.or_eq_true,Bool.and_eq_true,beq_iff_eq] at h |-
 rcases h with h|h
 .exact .inl (.inl (.inr h))
 .exact .inr ⟨h.1,.inr h.2⟩
theorem IM (U:Dv A) (k:∀n s1,Be [n] s s1->Q n s1):Rd.wp A s Q F4:=Rd.wp_mono (U s) (λn s1 _ h=>k n s1 h) (λ_ _ _ _=>trivial)
theorem CV (U:Real s) (k:Be [Av (Aa s).1] s (Aa s).2.1->Q (Av (Aa s).1) (Aa s).2.1):Rd.wp A0 s Q F4:=by
 unfold Rd.wp
 rw [CU U.ok]
 exact k (.tok U.ok U.lt U.ne)
theorem RV {k:Int} (U:k≠0) (h1:k<18) (kk:∀n s1,Be [n] s s1->Q n s1):Rd.wp (BU k x) s Q F4:=by
 unfold BU
 rw [Rd.Ah,Rd.Az]
 exact BL (λe=>CV (BJ e U h1) (kk _ _)) (λ_=>trivial)
theorem cS {ks:List Int} (U:(ks.all λk=>decide (k≠0)&&decide (k<18))=true) (kk:∀n s1,Be [n] s s1->Q n s1):Rd.wp (HK ks) s Q F4:=by
 unfold HK
 rw [Rd.Ah,Rd.Az]
 refine BL (λe=>?_) (λ_=>trivial)
 have:=List.all_eq_true.1 U _ (List.contains_iff_mem.1 e)
 simp only [Bool.and_eq_true,decide_eq_true_eq] at this
 exact CV (Nn this.1 this.2) (kk _ _)
theorem tS {Q:Unit->Af->Prop} (hi:Hg (Aa s).1=true) (k:Be [] s (Aa s).2.1->Q () (Aa s).2.1):Rd.wp Hh s Q F4:=by
 have e:=EY (Pv hi).1
 unfold Hh
 rw [Rd.wp_seq]
 unfold Rd.wp
 rw [CU e]
 exact k (.skip e hi)
theorem FH {body:σ->Rd (Sum σ β)} {P:σ->Af->Prop} {Q:β->Af->Prop} (hb:∀x s,P x s->Rd.wp (body x) s (λr s'=>match r with| .inl x'=>P x' s'| .inr y=>Q y s') F4) {x:σ} {s:Af} (h0:P x s):Rd.wp (Rd.loop body x) s Q F4:=by
 have:∀y s',(Rd.loop body x).run s=.inr (y,s')->Q y s':=by
  show ∀y s',Rd.iter body x s=.inr (y,s')->Q y s'
  fun_induction Rd.iter body x s with
  |case1 x s e h=>intro y s' U;cases U
  |case2 x s y s1 h=>
   intro y' s' U;cases U
   have:=hb x s h0
   unfold Rd.wp at this
   rw [h] at this;exact this
  |case3 x s x' s1 h hlt ih=>
   have:=hb x s h0
   unfold Rd.wp at this
   rw [h] at this
   exact ih this
  |case4 x s x' s1 h hlt=>intro y s' U;cases U
 exact Rd.O3 this (λ_ _ _=>trivial)
theorem Be.ix {k:Int} {t:Tk} (h:Be [Av t] s s') (hk:k≠1) (U:k≠30):Be [Ar k [Av t]] s s':=.node h hk (by
 have:OV [Av t]=3:=rfl
 unfold lH;rw [if_neg hk,if_neg U,this];decide)
theorem Be.gd (h:Be l s s') (U:3<=l.length):Be [Ar 30 l] s s':=.node h Do (by have:=PV (l:=l);have:lH 30=2:=rfl;omega)
theorem Be.IU {m:Nd} (h:Be [n] s s1) (k:Be (m::l) s1 s2):Be (n::m::l) s s2:=.app h k
theorem Be.pass (h:Be l s s1) (k:Be [] s1 s2):Be l s s2:=by
 have:=Be.app h k
 rwa [List.append_nil] at this
theorem Be.pre (h:Be [] s s1) (k:Be l s1 s2):Be l s s2:=Be.app h k
theorem Cn {l:List α} {a b:α}:2<=(l++[a]++[b]).length:=by simp only [List.length_append,List.length_singleton];omega
structure LD (L:C8):Prop where
 atom:Dv L.atom
 exp:Dv L.exp
 ops:Dv L.ops
 decls:Dv L.decls
 stmts:Dv L.stmts
 alts:Dv L.alts
 DT:∀o s,Rd.wp (L.DT o) s (λn s'=>∀s0,Be [o] s0 s->Be [n] s0 s') F4
 list:∀o s,Rd.wp (L.list o) s (λn s'=>∀s0,Be [o] s0 s->Be [n] s0 s') F4
theorem uE {B:Nd->Rd Nd} (hB:∀o s,Rd.wp (B o) s (λn s'=>∀s0,Be [o] s0 s->Be [n] s0 s') F4) (U:Be [o] s0 s) (k:∀n s1,Be [n] s0 s1->Q n s1):Rd.wp (B o) s Q F4:=
 Rd.wp_mono (hB o s) (λn s1 _ h=>k n s1 (h s0 U)) (λ_ _ _ _=>trivial)
theorem TD:Dv EK:=λs=>by
 simp only [EK,Rd.Ah,Rd.Az,Rd.wp_seq,Rd.wp_ret]
 repeat' (first
  |exact trivial
  |assumption
  |refine BL (λe=>?_) (λe=>?_)
  |refine CV (BJ ‹_› Do Do) (λhn=>?_)
  |refine CV (Ee ‹_› Do Do) (λhn=>?_)
  |refine CV (E2 ‹_›) (λhn=>?_)
  |refine CV (E4 ‹_›) (λhn=>?_)
  |refine CV (E3 ‹_›) (λhn=>?_)
  |refine CV ‹_› (λhn=>?_)
  |refine RV Do Do (λn s1 hn=>?_)
  |refine cS Do (λn s1 hn=>?_)
  |refine IM ‹_› (λn s1 hn=>?_)
  |exact Be.ix ‹_› Do Do
  |refine Be.two ?_ Do Do (by first|exact Nat.le_of_ble_eq_true rfl|exact Cn|(simp only [List.length_append,List.length_cons,List.length_nil];omega))
  |apply Be.IU
  |apply Be.app)
theorem NV {p:Nd->Bool} (U:Dv A):Dv (CA A p):=λs=>by
 simp only [CA,Rd.Ah,Rd.Az,Rd.wp_seq,Rd.wp_ret,Rd.GO]
 repeat' (first
  |exact trivial
  |assumption
  |refine BL (λe=>?_) (λe=>?_)
  |refine CV (BJ ‹_› Do Do) (λhn=>?_)
  |refine CV (Ee ‹_› Do Do) (λhn=>?_)
  |refine CV (E2 ‹_›) (λhn=>?_)
  |refine CV (E4 ‹_›) (λhn=>?_)
  |refine CV (E3 ‹_›) (λhn=>?_)
  |refine CV ‹_› (λhn=>?_)
  |refine RV Do Do (λn s1 hn=>?_)
  |refine cS Do (λn s1 hn=>?_)
  |refine IM ‹_› (λn s1 hn=>?_)
  |refine Be.two ?_ Do Do (by first|exact Nat.le_of_ble_eq_true rfl|exact Cn|(simp only [List.length_append,List.length_cons,List.length_nil];omega))
  |apply Be.IU
  |apply Be.app)
theorem gB {Q:List Nd->Af->Prop} (U:Be l s0 s) (k:∀l s1,Be l s0 s1->Q l s1):Rd.wp (T4 l) s Q F4:=by
 refine FH (P:=λl s=>Be l s0 s) (λl s U=>?_) U
 simp only [T3,Rd.Ah,Rd.Az,Rd.wp_seq,Rd.wp_ret]
 repeat' (first
  |exact trivial
  |assumption
  |refine BL (λe=>?_) (λe=>?_)
  |refine CV (BJ ‹_› Do Do) (λhn=>?_)
  |refine CV (Ee ‹_› Do Do) (λhn=>?_)
  |refine CV (E2 ‹_›) (λhn=>?_)
  |refine CV (E4 ‹_›) (λhn=>?_)
  |refine CV (E3 ‹_›) (λhn=>?_)
  |refine CV ‹_› (λhn=>?_)
  |refine RV Do Do (λn s1 hn=>?_)
  |refine cS Do (λn s1 hn=>?_)
  |refine IM ‹_› (λn s1 hn=>?_)
  |exact Be.snoc U (Be.ix ‹_› Do Do)
  |exact k _ _ U
  |refine Be.two ?_ Do Do (by first|exact Nat.le_of_ble_eq_true rfl|exact Cn|(simp only [List.length_append,List.length_cons,List.length_nil];omega))
  |apply Be.IU
  |apply Be.app)
theorem gE {b:Bool} {Q:List Nd×Bool->Af->Prop} (hA:Dv A) (k:∀l b s1,1<=l.length->(b=true->2<=l.length/\A9 s1 15 [41]=true)->Be l s s1->Q (l,b) s1):Rd.wp (HB A b) s Q F4:=by
 refine FH (P:=λl s1=>Be l s s1) (λl s1 h0=>?_) (Be.nil s)
 simp only [Xh,Rd.Ah,Rd.Az,Rd.wp_seq,Rd.wp_ret]
 refine gB h0 (λl s1 h0=>?_)
 have ho:=TD
 refine IM hA (λn s2 hn=>?_)
 refine BL (λe=>?_) (λe=>k _ _ _ Pi (λh=>by cases h) (h0.snoc hn))
 refine IM ho (λo s3 U=>?_)
 exact BL (λ_=>BL (λe=>k _ _ _ (Nat.le_trans Do Cn) (λ_=>⟨Cn,e⟩) ((h0.snoc hn).snoc U)) λe=>(h0.snoc hn).snoc U) λe=>(h0.snoc hn).snoc U
theorem Md (hA:Dv A):Dv (N6 A):=λs=>by
 simp only [N6,Rd.wp_seq,Rd.wp_ret]
 exact gE hA λl b s1 U _ h=>h.one Do Do U
theorem Ve (hA:Dv A) (U:Be [n] s0 s) (k:∀n s1,Be [n] s0 s1->Q n s1):Rd.wp (IL A n) s Q F4:=by
 simp only [IL,Rd.Ah,Rd.Az,Rd.wp_seq,Rd.wp_ret]
 repeat' (first
  |exact trivial
  |assumption
  |refine BL (λe=>?_) (λe=>?_)
  |refine CV (BJ ‹_› Do Do) (λhn=>?_)
  |refine CV (Ee ‹_› Do Do) (λhn=>?_)
  |refine CV (E2 ‹_›) (λhn=>?_)
  |refine CV (E4 ‹_›) (λhn=>?_)
  |refine CV (E3 ‹_›) (λhn=>?_)
  |refine CV ‹_› (λhn=>?_)
  |refine RV Do Do (λn s1 hn=>?_)
  |refine cS Do (λn s1 hn=>?_)
  |refine IM ‹_› (λn s1 hn=>?_)
  |refine k _ _ ?_
  |refine Be.two ?_ Do Do (by first|exact Nat.le_of_ble_eq_true rfl|exact Cn|(simp only [List.length_append,List.length_cons,List.length_nil];omega))
  |apply Be.IU
  |apply Be.app)
theorem qu (U:Dv A) (hB:Dv B):Dv (Yx A B):=λs=>by
 simp only [Yx,Rd.wp_seq]
 exact IM (Md U) λn s1 h=>Ve hB h λn s1 h=>h
theorem QD {a b:Nd} (hL:LD L) (U:Be [a,b] s0 s) (k:∀n s1,Be [n] s0 s1->Q n s1):Rd.wp (HL L a b) s Q F4:=by
 have h1:=hL.exp
 simp only [HL,Rd.wp_seq,Rd.wp_ret]
 repeat' (first
  |exact trivial
  |assumption
  |refine BL (λe=>?_) (λe=>?_)
  |refine CV (BJ ‹_› Do Do) (λhn=>?_)
  |refine CV (Ee ‹_› Do Do) (λhn=>?_)
  |refine CV (E2 ‹_›) (λhn=>?_)
  |refine CV (E4 ‹_›) (λhn=>?_)
  |refine CV (E3 ‹_›) (λhn=>?_)
  |refine CV ‹_› (λhn=>?_)
  |refine RV Do Do (λn s1 hn=>?_)
  |refine cS Do (λn s1 hn=>?_)
  |refine IM ‹_› (λn s1 hn=>?_)
  |exact k _ _ (Be.two (l:=[a,b,_,_]) (Be.app U (Be.IU ‹_› ‹_›)) Do Do (Nat.le_of_ble_eq_true rfl))
  |refine Be.two ?_ Do Do (by first|exact Nat.le_of_ble_eq_true rfl|exact Cn|(simp only [List.length_append,List.length_cons,List.length_nil];omega))
  |apply Be.IU
  |apply Be.app)
theorem cV (hL:LD L) (hA:Dv A) (hr:Real s) (k:∀n s1,Be [n] s s1->Q n s1):Rd.wp (JP L A) s Q F4:=by
 have h1:=hL.exp
 simp only [JP,Rd.wp_seq]
 refine CV hr λU=>?_
 refine FH (P:=λl s1=>Be l s s1) (λl s1 U=>?_) U
 .have h2:=NV (p:=G4) hA
  simp only [Lh,JQ,Rd.Ah,Rd.Az,Rd.wp_seq,Rd.wp_ret]
  repeat' (first
   |exact trivial
   |assumption
   |refine BL (λe=>?_) (λe=>?_)
   |refine CV (BJ ‹_› Do Do) (λhn=>?_)
   |refine CV (Ee ‹_› Do Do) (λhn=>?_)
   |refine CV (E2 ‹_›) (λhn=>?_)
   |refine CV (E4 ‹_›) (λhn=>?_)
   |refine CV (E3 ‹_›) (λhn=>?_)
   |refine CV ‹_› (λhn=>?_)
   |refine RV Do Do (λn s1 hn=>?_)
   |refine cS Do (λn s1 hn=>?_)
   |refine IM ‹_› (λn s1 hn=>?_)
   |exact k _ _ (Be.two (Be.snoc (Be.snoc U ‹_›) ‹_›) Do Do Cn)
   |refine Be.two ?_ Do Do (by first|exact Nat.le_of_ble_eq_true rfl|exact Cn|(simp only [List.length_append,List.length_cons,List.length_nil];omega))
   |apply Be.IU
   |apply Be.app)
theorem mB {Q:Unit->Af->Prop} (k:∀s1,Be [] s s1->Q () s1):Rd.wp (OU w) s Q F4:=by
 simp only [OU,Rd.Ah,Rd.Az,Rd.wp_ret]
 exact BL (λe=>BL (λ_=>tS (Sz e) (k _)) λ_=>k _ (.nil _)) λ_=>k _ (.nil _)
theorem af {Q:List Nd->Af->Prop} (hL:LD L) (U:Be l s0 s) (k:∀a e s1,Be (l++[a]++[e]) s0 s1->Q (l++[a]++[e]) s1):Rd.wp (Nh L l w) s Q F4:=by
 have h1:=hL.exp
 simp only [Nh,Rd.wp_seq,Rd.wp_ret]
 refine mB λs1 hs=>?_
 have U:=U.pass hs
 repeat' (first
  |exact trivial
  |assumption
  |refine BL (λe=>?_) (λe=>?_)
  |refine CV (BJ ‹_› Do Do) (λhn=>?_)
  |refine CV (Ee ‹_› Do Do) (λhn=>?_)
  |refine CV (E2 ‹_›) (λhn=>?_)
  |refine CV (E4 ‹_›) (λhn=>?_)
  |refine CV (E3 ‹_›) (λhn=>?_)
  |refine CV ‹_› (λhn=>?_)
  |refine RV Do Do (λn s1 hn=>?_)
  |refine cS Do (λn s1 hn=>?_)
  |refine IM ‹_› (λn s1 hn=>?_)
  |refine k _ _ _ ?_
  |refine Be.two ?_ Do Do (by first|exact Nat.le_of_ble_eq_true rfl|exact Cn|(simp only [List.length_append,List.length_cons,List.length_nil];omega))
  |apply Be.IU
  |apply Be.app)
theorem cT (U:LD L) (hr:Real s) (k:∀n s1,Be [n] s s1->Q n s1):Rd.wp (JC L) s Q F4:=by
 have h1:=U.exp
 simp only [JC,Rd.wp_seq,Rd.wp_ret]
 refine CV hr λh0=>?_
 refine IM h1 λc s1 hc=>?_
 exact af U (h0.cons hc) λa e s2 h2=>af U h2 λa e s3 h3=>k _ _ (h3.two Do Do Cn)
theorem my (U:LD L) (hr:Real s) (k:∀n s1,Be [n] s s1->Q n s1):Rd.wp (Sj L) s Q F4:=by
 have h1:=U.exp
 have h2:=U.alts
 simp only [Sj,Rd.wp_seq,Rd.wp_ret]
 refine CV hr λh0=>?_
 repeat' (first
  |exact trivial
  |assumption
  |refine BL (λe=>?_) (λe=>?_)
  |refine CV (BJ ‹_› Do Do) (λhn=>?_)
  |refine CV (Ee ‹_› Do Do) (λhn=>?_)
  |refine CV (E2 ‹_›) (λhn=>?_)
  |refine CV (E4 ‹_›) (λhn=>?_)
  |refine CV (E3 ‹_›) (λhn=>?_)
  |refine CV ‹_› (λhn=>?_)
  |refine RV Do Do (λn s1 hn=>?_)
  |refine cS Do (λn s1 hn=>?_)
  |refine IM ‹_› (λn s1 hn=>?_)
  |refine k _ _ ?_
  |refine Be.two ?_ Do Do (by first|exact Nat.le_of_ble_eq_true rfl|exact Cn|(simp only [List.length_append,List.length_cons,List.length_nil];omega))
  |apply Be.IU
  |apply Be.app)
theorem gH (U:LD L) (hr:Real s) (k:∀n s1,Be [n] s s1->Q n s1):Rd.wp (Mw L) s Q F4:=by
 have h1:=U.stmts
 simp only [Mw,Rd.wp_seq,Rd.wp_ret,Rd.Az,Rd.BK]
 refine CV hr λh0=>?_
 repeat' (first
  |exact trivial
  |assumption
  |refine BL (λe=>?_) (λe=>?_)
  |refine CV (BJ ‹_› Do Do) (λhn=>?_)
  |refine CV (Ee ‹_› Do Do) (λhn=>?_)
  |refine CV (E2 ‹_›) (λhn=>?_)
  |refine CV (E4 ‹_›) (λhn=>?_)
  |refine CV (E3 ‹_›) (λhn=>?_)
  |refine CV ‹_› (λhn=>?_)
  |refine RV Do Do (λn s1 hn=>?_)
  |refine cS Do (λn s1 hn=>?_)
  |refine IM ‹_› (λn s1 hn=>?_)
  |refine k _ _ ?_
  |refine Be.two ?_ Do Do (by first|exact Nat.le_of_ble_eq_true rfl|exact Cn|(simp only [List.length_append,List.length_cons,List.length_nil];omega))
  |apply Be.IU
  |apply Be.app)
theorem qv (U:LD L) (hr:Real s) (k:∀n s1,Be [n] s s1->Q n s1):Rd.wp (dq L) s Q F4:=by
 have h1:=U.decls
 simp only [dq,Rd.wp_seq]
 refine CV hr λh0=>?_
 exact IM h1 λb s1 hb=>QD U (h0.cons hb) k
theorem gz (hA:Dv A) (k:∀n s1,Be [n] s s1->Q n s1):Rd.wp (L5 A) s Q F4:=by
 simp only [L5,Rd.wp_seq,Rd.wp_ret]
 refine IM hA λn s1 hn=>?_
 refine FH (P:=λl s1=>Be l s s1/\1<=l.length) (λl s1 U=>?_) ⟨hn,Nat.le_refl _⟩
 obtain ⟨U,hl⟩:=U
 simp only [L4,Rd.Ah,Rd.Az,Rd.wp_seq,Rd.wp_ret]
 exact BL (λ_=>IM hA λn s1 hn=>⟨U.snoc hn,Nm⟩) λ_=>k _ _ (U.one Do Do hl)
theorem Yt (hL:LD L) (hA:Dv A):Dv (HR L A):=λs=>by
 simp only [HR,Rd.Ah,Rd.Az]
 have U:=gz (s:=s) (Q:=λn s'=>Be [n] s s') hA λ_ _ h=>h
 refine BL (λe=>BL (λ_=>cV hL hA (Ee e Do Do) λ_ _ h=>h) λ_=>U) λ_=>BL (λe=>?_) λ_=>U
 have hr:=Ee e Do Do
 exact BL (λ_=>qv hL hr λ_ _ h=>h) λ_=>BL (λ_=>cT hL hr λ_ _ h=>h) λ_=>BL (λ_=>my hL hr λ_ _ h=>h) λ_=>BL (λ_=>gH hL hr λ_ _ h=>h) λ_=>U
theorem ab (U:Be [o] s0 s) (k:∀n s1,Be [n] s0 s1->Q n s1):Rd.wp (M1 o) s Q F4:=by
 simp only [M1,Rd.wp_seq,Rd.wp_ret]
 refine FH (P:=λl s1=>Be l s0 s1/\1<=l.length) (λl s1 U=>?_) ⟨U,Nat.le_refl _⟩
 obtain ⟨U,hl⟩:=U
 simp only [MO,Rd.Ah,Rd.Az,Rd.wp_seq,Rd.wp_ret]
 exact BL (λe=>CV (BJ e Do Do) λh=>⟨U.snoc h,Nm⟩) λ_=>RV Do Do λn s1 h=>k _ _ ((U.snoc h).two Do Do Pi)
theorem cY (U:LD L) (h0:Be [o] s0 s) (k:∀n s1,Be [n] s0 s1->Q n s1):Rd.wp (J2 L o) s Q F4:=by
 have h1:=U.ops
 have h2:=TD
 simp only [J2,Rd.Ah,Rd.Az,Rd.wp_seq,Rd.wp_ret]
 repeat' (first
  |exact trivial
  |assumption
  |refine BL (λe=>?_) (λe=>?_)
  |refine CV (BJ ‹_› Do Do) (λhn=>?_)
  |refine CV (Ee ‹_› Do Do) (λhn=>?_)
  |refine CV (E2 ‹_›) (λhn=>?_)
  |refine CV (E4 ‹_›) (λhn=>?_)
  |refine CV (E3 ‹_›) (λhn=>?_)
  |refine CV ‹_› (λhn=>?_)
  |refine RV Do Do (λn s1 hn=>?_)
  |refine cS Do (λn s1 hn=>?_)
  |refine IM ‹_› (λn s1 hn=>?_)
  |exact uE U.DT h0 k
  |refine k _ _ ?_
  |refine Be.two ?_ Do Do (by first|exact Nat.le_of_ble_eq_true rfl|exact Cn|(simp only [List.length_append,List.length_cons,List.length_nil];omega))
  |apply Be.IU
  |apply Be.app)
theorem cX (hL:LD L) (U:Be [o] s0 s) (k:∀n s1,Be [n] s0 s1->Q n s1):Rd.wp (Od L o) s Q F4:=by
 simp only [Od,Rd.Ah,Rd.Az,Rd.wp_seq,Rd.wp_ret]
 have hc:=cY (Q:=Q) hL U k
 refine BL (λe=>BL (λe2=>?_) λ_=>hc) λ_=>hc
 exact CV (E4 e) λh1=>CV (BJ e2 Do Do) λh2=>k _ _ ((U.cons (h1.cons h2)).two Do Do (Nat.le_of_ble_eq_true rfl))
theorem gD (hL:LD L) (hr:Real s) (k:∀n s1,Be [n] s s1->Q n s1):Rd.wp (Oe L) s Q F4:=by
 simp only [Oe,Rd.Ah,Rd.Az,Rd.wp_seq]
 exact CV hr λU=>BL (λ_=>ab U k) λ_=>BL (λ_=>ab U k) λ_=>cX hL U k
theorem cZ (hL:LD L) (hr:Real s) (k:∀n s1,Be [n] s s1->Q n s1):Rd.wp (LA L) s Q F4:=by
 simp only [LA,Rd.Ah,Rd.Az,Rd.wp_seq,Rd.wp_ret]
 refine CV hr λU=>?_
 repeat' (first
  |exact trivial
  |assumption
  |refine BL (λe=>?_) (λe=>?_)
  |refine CV (BJ ‹_› Do Do) (λhn=>?_)
  |refine CV (Ee ‹_› Do Do) (λhn=>?_)
  |refine CV (E2 ‹_›) (λhn=>?_)
  |refine CV (E4 ‹_›) (λhn=>?_)
  |refine CV (E3 ‹_›) (λhn=>?_)
  |refine CV ‹_› (λhn=>?_)
  |refine RV Do Do (λn s1 hn=>?_)
  |refine cS Do (λn s1 hn=>?_)
  |refine IM ‹_› (λn s1 hn=>?_)
  |exact uE hL.list U k
  |refine k _ _ ?_
  |refine Be.two ?_ Do Do (by first|exact Nat.le_of_ble_eq_true rfl|exact Cn|(simp only [List.length_append,List.length_cons,List.length_nil];omega))
  |apply Be.IU
  |apply Be.app)
theorem mw (U:LD L):Dv (Kb L):=λs=>by
 have h1:=U.atom
 simp only [Kb,Rd.Ah,Rd.Az,Rd.wp_seq,Rd.wp_ret]
 refine BL (λe=>?_) λ_=>trivial
 have hr:=E2 e
 repeat' (first
  |exact trivial
  |assumption
  |refine BL (λe=>?_) (λe=>?_)
  |refine CV (BJ ‹_› Do Do) (λhn=>?_)
  |refine CV (Ee ‹_› Do Do) (λhn=>?_)
  |refine CV (E2 ‹_›) (λhn=>?_)
  |refine CV (E4 ‹_›) (λhn=>?_)
  |refine CV (E3 ‹_›) (λhn=>?_)
  |refine CV ‹_› (λhn=>?_)
  |refine RV Do Do (λn s1 hn=>?_)
  |refine cS Do (λn s1 hn=>?_)
  |refine IM ‹_› (λn s1 hn=>?_)
  |exact gD U hr λ_ _ h=>h
  |exact cZ U hr λ_ _ h=>h
  |exact Be.ix ‹_› Do Do
  |refine Be.two ?_ Do Do (by first|exact Nat.le_of_ble_eq_true rfl|exact Cn|(simp only [List.length_append,List.length_cons,List.length_nil];omega))
  |apply Be.IU
  |apply Be.app)
theorem cW (hL:LD L) (hr:Real s) (U:Be [n] s0 s) (k:∀n s1,Be [n] s0 s1->Q n s1):Rd.wp (Hr L n) s Q F4:=by
 have h1:=hL.exp
 simp only [Hr,Rd.wp_seq,Rd.wp_ret]
 refine CV hr λhb=>?_
 refine FH (P:=λl s1=>Be l s0 s1/\1<=l.length) (λl s1 U=>?_) ⟨U.cons hb,Nat.le_of_ble_eq_true rfl⟩
 obtain ⟨U,hl⟩:=U
 have hend:∀{l:List Nd} {s:Af},Be l s0 s->1<=l.length->Rd.wp (BU 15 [125]) s (λc s'=>Q (Ar 12 (l++[c])) s') F4:=λU hl=>RV Do Do λn s1 h=>k _ _ ((U.snoc h).two Do Do Pi)
 simp only [Np,NX,Rd.Ah,Rd.Az,Rd.wp_seq,Rd.wp_ret]
 have hf:Rd.wp (HK [1,3]) s1 (λnm s'=>Rd.wp (BU 10 [61]) s' (λq s'=>Rd.wp L.exp s' (λe s'=>if A9 s' 15 [44]=true then Rd.wp A0 s' (λc s'=>Be (l++[Ar 13 [nm,q,e]]++[c]) s0 s'/\1<=(l++[Ar 13 [nm,q,e]]++[c]).length) F4
  else Rd.wp (BU 15 [125]) s' (λc s'=>Q (Ar 12 (l++[Ar 13 [nm,q,e]]++[c])) s') F4) F4) F4) F4:=by
  refine cS Do λnm s2 g1=>RV Do Do λq s3 g2=>IM h1 λe s4 g3=>?_
  have h2:=U.snoc ((g1.cons (g2.cons g3)).two (k:=13) Do Do (Nat.le_of_ble_eq_true rfl))
  exact BL (λe=>CV (BJ e Do Do) λh=>⟨h2.snoc h,Nat.le_trans Do Cn⟩) λ_=>hend h2 Pi
 exact BL (λ_=>BL (λ_=>hf) λ_=>hend U hl) λ_=>hf
theorem Ky (hL:LD L):Dv (Ka L):=λs=>by
 simp only [Ka,Rd.wp_seq]
 refine IM (mw hL) λn s1 hn=>?_
 refine FH (P:=λn s1=>Be [n] s s1) (λn s1 U=>?_) hn
 simp only [UU,Rd.Ah,Rd.Az,Rd.wp_seq,Rd.wp_ret]
 exact BL (λe=>cW hL (BJ e Do Do) U λ_ _ h=>h) λ_=>U
end
section
variable {A B C D E:Rd Nd} {s s0 s1 s2 s':Af} {Q:Nd->Af->Prop} {L:C8}
theorem Ta:∀{l:List Nd},2<=l.length->l.take (l.length - 1)++[l.getLastD FR]=l/\1<=(l.take (l.length - 1)).length:=λ{l} h=>by
 have U:l≠[]:=λe=>by rw [e] at h;exact absurd h Do
 refine ⟨?_,NE⟩
 have h1:=List.dropLast_concat_getLast U
 rw [<-List.dropLast_eq_take]
 have:l.getLastD FR=l.getLast U:=by
  rw [List.getLastD_eq_getLast?,List.getLast?_eq_some_getLast U];rfl
 rw [this];exact h1
theorem Be.split:∀{l:List Nd} {s s':Af},Be l s s'->∀{a b:List Nd},l=a++b->∃s1,Be a s s1/\Be b s1 s':=by
 intro l s s' h
 induction h with
 |nil s=>intro a b e;obtain ⟨rfl,rfl⟩:=List.append_eq_nil_iff.1 e.symm;exact ⟨s,.nil s,.nil s⟩
 |app h1 h2 i1 i2=>
  intro a b e
  rcases List.append_eq_append_iff.1 e with ⟨x,U,e2⟩|⟨x,U,e2⟩
  .obtain ⟨s1,k1,k2⟩:=i2 e2
   subst U
   exact ⟨s1,.app h1 k1,k2⟩
  .obtain ⟨s1,k1,k2⟩:=i1 U
   subst e2
   exact ⟨s1,k1,.app k2 h2⟩
 |tok g1 g2 g3=>
  intro a b e
  match a with
  |[]=>rw [List.nil_append] at e;subst e;exact ⟨_,.nil _,.tok g1 g2 g3⟩
  |x::r=>
   rw [List.cons_append] at e
   injection e with U e2
   obtain ⟨rfl,rfl⟩:=List.append_eq_nil_iff.1 e2.symm
   subst U
   exact ⟨_,.tok g1 g2 g3,.nil _⟩
 |skip g1 g2=>intro a b e;obtain ⟨rfl,rfl⟩:=List.append_eq_nil_iff.1 e.symm;exact ⟨_,.nil _,.skip g1 g2⟩
 |close g1=>intro a b e;obtain ⟨rfl,rfl⟩:=List.append_eq_nil_iff.1 e.symm;exact ⟨_,.nil _,.close g1⟩
 |node g1 g2 g3 ih=>
  intro a b e
  match a with
  |[]=>rw [List.nil_append] at e;subst e;exact ⟨_,.nil _,.node g1 g2 g3⟩
  |x::r=>
   rw [List.cons_append] at e
   injection e with U e2
   obtain ⟨rfl,rfl⟩:=List.append_eq_nil_iff.1 e2.symm
   subst U
   exact ⟨_,.node g1 g2 g3,.nil _⟩
 |block g1 g2 g3 ih=>
  intro a b e
  match a with
  |[]=>rw [List.nil_append] at e;subst e;exact ⟨_,.nil _,.block g1 g2 g3⟩
  |x::r=>
   rw [List.cons_append] at e
   injection e with U e2
   obtain ⟨rfl,rfl⟩:=List.append_eq_nil_iff.1 e2.symm
   subst U
   exact ⟨_,.block g1 g2 g3,.nil _⟩
theorem gA (hA:Dv A) (hB:Dv B) (hC:Dv C):∀s,Rd.wp (EE A B C o) s (λn s'=>∀s0,Be [o] s0 s->Be [n] s0 s') F4:=λs=>by
 simp only [EE,Rd.Az,Rd.wp_seq,Rd.wp_ret]
 refine gE hA λl b s1 h1 h2 hl=>?_
 dsimp only
 refine BL (λe=>?_) λ_=>?_
 .obtain ⟨h3,h4⟩:=h2 e
  obtain ⟨t1,t2⟩:=Ta h3
  obtain ⟨s2,k1,k2⟩:=hl.split t1.symm
  exact CV (BJ h4 Do Do) λg1 s0 U=>(U.cons ((k1.one Do Do t2).cons (k2.cons g1))).two Do Do (Nat.le_of_ble_eq_true rfl)
 .refine Ve hB (hl.one Do Do h1) λn s1 hn=>?_
  refine FH (P:=λq s1=>(q.1=4\/q.1=5)/\2<=q.2.length/\∀s0,Be [o] s0 s->Be q.2 s0 s1) (λq s1 h0=>?_) ⟨.inl rfl,Nat.le_refl _,λs0 U=>U.cons hn⟩
  obtain ⟨hq,hl,h0⟩:=h0
  simp only [RJ,Rd.Ah,Rd.Az,Rd.wp_seq,Rd.wp_ret]
  refine BL (λe=>CV (BJ e Do Do) λg1=>IM hC λn s2 g2=>⟨.inr trivial,Cn,λs0 U=>((h0 s0 U).snoc g1).snoc g2⟩) λ_=>RV Do Do λc s2 hc s0 U=>?_
  exact ((h0 s0 U).snoc hc).two AC AC Nm
theorem Vc {Q:List Nd->Af->Prop} (hA:Dv A) (h0:Be l s0 s) (k:∀U s1,l.length+2<=U.length->Be U s0 s1->Q U s1):Rd.wp (Ed A l) s Q F4:=by
 simp only [Ed,Rd.wp_seq]
 refine RV Do Do λb s1 hb=>IM hA λt s2 ht=>?_
 refine FH (P:=λU s1=>Be U s0 s1/\l.length+2<=U.length) (λU s1 h0=>?_) ⟨(h0.snoc hb).snoc ht,by simp only [List.length_append,List.length_singleton];omega⟩
 obtain ⟨h0,hl⟩:=h0
 simp only [KO,Rd.Ah,Rd.Az,Rd.wp_seq,Rd.wp_ret]
 exact BL (λe=>CV (BJ e Do Do) λg1=>IM hA λn s2 g2=>⟨(h0.snoc g1).snoc g2,by simp only [List.length_append,List.length_singleton];omega⟩) λ_=>k _ _ hl h0
theorem mA (hA:Dv A) (hB:Dv B):∀s,Rd.wp (OG A B o) s (λn s'=>∀s0,Be [o] s0 s->Be [n] s0 s') F4:=λs=>by
 simp only [OG,Rd.Ah,Rd.Az,Rd.wp_seq,Rd.wp_ret]
 refine IM hA λe s1 he=>BL (λ_=>?_) λ_=>?_
 .have:Rd.wp (Ed B [o,e]) s1 (λl s2=>Rd.wp (BU 15 [93]) s2 (λc s'=>∀s0,Be [o] s0 s->Be [Ar 8 (l++[c])] s0 s') F4) F4:=by
   refine Rd.O3 (λl s2 hr=>?_) (λ_ _ _=>trivial)
   refine RV Do Do λc s3 hc s0 ho=>?_
   have h1:Rd.wp (Ed B [o,e]) s1 (λl s2=>Be l s0 s2/\2<=l.length) F4:=Vc hB (ho.cons he) λl' s1 hl h=>⟨h,by simp only [List.length_cons,List.length_nil] at hl;omega⟩
   unfold Rd.wp at h1
   rw [hr] at h1
   exact (h1.1.snoc hc).two Do Do Nm
  exact this
 .refine FH (P:=λl s1=>2<=l.length/\∀s0,Be [o] s0 s->Be l s0 s1) (λl s1 h0=>?_) ⟨Nat.le_refl _,λs0 ho=>ho.cons he⟩
  obtain ⟨hl,h0⟩:=h0
  have U:∀{k:Int} {l:List Nd} {s1:Af},k≠1->k≠30->2<=l.length->(∀s0,Be [o] s0 s->Be l s0 s1)->Rd.wp (BU 15 [93]) s1 (λc s'=>∀s0,Be [o] s0 s->Be [Ar k (l++[c])] s0 s') F4:=λhk h30 hl h0=>
   RV Do Do λc s3 hc s0 ho=>((h0 s0 ho).snoc hc).two hk h30 Nm
  simp only [VJ,VK,Rd.Ah,Rd.Az,Rd.wp_seq,Rd.wp_ret]
  have hc:if A9 s1 15 [44]=true then Rd.wp A0 s1 (λc s'=>Rd.wp A s' (λe s'=>2<=(l++[c]++[e]).length/\∀s0,Be [o] s0 s->Be (l++[c]++[e]) s0 s') F4) F4
   else Rd.wp (BU 15 [93]) s1 (λc s'=>∀s0,Be [o] s0 s->Be [Ar 6 (l++[c])] s0 s') F4:=
   BL (λe=>CV (BJ e Do Do) λg1=>IM hA λn s2 g2=>⟨Cn,λs0 ho=>((h0 s0 ho).snoc g1).snoc g2⟩) λ_=>U Do Do hl h0
  refine BL (λ_=>BL (λe=>CV (BJ e Do Do) λg1=>BL (λ_=>?_) λ_=>IM hA λn s2 g2=>?_) λ_=>hc) λ_=>hc
  .exact U Do Do Nm λs0 ho=>(h0 s0 ho).snoc g1
  .exact U Do Do Cn λs0 ho=>((h0 s0 ho).snoc g1).snoc g2
theorem Z9 (hA:Dv A) (U:Be [n] s0 s) (k:∀n s1,Be [n] s0 s1->Q n s1):Rd.wp (Sh A n) s Q F4:=by
 simp only [Sh,Rd.Ah,Rd.Az,Rd.wp_seq,Rd.wp_ret,Rd.BK]
 exact BL (λe=>BL (λ_=>CV (BJ e Do Do) λg1=>IM hA λm s2 g2=>k _ _ ((U.cons (g1.cons g2)).two Do Do (Nat.le_of_ble_eq_true rfl))) λ_=>trivial) λ_=>k _ _ U
theorem mC (hL:LD L) (U:Dv A):Dv (RD L A):=λs=>by
 simp only [RD,Rd.Ah,Rd.Az,Rd.wp_seq,Rd.wp_ret]
 exact BL (λe=>CV (BJ e Do Do) λg1=>IM hL.decls λb s2 g2=>BL (λ_=>QD hL (g1.cons g2) λn s3 g3=>Z9 U g3 λ_ _ h=>h) λ_=>(g1.cons g2).two Do Do (Nat.le_of_ble_eq_true rfl))
  λ_=>IM U λn s3 g3=>Z9 U g3 λ_ _ h=>h
theorem ah (hL:LD L) (hA:Dv A) (hB:Dv B) (U:Be l s0 s) (hl:l=[]\/2<=OV l) (k:∀n s1,Be [n] s0 s1->Q n s1):Rd.wp (Ob L A B m l) s Q F4:=by
 simp only [Ob,Rd.wp_seq,Rd.Ah,Rd.Az,Rd.wp_ret]
 refine FH (P:=λl s1=>Be l s0 s1/\(l=[]\/2<=OV l)) (λl s1 U=>?_) ⟨U,hl⟩
 obtain ⟨U,hl⟩:=U
 have hs:Rd.wp (Ed B []) s1 (λg s'=>Rd.wp (BU 10 m) s' (λq s'=>Rd.wp A s' (λe s'=>Be (l++[Ar 30 (g++[q]++[e])]) s0 s'/\(l++[Ar 30 (g++[q]++[e])]=[]\/2<=OV (l++[Ar 30 (g++[q]++[e])]))) F4) F4) F4:=by
  refine Vc hB (.nil s1) λg s2 hg h=>RV Do Do λq s3 g1=>IM hA λe s4 g2=>⟨U.snoc (Be.gd ((h.snoc g1).snoc g2) (by simp only [List.length_append,List.length_singleton,List.length_nil] at *;omega)),.inr ?_⟩
  rw [J5]
  have:OV [Ar 30 (g++[q]++[e])]=2:=rfl
  omega
 have he:∀{l:List Nd} {s1:Af},Be l s0 s1->2<=OV l->if A9 s1 9 ZM=true then Rd.wp A0 s1 (λw s'=>Rd.wp L.decls s' (λb s'=>Q (Ar 29 (l++[Ar 31 [w,b]])) s') F4) F4 else Q (Ar 29 l) s1:=λ{l s1} U hl=>
  BL (λe=>CV (BJ e Do Do) λg1=>IM hL.decls λb s2 g2=>k _ _ (.node (U.snoc ((g1.cons g2).two Do Do (Nat.le_of_ble_eq_true rfl))) Do (by rw [J5];have:lH 29=1:=rfl;omega)))
   λ_=>k _ _ (.node U Do (by have:lH 29=1:=rfl;omega))
 simp only [HE,Ml,Rd.Ah,Rd.Az,Rd.wp_seq,Rd.wp_ret]
 refine BL (λ_=>hs) λhz=>?_
 have hl:2<=OV l:=by
  rcases hl with rfl|hl
  .exact absurd rfl hz
  .exact hl
 exact BL (λ_=>BL (λ_=>hs) λ_=>he U hl) λ_=>he U hl
theorem gC (hL:LD L) (hA:Dv A) (hB:Dv B):Dv (Xc L A B m):=λs=>by
 simp only [Xc,Rd.Ah,Rd.Az,Rd.wp_seq]
 refine BL (λe=>?_) λ_=>BL (λ_=>ah hL hA hB (.nil s) (.inl rfl) λ_ _ h=>h) λ_=>trivial
 by_cases U:Real s
 .exact CV U λg1=>IM hA λe s2 g2=>ah hL hA hB (g1.cons g2) (.inr (Nat.le_trans (Nat.le_of_ble_eq_true rfl) PV)) λ_ _ h=>h
 .exact absurd (BJ e Do Do) U
theorem qt (hL:LD L) (U:Dv A) (hB:Dv B) (hC:Dv C):Dv (Ye L A B C):=λs=>by
 simp only [Ye,Rd.Az,Rd.wp_seq,Rd.wp_ret,Rd.BK]
 exact IM U λn s1 g1=>BL (λ_=>IM (gC hL hB hC) λr s2 g2=>(g1.cons g2).two Do Do (Nat.le_of_ble_eq_true rfl)) λ_=>trivial
theorem QC (U:Be l s0 s) (hl:1<=l.length) (k:∀n s1,Be [n] s0 s1->Q n s1):Rd.wp (Gc l) s Q F4:=by
 have ho:=NV (p:=Ez) TD
 simp only [Gc,Rd.wp_seq]
 refine IM ho λo s1 g1=>?_
 refine FH (P:=λl s1=>Be l s0 s1/\2<=l.length) (λl s1 U=>?_) ⟨U.snoc g1,Pi⟩
 obtain ⟨U,hl⟩:=U
 simp only [Ld,Rd.Ah,Rd.Az,Rd.wp_seq,Rd.wp_ret]
 exact BL (λe=>CV (BJ e Do Do) λg1=>IM ho λo s2 g2=>⟨(U.snoc g1).snoc g2,Cn⟩) λ_=>k _ _ (U.two Do Do hl)
theorem cU (U:Real s) (k:∀n s1,Be [n] s s1->Q n s1):Rd.wp Hm s Q F4:=by
 simp only [Hm,Rd.Ah,Rd.Az,Rd.wp_seq]
 refine CV U λg1=>BL (λe=>?_) λ_=>QC g1 (Nat.le_of_ble_eq_true rfl) k
 simp only [CA,Rd.Ah,Rd.Az,Rd.wp_seq,Rd.wp_ret,Rd.GO]
 exact CV (Ee e Do Do) λg2=>BL (λ_=>QC (g1.cons g2) (Nat.le_of_ble_eq_true rfl) k) λ_=>trivial
theorem gG (hA:Dv A) (hB:Dv B) (U:Be [n] s0 s) (k:∀n s1,Be [n] s0 s1->Q n s1):Rd.wp (Xx A B n) s Q F4:=by
 have ho:=NV (p:=MA) hA
 simp only [Xx,Rd.Az,Rd.wp_seq,Rd.BK]
 refine BL (λ_=>?_) λ_=>trivial
 refine FH (P:=λl s1=>Be l s0 s1) (λl s1 U=>?_) U
 simp only [kO,Rd.Ah,Rd.Az,Rd.wp_seq,Rd.wp_ret]
 exact BL (λe=>CV (BJ e Do Do) λg1=>IM ho λo s2 g2=>(U.snoc g1).snoc g2) λ_=>RV Do Do λc s2 g1=>IM hB λt s3 g2=>k _ _ (((U.snoc g1).snoc g2).two Do Do Cn)
theorem mz (hL:LD L) (U:Dv A) (hB:Dv B) (hC:Dv C) (hD:Dv D) (hE:Dv E):Dv (Qv L A B C D E):=λs=>by
 simp only [Qv,Rd.Ah,Rd.Az,Rd.wp_seq,Rd.wp_ret,Rd.BK]
 exact BL (λe=>cU (E3 e) λ_ _ h=>h) λ_=>IM hB λn s1 g1=>BL (λ_=>gG U hE g1 λ_ _ h=>h) λ_=>BL (λ_=>gG U hE g1 λ_ _ h=>h) λ_=>
  BL (λ_=>IM (gC hL hC hD) λr s2 g2=>(g1.cons g2).two Do Do (Nat.le_of_ble_eq_true rfl)) λ_=>trivial
theorem gF {Q:Unit->Af->Prop} (k:∀s1,Be [] s s1->Q () s1):Rd.wp Mv s Q F4:=by
 refine FH (P:=λ_ s1=>Be [] s s1) (λ_ s1 U=>?_) (.nil s)
 simp only [Mu,Rd.Ah,Rd.Az,Rd.wp_seq,Rd.wp_ret]
 exact BL (λe=>tS (Sz e) λh=>U.pass h) λ_=>k _ U
theorem Vb {f m:Bool} {Q:Bool->Af->Prop} (k:∀b s1,Be [] s s1->Q b s1):Rd.wp (HA f m) s Q F4:=by
 simp only [HA,Rd.Ah,Rd.Az,Rd.wp_seq,Rd.wp_ret]
 have hi:∀{f:Bool},(if f then A9 s 15 [125] else (Aa s).1.kind==20)=true->Hg (Aa s).1=true:=λ{f} e=>by
  unfold Hg
  cases f with
  |true=>
   rw [if_pos rfl] at e
   unfold A9 at e
   simp only [Bool.and_eq_true,beq_iff_eq] at e
   simp [e.1,e.2]
  |false=>
   rw [if_neg Do,beq_iff_eq] at e
   simp [e]
 refine BL (λe=>tS (hi e) λh=>k _ _ h) λ_=>BL (λ_=>BL (λ_=>trivial) λ_=>?_) λ_=>k _ _ (.nil s)
 unfold Rd.wp NT
 dsimp only
 by_cases e:(Dr s).2=true
 .rw [if_pos e];exact k _ _ (.close e)
 .rw [if_neg e];trivial
theorem Qz {p:Tk->Bool} (hA:Dv A):Dv (CX p A):=λs=>by
 simp only [CX,Rd.Ah,Rd.Az,Rd.wp_seq,Rd.wp_ret]
 have hb:∀{f:Bool} {s1:Af},(Aa s).2.2=0->Hg (Aa s).1=true->(Aa s).2.1=s1->Rd.wp (Rd.loop (Iw p A f) []) s1 (λl s'=>Be [DS f l] s s') F4:=λ{f s1} e1 e2 e3=>by
  subst e3
  refine FH (P:=λl s1=>Be l (Aa s).2.1 s1) (λl s1 U=>?_) (.nil _)
  simp only [Iw,Rd.Ah,Rd.Az,Rd.wp_seq,Rd.wp_ret]
  refine gF λs2 g2=>Vb λb s3 g3=>BL (λ_=>.block e1 e2 ((U.pass g2).pass g3)) λ_=>IM hA λn s4 g4=>Vb λb s5 g5=>BL (λ_=>.block e1 e2 ((((U.pass g2).pass g3).snoc g4).pass g5)) λ_=>(((U.pass g2).pass g3).snoc g4).pass g5
 refine BL (λe=>?_) λ_=>?_
 .have hi:Hg (Aa s).1=true:=by rw [beq_iff_eq] at e;simp [Hg,e]
  exact tS hi λ_=>hb (EY (Pv hi).1) hi rfl
 .unfold BU
  rw [Rd.Ah,Rd.Az]
  refine BL (λe=>?_) λ_=>trivial
  have hi:Hg (Aa s).1=true:=by
   unfold A9 at e
   simp only [Bool.and_eq_true,beq_iff_eq] at e
   simp [Hg,e.1,e.2]
  exact CV (BJ e Do Do) λ_=>hb (EY (Pv hi).1) hi rfl
theorem MS (d:Nat):Dv (D6 d):=Dv.of λs n s' h=>by
 have U:DN (EA (Cp (DL (d - 1)))):=mq (Z7 (Z8 _))
 refine U s n s' ?_
 unfold D6 V6 at h
 dsimp only at h
 split at h
 .split at h<;>cases h
 .cases h;assumption
theorem aa {e:Er}:∀s,Rd.wp (Rd.fail e:Rd Nd) s (λn s'=>∀s0,Be [o] s0 s->Be [n] s0 s') F4:=λs=>trivial
theorem Mc (U:LD L):Dv (Zb L):=Yt U (Ky U)
theorem Ic (U:Dv A) (hL:LD L):Dv (LH A L):=qu (Mc hL) U
theorem IW (hA:Dv A) (U:LD L):Dv (Jr A L):=mC U (Ic hA U)
theorem TC (hA:Dv A) (U:LD L):Dv (UR A L):=qt U (Md (Mc U)) (Ic hA U) (IW hA U)
theorem QA (hA:Dv A) (U:LD L):Dv (Kw A L):=mz U (Ky U) (Md (Mc U)) (Ic hA U) (IW hA U) hA
theorem sO (hA:Dv A) (U:LD L):LD (uL A L) where
 atom:=Ky U
 exp:=Ic hA U
 ops:=Md (Mc U)
 decls:=Qz (QA hA U)
 stmts:=Qz (IW hA U)
 alts:=Qz (TC hA U)
 DT:=λo=>gA (Mc U) hA (Ic hA U)
 list:=λo=>mA (Ic hA U) (IW hA U)
theorem QE:∀d,LD (Kl d)
 |0=>⟨λ_=>trivial,λ_=>trivial,λ_=>trivial,λ_=>trivial,λ_=>trivial,λ_=>trivial,λo=>aa,λo=>aa⟩
 |d+1=>sO (MS _) (QE d)
end
namespace Rd
variable {α β γ σ:Type}
theorem seq_assoc {m:Rd α} {f:α->Rd β} {g:β->Rd γ}:seq (seq m f) g=seq m (λx=>seq (f x) g):=ext' λs=>by
 unfold seq
 dsimp only
 cases m.run s<;>rfl
theorem Ns {v:α} {f:α->Rd β}:seq (ret v) f=f v:=ext' λs=>rfl
theorem lL {body:σ->Rd (Sum σ β)} {m:Rd γ} {g:γ->σ} {s:Af} {Q:β->Af->Prop} (U:mu s'<mu s) (h:wp m s' (λt s2=>again body s Q E (.inl (g t)) s2) E):wp m s' (λt s2=>wp (loop body (g t)) s2 Q E) E:=
 wp_mono h (λv s2 hr h=>BF h (Nat.lt_of_le_of_lt (m.le _ _ _ hr) U)) (λ_ _ _ h=>h)
end Rd
theorem VV {exp:Rd Nd} {k:Int} {U:List Nd} {s:Af} (h:(Gj exp k x l).run s=.inr (U,s')):U.length=l.length+2:=by
 unfold Gj at h
 obtain ⟨_,_,_,h⟩:=B4 h
 obtain ⟨_,_,_,h⟩:=B4 h
 cases h
 simp
theorem Dv.tU {A:Rd Nd} {s:Af} (h:Dv A) (U:A.run s=.inr (n,s')) (hm:mu s<=100000000):n.size<=1000000000:=by have:=h.size U;omega
theorem NC {s:Af} (h:(Aa s).2.2=0):Rd.wp A0 s Q E=Q (Av (Aa s).1) (Aa s).2.1:=by unfold Rd.wp;rw [CU h]
section
variable {st0 st:St} {s:Af} {rows:List (AF×List Nd)} {K:AL->St->Prop} {E:Er->Af->Prop}
theorem GV {Q:β->Af->Prop} (T:σ->Rd β) {x0:σ}
 (f:σ->Af->AF->List (Nat×V)) (g:σ->Af->AF->List (Nat×List V)) (keep kb:List Nat) (rw:σ->AF->List (AF×List Nd)) (wt:σ->Nat) (U:AF) (hm:mu s<=100000000) (hc:Rx st0 st (rw x0 U)) (h:Rd.wp (T x0) s Q E) (hl:wt x0+4*mu s<=500000000)
 (he:(env.F3 (f x0 s U) (g x0 s U) keep kb).C7 env)
 (hb:∀x s1 st1 own1,mu s1<=100000000->mu s1<=mu s->Rx st0 st1 (rw x own1)->Rd.wp (T x) s1 Q E->wt x+4*mu s1<=500000000->
   ih (Bp (λenv' st'=>∃y:LS σ,(mu y.s<=100000000/\mu y.s<=mu s/\Rx st0 y.m (rw y.x y.o)/\Rd.wp (T y.x) y.s Q E/\wt y.x+4*mu y.s<=500000000)/\mu y.s<mu s1/\(env.F3 (f y.x y.s y.o) (g y.x y.s y.o) keep kb).C7 env'/\St.le y.m st') Q0)
    (env.F3 (f x s1 own1) (g x s1 own1) keep kb) st1):
 ∃(α:Type) (E:α->Env) (S:α->St) (J:α->Prop) (μ:α->Nat) (x0:α),J x0/\(E x0).C7 env/\St.le (S x0) st/\
  ∀x,J x->ih (Bp (λenv' st'=>∃y,J y/\μ y<μ x/\(E y).C7 env'/\St.le (S y) st') Q0) (E x) (S x):=
 ⟨LS σ,λy=>env.F3 (f y.x y.s y.o) (g y.x y.s y.o) keep kb,λy=>y.m,
   λy=>mu y.s<=100000000/\mu y.s<=mu s/\Rx st0 y.m (rw y.x y.o)/\Rd.wp (T y.x) y.s Q E/\wt y.x+4*mu y.s<=500000000,λy=>mu y.s,⟨x0,s,st,U⟩,⟨hm,Nat.le_refl _,hc,h,hl⟩,he,St.le_refl _,
   λy ⟨j1,j2,j3,j4,j5⟩=>hb y.x y.s y.m y.o j1 j2 j3 j4 j5⟩
theorem N2 (f:List (Nat×V)) (g:List (Nat×List V)) (keep U:List Nat) (he:(env.F3 f g keep U).C7 env)
 (hb:∀P:Env->St->Prop,ih (Bp P Q0) (env.F3 f g keep U) st):
 ∃(α:Type) (E:α->Env) (S:α->St) (J:α->Prop) (μ:α->Nat) (x0:α),J x0/\(E x0).C7 env/\St.le (S x0) st/\
  ∀x,J x->ih (Bp (λenv' st'=>∃y,J y/\μ y<μ x/\(E y).C7 env'/\St.le (S y) st') Q0) (E x) (S x):=
 ⟨Unit,λ_=>env.F3 f g keep U,λ_=>st,λ_=>True,λ_=>0,(),trivial,he,St.le_refl _,λ_ _=>hb _⟩
theorem ND {R:Prop} (U:n.size<=1000000000) (h:if G4 n=true then P else R) (k1:G4 n=true->P->K (.ret (.int .i64 0)) st) (k2:G4 n=false->R->K (.ret (.int .i64 120)) st):PC 67 [enc n] st K:=by
 refine dS U ?_
 unfold NQ
 cases e:G4 n with
 |true=>rw [if_pos rfl];exact k1 e (by rw [if_pos e] at h;exact h)
 |false=>rw [if_neg Do];exact k2 e (by rw [if_neg (by rw [e];decide)] at h;exact h)
theorem tL {Q:Unit->Af->Prop} (hm:mu s<=100000000) (h:Rd.wp (OU w) s Q E) (k:∀s',mu s'<=mu s->mu s'<=100000000->Q () s'->K (.ret (Am s')) st):PC 294 [Am s,.str w] st K:=by
 simp only [OU,Rd.Ah,Rd.Az,Rd.wp_ret] at h
 refine pB Tryz.func294 ?_
 cases hs:F0 (Aa s).1 with
 |true=>
  have hz:=EY (Ip hs).1
  have hm1:mu (Aa s).2.1<=100000000:=Nat.le_trans (CK hz).1 hm
  rw [if_pos hs] at h
  have hk:∀(p:Prop),((Aa s).1.kind=19->p)->((Aa s).1.kind=15->(Aa s).1.text=[59]->p)->p:=λp a b=>by
   unfold F0 at hs
   simp only [Bool.or_eq_true,Bool.and_eq_true,beq_iff_eq] at hs
   rcases hs with e|⟨e1,e2⟩
   .exact a e
   .exact b e1 e2
  cases hi:A9 (Aa s).2.1 9 w with
  |true=>
   rw [if_pos hi] at h
   unfold Hh at h
   rw [Rd.wp_seq,NC hz,Rd.wp_ret] at h
   have U:=k _ (CK hz).1 hm1 h
   refine hk _ (λe1=>?_) (λe1 e2=>?_)
   .skip
    repeat' ((conv=>whnf);first|(refine AG ?_;intros)|(refine AH ?_ ?_<;>intro e h)|(refine AJ ?_ ?_<;>intro _)|refine Ca ?_|(refine D4 ?_ ?_<;>intro e h)|refine Ac (λe1=>?_)|exact B3|fail)
    all_goals exact AZ rfl U
   .skip
    repeat' ((conv=>whnf);first|(refine AG ?_;intros)|(refine AH ?_ ?_<;>intro e h)|(refine AJ ?_ ?_<;>intro _)|refine Ca ?_|(refine D4 ?_ ?_<;>intro e h)|refine Ac (λe1=>?_)|exact B3|fail)
    all_goals exact AZ rfl U
  |false=>
   rw [if_neg (by rw [hi];decide)] at h
   have U:=k _ (Nat.le_refl _) hm h
   refine hk _ (λe1=>?_) (λe1 e2=>?_)
   .skip
    repeat' ((conv=>whnf);first|(refine AG ?_;intros)|(refine AH ?_ ?_<;>intro e h)|(refine AJ ?_ ?_<;>intro _)|refine Ca ?_|(refine D4 ?_ ?_<;>intro e h)|refine Ac (λe1=>?_)|exact B3|fail)
    all_goals exact AZ rfl U
   .skip
    repeat' ((conv=>whnf);first|(refine AG ?_;intros)|(refine AH ?_ ?_<;>intro e h)|(refine AJ ?_ ?_<;>intro _)|refine Ca ?_|(refine D4 ?_ ?_<;>intro e h)|refine Ac (λe1=>?_)|exact B3|fail)
    all_goals exact AZ rfl U
 |false=>
  rw [if_neg (by rw [hs];decide)] at h
  have U:=k _ (Nat.le_refl _) hm h
  have h1:¬(Aa s).1.kind=19:=λe=>by unfold F0 at hs;rw [e] at hs;cases hs
  by_cases h2:(Aa s).1.kind=15
  .have h3:¬(Aa s).1.text=[59]:=λe=>by unfold F0 at hs;rw [h2,e] at hs;cases hs
   repeat' ((conv=>whnf);first|(refine AG ?_;intros)|(refine AH ?_ ?_<;>intro e h)|(refine AJ ?_ ?_<;>intro _)|refine Ca ?_|(refine D4 ?_ ?_<;>intro e h)|refine Ac (λe1=>?_)|exact B3|fail)
   all_goals exact AZ rfl U
  .skip
   repeat' ((conv=>whnf);first|(refine AG ?_;intros)|(refine AH ?_ ?_<;>intro e h)|(refine AJ ?_ ?_<;>intro _)|refine Ca ?_|(refine D4 ?_ ?_<;>intro e h)|refine Ac (λe1=>?_)|exact B3|fail)
   all_goals exact AZ rfl U
attribute [local irreducible] Go.Aw.Ag
theorem Fw {exp:Rd Nd} {k:Int} (hk:k≠0) (he:BO 66 (λs=>[Am s,.int .i64 D]) exp):X8 900000000 65 (λs v=>[v,Am s,.int .i64 k,.str x,.int .i64 D]) (Gj exp k x):=by
 refine ⟨λ{st0 s st rows K own l} hl hm hc h=>?_⟩
 simp only [Gj,Rd.Ah,Rd.Az,Rd.wp_seq,Rd.wp_ret] at h
 refine pB Tryz.func65 ?_
 repeat' ((conv=>whnf);first|exact Dk|(refine AG ?_;intros)|(refine Dl ?_ ?_ ?_;rotate_left)|(refine AH ?_ ?_<;>intro e h)|(refine AJ ?_ ?_<;>intro _)|refine Hx (λ_=>?_) ?_|refine BO.go (KV hk) hm hc h (λn s1 U hr hl hm hc h=>?_) (λe n s1 U he hc h=>?_)|refine BO.go he ‹_› hc h (λn s1 U hr hl hm hc h=>?_) (λe n s1 U he hc h=>?_)|refine DQ (λn s1 U hr hl hm hc h=>?_) (λe n s1 U he hc h=>?_)|(refine CN ?_;intro own1 U hc)|refine Ac (λe1=>?_)|exact B3|refine Ae [(0,true),(1,true),(2,true),(3,false)] [1] GE ?_|refine Ae [(0,true),(1,true),(2,true),(3,false)] [1] GE ?_|with_reducible refine WF ?_)
theorem Zu {e:Int} (U:¬e=0) (h:K (.ret (AO n s e)) st):PC 128 [AO n s e,.int .i64 d] st K:=by
 refine pB Tryz.func128 ?_
 repeat' ((conv=>whnf);first|(refine AG ?_;intros)|(refine AH ?_ ?_<;>intro e h)|(refine AJ ?_ ?_<;>intro _)|fail)
 all_goals exact AZ rfl h
theorem S2 {full:Rd Nd} (hf:BO 145 (λs=>[Am s,.int .i64 D]) full):BO 128 (λs=>[AO n s 0,.int .i64 D]) (IL full n):=by
 refine ⟨λ{st0 s st rows K} hm hc h=>?_⟩
 simp only [IL,Rd.Ah,Rd.Az,Rd.wp_seq,Rd.wp_ret] at h
 refine pB Tryz.func128 ?_
 repeat' ((conv=>whnf);first|(refine AG ?_;intros)|(refine AH ?_ ?_<;>intro e h)|(refine AJ ?_ ?_<;>intro _)|refine BO.go hf ‹_› hc h (λn s1 U hr hl hm hc h=>?_) (λe n s1 U he hc h=>?_)|refine Ca ?_|(refine D4 ?_ ?_<;>intro e h)|(refine D5 ?_;intro s1 hz hl hm h)|refine DQ (λn s1 U hr hl hm hc h=>?_) (λe n s1 U he hc h=>?_)|(refine CN ?_;intro own1 U hc)|refine Ac (λe1=>?_)|exact B3|fail)
theorem oz (h:l≠[]):ow (l++[n],false)=Ar 17 (l++[n]):=by
 unfold ow IJ
 dsimp only
 rw [if_neg Do,if_neg (by rw [List.length_append,List.length_singleton];have:=List.length_pos_iff.2 h;omega)]
theorem bS {br:Bool} (ho:BO 193 (λs=>[Am s,.int .i64 D]) opd):pk 132 (λs=>[Am s,.int .i64 D,.bool br]) (HB opd br):=by
 refine ⟨λ{st0 s st rows K} hm hc h=>?_⟩
 unfold HB at h
 refine pB Tryz.func132 ?_
 repeat' ((conv=>whnf);first|exact Dk|(refine AG ?_;intros)|(refine Dl ?_ ?_ ?_;rotate_left)|(refine AH ?_ ?_<;>intro e h)|(refine AJ ?_ ?_<;>intro _)|refine Hx (λ_=>?_) ?_|with_reducible refine WF ?_)
 refine aJ (λl s own=>[(8,.slice 6 (l.map Ax) own),(7,.bool false)]) (λl s own=>[(0,s.cells)]) [1,2,3,6] [1] (λl own=>(own,l)::rows) (λl=>l.length) .full hm (hc.push []) h la Yl ?_
 intro l s1 U own1 hm1 hm2 hc h hl
 simp only [Xh,Rd.Ah,Rd.Az,Rd.wp_seq,Rd.wp_ret,Rd.A5] at h
 repeat' ((conv=>whnf);first|exact Dk|(refine AG ?_;intros)|(refine Dl ?_ ?_ ?_;rotate_left)|(refine AH ?_ ?_<;>intro e h)|(refine AJ ?_ ?_<;>intro _)|refine Hx (λ_=>?_) ?_|with_reducible refine WF ?_)
 unfold T4 at h
 refine aJ (λl s own=>[(8,.slice 6 (l.map Ax) own),(7,.bool false)]) (λl s own=>[(0,s.cells)]) [1,2,3,6] [1] (λl own=>(own,l)::rows) (λl=>l.length) own1 hm1 hc h hl Yl ?_
 intro l2 s2 st2 own2 hm3 hm4 hc h hl
 simp only [T3,Rd.Ah,Rd.Az,Rd.wp_seq,Rd.wp_ret,Rd.A5] at h
 by_cases hn:l2=[]
 .subst hn
  have e1:∀n:Nd,((([]++[n]:List Nd).length:Nat):Int)=1:=λ_=>rfl
  cases br
  .simp only [Bool.false_eq_true,if_false] at h
   repeat' ((conv=>whnf);first|refine Wt (e1 _) ?_|exact Dk|(refine AG ?_;intros)|(refine Dl ?_ ?_ ?_;rotate_left)|(refine AH ?_ ?_<;>intro e h)|(refine AJ ?_ ?_<;>intro _)|refine Hx (λ_=>?_) ?_|refine BO.go ho ‹_› hc h (λn s1 U hr hl hm hc h=>?_) (λe n s1 U he hc h=>?_)|refine BO.UN G8 GC ‹_› hc h (λn s1 U hr hl hm hc h=>?_) (λe n s1 U he hc h=>?_)|refine L3 (l:=[]++[_]) rfl AC ?_|refine Ca ?_|(refine D4 ?_ ?_<;>intro e h)|(refine D5 ?_;intro s1 hz hl hm h)|refine DQ (λn s1 U hr hl hm hc h=>?_) (λe n s1 U he hc h=>?_)|(refine CN ?_;intro own1 U hc)|refine Bj (λ_=>?_)|refine Ac (λe1=>?_)|exact B3|refine Ae [(0,true),(2,true),(1,false),(3,true),(4,false),(5,true)] [1] GE ?_|refine Ae [(0,true),(1,true),(2,true),(3,true),(4,true),(5,false),(6,true)] [1] GE ?_|refine Ae [(0,true),(2,true),(1,false),(3,true),(4,false),(5,true)] [1] GE ?_|with_reducible refine WF ?_)
  .simp only [if_true] at h
   repeat' ((conv=>whnf);first|refine Wt (e1 _) ?_|exact Dk|(refine AG ?_;intros)|(refine Dl ?_ ?_ ?_;rotate_left)|(refine AH ?_ ?_<;>intro e h)|(refine AJ ?_ ?_<;>intro _)|refine Hx (λ_=>?_) ?_|refine BO.go ho ‹_› hc h (λn s1 U hr hl hm hc h=>?_) (λe n s1 U he hc h=>?_)|refine BO.UN G8 GC ‹_› hc h (λn s1 U hr hl hm hc h=>?_) (λe n s1 U he hc h=>?_)|refine L3 (l:=[]++[_]) rfl AC ?_|refine Ca ?_|(refine D4 ?_ ?_<;>intro e h)|(refine D5 ?_;intro s1 hz hl hm h)|refine DQ (λn s1 U hr hl hm hc h=>?_) (λe n s1 U he hc h=>?_)|(refine CN ?_;intro own1 U hc)|refine Bj (λ_=>?_)|refine Ac (λe1=>?_)|exact B3|refine Ae [(0,true),(2,true),(1,false),(3,true),(4,false),(5,true)] [1] GE ?_|refine Ae [(0,true),(1,true),(2,true),(3,true),(4,true),(5,false),(6,true)] [1] GE ?_|refine Ae [(0,true),(2,true),(1,false),(3,true),(4,false),(5,true)] [1] GE ?_|with_reducible refine WF ?_)
 .have e1:∀n:Nd,¬((((l2++[n]:List Nd).length:Nat):Int)=1):=λ_=>by rw [List.length_append,List.length_singleton];have:=List.length_pos_iff.2 hn;omega
  simp only [oz hn] at h
  cases br
  .simp only [Bool.false_eq_true,if_false] at h
   repeat' ((conv=>whnf);first|refine Wu (e1 _) ?_|exact Dk|(refine AG ?_;intros)|(refine Dl ?_ ?_ ?_;rotate_left)|(refine AH ?_ ?_<;>intro e h)|(refine AJ ?_ ?_<;>intro _)|refine Hx (λ_=>?_) ?_|refine BO.go ho ‹_› hc h (λn s1 U hr hl hm hc h=>?_) (λe n s1 U he hc h=>?_)|refine BO.UN G8 GC ‹_› hc h (λn s1 U hr hl hm hc h=>?_) (λe n s1 U he hc h=>?_)|refine Ca ?_|(refine D4 ?_ ?_<;>intro e h)|(refine D5 ?_;intro s1 hz hl hm h)|refine DQ (λn s1 U hr hl hm hc h=>?_) (λe n s1 U he hc h=>?_)|(refine CN ?_;intro own1 U hc)|refine Bj (λ_=>?_)|refine Ac (λe1=>?_)|exact B3|refine Ae [(0,true),(2,true),(1,false),(3,true),(4,false),(5,true)] [1] GE ?_|refine Ae [(0,true),(1,true),(2,true),(3,true),(4,true),(5,false),(6,true)] [1] GE ?_|refine Ae [(0,true),(2,true),(1,false),(3,true),(4,false),(5,true)] [1] GE ?_|with_reducible refine WF ?_)
  .simp only [if_true] at h
   repeat' ((conv=>whnf);first|refine Wu (e1 _) ?_|exact Dk|(refine AG ?_;intros)|(refine Dl ?_ ?_ ?_;rotate_left)|(refine AH ?_ ?_<;>intro e h)|(refine AJ ?_ ?_<;>intro _)|refine Hx (λ_=>?_) ?_|refine BO.go ho ‹_› hc h (λn s1 U hr hl hm hc h=>?_) (λe n s1 U he hc h=>?_)|refine BO.UN G8 GC ‹_› hc h (λn s1 U hr hl hm hc h=>?_) (λe n s1 U he hc h=>?_)|refine Ca ?_|(refine D4 ?_ ?_<;>intro e h)|(refine D5 ?_;intro s1 hz hl hm h)|refine DQ (λn s1 U hr hl hm hc h=>?_) (λe n s1 U he hc h=>?_)|(refine CN ?_;intro own1 U hc)|refine Bj (λ_=>?_)|refine Ac (λe1=>?_)|exact B3|refine Ae [(0,true),(2,true),(1,false),(3,true),(4,false),(5,true)] [1] GE ?_|refine Ae [(0,true),(1,true),(2,true),(3,true),(4,true),(5,false),(6,true)] [1] GE ?_|refine Ae [(0,true),(2,true),(1,false),(3,true),(4,false),(5,true)] [1] GE ?_|with_reducible refine WF ?_)
theorem rO {Q:List Nd×Bool->Af->Prop} (ho:BO 193 (λs=>[Am s,.int .i64 D]) opd) (hm:mu s<=100000000) (hc:Rx st0 st rows) (h:Rd.wp (HB opd false) s Q E)
 (k:∀l s' st',mu s'<=100000000->Rx st0 st' rows->Q (l,false) s'->K (.ret (.Bh [AO (IJ 17 l) s' 0,.bool false])) st')
 (kb:∀e n s' st',¬e.1=0->Rx st0 st' rows->E e s'->K (.ret (.Bh [AO n s' e.1,.bool false])) st'):PC 132 [Am s,.int .i64 D,.bool false] st K:=
 pk.go (bS ho) hm hc h (λn s' st' hr hl U hc q=>by
  obtain ⟨l,b⟩:=n
  cases b with
  |false=>exact k l s' st' U hc q
  |true=>exact absurd (bN hr rfl).1 Do) kb
theorem PJ (ho:BO 193 (λs=>[Am s,.int .i64 D]) opd):BO 70 (λs=>[Am s,.int .i64 D]) (N6 opd):=by
 refine ⟨λ{st0 s st rows K} hm hc h=>?_⟩
 simp only [N6,Rd.Ah,Rd.Az,Rd.wp_seq,Rd.wp_ret] at h
 refine pB Tryz.func70 ?_
 repeat' ((conv=>whnf);first|(refine AG ?_;intros)|(refine AH ?_ ?_<;>intro e h)|(refine AJ ?_ ?_<;>intro _)|refine rO ho ‹_› hc h (λn s1 U hm hc h=>?_) (λe n s1 U he hc h=>?_)|refine Ac (λe1=>?_)|exact B3|fail)
end
def Li (L:C8) (atom:Rd Nd) (l:List Nd):Rd Nd:=.seq (.loop (Lh atom) l) λl=>.seq (Gj L.exp 10 [45,62] l) λl=>.ret (Ar 23 l)
def Po (L:C8) (l:List Nd):Rd Nd:=.seq L.exp λc=>.seq (OU lq) λ_=>.seq (Gj L.exp 9 lq (l++[c])) λl=>.seq (OU lp) λ_=>.seq (Gj L.exp 9 lp l) λl=>.ret (Ar 25 l)
def TY (L:C8) (l:List Nd):Rd Nd:=.seq L.decls λb=>.seq (Gj L.exp 9 tw (l++[b])) λl=>.ret (Ar 24 l)
def Z0 (L:C8) (l:List Nd):Rd Nd:=.seq L.exp λe=>.seq (BU 9 uM) λo=>.seq L.alts λa=>.ret (Ar 26 (l++[e]++[o]++[a]))
def UD (L:C8) (l:List Nd):Rd Nd:=.seq L.stmts λb=>if Ii b=true then .fail LM else .ret (Ar 27 (l++[b]))
theorem iv {atom:Rd Nd}:JP L atom=.seq A0 λb=>Li L atom [b]:=by simp only [JP,Li,Gj,Rd.seq_assoc,Rd.Ns]
theorem fR:JC L=.seq A0 λb=>Po L [b]:=by simp only [JC,Po,Nh,Gj,Rd.seq_assoc,Rd.Ns,List.cons_append,List.nil_append]
theorem sY:dq L=.seq A0 λb=>TY L [b]:=by simp only [dq,HL,TY,Gj,Rd.seq_assoc,Rd.Ns,List.cons_append,List.nil_append]
theorem qp:Sj L=.seq A0 λb=>Z0 L [b]:=by simp only [Sj,Z0,List.cons_append,List.nil_append]
theorem oL:Mw L=.seq A0 λb=>UD L [b]:=by simp only [Mw,UD,List.cons_append,List.nil_append]
structure Jy (d:Nat) (L:C8) (stm opd full:Rd Nd):Prop where
 exp:BO 66 (λs=>[Am s,.int .i64 (d:Int)]) L.exp
 ub:BO 27 (λs=>[Am s,.int .i64 (d:Int)]) stm
 decls:BO 58 (λs=>[Am s,.int .i64 (d:Int),.int .i64 0]) L.decls
 stmts:BO 58 (λs=>[Am s,.int .i64 (d:Int),.int .i64 1]) L.stmts
 alts:BO 58 (λs=>[Am s,.int .i64 (d:Int),.int .i64 2]) L.alts
 zero:d=0->L=YY
 atom:d≠0->BO 144 (λs=>[Am s,.int .i64 (d:Int)]) L.atom
 ops:d≠0->BO 70 (λs=>[Am s,.int .i64 (d:Int)]) L.ops
 row:d≠0->pk 132 (λs=>[Am s,.int .i64 (d:Int),.bool true]) (HB opd true)
 sK:d≠0->BO 145 (λs=>[Am s,.int .i64 (d:Int)]) full
 DT:d≠0->∀o,L.DT o=EE opd full L.exp o
 list:d≠0->∀o,L.list o=OG L.exp stm o
def sB (atom:Rd Nd):Prop:=∀s,Df (Aa s).1=false->atom.run s=L7.run s
section
variable {st0 st:St} {s:Af} {rows:List (AF×List Nd)} {K:AL->St->Prop} {E:Er->Af->Prop} {d:Nat} {L:C8} {atom stm opd full:Rd Nd} {o:Nd}
theorem nq {Q:Sum (List Nd) (List Nd)->Af->Prop} (ha:sB atom) (h:Rd.wp (Lh atom l) s Q E):
 if Df (Aa s).1=true then Rd.wp (JQ atom l) s Q E else if ((l.length:Int)==1)=true then Rd.wp (L7:Rd Unit) s (λ_ _=>True) E else Q (.inr l) s:=by
 unfold Lh at h
 rw [Rd.Az] at h
 split
 .split at h
  .exact h
  .rename_i e _;rw [Rd.Ah,if_pos e] at h;exact h
 .rename_i e
  split
  .rename_i U
   rw [if_pos U] at h
   have:=ha s (by simpa using e)
   unfold JQ CA Rd.wp Rd.seq Rd.look at h
   dsimp only at h
   rw [this] at h
   exact h
  .rename_i U
   rw [if_neg U,Rd.Ah,if_neg e] at h;exact h
attribute [local irreducible] Go.Aw.Ag
theorem Zp (hd:d<=1000000) (hL:Jy d L stm opd full) (ha:BO 144 (λs=>[Am s,.int .i64 ((d+1:Nat):Int)]) atom) (hF:Rd.A7 atom) (hD:Dv atom) (hA:sB atom):
 BO 242 (λs=>[.slice 6 [Ax o] .full,Am s,.int .i64 ((d+1:Nat):Int)]) (Li L atom [o]):=by
 refine ⟨λ{st0 s st rows K} hm hc h=>?_⟩
 refine pB Tryz.func242 ?_
 repeat' ((conv=>whnf);first|(refine AG ?_;intros)|(refine AH ?_ ?_<;>intro e h)|(refine AJ ?_ ?_<;>intro _)|fail)
 refine GV (λl=>Li L atom l) (λl s own=>[(0,.slice 6 (l.map Ax) own)]) (λl s own=>[(0,s.cells)]) [2,4,6] [1] (λl own=>(own,l)::rows) (λl=>l.length) .full hm (hc.push [o]) h (by show 1+_<=_;omega) Yl ?_
 intro l s1 U own1 hm1 hm2 hc h hl
 unfold Li at h
 rw [Rd.wp_seq,Rd.wp_loop] at h
 replace h:=nq hA h
 simp only [JQ,CA,Rd.Ah,Rd.Az,Rd.wp_seq,Rd.wp_ret,Rd.GO,Rd.A5] at h
 repeat' ((conv=>whnf);first|refine Bn hd ?_|(refine AG ?_;intros)|(refine AH ?_ ?_<;>intro e h)|(refine AJ ?_ ?_<;>intro _)|refine BO.UN ha hF ‹_› hc h (λn s1 U hr hl hm hc h=>?_) (λe n s1 U he hc h=>?_)|refine ND (Dv.tU hD hr ‹_›) h (λe h=>?_) (λe h=>?_)|refine X8.go (Fw Do hL.exp) AC ‹_› hc h (λl' n own' s1 U hr hl hm hc h=>?_) (λe l' n own' s1 U he hc h=>?_)|exact ⟨⟨_,s1,_,_⟩,⟨‹_›,(by dsimp only<;>omega),hc,(by simp only [Li,Rd.wp_seq,Rd.wp_ret]<;>exact Rd.BF h AC),So⟩,(by dsimp only<;>omega),Yl,St.le_refl _⟩|refine Ca ?_|(refine ME ?_;intro e he h)|(refine CN ?_;intro own1 U hc)|refine Bj (λ_=>?_)|refine Ac (λe1=>?_)|exact B3|fail)
theorem Zk (hd:d<=1000000) (hL:Jy d L stm opd full):BO 244 (λs=>[.slice 6 [Ax o] .full,Am s,.int .i64 ((d+1:Nat):Int)]) (Po L [o]):=by
 refine ⟨λ{st0 s st rows K} hm hc h=>?_⟩
 simp only [Po,Rd.wp_seq,Rd.wp_ret] at h
 refine pB Tryz.func244 ?_
 repeat' ((conv=>whnf);first|refine Bn hd ?_|(refine AG ?_;intros)|(refine AH ?_ ?_<;>intro e h)|(refine AJ ?_ ?_<;>intro _)|refine Rx.Fk (l:=[_]) (hc.push [_]) (Nat.le_of_ble_eq_true rfl) (λown1 U hc=>?_)|refine BO.go hL.exp ‹_› hc h (λn s1 U hr hl hm hc h=>?_) (λe n s1 U he hc h=>?_)|refine tL ‹_› h (λs1 hl hm h=>?_)|refine X8.go (Fw Do hL.exp) (by first|omega|(simp only [List.length_append,List.length_cons,List.length_nil]<;>omega)|(rw [VV ‹_›]<;>exact Nat.le_of_ble_eq_true rfl)) ‹_› hc h (λl' n own' s1 U hr hl hm hc h=>?_) (λe l' n own' s1 U he hc h=>?_)|refine Ca ?_|(refine CN ?_;intro own1 U hc)|refine Ac (λe1=>?_)|exact B3|fail)
theorem dZ (hd:d<=1000000) (hL:Jy d L stm opd full):BO 243 (λs=>[.slice 6 [Ax o] .full,Am s,.int .i64 ((d+1:Nat):Int)]) (TY L [o]):=by
 refine ⟨λ{st0 s st rows K} hm hc h=>?_⟩
 simp only [TY,Rd.wp_seq,Rd.wp_ret] at h
 refine pB Tryz.func243 ?_
 repeat' ((conv=>whnf);first|refine Bn hd ?_|(refine AG ?_;intros)|(refine AH ?_ ?_<;>intro e h)|(refine AJ ?_ ?_<;>intro _)|refine Rx.Fk (l:=[_]) (hc.push [_]) (Nat.le_of_ble_eq_true rfl) (λown1 U hc=>?_)|refine BO.go hL.decls ‹_› hc h (λn s1 U hr hl hm hc h=>?_) (λe n s1 U he hc h=>?_)|refine X8.go (Fw Do hL.exp) (by first|omega|(simp only [List.length_append,List.length_cons,List.length_nil]<;>omega)|(rw [VV ‹_›]<;>exact Nat.le_of_ble_eq_true rfl)) ‹_› hc h (λl' n own' s1 U hr hl hm hc h=>?_) (λe l' n own' s1 U he hc h=>?_)|refine Ca ?_|(refine CN ?_;intro own1 U hc)|refine Ac (λe1=>?_)|exact B3|fail)
theorem dR (hd:d<=1000000) (hL:Jy d L stm opd full):BO 245 (λs=>[.slice 6 [Ax o] .full,Am s,.int .i64 ((d+1:Nat):Int)]) (Z0 L [o]):=by
 refine ⟨λ{st0 s st rows K} hm hc h=>?_⟩
 simp only [Z0,Rd.wp_seq,Rd.wp_ret] at h
 refine pB Tryz.func245 ?_
 repeat' ((conv=>whnf);first|refine Bn hd ?_|(refine AG ?_;intros)|(refine AH ?_ ?_<;>intro e h)|(refine AJ ?_ ?_<;>intro _)|refine Rx.Fk (l:=[_]) (hc.push [_]) (Nat.le_of_ble_eq_true rfl) (λown1 U hc=>?_)|refine BO.go hL.exp ‹_› hc h (λn s1 U hr hl hm hc h=>?_) (λe n s1 U he hc h=>?_)|refine BO.go hL.alts ‹_› hc h (λn s1 U hr hl hm hc h=>?_) (λe n s1 U he hc h=>?_)|refine DQ (λn s1 U hr hl hm hc h=>?_) (λe n s1 U he hc h=>?_)|refine Ca ?_|(refine CN ?_;intro own1 U hc)|refine Ac (λe1=>?_)|exact B3|fail)
theorem et (hd:d<=1000000) (hL:Jy d L stm opd full):BO 246 (λs=>[.slice 6 [Ax o] .full,Am s,.int .i64 ((d+1:Nat):Int)]) (UD L [o]):=by
 refine ⟨λ{st0 s st rows K} hm hc h=>?_⟩
 simp only [UD,Rd.wp_seq,Rd.wp_ret,Rd.Az,Rd.BK] at h
 refine Bu Ad [] Tryz.func246 rfl Do rfl ?_
 refine Ak (Al Ad ?_)
 repeat' ((conv=>whnf);first|(refine AG ?_;intros)|(refine AH ?_ ?_<;>intro e h)|(refine AJ ?_ ?_<;>intro _)|fail)
 refine Ak (Al Ad ?_)
 repeat' ((conv=>whnf);first|refine Bn hd ?_|(refine AG ?_;intros)|(refine AH ?_ ?_<;>intro e h)|(refine AJ ?_ ?_<;>intro _)|refine BO.go hL.stmts ‹_› hc h (λn s1 st1 hr hl hm hc h=>?_) (λe n s1 st1 he hc h=>?_))
 .refine Al Ad ?_
  by_cases hz:n.kids.length=0
  .rw [if_pos (pI hz)] at h
   repeat' ((conv=>whnf);first|(refine AG ?_;intros)|(refine AH ?_ ?_<;>intro e h)|(refine AJ ?_ ?_<;>intro _)|refine iy (by rw [CD]<;>exact hz) ?_|refine Ca ?_|(refine CN ?_;intro U st1 hc)|refine Bj (λ_=>?_)|refine Ac (λe1=>?_)|exact B3|fail)
  .obtain ⟨x,hx⟩:∃x,n.kids[((n.kids.length:Nat) - 1:Int).toNat]? =some x:=⟨_,List.getElem?_eq_getElem AC⟩
   by_cases h1:x.kind=32\/x.kind=33
   .rw [if_pos (pJ hx h1)] at h
    rcases h1 with h1|h1
    .skip
     repeat' ((conv=>whnf);first|(refine AG ?_;intros)|(refine AH ?_ ?_<;>intro e h)|(refine AJ ?_ ?_<;>intro _)|refine Ca ?_|(refine CN ?_;intro U st1 hc)|refine Bj (λ_=>?_)|refine Ac (λe1=>?_)|exact B3|fail)
    .skip
     repeat' ((conv=>whnf);first|(refine AG ?_;intros)|(refine AH ?_ ?_<;>intro e h)|(refine AJ ?_ ?_<;>intro _)|refine Ca ?_|(refine CN ?_;intro U st1 hc)|refine Bj (λ_=>?_)|refine Ac (λe1=>?_)|exact B3|fail)
   .have h2:¬x.kind=32:=λe=>h1 (.inl e)
    have h3:¬x.kind=33:=λe=>h1 (.inr e)
    rw [if_neg (pK hx h2 h3)] at h
    repeat' ((conv=>whnf);first|(refine AG ?_;intros)|(refine AH ?_ ?_<;>intro e h)|(refine AJ ?_ ?_<;>intro _)|refine Rx.Fk (l:=[_]) (hc.push [_]) (Nat.le_of_ble_eq_true rfl) (λU st1 hc=>?_)|refine Ca ?_|(refine CN ?_;intro U st1 hc)|refine Bj (λ_=>?_)|refine Ac (λe1=>?_)|exact B3|fail)
 .refine Al Ad ?_
  repeat' ((conv=>whnf);first|(refine AG ?_;intros)|(refine AH ?_ ?_<;>intro e h)|(refine AJ ?_ ?_<;>intro _)|refine Ca ?_|(refine CN ?_;intro U st1 hc)|refine Bj (λ_=>?_)|refine Ac (λe1=>?_)|exact B3|fail)
end
def Un (stmt:Rd Nd) (l:List Nd) (n:Nd):Rd (List Nd):=.seq stmt λt=>.loop (KO stmt) (l++[n]++[t])
theorem nV:Ed stmt l=.seq (BU 10 [124]) λb=>Un stmt l b:=rfl
def KW (L:C8) (o:Nd):Rd Nd:=.seq EK λp=>.seq L.ops λe=>FE 10 ([o]++[p]++[e]) [41]
theorem cg {s:Af} {k:Int} (e:A9 s k x=true) (h:Rd.wp A0 s Q E):Rd.wp (BU k x) s Q E:=by
 unfold BU;rw [Rd.Ah,if_pos e];exact h
theorem cI {s:Af} {k:Int} (e:A9 s 15 x=true) (h:Rd.wp A0 s (λc s'=>Q (Ar k (l++[c])) s') E):Rd.wp (FE k l x) s Q E:=by
 unfold FE;rw [Rd.wp_seq];exact cg e h
section
variable {st0 st:St} {s:Af} {rows:List (AF×List Nd)} {K:AL->St->Prop} {E:Er->Af->Prop} {d:Nat} {L:C8} {atom stm opd full:Rd Nd} {o:Nd}
theorem aK {Q:β->Af->Prop} (T:σ->Rd β) (P:σ->Prop) {x0:σ} (hp:P x0)
 (f:σ->Af->AF->List (Nat×V)) (g:σ->Af->AF->List (Nat×List V)) (keep kb:List Nat) (rw:σ->AF->List (AF×List Nd)) (wt:σ->Nat) (U:AF) (hm:mu s<=100000000) (hc:Rx st0 st (rw x0 U)) (h:Rd.wp (T x0) s Q E) (hl:wt x0+4*mu s<=500000000)
 (he:(env.F3 (f x0 s U) (g x0 s U) keep kb).C7 env)
 (hb:∀x s1 st1 own1,P x->mu s1<=100000000->mu s1<=mu s->Rx st0 st1 (rw x own1)->Rd.wp (T x) s1 Q E->wt x+4*mu s1<=500000000->
   ih (Bp (λenv' st'=>∃y:LS σ,(P y.x/\mu y.s<=100000000/\mu y.s<=mu s/\Rx st0 y.m (rw y.x y.o)/\Rd.wp (T y.x) y.s Q E/\wt y.x+4*mu y.s<=500000000)/\mu y.s<mu s1/\(env.F3 (f y.x y.s y.o) (g y.x y.s y.o) keep kb).C7 env'/\St.le y.m st') Q0)
    (env.F3 (f x s1 own1) (g x s1 own1) keep kb) st1):
 ∃(α:Type) (E:α->Env) (S:α->St) (J:α->Prop) (μ:α->Nat) (x0:α),J x0/\(E x0).C7 env/\St.le (S x0) st/\
  ∀x,J x->ih (Bp (λenv' st'=>∃y,J y/\μ y<μ x/\(E y).C7 env'/\St.le (S y) st') Q0) (E x) (S x):=
 ⟨LS σ,λy=>env.F3 (f y.x y.s y.o) (g y.x y.s y.o) keep kb,λy=>y.m,
   λy=>P y.x/\mu y.s<=100000000/\mu y.s<=mu s/\Rx st0 y.m (rw y.x y.o)/\Rd.wp (T y.x) y.s Q E/\wt y.x+4*mu y.s<=500000000,λy=>mu y.s,⟨x0,s,st,U⟩,⟨hp,hm,Nat.le_refl _,hc,h,hl⟩,he,St.le_refl _,
   λy ⟨j0,j1,j2,j3,j4,j5⟩=>hb y.x y.s y.m y.o j0 j1 j2 j3 j4 j5⟩
attribute [local irreducible] Go.Aw.Ag
theorem SZ (hs:BO 27 (λs=>[Am s,.int .i64 D]) stm):X8 90000000 134 (λs v=>[v,Am s,.str [124],.int .i64 D]) (Ed stm):=by
 refine ⟨λ{st0 s st rows K own l} hl hm hc h=>?_⟩
 rw [nV,Rd.wp_seq] at h
 refine pB Tryz.func134 ?_
 repeat' ((conv=>whnf);first|exact Dk|(refine AG ?_;intros)|(refine Dl ?_ ?_ ?_;rotate_left)|(refine AH ?_ ?_<;>intro e h)|(refine AJ ?_ ?_<;>intro _)|refine Hx (λ_=>?_) ?_|refine BO.go (KV Do) ‹_› hc h (λn s1 U hr hl hm hc h=>?_) (λe n s1 U he hc h=>?_)|with_reducible refine WF ?_)
 .refine GV (λp=>Un stm p.1 p.2) (x0:=(l,n)) (λp s own=>[(0,.slice 6 (p.1.map Ax) own)]) (λp s own=>[(2,CY p.2 s 0)]) [3,9,10] [1] (λp own=>(own,p.1)::rows) (λp=>p.1.length) own hm hc h UV Yl ?_
  rintro ⟨l,n⟩ s1 U own1 hm1 hm2 hc h hl
  dsimp only at hc h hl
  simp only [Un,KO,Rd.Ah,Rd.Az,Rd.wp_seq,Rd.wp_ret,Rd.wp_loop,Rd.A5] at h
  repeat' ((conv=>whnf);first|exact Dk|(refine AG ?_;intros)|(refine Dl ?_ ?_ ?_;rotate_left)|(refine AH ?_ ?_<;>intro e h)|(refine AJ ?_ ?_<;>intro _)|refine Hx (λ_=>?_) ?_|refine BO.go hs ‹_› hc h (λn s1 U hr hl hm hc h=>?_) (λe n s1 U he hc h=>?_)|exact ⟨⟨(_,_),s1,_,_⟩,⟨‹_›,(by dsimp only<;>omega),hc,(by simp only [Un,Rd.wp_seq]<;>exact Rd.lL AC h),So⟩,(by dsimp only<;>omega),Yl,St.le_refl _⟩|refine Ca ?_|(refine D4 ?_ ?_<;>intro e h)|(refine D5 ?_;intro s1 hz hl hm h)|refine DQ (λn s1 U hr hl hm hc h=>?_) (λe n s1 U he hc h=>?_)|(refine CN ?_;intro own1 U hc)|refine Ac (λe1=>?_)|exact B3|refine Ae [(0,true),(1,true),(2,true),(3,false)] [1] GE ?_|refine Ae [(0,true),(1,true),(2,true),(3,false)] [1] GE ?_|refine Ae [(0,true),(1,true),(2,true),(3,false)] [1] GE ?_|with_reducible refine WF ?_)
 .refine N2 [(0,.slice 6 (l.map Ax) own)] [(2,CY n s1 e.1)] [3,9,10] [1] Yl (λP=>?_)
  repeat' ((conv=>whnf);first|exact Dk|(refine AG ?_;intros)|(refine Dl ?_ ?_ ?_;rotate_left)|(refine AH ?_ ?_<;>intro e h)|(refine AJ ?_ ?_<;>intro _)|refine Hx (λ_=>?_) ?_|refine Ca ?_|(refine D4 ?_ ?_<;>intro e h)|(refine D5 ?_;intro s1 hz hl hm h)|refine DQ (λn s1 U hr hl hm hc h=>?_) (λe n s1 U he hc h=>?_)|(refine CN ?_;intro own1 U hc)|refine Ac (λe1=>?_)|exact B3|refine Ae [(0,true),(1,true),(2,true),(3,false)] [1] GE ?_|refine Ae [(0,true),(1,true),(2,true),(3,false)] [1] GE ?_|refine Ae [(0,true),(1,true),(2,true),(3,false)] [1] GE ?_|with_reducible refine WF ?_)
theorem OO (hd:d<=1000000) (hL:Jy d L stm opd full):BO 316 (λs=>[.slice 6 [Ax o] .full,Am s,.int .i64 ((d+1:Nat):Int)]) (KW L o):=by
 refine ⟨λ{st0 s st rows K} hm hc h=>?_⟩
 unfold KW at h
 simp only [Rd.wp_seq] at h
 refine pB Tryz.func316 ?_
 by_cases hz:d=0
 .have hlt:((d+1:Nat):Int)<2:=AC
  have e:=hL.zero hz
  subst e
  simp only [YY,Rd.BK] at h
  repeat' ((conv=>whnf);first|(refine AG ?_;intros)|(refine AH ?_ ?_<;>intro e h)|(refine AJ ?_ ?_<;>intro _)|refine BO.go G8 ‹_› hc h (λn s1 U hr hl hm hc h=>?_) (λe n s1 U he hc h=>?_)|refine Ca ?_|(refine CN ?_;intro own1 U hc)|refine Ac (λe1=>?_)|exact B3|fail)
 .have hlt:¬((d+1:Nat):Int)<2:=AC
  repeat' ((conv=>whnf);first|refine Bn hd ?_|(refine AG ?_;intros)|(refine AH ?_ ?_<;>intro e h)|(refine AJ ?_ ?_<;>intro _)|refine BO.go G8 ‹_› hc h (λn s1 U hr hl hm hc h=>?_) (λe n s1 U he hc h=>?_)|refine BO.go (hL.ops hz) ‹_› hc h (λn s1 U hr hl hm hc h=>?_) (λe n s1 U he hc h=>?_)|refine pj.go GI So ‹_› hc h (λn s1 U hr hl hm hc h=>?_) (λe n s1 U he hc h=>?_)|refine Ca ?_|(refine CN ?_;intro own1 U hc)|refine Ac (λe1=>?_)|exact B3|fail)
def Lt (L:C8) (p:Bool×List Nd×Nd):Rd Nd:=.seq (.loop (Np L) p.2.1) λl=>.seq (BU 15 [125]) λc=>.ret (Ar 12 (l++[c]))
theorem gX:NX L l=.seq (HK [1,3]) λU=>.seq (Gj L.exp 10 [61] [U]) λf=>.look λs=>
 if A9 s 15 [44]=true then .seq A0 λc=>.ret (.inl (l++[Ar 13 f]++[c])) else .ret (.inr (l++[Ar 13 f])):=by
 simp only [NX,Gj,Rd.seq_assoc,Rd.Ns,List.cons_append,List.nil_append]
theorem iq {c:Prop} [Decidable c] (h:if c then P else P):P:=by split at h<;>exact h
theorem ep (hd:d<=1000000) (hL:Jy d L stm opd full) (hm:mu s<=100000000) (hc:Rx st0 st rows) (e:A9 s 15 [123]=true) (h:Rd.wp (Hr L n) s (λv s'=>∀st',Rx st0 st' rows->K (.ret (AO v s' 0)) st') (λe s'=>∀n st',Rx st0 st' rows->K (.ret (AO n s' e.1)) st')):
 PC 213 [AO n s 0,.int .i64 ((d+1:Nat):Int)] st K:=by
 unfold Hr at h
 rw [Rd.wp_seq] at h
 refine pB Tryz.func213 ?_
 repeat' ((conv=>whnf);first|(refine AG ?_;intros)|(refine AH ?_ ?_<;>intro e h)|(refine AJ ?_ ?_<;>intro _)|refine Rx.Fk (l:=[_]) (hc.push [_]) (Nat.le_of_ble_eq_true rfl) (λown1 U hc=>?_)|refine X2 ‹_› h e Do (λs1 hz hl hm h=>?_))
 refine aK (Lt L) (λp=>(p.1=true/\p.2.1.length=2)\/(p.1=false/\2<p.2.1.length)) (x0:=(true,[n,Av (Aa s).1],Av (Aa s).1)) (.inl ⟨rfl,rfl⟩) (λp s own=>[(5,.slice 6 (p.2.1.map Ax) own),(7,.bool p.1)]) (λp s own=>[(0,CY p.2.2 s 0),(2,s.cells)]) [1,2,4,6] [1] (λp own=>(own,p.2.1)::rows) (λp=>p.2.1.length) _ hm hc h (by show 2+_<=_;omega) Yl ?_
 rintro ⟨first,l,x⟩ s1 U own1 hp hm1 hm2 hc h hl
 dsimp only at hp hc h hl
 simp only [Lt,Rd.wp_seq,Rd.wp_loop,Np,gX,HK,Rd.Ah,Rd.Az,Rd.wp_ret,Rd.A5] at h
 have hcont:∀k:Int,([1,3]:List Int).contains k=true↔(k=1\/k=3):=λk=>by simp
 simp only [hcont] at h
 rcases hp with ⟨rfl,hp⟩|⟨rfl,hp⟩
 .rw [if_neg (show ¬(2:Int)<(l.length:Int) by omega)] at h
  by_cases k1:(Aa s1).1.kind=1
  .rw [if_pos (show (Aa s1).1.kind=1\/(Aa s1).1.kind=3 from .inl k1)] at h
   repeat' ((conv=>whnf);first|refine Bn hd ?_|(refine AG ?_;intros)|(refine AH ?_ ?_<;>intro e h)|(refine AJ ?_ ?_<;>intro _)|refine X8.go (l:=[_]) (own:=.full) (Fw Do hL.exp) (Nat.le_of_ble_eq_true rfl) ‹_› (hc.push [_]) h (λl' n own' s1 U hr hl hm hc h=>?_) (λe l' n own' s1 U he hc h=>?_)|refine Rx.Fk hc.drop ke (λown1 U hc=>?_)|exact Fc hc.drop.drop (h _) rfl|exact ⟨⟨(_,_,_),s1,_,_⟩,⟨(.inr ⟨rfl,So⟩),‹_›,(by dsimp only<;>omega),hc,(by simp only [Lt,Rd.wp_seq,Rd.wp_ret]<;>exact Rd.BF h AC),So⟩,(by dsimp only<;>omega),Yl,St.le_refl _⟩|refine Ca ?_|(refine D4 ?_ ?_<;>intro e h)|(refine D5 ?_;intro s1 hz hl hm h)|refine DQ (λn s1 U hr hl hm hc h=>?_) (λe n s1 U he hc h=>?_)|(refine ME ?_;intro e he h)|(refine CN ?_;intro own1 U hc)|refine Ac (λe1=>?_)|exact B3|fail)
  .by_cases k3:(Aa s1).1.kind=3
   .rw [if_pos (show (Aa s1).1.kind=1\/(Aa s1).1.kind=3 from .inr k3)] at h
    repeat' ((conv=>whnf);first|refine Bn hd ?_|(refine AG ?_;intros)|(refine AH ?_ ?_<;>intro e h)|(refine AJ ?_ ?_<;>intro _)|refine X8.go (l:=[_]) (own:=.full) (Fw Do hL.exp) (Nat.le_of_ble_eq_true rfl) ‹_› (hc.push [_]) h (λl' n own' s1 U hr hl hm hc h=>?_) (λe l' n own' s1 U he hc h=>?_)|refine Rx.Fk hc.drop ke (λown1 U hc=>?_)|exact Fc hc.drop.drop (h _) rfl|exact ⟨⟨(_,_,_),s1,_,_⟩,⟨(.inr ⟨rfl,So⟩),‹_›,(by dsimp only<;>omega),hc,(by simp only [Lt,Rd.wp_seq,Rd.wp_ret]<;>exact Rd.BF h AC),So⟩,(by dsimp only<;>omega),Yl,St.le_refl _⟩|refine Ca ?_|(refine D4 ?_ ?_<;>intro e h)|(refine D5 ?_;intro s1 hz hl hm h)|refine DQ (λn s1 U hr hl hm hc h=>?_) (λe n s1 U he hc h=>?_)|(refine ME ?_;intro e he h)|(refine CN ?_;intro own1 U hc)|refine Ac (λe1=>?_)|exact B3|fail)
   .rw [if_neg (show ¬((Aa s1).1.kind=1\/(Aa s1).1.kind=3) from λe=>e.elim k1 k3)] at h
    repeat' ((conv=>whnf);first|(refine AG ?_;intros)|(refine AH ?_ ?_<;>intro e h)|(refine AJ ?_ ?_<;>intro _)|refine Ca ?_|(refine D4 ?_ ?_<;>intro e h)|(refine D5 ?_;intro s1 hz hl hm h)|refine DQ (λn s1 U hr hl hm hc h=>?_) (λe n s1 U he hc h=>?_)|(refine ME ?_;intro e he h)|(refine CN ?_;intro own1 U hc)|refine Ac (λe1=>?_)|exact B3|fail)
 .rw [if_pos (show (2:Int)<(l.length:Int) by omega)] at h
  replace h:=iq h
  by_cases k1:(Aa s1).1.kind=1
  .rw [if_pos (show (Aa s1).1.kind=1\/(Aa s1).1.kind=3 from .inl k1)] at h
   repeat' ((conv=>whnf);first|refine Bn hd ?_|(refine AG ?_;intros)|(refine AH ?_ ?_<;>intro e h)|(refine AJ ?_ ?_<;>intro _)|refine X8.go (l:=[_]) (own:=.full) (Fw Do hL.exp) (Nat.le_of_ble_eq_true rfl) ‹_› (hc.push [_]) h (λl' n own' s1 U hr hl hm hc h=>?_) (λe l' n own' s1 U he hc h=>?_)|refine Rx.Fk hc.drop ke (λown1 U hc=>?_)|exact Fc hc.drop.drop (h _) rfl|exact ⟨⟨(_,_,_),s1,_,_⟩,⟨(.inr ⟨rfl,So⟩),‹_›,(by dsimp only<;>omega),hc,(by simp only [Lt,Rd.wp_seq,Rd.wp_ret]<;>exact Rd.BF h AC),So⟩,(by dsimp only<;>omega),Yl,St.le_refl _⟩|refine Ca ?_|(refine D4 ?_ ?_<;>intro e h)|(refine D5 ?_;intro s1 hz hl hm h)|refine DQ (λn s1 U hr hl hm hc h=>?_) (λe n s1 U he hc h=>?_)|(refine ME ?_;intro e he h)|(refine CN ?_;intro own1 U hc)|refine Ac (λe1=>?_)|exact B3|fail)
  .by_cases k3:(Aa s1).1.kind=3
   .rw [if_pos (show (Aa s1).1.kind=1\/(Aa s1).1.kind=3 from .inr k3)] at h
    repeat' ((conv=>whnf);first|refine Bn hd ?_|(refine AG ?_;intros)|(refine AH ?_ ?_<;>intro e h)|(refine AJ ?_ ?_<;>intro _)|refine X8.go (l:=[_]) (own:=.full) (Fw Do hL.exp) (Nat.le_of_ble_eq_true rfl) ‹_› (hc.push [_]) h (λl' n own' s1 U hr hl hm hc h=>?_) (λe l' n own' s1 U he hc h=>?_)|refine Rx.Fk hc.drop ke (λown1 U hc=>?_)|exact Fc hc.drop.drop (h _) rfl|exact ⟨⟨(_,_,_),s1,_,_⟩,⟨(.inr ⟨rfl,So⟩),‹_›,(by dsimp only<;>omega),hc,(by simp only [Lt,Rd.wp_seq,Rd.wp_ret]<;>exact Rd.BF h AC),So⟩,(by dsimp only<;>omega),Yl,St.le_refl _⟩|refine Ca ?_|(refine D4 ?_ ?_<;>intro e h)|(refine D5 ?_;intro s1 hz hl hm h)|refine DQ (λn s1 U hr hl hm hc h=>?_) (λe n s1 U he hc h=>?_)|(refine ME ?_;intro e he h)|(refine CN ?_;intro own1 U hc)|refine Ac (λe1=>?_)|exact B3|fail)
   .rw [if_neg (show ¬((Aa s1).1.kind=1\/(Aa s1).1.kind=3) from λe=>e.elim k1 k3)] at h
    repeat' ((conv=>whnf);first|(refine AG ?_;intros)|(refine AH ?_ ?_<;>intro e h)|(refine AJ ?_ ?_<;>intro _)|refine Ca ?_|(refine D4 ?_ ?_<;>intro e h)|(refine D5 ?_;intro s1 hz hl hm h)|refine DQ (λn s1 U hr hl hm hc h=>?_) (λe n s1 U he hc h=>?_)|(refine ME ?_;intro e he h)|(refine CN ?_;intro own1 U hc)|refine Ac (λe1=>?_)|exact B3|fail)
end
def VL (exp:Rd Nd) (p:List Nd×Nd×Nat):Rd Nd:=.seq (.loop (VJ exp) p.1) λq=>FE q.1 q.2 [93]
theorem qW {exp:Rd Nd}:OG exp stmt o=.seq exp λe=>.look λs=>if A9 s 10 [124]=true then .seq (Ed stmt ([o]++[e])) λl=>FE 8 l [93] else VL exp ([o]++[e],e,1):=rfl
def UA (L:C8) (o:Nd):Rd Nd:=.look λs=>if A9 s 15 [93]=true then .seq A0 λc=>.ret (Ar 3 [o,c]) else L.list o
theorem kU:LA L=.seq A0 λo=>UA L o:=rfl
section
variable {st0 st:St} {s:Af} {rows:List (AF×List Nd)} {K:AL->St->Prop} {E:Er->Af->Prop} {d:Nat} {L:C8} {atom stm opd full:Rd Nd} {o:Nd}
theorem HU {own:AF} (e:A9 s 15 x=true) (hl:l.length<=900000000) (hm:mu s<=100000000) (hc:Rx st0 st ((own,l)::rows)) (h:Rd.wp A0 s Q E)
 (k:∀c s' st',mu s'<=100000000->Rx st0 st' rows->Q c s'->K (.ret (AO (Ar kd (l++[c])) s' 0)) st'):PC 315 [.int .i64 kd,.slice 6 (l.map Ax) own,Am s,.str x] st K:=
 (GI (k:=kd) (x:=x)).ap hl hm hc (cI e (by
   have U:=FK e Do
   rw [NC U] at h |-
   exact λst' c=>k _ _ _ (by have:=(CK U).1;omega) c h))
theorem KR {exp:Rd Nd} {k:Int} {own:AF} {Q:Nd->Nd->Af->Prop} (hk:k≠0/\k≠21) (he:BO 66 (λs=>[Am s,.int .i64 D]) exp) (e:A9 s k x=true) (hl:l.length<=900000000) (hm:mu s<=100000000) (hc:Rx st0 st ((own,l)::rows))
 (h:Rd.wp A0 s (λc s'=>Rd.wp exp s' (λn s2=>Q c n s2) E) E)
 (kk:∀c n n' U s2 st',mu s2<mu s->mu s2<=100000000->Rx st0 st' ((U,l++[c]++[n])::rows)->Q c n s2->K (.ret (.Bh [.slice 6 ((l++[c]++[n]).map Ax) U,AO n' s2 0])) st')
 (kb:∀e l' n U s' st',¬e.1=0->Rx st0 st' ((U,l')::rows)->E e s'->K (.ret (.Bh [.slice 6 (l'.map Ax) U,AO n s' e.1])) st'):PC 65 [.slice 6 (l.map Ax) own,Am s,.int .i64 k,.str x,.int .i64 D] st K:=
 (Fw (x:=x) hk.1 he).ap hl hm hc (by
   have hz:=FK e hk.1
   have hlt:=C0 e hk.1 hk.2
   simp only [Gj,Rd.wp_seq,Rd.wp_ret]
   refine cg e ?_
   rw [NC hz] at h |-
   exact Rd.wp_mono h (λn s2 r q n' U st' c=>by have:=exp.le _ _ _ r;exact kk _ n n' U s2 st' AC AC c q) (λe s' _ q l' n U st' c=>kb e l' n U s' st' e.2 c q))
attribute [local irreducible] Go.Aw.Ag
theorem Zt (hd:d<=1000000) (hL:Jy d L stm opd full):BO 270 (λs=>[.slice 6 [Ax o] .full,Am s,.int .i64 ((d+1:Nat):Int)]) (UA L o):=by
 refine ⟨λ{st0 s st rows K} hm hc h=>?_⟩
 unfold UA at h
 rw [Rd.Ah,Rd.Az,Rd.wp_seq] at h
 simp only [Rd.wp_ret] at h
 refine pB Tryz.func270 ?_
 by_cases hz:d=0
 .have e:=hL.zero hz
  have hx:=hL.exp
  subst e
  simp only [YY,Rd.BK] at h
  repeat' ((conv=>whnf);first|refine Bn hd ?_|(refine AG ?_;intros)|(refine AH ?_ ?_<;>intro e h)|(refine AJ ?_ ?_<;>intro _)|refine BO.go hx ‹_› hc (Q:=λ_ _=>False) (E:=λe s'=>∀n st',Rx st0 st' rows->K (.ret (AO n s' e.1)) st') h (λn s1 U hr hl hm hc h=>?_) (λe n s1 U he hc h=>?_)|refine HU (l:=[_]) (own:=.full) ‹_› (Nat.le_of_ble_eq_true rfl) ‹_› (hc.push [_]) h (λn s1 U hm hc h=>?_)|exact h.elim|refine Ca ?_|(refine D4 ?_ ?_<;>intro e h)|(refine D5 ?_;intro s1 hz hl hm h)|refine DQ (λn s1 U hr hl hm hc h=>?_) (λe n s1 U he hc h=>?_)|(refine CN ?_;intro own1 U hc)|refine Ac (λe1=>?_)|exact B3|fail)
 .rw [hL.list hz,qW] at h
  simp only [Rd.wp_seq,Rd.Ah,Rd.Az] at h
  repeat' ((conv=>whnf);first|refine Bn hd ?_|(refine AG ?_;intros)|(refine AH ?_ ?_<;>intro e h)|(refine AJ ?_ ?_<;>intro _)|refine BO.go hL.exp ‹_› hc h (λn s1 U hr hl hm hc h=>?_) (λe n s1 U he hc h=>?_)|refine HU (l:=[_]) (own:=.full) ‹_› (Nat.le_of_ble_eq_true rfl) ‹_› (hc.push [_]) h (λn s1 U hm hc h=>?_)|refine X8.go (SZ hL.ub) (Nat.le_of_ble_eq_true rfl) ‹_› hc h (λl' n own' s1 U hr hl hm hc h=>?_) (λe l' n own' s1 U he hc h=>?_)|refine pj.go GI (by have:=Lq ‹_›<;>simp only [List.length_append,List.length_cons,List.length_nil] at this<;>omega) ‹_› hc h (λn s1 U hr hl hm hc h=>?_) (λe n s1 U he hc h=>?_)|refine Ca ?_|(refine D4 ?_ ?_<;>intro e h)|(refine D5 ?_;intro s1 hz hl hm h)|refine DQ (λn s1 U hr hl hm hc h=>?_) (λe n s1 U he hc h=>?_)|(refine CN ?_;intro own1 U hc)|refine Ac (λe1=>?_)|exact B3|fail)
  refine aK (VL L.exp) (λp=>p.1.length=2*p.2.2) (x0:=([o]++[_],_,1)) rfl (λp s own=>[(0,.slice 6 (p.1.map Ax) own),(8,.int .i64 (p.2.2:Int))]) (λp s own=>[(2,CY p.2.1 s 0)]) [2,6,7] [1] (λp own=>(own,p.1)::rows) (λp=>p.1.length) _ ‹_› hc h (by show 2+_<=_;omega) Yl ?_
  rintro ⟨l,n,k⟩ s1 U own1 hp hm1 hm2 hc h hl
  dsimp only at hp hc h hl |-
  simp only [VL,VJ,VK,Rd.wp_seq,Rd.wp_loop,Rd.Ah,Rd.Az,Rd.wp_ret,Rd.A5] at h
  by_cases hk:(k:Int)<3
  .rw [if_pos AC] at h
   repeat' ((conv=>whnf);first|refine Bn hd ?_|refine Wq (a:=(k:Int)+1) AC AC ?_|(refine AG ?_;intros)|(refine AH ?_ ?_<;>intro e h)|(refine AJ ?_ ?_<;>intro _)|refine BO.go hL.exp ‹_› hc h (λn s1 U hr hl hm hc h=>?_) (λe n s1 U he hc h=>?_)|refine pj.go GI So ‹_› hc h (λn s1 U hr hl hm hc h=>?_) (λe n s1 U he hc h=>?_)|refine pj.go GI AC ‹_› hc h (λn s1 U hr hl hm hc h=>?_) (λe n s1 U he hc h=>?_)|refine KR Do hL.exp ‹_› AC ‹_› hc h (λc n n' own1 s1 U hl hm hc h=>?_) (λe l' n own' s1 U he hc h=>?_)|exact ⟨⟨(_,_,k+1),s1,_,_⟩,⟨So,‹_›,(by dsimp only<;>omega),hc,(by simp only [VL,Rd.wp_seq]<;>exact Rd.BF h AC),So⟩,(by dsimp only<;>omega),Yl,St.le_refl _⟩|refine Ca ?_|(refine D4 ?_ ?_<;>intro e h)|(refine D5 ?_;intro s1 hz hl hm h)|refine DQ (λn s1 U hr hl hm hc h=>?_) (λe n s1 U he hc h=>?_)|(refine CN ?_;intro own1 U hc)|refine Ac (λe1=>?_)|exact B3|fail)
  .rw [if_neg AC] at h
   repeat' ((conv=>whnf);first|refine Bn hd ?_|refine Wq (a:=(k:Int)+1) AC AC ?_|(refine AG ?_;intros)|(refine AH ?_ ?_<;>intro e h)|(refine AJ ?_ ?_<;>intro _)|refine pj.go GI AC ‹_› hc h (λn s1 U hr hl hm hc h=>?_) (λe n s1 U he hc h=>?_)|refine KR Do hL.exp ‹_› AC ‹_› hc h (λc n n' own1 s1 U hl hm hc h=>?_) (λe l' n own' s1 U he hc h=>?_)|exact ⟨⟨(_,_,k+1),s1,_,_⟩,⟨So,‹_›,(by dsimp only<;>omega),hc,(by simp only [VL,Rd.wp_seq]<;>exact Rd.BF h AC),So⟩,(by dsimp only<;>omega),Yl,St.le_refl _⟩|refine Ca ?_|(refine D4 ?_ ?_<;>intro e h)|(refine D5 ?_;intro s1 hz hl hm h)|refine DQ (λn s1 U hr hl hm hc h=>?_) (λe n s1 U he hc h=>?_)|(refine CN ?_;intro own1 U hc)|refine Ac (λe1=>?_)|exact B3|fail)
theorem Rk:BO 314 (λs=>[.slice 6 [Ax o] .full,Am s]) (M1 o):=by
 refine ⟨λ{st0 s st rows K} hm hc h=>?_⟩
 unfold M1 at h
 refine pB Tryz.func314 ?_
 repeat' ((conv=>whnf);first|(refine AG ?_;intros)|(refine AH ?_ ?_<;>intro e h)|(refine AJ ?_ ?_<;>intro _)|fail)
 refine GV (λl=>.seq (.loop MO l) λl=>.seq (BU 15 [41]) λc=>.ret (Ar 3 (l++[c]))) (x0:=[o]) (λl s own=>[(0,.slice 6 (l.map Ax) own)]) (λl s own=>[(0,s.cells)]) [3,4] [1] (λl own=>(own,l)::rows) (λl=>l.length) .full hm (hc.push [o]) h (by show 1+_<=_;omega) Yl ?_
 intro l s1 U own1 hm1 hm2 hc h hl
 simp only [MO,Rd.wp_seq,Rd.wp_loop,Rd.Ah,Rd.Az,Rd.wp_ret,Rd.A5] at h
 repeat' ((conv=>whnf);first|(refine AG ?_;intros)|(refine AH ?_ ?_<;>intro e h)|(refine AJ ?_ ?_<;>intro _)|exact ⟨⟨_,s1,_,_⟩,⟨‹_›,(by dsimp only<;>omega),hc,(by simp only [Rd.wp_seq,Rd.wp_ret]<;>exact Rd.BF h AC),So⟩,(by dsimp only<;>omega),Yl,St.le_refl _⟩|refine Ca ?_|(refine D4 ?_ ?_<;>intro e h)|(refine D5 ?_;intro s1 hz hl hm h)|refine DQ (λn s1 U hr hl hm hc h=>?_) (λe n s1 U he hc h=>?_)|(refine CN ?_;intro own1 U hc)|refine Ac (λe1=>?_)|exact B3|fail)
end
def Ut (L:C8) (o:Nd):Rd Nd:=.look λs=>if A9 s 15 [41]=true then M1 o else if A9 s 15 [44]=true then M1 o else Od L o
theorem ot:Oe L=.seq A0 λo=>Ut L o:=rfl
section
variable {st0 st:St} {s:Af} {rows:List (AF×List Nd)} {K:AL->St->Prop} {E:Er->Af->Prop} {d:Nat} {L:C8} {atom stm opd full:Rd Nd} {o:Nd}
theorem Zs (hd:d<=1000000) (hL:Jy d L stm opd full) (hm:mu s<=100000000) (hc:Rx st0 st rows) (e:A9 s 15 [123]=true) (h:Rd.wp (Hr L n) s Q E)
 (k:∀U s' st',mu s'<mu s->mu s'<=100000000->Rx st0 st' rows->Q U s'->K (.ret (AO U s' 0)) st')
 (kb:∀e n s' st',¬e.1=0->Rx st0 st' rows->E e s'->K (.ret (AO n s' e.1)) st'):PC 213 [AO n s 0,.int .i64 ((d+1:Nat):Int)] st K:=
 ep hd hL hm hc e (Rd.wp_mono h (λv s' r q st' c=>by have:=MV r e;exact k v s' st' this AC c q) (λe s' _ q n st' c=>kb e n s' st' e.2 c q))
def qA:Option Er->Int
 |none=>0
 |some e=>e.1
theorem nE (T:Nd->Rd Nd) {x0:Nd} (g:Nd->Af->Int->List (Nat×List V)) (keep kb:List Nat) (hm:mu s<=100000000) (hc:Rx st0 st rows) (h:Rd.wp (T x0) s Q E)
 (he:(env.F3 [] (g x0 s 0) keep kb).C7 env)
 (hb:∀x s1 U,mu s1<=100000000->Rx st0 U rows->Rd.wp (T x) s1 Q E->ih (Bp (λenv' st'=>∃y:LS (Nd×Option Er),(match y.x.2 with
   |none=>mu y.s<=100000000/\Rx st0 y.m rows/\Rd.wp (T y.x.1) y.s Q E
   |some e=>Rx st0 y.m rows/\E e y.s)/\(match y.x.2 with
   |none=>mu y.s+1
   |some _=>0)<mu s1+1/\(env.F3 [] (g y.x.1 y.s (qA y.x.2)) keep kb).C7 env'/\St.le y.m st') Q0) (env.F3 [] (g x s1 0) keep kb) U)
 (hbe:∀n (e:Er) s1 U,¬e.1=0->Rx st0 U rows->E e s1->∀P,ih (Bp P Q0) (env.F3 [] (g n s1 e.1) keep kb) U):
 ∃(α:Type) (E:α->Env) (S:α->St) (J:α->Prop) (μ:α->Nat) (x0:α),J x0/\(E x0).C7 env/\St.le (S x0) st/\
  ∀x,J x->ih (Bp (λenv' st'=>∃y,J y/\μ y<μ x/\(E y).C7 env'/\St.le (S y) st') Q0) (E x) (S x):=
 ⟨LS (Nd×Option Er),λy=>env.F3 [] (g y.x.1 y.s (qA y.x.2)) keep kb,λy=>y.m,λy=>match y.x.2 with
   |none=>mu y.s<=100000000/\Rx st0 y.m rows/\Rd.wp (T y.x.1) y.s Q E
   |some e=>Rx st0 y.m rows/\E e y.s,λy=>match y.x.2 with
   |none=>mu y.s+1
   |some _=>0,⟨(x0,none),s,st,.full⟩,⟨hm,hc,h⟩,he,St.le_refl _,by
   rintro ⟨⟨x,o⟩,s1,m,w⟩ j
   cases o with
   |none=>exact hb x s1 m j.1 j.2.1 j.2.2
   |some e=>exact hbe x e s1 m e.2 j.1 j.2 _⟩
attribute [local irreducible] Go.Aw.Ag
theorem jx (hd:d<=1000000) (hL:Jy d L stm opd full) (hb:BO 212 (λs=>[Am s,.int .i64 ((d+1:Nat):Int)]) (Kb L)):BO 144 (λs=>[Am s,.int .i64 ((d+1:Nat):Int)]) (Ka L):=by
 refine ⟨λ{st0 s st rows K} hm hc h=>?_⟩
 unfold Ka at h
 rw [Rd.wp_seq] at h
 refine pB Tryz.func144 ?_
 repeat' ((conv=>whnf);first|(refine AG ?_;intros)|(refine AH ?_ ?_<;>intro e h)|(refine AJ ?_ ?_<;>intro _)|refine BO.go hb ‹_› hc h (λn s1 U hr hl hm hc h=>?_) (λe n s1 U he hc h=>?_))
 .refine nE (λn=>Rd.loop (UU L) n) (x0:=n) (λn s e=>[(2,CY n s e)]) [1,4,5] [1] hm hc h Yl (λn s1 U hm1 hc h=>?_) (λn e s1 U he hc h P=>?_)
  .simp only [UU,Rd.wp_seq,Rd.wp_loop,Rd.Ah,Rd.Az,Rd.wp_ret,Rd.A5] at h
   repeat' ((conv=>whnf);first|(refine AG ?_;intros)|(refine AH ?_ ?_<;>intro e h)|(refine AJ ?_ ?_<;>intro _)|refine Zs hd hL ‹_› hc ‹_› h (λn s1 U hl hm hc h=>?_) (λe n s1 U he hc h=>?_)|exact ⟨⟨(_,none),s1,_,.full⟩,⟨‹_›,hc,Rd.BF h AC⟩,(by show mu s1+1<_<;>omega),Yl,St.le_refl _⟩|exact ⟨⟨(_,some e),s1,_,.full⟩,⟨hc,h⟩,(by show 0<_<;>omega),Yl,St.le_refl _⟩|refine Ca ?_|(refine D4 ?_ ?_<;>intro e h)|refine Ac (λe1=>?_)|exact B3|fail)
  .skip
   repeat' ((conv=>whnf);first|(refine AG ?_;intros)|(refine AH ?_ ?_<;>intro e h)|(refine AJ ?_ ?_<;>intro _)|refine Ca ?_|(refine D4 ?_ ?_<;>intro e h)|refine Ac (λe1=>?_)|exact B3|fail)
 .refine N2 [] [(2,CY n s1 e.1)] [1,4,5] [1] Yl (λP=>?_)
  repeat' ((conv=>whnf);first|(refine AG ?_;intros)|(refine AH ?_ ?_<;>intro e h)|(refine AJ ?_ ?_<;>intro _)|refine Ca ?_|(refine D4 ?_ ?_<;>intro e h)|refine Ac (λe1=>?_)|exact B3|fail)
theorem fC:sB (Kb L):=λs h=>by
 unfold Kb Rd.look
 dsimp only
 rw [if_neg (by rw [h];decide)]
theorem fB:sB (Ka L):=λs h=>by
 unfold Ka Rd.seq
 dsimp only
 rw [fC s h]
 rfl
theorem jy (hd:d<=1000000) (hL:Jy d L stm opd full) (hr0:∀o,BO 269 (λs=>[.slice 6 [Ax o] .full,Am s,.int .i64 ((d+1:Nat):Int)]) (Ut L o)):BO 212 (λs=>[Am s,.int .i64 ((d+1:Nat):Int)]) (Kb L):=by
 refine ⟨λ{st0 s st rows K} hm hc h=>?_⟩
 refine pB Tryz.func212 ?_
 cases ha:Df (Aa s).1 with
 |false=>
  unfold Kb at h
  rw [Rd.Ah,if_neg (by rw [ha];decide)] at h
  repeat' ((conv=>whnf);first|(refine AG ?_;intros)|(refine AH ?_ ?_<;>intro e h)|(refine AJ ?_ ?_<;>intro _)|refine Ca ?_|(refine D4 ?_ ?_<;>intro e h)|(refine D5 ?_;intro s1 hz hl hm h)|refine DQ (λn s1 U hr hl hm hc h=>?_) (λe n s1 U he hc h=>?_)|(refine ME ?_;intro e he h)|(refine CN ?_;intro own1 U hc)|refine Ac (λe1=>?_)|exact B3|fail)
 |true=>
  have hkd:=Hu ha
  simp only [Kb,ot,kU,Rd.Ah,Rd.Az,Rd.wp_seq,Rd.wp_ret] at h
  rw [if_pos ha] at h
  by_cases k15:(Aa s).1.kind=15
  .rw [if_pos (beq_iff_eq.2 k15)] at h
   by_cases ho:(Aa s).1.text=[40]
   .rw [if_pos (beq_iff_eq.2 ho)] at h
    repeat' ((conv=>whnf);first|(refine AG ?_;intros)|(refine AH ?_ ?_<;>intro e h)|(refine AJ ?_ ?_<;>intro _)|refine BO.go (hr0 _) ‹_› hc h (λn s1 U hr hl hm hc h=>?_) (λe n s1 U he hc h=>?_)|refine Ca ?_|(refine D4 ?_ ?_<;>intro e h)|(refine D5 ?_;intro s1 hz hl hm h)|refine DQ (λn s1 U hr hl hm hc h=>?_) (λe n s1 U he hc h=>?_)|(refine ME ?_;intro e he h)|(refine CN ?_;intro own1 U hc)|refine Ac (λe1=>?_)|exact B3|fail)
   .rw [if_neg (λe=>ho (beq_iff_eq.1 e))] at h
    repeat' ((conv=>whnf);first|(refine AG ?_;intros)|(refine AH ?_ ?_<;>intro e h)|(refine AJ ?_ ?_<;>intro _)|refine BO.go (Zt hd hL) ‹_› hc h (λn s1 U hr hl hm hc h=>?_) (λe n s1 U he hc h=>?_)|refine Ca ?_|(refine D4 ?_ ?_<;>intro e h)|(refine D5 ?_;intro s1 hz hl hm h)|refine DQ (λn s1 U hr hl hm hc h=>?_) (λe n s1 U he hc h=>?_)|(refine ME ?_;intro e he h)|(refine CN ?_;intro own1 U hc)|refine Ac (λe1=>?_)|exact B3|fail)
  .rw [if_neg (λe=>k15 (beq_iff_eq.1 e))] at h
   by_cases k9:(Aa s).1.kind=9
   .rw [if_pos (beq_iff_eq.2 k9)] at h
    repeat' ((conv=>whnf);first|(refine AG ?_;intros)|(refine AH ?_ ?_<;>intro e h)|(refine AJ ?_ ?_<;>intro _)|refine Ca ?_|(refine D4 ?_ ?_<;>intro e h)|(refine D5 ?_;intro s1 hz hl hm h)|refine DQ (λn s1 U hr hl hm hc h=>?_) (λe n s1 U he hc h=>?_)|(refine ME ?_;intro e he h)|(refine CN ?_;intro own1 U hc)|refine Ac (λe1=>?_)|exact B3|fail)
   .rw [if_neg (λe=>k9 (beq_iff_eq.1 e))] at h
    by_cases k10:(Aa s).1.kind=10
    .rw [if_pos (beq_iff_eq.2 k10)] at h
     by_cases hd0:d=0
     .have hlt:((d+1:Nat):Int)<2:=AC
      have e:=hL.zero hd0
      subst e
      simp only [YY,Rd.BK] at h
      repeat' ((conv=>whnf);first|(refine AG ?_;intros)|(refine AH ?_ ?_<;>intro e h)|(refine AJ ?_ ?_<;>intro _)|refine Ca ?_|(refine D4 ?_ ?_<;>intro e h)|(refine D5 ?_;intro s1 hz hl hm h)|refine DQ (λn s1 U hr hl hm hc h=>?_) (λe n s1 U he hc h=>?_)|(refine ME ?_;intro e he h)|(refine CN ?_;intro own1 U hc)|refine Ac (λe1=>?_)|exact B3|fail)
     .have hlt:¬((d+1:Nat):Int)<2:=AC
      repeat' ((conv=>whnf);first|refine Bn hd ?_|(refine AG ?_;intros)|(refine AH ?_ ?_<;>intro e h)|(refine AJ ?_ ?_<;>intro _)|refine BO.go (hL.atom hd0) ‹_› hc h (λn s1 U hr hl hm hc h=>?_) (λe n s1 U he hc h=>?_)|refine Ca ?_|(refine D4 ?_ ?_<;>intro e h)|(refine D5 ?_;intro s1 hz hl hm h)|refine DQ (λn s1 U hr hl hm hc h=>?_) (λe n s1 U he hc h=>?_)|(refine ME ?_;intro e he h)|(refine CN ?_;intro own1 U hc)|refine Ac (λe1=>?_)|exact B3|fail)
    .rw [if_neg (λe=>k10 (beq_iff_eq.1 e))] at h
     by_cases k1:(Aa s).1.kind=1
     .simp only [show ((Aa s).1.kind==1)=true from beq_iff_eq.2 k1,if_true] at h
      by_cases hd0:d=0
      .have hlt:((d+1:Nat):Int)<2:=AC
       have e:=hL.zero hd0
       subst e
       simp only [YY,Rd.BK] at h
       repeat' ((conv=>whnf);first|(refine AG ?_;intros)|(refine AH ?_ ?_<;>intro e h)|(refine AJ ?_ ?_<;>intro _)|refine Ca ?_|(refine D4 ?_ ?_<;>intro e h)|(refine D5 ?_;intro s1 hz hl hm h)|refine DQ (λn s1 U hr hl hm hc h=>?_) (λe n s1 U he hc h=>?_)|(refine ME ?_;intro e he h)|(refine CN ?_;intro own1 U hc)|refine Ac (λe1=>?_)|exact B3|fail)
      .have hlt:¬((d+1:Nat):Int)<2:=AC
       repeat' ((conv=>whnf);first|refine Bn hd ?_|(refine AG ?_;intros)|(refine AH ?_ ?_<;>intro e h)|(refine AJ ?_ ?_<;>intro _)|refine BO.go (hL.atom hd0) ‹_› hc h (λn s1 U hr hl hm hc h=>?_) (λe n s1 U he hc h=>?_)|refine Ca ?_|(refine D4 ?_ ?_<;>intro e h)|(refine D5 ?_;intro s1 hz hl hm h)|refine DQ (λn s1 U hr hl hm hc h=>?_) (λe n s1 U he hc h=>?_)|(refine ME ?_;intro e he h)|(refine CN ?_;intro own1 U hc)|refine Ac (λe1=>?_)|exact B3|fail)
     .simp only [show ((Aa s).1.kind==1)=false from beq_eq_false_iff_ne.2 k1,Bool.false_eq_true,if_false] at h
      repeat' ((conv=>whnf);first|(refine AG ?_;intros)|(refine AH ?_ ?_<;>intro e h)|(refine AJ ?_ ?_<;>intro _)|refine Ca ?_|(refine D4 ?_ ?_<;>intro e h)|(refine D5 ?_;intro s1 hz hl hm h)|refine DQ (λn s1 U hr hl hm hc h=>?_) (λe n s1 U he hc h=>?_)|(refine ME ?_;intro e he h)|(refine CN ?_;intro own1 U hc)|refine Ac (λe1=>?_)|exact B3|fail)
end
theorem Rx.mono {st:St} (h:Rx st0 st rows) (k:st.le st'):Rx st0 st' rows:=⟨St.le_trans h.le k,λr U=>by
 have:=h.ok r U
 obtain ⟨o,l⟩:=r
 cases o with
 |any=>exact this
 |full=>exact this
 |tok t=>exact ⟨this.1,k.2 _ _ this.2⟩,h.ap⟩
theorem Rx.free {st:St} (h:Rx st0 st rows) (U:st0.box b=none):Rx st0 (st.Ab b cs) rows:=⟨St.Au h.le U cs,λr hr=>by
 have:=h.ok r hr
 obtain ⟨o,l⟩:=r
 cases o<;>exact this,h.ap⟩
theorem Rx.uS {st:St} (h:Rx st0 st rows) (hf:st0.box b=none):Rx st0 (st.MR b) rows:=⟨⟨λy c hy=>by
 have U:y≠b:=λe=>by subst e;rw [hf] at hy;cases hy
 show (if y=b then none else st.box y)=some c
 rw [if_neg U]
 exact h.le.1 _ _ hy,h.le.2⟩,λr hr=>by
 have:=h.ok r hr
 obtain ⟨o,l⟩:=r
 cases o<;>exact this,h.ap⟩
def E8 (st:St) (b cap:Nat) (l:List Nd):Prop:=∃m:List V,st.box b=some ((l.map Ax).flatten++m)/\l.length*6+m.length=cap*6
theorem Le:∀{l:List Nd},(l.map Ax).flatten.length=l.length*6
 |[]=>rfl
 |n::r=>by
  rw [List.map_cons,List.flatten_cons,List.length_append,Le,List.length_cons]
  show 6+_=_
  omega
theorem Sx {x:Nd}:((l++[x]).map Ax).flatten=(l.map Ax).flatten++Ax x:=by
 rw [List.map_append,List.flatten_append]
 show _++(Ax x++[])=_
 rw [List.append_nil]
theorem E8.le {st st':St} {b cap:Nat} {l:List Nd} (h:E8 st b cap l) (k:st.le st'):E8 st' b cap l:=h.imp λm e=>⟨k.1 _ _ e.1,e.2⟩
theorem E8.set {st:St} {m:Nat} (e:cs=(l.map Ax).flatten++List.replicate m .Cj) (h:l.length*6+m=cap*6):E8 (st.Ab b cs) b cap l:=⟨List.replicate m .Cj,by rw [St.An,e],by rw [List.length_replicate];exact h⟩
theorem E8.pre {st:St} {x:Nd} (h:E8 st b cap (l++[x])):E8 st b cap l:=by
 obtain ⟨m,h1,U⟩:=h
 refine ⟨Ax x++m,by rw [h1,Sx,List.append_assoc],?_⟩
 rw [List.length_append] at U |-
 have:(Ax x).length=6:=rfl
 simp only [List.length_singleton] at U
 omega
theorem bO {st:St} {x:Nd} {K:V->St->Prop} (hc:Rx st0 st rows) (k:∀b cap st',st0.box b=none->Rx st0 st' rows->E8 st' b cap ([o]++[x])->K (.DM 6 b 2 cap) st'):Ag 6 72 [Ax o] .full [Ax x] st K:=
 RR (Nat.le_of_ble_eq_true rfl) (show 1+1<4611686018427387904 by decide) rfl GT λb cap m U hm=>k b cap _ (hc.fresh U).1 (hc.free (hc.fresh U).1) (.set (m:=m) (by rfl) hm)
theorem Nx {st:St} {n:Nat} {x:Nd} {K:V->St->Prop} (hc:Rx st0 st rows) (hf:st0.box b=none) (hr:E8 st b cap l) (hn:n=l.length) (hb:l.length+1<=1000000000)
 (k:∀b' U st',st0.box b'=none->Rx st0 st' rows->E8 st' b' U (l++[x])->K (.DM 6 b' (l++[x]).length U) st'):ES 6 72 b n cap [Ax x] st K:=by
 obtain ⟨m,h1,h2⟩:=hr
 subst hn
 have hl1:l.length+[Ax x].length=(l++[x]).length:=GT
 refine ⟨by rw [hl1,List.length_append];simp only [List.length_singleton];omega,by rw [hl1,List.length_append];simp only [List.length_singleton];unfold Fe;omega,Ay rfl ⟨GT,_,h1,by rw [List.length_append,Le];exact h2,λb' U m' hb' hm'=>?_⟩⟩
 have hf':st0.box b'=none:=by
  rcases hb' with rfl|hb'
  .exact hf
  .exact (hc.fresh hb').1
 rw [hl1] at hm' |-
 refine k b' U _ hf' (hc.free hf') (.set (m:=m') ?_ hm')
 rw [Sx]
 congr 1
 rw [List.take_append_of_le_length (by rw [Le];omega),List.take_of_length_le (by rw [Le];omega)]
 congr 1
section
variable {st0 st:St} {s:Af} {rows:List (AF×List Nd)} {K:AL->St->Prop} {E:Er->Af->Prop} {d:Nat} {L:C8} {atom stm opd full:Rd Nd} {o:Nd}
theorem BO.uF {mk:Af->List V} {A:Rd Nd} (hf:BO f mk A) (U:mu s<=100000000) (hc:Rx st0 st rows) (hr:E8 st b cap l) (h:Rd.wp A s Q E)
 (k:∀n s' st',mu s'<=mu s->mu s'<=100000000->Rx st0 st' rows->E8 st' b cap l->Q n s'->K (.ret (AO n s' 0)) st')
 (kb:∀e n s' st',¬e.1=0->Rx st0 st' rows->E8 st' b cap l->E e s'->K (.ret (AO n s' e.1)) st'):PC f (mk s) st K:=
 hf.ap (st0:=st) (rows:=[]) U Rx.start (Rd.wp_mono h (λv s' r q st' c=>k v s' st' (A.le _ _ _ r) (Nat.le_trans (A.le _ _ _ r) U) (hc.mono c.le) (hr.le c.le) q) (λe s' _ q n st' c=>kb e n s' st' e.2 (hc.mono c.le) (hr.le c.le) q))
theorem lC {k:Int} (hm:mu s<=100000000) (h:Rd.wp A0 s Q E) (e:A9 s k x=true) (U:k≠0/\k≠21) (kk:∀s1,(Aa s).2.1=s1->mu s1<mu s->mu s1<=100000000->Q (Av (Aa s).1) s1->K (.ret (AO (Av (Aa s).1) s1 0)) st):PC 127 [Am s,.int .i64 k,.str x] st K:=by
 have hlt:=C0 e U.1 U.2
 have hz:=FK e U.1
 unfold Rd.wp at h;rw [CU hz] at h
 refine PQ U.1 (BB hm) ?_
 unfold De
 rw [if_pos e,DE e U.1]
 exact kk _ rfl hlt AC h
attribute [local irreducible] Go.Aw.Ag
attribute [local irreducible] Go.Aw.ES
def tW (kd:Int) (b n cap:Nat) (s:Af) (e:Int):V:=.agg [.int .i64 kd,.int .i64 0,.str [],.int .i64 0,.int .i64 0,.DM 6 b n cap,.slice 4 (A4 s.As) .any,.int .i64 s.pos,.slice 1 (ints s.BT) .any,.int .i64 s.wait,.int .i64 e]
theorem oj {k:Int} {n:Nat} (h:K (.ret (.agg [.int .i64 k,.int .i64 0,.str [],.int .i64 0,.int .i64 0,.DM 6 b n cap])) st):PC 64 [.int .i64 k,.DM 6 b n cap] st K:=by
 refine pB Tryz.func64 ?_
 repeat' ((conv=>whnf);first|(refine AG ?_;intros)|(refine AH ?_ ?_<;>intro e h)|(refine AJ ?_ ?_<;>intro _)|fail)
 all_goals exact fin h rfl
theorem SU (hl:l.length<=900000000) (hm:mu s<=100000000) (hc:Rx st0 st rows) (hf:st0.box b=none) (hr:E8 st b cap l)
 (h:Rd.wp (FE kd l [41]) s (λv s'=>∀st',Rx st0 st' rows->K (.ret (AO v s' 0)) st') (λe s'=>∀n st',Rx st0 st' rows->K (.ret (AO n s' e.1)) st')):PC 315 [.int .i64 kd,.DM 6 b l.length cap,Am s,.str [41]] st K:=by
 refine Bc.freeze (R':=λr st'=>∃b' U l' s' e',st0.box b'=none/\Rx st0 st' rows/\E8 st' b' U l'/\r=.ret (tW kd b' l'.length U s' e')/\∀st2,Rx st0 st2 rows->K (.ret (AO (Ar kd l') s' e')) st2) ?_ ?_
 .simp only [FE,Rd.wp_seq,Rd.wp_ret] at h
  refine pB Tryz.func315 ?_
  repeat' ((conv=>whnf);first|(refine AG ?_;intros)|(refine AH ?_ ?_<;>intro e h)|(refine AJ ?_ ?_<;>intro _)|refine BO.uF (KV Do) ‹_› hc hr h (λn s1 st1 hl2 hm hc hr h=>?_) (λe n s1 st1 he hc hr h=>?_)|refine Nx hc hf hr rfl AC (λb' U st1 hf hc hr=>?_)|refine oj ?_|exact ⟨_,_,.inl rfl,St.le_refl _,_,_,_,_,_,hf,hc,hr,rfl,h⟩|exact ⟨_,_,.inl rfl,St.le_refl _,_,_,_,_,_,hf,hc,hr,rfl,h _⟩)
 .rintro r s2 ⟨b',U,l',s',e',hf',hc',⟨m,h1,h2⟩,rfl,hk⟩
  refine .inr ⟨b',6,l'.length,U,l'.map Ax,m,.ret (.agg [.int .i64 kd,.int .i64 0,.str [],.int .i64 0,.int .i64 0,.slice 6 (l'.map Ax) .any,.slice 4 (A4 s'.As) .any,.int .i64 s'.pos,.slice 1 (ints s'.BT) .any,.int .i64 s'.wait,.int .i64 e']),h1,?_,GT,.agg (.cons (.same _) (.cons (.same _) (.cons (.same _) (.cons (.same _) (.cons (.same _) (.cons .here (.cons (.same _) (.cons (.same _) (.cons (.same _) (.cons (.same _) (.cons (.same _) .nil))))))))))),?_⟩
  .intro e he
   obtain ⟨n,_,rfl⟩:=List.mem_map.1 he
   rfl
  .have:=hk _ (hc'.uS hf')
   rw [Dw (own:=.any)] at this
   exact this
theorem bK {exp:Rd Nd} {Q:Nd->Nd->Af->Prop} (he:BO 66 (λs=>[Am s,.int .i64 D]) exp) (e:A9 s 15 [44]=true) (hl:l.length<=900000000) (hm:mu s<=100000000) (hc:Rx st0 st rows) (hf:st0.box b=none) (hr:E8 st b cap l)
 (h:Rd.wp A0 s (λc s'=>Rd.wp exp s' (λn s2=>Q c n s2) E) E)
 (kk:∀c n b' U s2 st',mu s2<mu s->mu s2<=100000000->st0.box b'=none->Rx st0 st' rows->E8 st' b' U (l++[c]++[n])->Q c n s2->K (.ret (.Bh [.DM 6 b' (l++[c]++[n]).length U,AO n s2 0])) st')
 (kb:∀e l' n b' U s' st',¬e.1=0->st0.box b'=none->Rx st0 st' rows->E8 st' b' U l'->E e s'->K (.ret (.Bh [.DM 6 b' l'.length U,AO n s' e.1])) st'):PC 65 [.DM 6 b l.length cap,Am s,.int .i64 15,.str [44],.int .i64 D] st K:=by
 refine pB Tryz.func65 ?_
 repeat' ((conv=>whnf);first|exact Dk|(refine AG ?_;intros)|(refine Dl ?_ ?_ ?_;rotate_left)|(refine AH ?_ ?_<;>intro e h)|(refine AJ ?_ ?_<;>intro _)|refine Hx (λ_=>?_) ?_|refine lC ‹_› h e Do (λs1 hz hl1 hm h=>?_)|refine Nx hc hf hr rfl AC (λb' U st1 hf hc hr=>?_)|refine Nx hc hf hr rfl So (λb' U st1 hf hc hr=>?_)|refine BO.uF he ‹_› hc hr h (λn s1 st1 hl2 hm hc hr h=>?_) (λe n s1 st1 he hc hr h=>?_)|exact ⟨_,_,.inl rfl,St.le_refl _,kk _ _ _ _ _ _ AC ‹_› hf hc hr h⟩|exact ⟨_,_,.inl rfl,St.le_refl _,kb _ _ _ _ _ _ _ ‹_› hf hc hr h⟩|refine Ae [(0,true),(1,true),(2,true),(3,false)] [1] GE ?_|refine Ae [(0,true),(1,true),(2,true),(3,false)] [1] GE ?_|with_reducible refine WF ?_)
end
def Pg (exp:Rd Nd) (kd:Int) (l:List Nd) (n:Nd):Rd Nd:=.seq (.loop (RJ exp) (kd,l++[n])) λq=>FE q.1 q.2 [41]
theorem l9 {full exp:Rd Nd}:EE opd full exp o=.seq (HB opd true) λp=>if p.2=true then .seq A0 λc=>.ret (Ar 9 [o,IJ 17 (p.1.take (p.1.length - 1)),p.1.getLastD FR,c])
 else .seq (IL full (IJ 17 p.1)) λe=>Pg exp 4 [o] e:=rfl
theorem jR:Od L o=.look λs=>if H0 (Aa s).1=true then
 (if A9 (Aa s).2.1 15 [41]=true then .seq A0 λp=>.seq A0 λc=>.ret (Ar 3 [o,p,c]) else J2 L o) else J2 L o:=rfl
theorem jS:J2 L o=.look λs=>if Gf (Aa s).1=true then (if A9 s 5 [45]=true then L.DT o else KW L o) else L.DT o:=by
 unfold J2 KW
 simp only [FE,List.cons_append,List.nil_append]
structure RS where
 tag:Bool
 l:List Nd
 n:Nd
 s:Af
 e:Option Er
 kd:Int
 b:Nat
 cap:Nat
 m:St
section
variable {st0 st:St} {s:Af} {rows:List (AF×List Nd)} {K:AL->St->Prop} {E:Er->Af->Prop} {d:Nat} {L:C8} {atom stm opd full:Rd Nd} {o:Nd}
theorem rP {Q:List Nd×Bool->Af->Prop} (ho:pk 132 (λs=>[Am s,.int .i64 D,.bool true]) (HB opd true)) (hm:mu s<=100000000) (hc:Rx st0 st rows) (h:Rd.wp (HB opd true) s Q E)
 (k:∀l s' st',mu s'<=mu s->mu s'<=100000000->Rx st0 st' rows->Q (l,false) s'->K (.ret (.Bh [AO (IJ 17 l) s' 0,.bool false])) st')
 (k1:∀l s' st',2<=l.length->A9 s' 15 [41]=true->mu s'<=100000000->Rx st0 st' rows->Q (l,true) s'->K (.ret (.Bh [AO (Ar 17 l) s' 0,.bool true])) st')
 (kb:∀e n s' st',¬e.1=0->Rx st0 st' rows->E e s'->K (.ret (.Bh [AO n s' e.1,.bool false])) st'):PC 132 [Am s,.int .i64 D,.bool true] st K:=
 pk.go ho hm hc h (λn s' st' hr hl U hc q=>by
  obtain ⟨l,b⟩:=n
  cases b with
  |false=>exact k l s' st' hl U hc q
  |true=>obtain ⟨_,h1,h2⟩:=bN hr rfl;exact k1 l s' st' h2 h1 U hc q) kb
theorem S5 {ks m:List Nd} {K:List (List V)->Prop} (hm:ks.take h.toNat=m) (h0:0<=h) (h2:h<=ks.length) (k:K (Cc m)):
 (0<=(0:Int)/\(0:Int)<=h/\h<=(Cc ks).length)/\∀U,U=(((Cc ks).take h.toNat).drop (0:Int).toNat)->K U:=
 Wp (Int.le_refl _) h0 h2 (by rw [hm];exact k)
theorem bL {k:Int} {own:AF} (h:K (.ret (enc (Ar k l))) st):PC 64 [.int .i64 k,.slice 6 (Cc l) own] st K:=by
 rw [BG]
 exact Nv h
attribute [local irreducible] Go.Aw.Ag
attribute [local irreducible] Go.Aw.ES
theorem bZ {n m:Nat} {K:Nat->Prop} (U:0<=h) (h1:h<=(n:Int)) (e:h.toNat=m) (k:K m):((0:Int)=0/\0<=h/\h<=(n:Int))/\∀k,k=h.toNat->K k:=
 ⟨⟨rfl,U,h1⟩,λj hj=>by rw [hj,e];exact k⟩
def RS.row (o:Nd) (y:RS):V:=if y.tag then .DM 6 y.b y.l.length y.cap else .slice 6 [Ax o] .full
def RS.k (y:RS):Int:=if y.tag then 5 else 4
def RS.J (st0:St) (rows:List (AF×List Nd)) (exp:Rd Nd) (o:Nd) (Q:Nd->Af->Prop) (E:Er->Af->Prop) (y:RS):Prop:=match y.e with
 |none=>mu y.s<=100000000/\Rx st0 y.m rows/\(if y.tag then st0.box y.b=none/\E8 y.m y.b y.cap y.l/\y.l.length+4*mu y.s<=800000000/\Rd.wp (Pg exp 5 y.l y.n) y.s Q E else Rd.wp (Pg exp 4 [o] y.n) y.s Q E)
 |some e=>y.tag=true/\Rx st0 y.m rows/\E e y.s
def RS.mu (y:RS):Nat:=match y.e with
 |none=>Proofs.Z.mu y.s+1
 |some _=>0
theorem iP {exp:Rd Nd} (keep kb:List Nat) (hm:mu s<=100000000) (hc:Rx st0 st rows) (h:Rd.wp (Pg exp 4 [o] n) s Q E)
 (he:(env.F3 [(0,.slice 6 [Ax o] .full),(13,.int .i64 4)] [(3,CY n s 0)] keep kb).C7 env)
 (hb1:∀n s1 m,mu s1<=100000000->Rx st0 m rows->Rd.wp (Pg exp 4 [o] n) s1 Q E->ih (Bp (λenv' st'=>∃y:RS,y.J st0 rows exp o Q E/\y.mu<mu s1+1/\(env.F3 [(0,y.row o),(13,.int .i64 y.k)] [(3,CY y.n y.s (qA y.e))] keep kb).C7 env'/\St.le y.m st') Q0) (env.F3 [(0,.slice 6 [Ax o] .full),(13,.int .i64 4)] [(3,CY n s1 0)] keep kb) m)
 (KE:∀l n s1 b cap m,mu s1<=100000000->Rx st0 m rows->st0.box b=none->E8 m b cap l->l.length+4*mu s1<=800000000->Rd.wp (Pg exp 5 l n) s1 Q E->ih (Bp (λenv' st'=>∃y:RS,y.J st0 rows exp o Q E/\y.mu<mu s1+1/\(env.F3 [(0,y.row o),(13,.int .i64 y.k)] [(3,CY y.n y.s (qA y.e))] keep kb).C7 env'/\St.le y.m st') Q0) (env.F3 [(0,.DM 6 b l.length cap),(13,.int .i64 5)] [(3,CY n s1 0)] keep kb) m)
 (hb3:∀(l:List Nd) n s1 (e:Er) b cap m P,¬e.1=0->Rx st0 m rows->E e s1->ih (Bp P Q0) (env.F3 [(0,.DM 6 b l.length cap),(13,.int .i64 5)] [(3,CY n s1 e.1)] keep kb) m):
 ∃(α:Type) (E:α->Env) (S:α->St) (J:α->Prop) (μ:α->Nat) (x0:α),J x0/\(E x0).C7 env/\St.le (S x0) st/\
  ∀x,J x->ih (Bp (λenv' st'=>∃y,J y/\μ y<μ x/\(E y).C7 env'/\St.le (S y) st') Q0) (E x) (S x):=
 ⟨RS,λy=>env.F3 [(0,y.row o),(13,.int .i64 y.k)] [(3,CY y.n y.s (qA y.e))] keep kb,λy=>y.m,λy=>y.J st0 rows exp o Q E,RS.mu,⟨false,[],n,s,none,4,0,0,st⟩,⟨hm,hc,h⟩,he,St.le_refl _,by
   rintro ⟨tag,l,n,s1,e,kd,b,cap,m⟩ j
   cases e with
   |some e=>
    obtain ⟨h0,h1,U⟩:=j
    dsimp only at h0
    subst h0
    exact hb3 l n s1 e b cap m _ e.2 h1 U
   |none=>
    obtain ⟨h0,h1,U⟩:=j
    cases tag with
    |false=>exact hb1 n s1 m h0 h1 U
    |true=>exact KE l n s1 b cap m h0 h1 U.1 U.2.1 U.2.2.1 U.2.2.2⟩
theorem V0 {exp:Rd Nd} {U:List Nat} {B:Nat} {s2:Af} (hm:mu s2<=100000000) (hc:Rx st0 st rows) (hf:st0.box b=none) (hr:E8 st b cap (l++[n])) (hl:l.length+4*mu s2<=800000000) (h:Rd.wp (Pg exp 5 l n) s2 Q E) (hB:mu s2<B)
 (he:(env.F3 [(0,.DM 6 b l.length cap),(13,.int .i64 5)] [(3,CY n s2 0)] keep U).C7 env') (hs:St.le st st'):
 ∃y:RS,y.J st0 rows exp o Q E/\y.mu<B+1/\(env.F3 [(0,y.row o),(13,.int .i64 y.k)] [(3,CY y.n y.s (qA y.e))] keep U).C7 env'/\St.le y.m st':=
 ⟨⟨true,l,n,s2,none,5,b,cap,st⟩,⟨hm,hc,hf,hr.pre,hl,h⟩,(by show mu s2+1<B+1;omega),he,hs⟩
theorem ZX {exp:Rd Nd} {U:List Nat} {B:Nat} {s2:Af} {e:Er} (hc:Rx st0 st rows) (h:E e s2)
 (he:(env.F3 [(0,.DM 6 b l.length cap),(13,.int .i64 5)] [(3,CY n s2 e.1)] keep U).C7 env') (hs:St.le st st'):
 ∃y:RS,y.J st0 rows exp o Q E/\y.mu<B+1/\(env.F3 [(0,y.row o),(13,.int .i64 y.k)] [(3,CY y.n y.s (qA y.e))] keep U).C7 env'/\St.le y.m st':=
 ⟨⟨true,l,n,s2,some e,5,b,cap,st⟩,⟨rfl,hc,h⟩,(by show 0<B+1;omega),he,hs⟩
theorem p9 {exp:Rd Nd} (h:Rd.wp (Pg exp kd l n) s Q E):if A9 s 15 [44]=true then Rd.wp A0 s (λc s'=>Rd.wp exp s' (λn2 s2=>mu s2<mu s->Rd.wp (Pg exp 5 (l++[n]++[c]) n2) s2 Q E) E) E else Rd.wp (FE kd (l++[n]) [41]) s Q E:=by
 simp only [Pg,Rd.wp_seq,Rd.wp_loop,RJ,Rd.Ah,Rd.Az,Rd.wp_ret,Rd.A5] at h
 split at h
 .rename_i hi
  rw [if_pos hi]
  refine Rd.wp_mono h (λc s1 _ h=>Rd.wp_mono h (λn2 s2 _ h U=>?_) λ_ _ _ h=>h) λ_ _ _ h=>h
  unfold Pg
  rw [Rd.wp_seq]
  exact Rd.BF h U
 .rename_i hi
  rw [if_neg hi];exact h
theorem P5 {x y:Code} {Q:AM->Env->St->Prop} {st:St} (f:List (Nat×V)) (g:List (Nat×List V)) (keep U:List Nat) (hx:AW Tryz.prog x (Bp (λenv' st'=>(env.F3 f g keep U).C7 env'/\St.le st st') Q) env st) (hy:AW Tryz.prog y Q (env.F3 f g keep U) st):AW Tryz.prog (.seq x y) Q env st:=
 Pj (α:=Unit) (λ_=>env.F3 f g keep U) (λ_=>st) (λ_=>True) (λ_ _=>hy) (ZO hx λe env st h=>by
  cases e with
  |normal=>exact ⟨(),trivial,h.1,h.2⟩
  |exit i=>exact h
  |goto i=>exact h
  |ret=>exact h
  |Cz v=>exact h)
theorem er (hd:d<=1000000) (hL:Jy d L stm opd full):BO 269 (λs=>[.slice 6 [Ax o] .full,Am s,.int .i64 ((d+1:Nat):Int)]) (Ut L o):=by
 refine ⟨λ{st0 s st rows K} hm hc h=>?_⟩
 simp only [Ut,jR,jS,Rd.Ah,Rd.Az] at h
 refine Bu Ad [] Tryz.func269 rfl Do rfl ?_
 refine Ak (Al Ad ?_)
 repeat' ((conv=>whnf);first|(refine AG ?_;intros)|(refine AH ?_ ?_<;>intro e h)|(refine AJ ?_ ?_<;>intro _)|fail)
 refine Ak (Al Ad ?_)
 repeat' ((conv=>whnf);first|(refine AG ?_;intros)|(refine AH ?_ ?_<;>intro e h)|(refine AJ ?_ ?_<;>intro _)|refine Ca ?_|(refine D4 ?_ ?_<;>intro e h)|(refine D5 ?_;intro s1 hz hl hm h)|refine DQ (λn s1 U hr hl hm hc h=>?_) (λe n s1 U he hc h=>?_)|(refine CN ?_;intro own1 U hc)|refine Bj (λ_=>?_)|refine Ac (λe1=>?_)|exact B3|fail)
 have hp15:∀x:List UInt8,A9 s 15 x=true↔(Aa s).1.kind=15/\(Aa s).1.text=x:=λx=>by unfold A9;simp only [Bool.and_eq_true,beq_iff_eq]
 by_cases c1:A9 s 15 [41]=true
 .rw [if_pos c1] at h
  obtain ⟨c2,c3⟩:=(hp15 _).1 c1
  refine Ak (Al Ad ?_)
  repeat' ((conv=>whnf);first|(refine AG ?_;intros)|(refine AH ?_ ?_<;>intro e h)|(refine AJ ?_ ?_<;>intro _)|refine BO.go Rk ‹_› hc h (λn s1 U hr hl hm hc h=>?_) (λe n s1 U he hc h=>?_)|refine Ca ?_|(refine D4 ?_ ?_<;>intro e h)|(refine D5 ?_;intro s1 hz hl hm h)|refine DQ (λn s1 U hr hl hm hc h=>?_) (λe n s1 U he hc h=>?_)|(refine CN ?_;intro own1 U hc)|refine Bj (λ_=>?_)|refine Ac (λe1=>?_)|exact B3|fail)
 rw [if_neg c1] at h
 by_cases c4:A9 s 15 [44]=true
 .rw [if_pos c4] at h
  obtain ⟨c2,c3⟩:=(hp15 _).1 c4
  refine Ak (Al Ad ?_)
  repeat' ((conv=>whnf);first|(refine AG ?_;intros)|(refine AH ?_ ?_<;>intro e h)|(refine AJ ?_ ?_<;>intro _)|refine BO.go Rk ‹_› hc h (λn s1 U hr hl hm hc h=>?_) (λe n s1 U he hc h=>?_)|refine Ca ?_|(refine D4 ?_ ?_<;>intro e h)|(refine D5 ?_;intro s1 hz hl hm h)|refine DQ (λn s1 U hr hl hm hc h=>?_) (λe n s1 U he hc h=>?_)|(refine CN ?_;intro own1 U hc)|refine Bj (λ_=>?_)|refine Ac (λe1=>?_)|exact B3|fail)
 rw [if_neg c4] at h
 have c5:(Aa s).1.kind=15->¬(Aa s).1.text=[41]:=λe1 e2=>c1 ((hp15 _).2 ⟨e1,e2⟩)
 have c6:(Aa s).1.kind=15->¬(Aa s).1.text=[44]:=λe1 e2=>c4 ((hp15 _).2 ⟨e1,e2⟩)
 refine P5 [] [] [0,2,4,6,7] [0,1,2] (Al Ad ?_) ?_
 .by_cases c7:(Aa s).1.kind=15
  .have c5:=c5 c7
   have c6:=c6 c7
   repeat' ((conv=>whnf);first|(refine AG ?_;intros)|(refine AH ?_ ?_<;>intro e h)|(refine AJ ?_ ?_<;>intro _)|refine Ca ?_|(refine D4 ?_ ?_<;>intro e h)|(refine D5 ?_;intro s1 hz hl hm h)|refine DQ (λn s1 U hr hl hm hc h=>?_) (λe n s1 U he hc h=>?_)|(refine CN ?_;intro own1 U hc)|refine Bj (λ_=>?_)|refine Ac (λe1=>?_)|exact B3|fail)
   all_goals exact ⟨Yl,St.le_refl _⟩
  .skip
   repeat' ((conv=>whnf);first|(refine AG ?_;intros)|(refine AH ?_ ?_<;>intro e h)|(refine AJ ?_ ?_<;>intro _)|refine Ca ?_|(refine D4 ?_ ?_<;>intro e h)|(refine D5 ?_;intro s1 hz hl hm h)|refine DQ (λn s1 U hr hl hm hc h=>?_) (λe n s1 U he hc h=>?_)|(refine CN ?_;intro own1 U hc)|refine Bj (λ_=>?_)|refine Ac (λe1=>?_)|exact B3|fail)
   all_goals exact ⟨Yl,St.le_refl _⟩
 clear c5 c6 c1 c4 hp15
 have htk:Rd.wp A0 s (λ_ _=>True) (λ_ _=>True):=Rd.O3 (λ_ _ _=>trivial) (λ_ _ _=>trivial)
 by_cases c1:H0 (Aa s).1=true/\A9 (Aa s).2.1 15 [41]=true
 .obtain ⟨c1,c2⟩:=c1
  rw [if_pos c1,if_pos c2] at h
  simp only [Rd.wp_seq,Rd.wp_ret] at h
  refine Ak (Al Ad ?_)
  repeat' ((conv=>whnf);first|(refine AG ?_;intros)|(refine AH ?_ ?_<;>intro e h)|(refine AJ ?_ ?_<;>intro _)|(refine FC ‹_› h (KZ c1) (λs1 hz hl hm h=>?_);subst hz)|refine HU ‹_› So ‹_› hc h (λn s1 U hm hc h=>?_)|refine Ca ?_|(refine D4 ?_ ?_<;>intro e h)|(refine D5 ?_;intro s1 hz hl hm h)|refine DQ (λn s1 U hr hl hm hc h=>?_) (λe n s1 U he hc h=>?_)|(refine CN ?_;intro own1 U hc)|refine Bj (λ_=>?_)|refine Ac (λe1=>?_)|exact B3|fail)
 replace h:if Gf (Aa s).1=true then (if A9 s 5 [45]=true then Rd.wp (L.DT o) s (λv s'=>∀st',Rx st0 st' rows->K (.ret (AO v s' 0)) st') (λe s'=>∀n st',Rx st0 st' rows->K (.ret (AO n s' e.1)) st') else Rd.wp (KW L o) s (λv s'=>∀st',Rx st0 st' rows->K (.ret (AO v s' 0)) st') (λe s'=>∀n st',Rx st0 st' rows->K (.ret (AO n s' e.1)) st')) else Rd.wp (L.DT o) s (λv s'=>∀st',Rx st0 st' rows->K (.ret (AO v s' 0)) st') (λe s'=>∀n st',Rx st0 st' rows->K (.ret (AO n s' e.1)) st'):=by
  by_cases d1:H0 (Aa s).1=true
  .rw [if_pos d1,if_neg (λe=>c1 ⟨d1,e⟩)] at h;exact h
  .rw [if_neg d1] at h;exact h
 refine P5 [] [] [0,2,4,6,7] [0,1,2] (Al Ad ?_) ?_
 .by_cases d1:H0 (Aa s).1=true
  .have d2:A9 (Aa s).2.1 15 [41]=false:=Bool.eq_false_iff.2 λe=>c1 ⟨d1,e⟩
   repeat' ((conv=>whnf);first|(refine AG ?_;intros)|(refine AH ?_ ?_<;>intro e h)|(refine AJ ?_ ?_<;>intro _)|(refine FC ‹_› htk (KZ d1) (λs1 hz hl hm h=>?_);subst hz)|refine Ca ?_|(refine D4 ?_ ?_<;>intro e h)|(refine D5 ?_;intro s1 hz hl hm h)|refine DQ (λn s1 U hr hl hm hc h=>?_) (λe n s1 U he hc h=>?_)|(refine CN ?_;intro own1 U hc)|refine Bj (λ_=>?_)|refine Ac (λe1=>?_)|exact B3|fail)
   all_goals exact ⟨Yl,St.le_refl _⟩
  .have d2:H0 (Aa s).1=false:=Bool.eq_false_iff.2 d1
   repeat' ((conv=>whnf);first|(refine AG ?_;intros)|(refine AH ?_ ?_<;>intro e h)|(refine AJ ?_ ?_<;>intro _)|refine Ca ?_|(refine D4 ?_ ?_<;>intro e h)|(refine D5 ?_;intro s1 hz hl hm h)|refine DQ (λn s1 U hr hl hm hc h=>?_) (λe n s1 U he hc h=>?_)|(refine CN ?_;intro own1 U hc)|refine Bj (λ_=>?_)|refine Ac (λe1=>?_)|exact B3|fail)
   all_goals exact ⟨Yl,St.le_refl _⟩
 clear c1 htk
 by_cases c1:Gf (Aa s).1=true/\¬A9 s 5 [45]=true
 .obtain ⟨c1,c2⟩:=c1
  rw [if_pos c1,if_neg c2] at h
  have hp5:(Aa s).1.kind=5->¬(Aa s).1.text=[45]:=λe1 e2=>c2 (by unfold A9;rw [e1,e2];rfl)
  refine Ak (Al Ad ?_)
  by_cases c7:(Aa s).1.kind=5
  .have hp5:=hp5 c7
   repeat' ((conv=>whnf);first|(refine AG ?_;intros)|(refine AH ?_ ?_<;>intro e h)|(refine AJ ?_ ?_<;>intro _)|refine BO.go (OO hd hL) ‹_› hc h (λn s1 U hr hl hm hc h=>?_) (λe n s1 U he hc h=>?_)|refine Ca ?_|(refine D4 ?_ ?_<;>intro e h)|(refine D5 ?_;intro s1 hz hl hm h)|refine DQ (λn s1 U hr hl hm hc h=>?_) (λe n s1 U he hc h=>?_)|(refine CN ?_;intro own1 U hc)|refine Bj (λ_=>?_)|refine Ac (λe1=>?_)|exact B3|fail)
  .skip
   repeat' ((conv=>whnf);first|(refine AG ?_;intros)|(refine AH ?_ ?_<;>intro e h)|(refine AJ ?_ ?_<;>intro _)|refine BO.go (OO hd hL) ‹_› hc h (λn s1 U hr hl hm hc h=>?_) (λe n s1 U he hc h=>?_)|refine Ca ?_|(refine D4 ?_ ?_<;>intro e h)|(refine D5 ?_;intro s1 hz hl hm h)|refine DQ (λn s1 U hr hl hm hc h=>?_) (λe n s1 U he hc h=>?_)|(refine CN ?_;intro own1 U hc)|refine Bj (λ_=>?_)|refine Ac (λe1=>?_)|exact B3|fail)
 replace h:Rd.wp (L.DT o) s (λv s'=>∀st',Rx st0 st' rows->K (.ret (AO v s' 0)) st') (λe s'=>∀n st',Rx st0 st' rows->K (.ret (AO n s' e.1)) st'):=by
  by_cases d1:Gf (Aa s).1=true
  .rw [if_pos d1,if_pos (Classical.byContradiction λe=>c1 ⟨d1,e⟩)] at h;exact h
  .rw [if_neg d1] at h;exact h
 refine P5 [] [] [0,2,4,6,7] [0,1,2] (Al Ad ?_) ?_
 .by_cases d1:Gf (Aa s).1=true
  .have d2:A9 s 5 [45]=true:=Classical.byContradiction λe=>c1 ⟨d1,e⟩
   obtain ⟨d3,d4⟩:(Aa s).1.kind=5/\(Aa s).1.text=[45]:=by unfold A9 at d2;simpa using d2
   have d5:¬¬(Aa s).1.text=[45]:=λe=>e d4
   repeat' ((conv=>whnf);first|(refine AG ?_;intros)|(refine AH ?_ ?_<;>intro e h)|(refine AJ ?_ ?_<;>intro _)|refine Ca ?_|(refine D4 ?_ ?_<;>intro e h)|(refine D5 ?_;intro s1 hz hl hm h)|refine DQ (λn s1 U hr hl hm hc h=>?_) (λe n s1 U he hc h=>?_)|(refine CN ?_;intro own1 U hc)|refine Bj (λ_=>?_)|refine Ac (λe1=>?_)|exact B3|fail)
   all_goals exact ⟨Yl,St.le_refl _⟩
  .have d2:Gf (Aa s).1=false:=Bool.eq_false_iff.2 d1
   repeat' ((conv=>whnf);first|(refine AG ?_;intros)|(refine AH ?_ ?_<;>intro e h)|(refine AJ ?_ ?_<;>intro _)|refine Ca ?_|(refine D4 ?_ ?_<;>intro e h)|(refine D5 ?_;intro s1 hz hl hm h)|refine DQ (λn s1 U hr hl hm hc h=>?_) (λe n s1 U he hc h=>?_)|(refine CN ?_;intro own1 U hc)|refine Bj (λ_=>?_)|refine Ac (λe1=>?_)|exact B3|fail)
   all_goals exact ⟨Yl,St.le_refl _⟩
 clear c1
 by_cases hz:d=0
 .have e:=hL.zero hz
  subst e
  have hlt:((d+1:Nat):Int)<2:=AC
  simp only [YY,Rd.BK] at h
  refine Ak (Al Ad ?_)
  repeat' ((conv=>whnf);first|(refine AG ?_;intros)|(refine AH ?_ ?_<;>intro e h)|(refine AJ ?_ ?_<;>intro _)|refine Ca ?_|(refine D4 ?_ ?_<;>intro e h)|(refine D5 ?_;intro s1 hz hl hm h)|refine DQ (λn s1 U hr hl hm hc h=>?_) (λe n s1 U he hc h=>?_)|(refine CN ?_;intro own1 U hc)|refine Bj (λ_=>?_)|refine Ac (λe1=>?_)|exact B3|fail)
 have hlt:¬((d+1:Nat):Int)<2:=AC
 rw [hL.DT hz,l9,Rd.wp_seq] at h
 refine P5 [] [] [0,2,4,6,7] [0,1,2] (Al Ad ?_) ?_
 .skip
  repeat' ((conv=>whnf);first|(refine AG ?_;intros)|(refine AH ?_ ?_<;>intro e h)|(refine AJ ?_ ?_<;>intro _)|refine Ca ?_|(refine D4 ?_ ?_<;>intro e h)|(refine D5 ?_;intro s1 hz hl hm h)|refine DQ (λn s1 U hr hl hm hc h=>?_) (λe n s1 U he hc h=>?_)|(refine CN ?_;intro own1 U hc)|refine Bj (λ_=>?_)|refine Ac (λe1=>?_)|exact B3|fail)
  all_goals exact ⟨Yl,St.le_refl _⟩
 refine Ak (Al Ad ?_)
 repeat' ((conv=>whnf);first|refine Bn hd ?_|(refine AG ?_;intros)|(refine AH ?_ ?_<;>intro e h)|(refine AJ ?_ ?_<;>intro _)|refine rP (hL.row hz) hm hc h (λl s1 U hl hm hc h=>?_) (λl s1 U hl2 hi hm hc h=>?_) (λe n s1 U he hc h=>?_)|refine Ca ?_|(refine D4 ?_ ?_<;>intro e h)|(refine D5 ?_;intro s1 hz hl hm h)|refine DQ (λn s1 U hr hl hm hc h=>?_) (λe n s1 U he hc h=>?_)|(refine CN ?_;intro own1 U hc)|refine Bj (λ_=>?_)|refine Ac (λe1=>?_)|exact B3|fail)
 .replace h:Rd.wp (IL full (IJ 17 l)) s1 (λe s'=>Rd.wp (Pg L.exp 4 [o] e) s' (λv s'=>∀st',Rx st0 st' rows->K (.ret (AO v s' 0)) st') (λe s'=>∀n st',Rx st0 st' rows->K (.ret (AO n s' e.1)) st')) (λe s'=>∀n st',Rx st0 st' rows->K (.ret (AO n s' e.1)) st'):=by rw [<-Rd.wp_seq];exact h
  refine Ak (Al Ad ?_)
  repeat' ((conv=>whnf);first|(refine AG ?_;intros)|(refine AH ?_ ?_<;>intro e h)|(refine AJ ?_ ?_<;>intro _)|refine Ca ?_|(refine D4 ?_ ?_<;>intro e h)|(refine D5 ?_;intro s1 hz hl hm h)|refine DQ (λn s1 U hr hl hm hc h=>?_) (λe n s1 U he hc h=>?_)|(refine CN ?_;intro own1 U hc)|refine Bj (λ_=>?_)|refine Ac (λe1=>?_)|exact B3|fail)
  refine Ak (Al Ad ?_)
  repeat' ((conv=>whnf);first|(refine AG ?_;intros)|(refine AH ?_ ?_<;>intro e h)|(refine AJ ?_ ?_<;>intro _)|refine Ca ?_|(refine D4 ?_ ?_<;>intro e h)|(refine D5 ?_;intro s1 hz hl hm h)|refine DQ (λn s1 U hr hl hm hc h=>?_) (λe n s1 U he hc h=>?_)|(refine CN ?_;intro own1 U hc)|refine Bj (λ_=>?_)|refine Ac (λe1=>?_)|exact B3|fail)
  refine Ak (Al Ad ?_)
  repeat' ((conv=>whnf);first|refine Bn hd ?_|(refine AG ?_;intros)|(refine AH ?_ ?_<;>intro e h)|(refine AJ ?_ ?_<;>intro _)|refine BO.go (S2 (hL.sK hz)) ‹_› hc h (λn s1 U hr hl hm hc h=>?_) (λe n s1 U he hc h=>?_)|refine Ca ?_|(refine D4 ?_ ?_<;>intro e h)|(refine D5 ?_;intro s1 hz hl hm h)|refine DQ (λn s1 U hr hl hm hc h=>?_) (λe n s1 U he hc h=>?_)|(refine CN ?_;intro own1 U hc)|refine Bj (λ_=>?_)|refine Ac (λe1=>?_)|exact B3|fail)
  .refine Ak (Al Ad ?_)
   repeat' ((conv=>whnf);first|(refine AG ?_;intros)|(refine AH ?_ ?_<;>intro e h)|(refine AJ ?_ ?_<;>intro _)|fail)
   refine Al Ad ?_
   repeat' ((conv=>whnf);first|(refine AG ?_;intros)|(refine AH ?_ ?_<;>intro e h)|(refine AJ ?_ ?_<;>intro _)|fail)
   refine iP [2,6,9] [1] hm hc h Yl (λn s1 m hm hc h=>?_) (λl n s1 b cap m hm hc hf hr hlen h=>?_) (λl n s1 e b cap m P he hc h=>?_)
   .have h:=p9 h
    by_cases hi:A9 s1 15 [44]=true
    .rw [if_pos hi] at h
     repeat' ((conv=>whnf);first|refine Bn hd ?_|(refine AG ?_;intros)|(refine AH ?_ ?_<;>intro e h)|(refine AJ ?_ ?_<;>intro _)|refine bO hc (λb cap U hf hc hr=>?_)|refine bK (l:=[o]++[n]) hL.exp hi (Nat.le_of_ble_eq_true rfl) ‹_› hc hf hr h (λc n2 b cap s2 U hlt hm hf hc hr h=>?_) (λe l n b cap s2 U he hf hc hr h=>?_)|refine (λ(_:_<4611686018427387904)=>?_)|refine bZ (m:=([o]++[n]++[c]).length) So So So ?_|exact V0 ‹_› hc hf hr So (h hlt) hlt Yl (St.le_refl _)|exact ZX hc h Yl (St.le_refl _)|refine Ca ?_|(refine D4 ?_ ?_<;>intro e h)|(refine D5 ?_;intro s1 hz hl hm h)|refine DQ (λn s1 U hr hl hm hc h=>?_) (λe n s1 U he hc h=>?_)|(refine CN ?_;intro own1 U hc)|refine Bj (λ_=>?_)|refine Ac (λe1=>?_)|exact B3|fail)
    .rw [if_neg hi] at h
     have hi:A9 s1 15 [44]=false:=Bool.eq_false_iff.2 hi
     repeat' ((conv=>whnf);first|(refine AG ?_;intros)|(refine AH ?_ ?_<;>intro e h)|(refine AJ ?_ ?_<;>intro _)|refine bO hc (λb cap U hf hc hr=>?_)|refine SU (l:=[o]++[n]) (Nat.le_of_ble_eq_true rfl) ‹_› hc hf hr (Rd.wp_mono h (λv s' _ q st' c=>?_) (λe s' _ q n st' c=>?_))|exact Fc c q rfl|exact Fc c (q _) rfl|refine Ca ?_|(refine D4 ?_ ?_<;>intro e h)|(refine D5 ?_;intro s1 hz hl hm h)|refine DQ (λn s1 U hr hl hm hc h=>?_) (λe n s1 U he hc h=>?_)|(refine CN ?_;intro own1 U hc)|refine Bj (λ_=>?_)|refine Ac (λe1=>?_)|exact B3|fail)
   .have h:=p9 h
    by_cases hi:A9 s1 15 [44]=true
    .rw [if_pos hi] at h
     repeat' ((conv=>whnf);first|refine Bn hd ?_|(refine AG ?_;intros)|(refine AH ?_ ?_<;>intro e h)|(refine AJ ?_ ?_<;>intro _)|refine Nx (x:=n) hc hf hr rfl AC (λb cap U hf hc hr=>?_)|refine bK (l:=l++[n]) hL.exp hi So ‹_› hc hf hr h (λc n2 b cap s2 U hlt hm hf hc hr h=>?_) (λe l n b cap s2 U he hf hc hr h=>?_)|refine (λ(_:_<4611686018427387904)=>?_)|refine bZ (m:=(l++[n]++[c]).length) So So So ?_|exact V0 ‹_› hc hf hr So (h hlt) hlt Yl (St.le_refl _)|exact ZX hc h Yl (St.le_refl _)|refine Ca ?_|(refine D4 ?_ ?_<;>intro e h)|(refine D5 ?_;intro s1 hz hl hm h)|refine DQ (λn s1 U hr hl hm hc h=>?_) (λe n s1 U he hc h=>?_)|(refine CN ?_;intro own1 U hc)|refine Bj (λ_=>?_)|refine Ac (λe1=>?_)|exact B3|fail)
    .rw [if_neg hi] at h
     have hi:A9 s1 15 [44]=false:=Bool.eq_false_iff.2 hi
     repeat' ((conv=>whnf);first|(refine AG ?_;intros)|(refine AH ?_ ?_<;>intro e h)|(refine AJ ?_ ?_<;>intro _)|refine Nx (x:=n) hc hf hr rfl AC (λb cap U hf hc hr=>?_)|refine SU (l:=l++[n]) So ‹_› hc hf hr (Rd.wp_mono h (λv s' _ q st' c=>?_) (λe s' _ q n st' c=>?_))|exact Fc c q rfl|exact Fc c (q _) rfl|refine Ca ?_|(refine D4 ?_ ?_<;>intro e h)|(refine D5 ?_;intro s1 hz hl hm h)|refine DQ (λn s1 U hr hl hm hc h=>?_) (λe n s1 U he hc h=>?_)|(refine CN ?_;intro own1 U hc)|refine Bj (λ_=>?_)|refine Ac (λe1=>?_)|exact B3|fail)
   .skip
    repeat' ((conv=>whnf);first|(refine AG ?_;intros)|(refine AH ?_ ?_<;>intro e h)|(refine AJ ?_ ?_<;>intro _)|refine Ca ?_|(refine D4 ?_ ?_<;>intro e h)|(refine D5 ?_;intro s1 hz hl hm h)|refine DQ (λn s1 U hr hl hm hc h=>?_) (λe n s1 U he hc h=>?_)|(refine CN ?_;intro own1 U hc)|refine Bj (λ_=>?_)|refine Ac (λe1=>?_)|exact B3|fail)
  .refine Ak (Al Ad ?_)
   repeat' ((conv=>whnf);first|(refine AG ?_;intros)|(refine AH ?_ ?_<;>intro e h)|(refine AJ ?_ ?_<;>intro _)|fail)
   refine Al Ad ?_
   repeat' ((conv=>whnf);first|(refine AG ?_;intros)|(refine AH ?_ ?_<;>intro e h)|(refine AJ ?_ ?_<;>intro _)|fail)
   refine N2 [] [(3,CY n s1 e.1)] [0,2,6,9,13] [1] Yl (λP=>?_)
   repeat' ((conv=>whnf);first|(refine AG ?_;intros)|(refine AH ?_ ?_<;>intro e h)|(refine AJ ?_ ?_<;>intro _)|refine Ca ?_|(refine D4 ?_ ?_<;>intro e h)|(refine D5 ?_;intro s1 hz hl hm h)|refine DQ (λn s1 U hr hl hm hc h=>?_) (λe n s1 U he hc h=>?_)|(refine CN ?_;intro own1 U hc)|refine Bj (λ_=>?_)|refine Ac (λe1=>?_)|exact B3|fail)
 .replace h:Rd.wp (.seq A0 λc=>.ret (Ar 9 [o,IJ 17 (l.take (l.length - 1)),l.getLastD FR,c])) s1 (λv s'=>∀st',Rx st0 st' rows->K (.ret (AO v s' 0)) st') (λe s'=>∀n st',Rx st0 st' rows->K (.ret (AO n s' e.1)) st'):=h
  simp only [Rd.wp_seq,Rd.wp_ret] at h
  obtain ⟨g1,g2⟩:=Ta hl2
  generalize hm':l.take (l.length - 1)=m at h g1 g2
  generalize hb':l.getLastD FR=b at h g1
  have hlm:l.length=m.length+1:=by rw [<-g1,List.length_append,List.length_singleton]
  have htk:(Ar 17 l).kids.take ((((Ar 17 l).kids.length:Nat):Int) - 1).toNat=m:=by
   show l.take (((l.length:Nat):Int) - 1).toNat=m
   rw [<-hm'];congr 1;omega
  have hlast:(Ar 17 l).kids[((((Ar 17 l).kids.length:Nat):Int) - 1).toNat]? =some b:=by
   show l[(((l.length:Nat):Int) - 1).toNat]? =some b
   rw [show (((l.length:Nat):Int) - 1).toNat=m.length by omega,<-g1]
   simp
  have hkl:(Ar 17 l).kids.length=l.length:=rfl
  refine Ak (Al Ad ?_)
  repeat' ((conv=>whnf);first|(refine AG ?_;intros)|(refine AH ?_ ?_<;>intro e h)|(refine AJ ?_ ?_<;>intro _)|refine Ca ?_|(refine D4 ?_ ?_<;>intro e h)|(refine D5 ?_;intro s1 hz hl hm h)|refine DQ (λn s1 U hr hl hm hc h=>?_) (λe n s1 U he hc h=>?_)|(refine CN ?_;intro own1 U hc)|refine Bj (λ_=>?_)|refine Ac (λe1=>?_)|exact B3|fail)
  refine Ak (Al Ad ?_)
  by_cases h2:m.length=1
  .obtain ⟨a,rfl⟩:∃a,m=[a]:=List.length_eq_one_iff.1 h2
   have hfirst:(Ar 17 l).kids[(0:Int).toNat]? =some a:=by
    show l[0]? =some a
    rw [<-g1];rfl
   repeat' ((conv=>whnf);first|refine S5 htk AC AC ?_|(refine AG ?_;intros)|(refine AH ?_ ?_<;>intro e h)|(refine AJ ?_ ?_<;>intro _)|refine bL ?_|refine HU hi So ‹_› hc h (λn s1 U hm hc h=>?_)|refine Ca ?_|(refine D4 ?_ ?_<;>intro e h)|(refine D5 ?_;intro s1 hz hl hm h)|refine DQ (λn s1 U hr hl hm hc h=>?_) (λe n s1 U he hc h=>?_)|(refine CN ?_;intro own1 U hc)|refine Bj (λ_=>?_)|refine Ac (λe1=>?_)|exact B3|fail)
  .have ho:IJ 17 m=Ar 17 m:=if_neg h2
   rw [ho] at h
   repeat' ((conv=>whnf);first|refine S5 htk AC AC ?_|(refine AG ?_;intros)|(refine AH ?_ ?_<;>intro e h)|(refine AJ ?_ ?_<;>intro _)|refine bL ?_|refine HU hi So ‹_› hc h (λn s1 U hm hc h=>?_)|refine Ca ?_|(refine D4 ?_ ?_<;>intro e h)|(refine D5 ?_;intro s1 hz hl hm h)|refine DQ (λn s1 U hr hl hm hc h=>?_) (λe n s1 U he hc h=>?_)|(refine CN ?_;intro own1 U hc)|refine Bj (λ_=>?_)|refine Ac (λe1=>?_)|exact B3|fail)
 .refine Ak (Al Ad ?_)
  repeat' ((conv=>whnf);first|(refine AG ?_;intros)|(refine AH ?_ ?_<;>intro e h)|(refine AJ ?_ ?_<;>intro _)|refine Ca ?_|(refine D4 ?_ ?_<;>intro e h)|(refine D5 ?_;intro s1 hz hl hm h)|refine DQ (λn s1 U hr hl hm hc h=>?_) (λe n s1 U he hc h=>?_)|(refine CN ?_;intro own1 U hc)|refine Bj (λ_=>?_)|refine Ac (λe1=>?_)|exact B3|fail)
end
structure MG (f:FuncId) (mk:Af->List V) (A:Rd Nd):Prop where
 ap:∀{st0:St} {s:Af} {st:St} {rows:List (AF×List Nd)} {K:AL->St->Prop},mu s<=100000000->Rx st0 st rows->
  Rd.wp A s (λv s'=>∀st',Rx st0 st' rows->K (.ret (AO v s' 0)) st') (λe s'=>∀st',Rx st0 st' rows->K (.ret (AO FR s' e.1)) st')->PC f (mk s) st K
theorem MG.c {f:FuncId} {mk:Af->List V} {A:Rd Nd} (h:MG f mk A):BO f mk A:=
 ⟨λ{st0 s st rows K} U hc hw=>h.ap U hc (Rd.wp_mono hw (λ_ _ _ q=>q) (λe s' _ q st' c=>q FR st' c))⟩
theorem nD {t b:Nd}:HL L t b=.seq (Gj L.exp 9 tw ([t]++[b])) λl=>.ret (Ar 24 l):=by
 simp only [HL,Gj,Rd.seq_assoc,Rd.Ns,List.cons_append,List.nil_append]
section
variable {st0 st:St} {s:Af} {rows:List (AF×List Nd)} {K:AL->St->Prop} {E:Er->Af->Prop} {d:Nat} {L:C8} {atom stm opd full exp:Rd Nd} {o:Nd}
structure cq (D:Int) (d:Nat):Prop where
 le:d+1<=100
 ge:¬D<1
 Fe:∀{st:St} {K:AL->St->Prop},K (.ret (.int .i64 ((d+1:Nat):Int))) st->PC 59 [.int .i64 D] st K
theorem VI (U:d+1<=100):cq ((d+1:Nat):Int) d:=⟨U,AC,λh=>GU AC (by rw [if_neg AC];exact h)⟩
theorem s8 (U:100<D):cq D 99:=⟨AC,AC,λh=>GU AC (by rw [if_pos U];exact h)⟩
theorem oi {t b:Nd} {own:AF} (he:BO 66 (λs=>[Am s,.int .i64 D]) L.exp) (hL:LD L) (hz:∃s0,mu s0<=100000000/\Be ([t]++[b]) s0 s) (hm:mu s<=100000000) (hc:Rx st0 st ((own,[t]++[b])::rows)) (h:Rd.wp (HL L t b) s Q E)
 (k:∀l' n U s' st',(Ar 24 l').size<=1000000000->mu s'<=100000000->Rx st0 st' ((U,l')::rows)->Q (Ar 24 l') s'->K (.ret (.Bh [.slice 6 (l'.map Ax) U,AO n s' 0])) st')
 (kb:∀e l' n U s' st',¬e.1=0->Rx st0 st' ((U,l')::rows)->E e s'->K (.ret (.Bh [.slice 6 (l'.map Ax) U,AO n s' e.1])) st'):PC 65 [.slice 6 (([t]++[b]).map Ax) own,Am s,.int .i64 9,.str tw,.int .i64 D] st K:=by
 obtain ⟨s0,hm0,hz⟩:=hz
 have hdv:Rd.wp (HL L t b) s (λn s'=>Be [n] s0 s') F4:=QD hL hz λn s3 g3=>g3
 rw [nD] at h hdv
 simp only [Rd.wp_seq,Rd.wp_ret] at h hdv
 refine X8.go (Fw Do he) (Nat.le_of_ble_eq_true rfl) hm hc h (λl' n U s' st' hr hl hm' hc' q=>k l' n U s' st' ?_ hm' hc' q) kb
 unfold Rd.wp at hdv
 rw [hr] at hdv
 have:(Ar 24 l').size+4*mu s'<=4*mu s0:=hdv.p4
 omega
attribute [local irreducible] Go.Aw.Ag
theorem bI (hD:cq D d) (ho:BO 193 (λs=>[Am s,.int .i64 ((d+1:Nat):Int)]) opd) (hf:BO 145 (λs=>[Am s,.int .i64 ((d+1:Nat):Int)]) full):MG 66 (λs=>[Am s,.int .i64 D]) (Yx opd full):=by
 obtain ⟨hd,hge,hlim⟩:=hD
 refine ⟨λ{st0 s st rows K} hm hc h=>?_⟩
 simp only [Yx,Rd.wp_seq] at h
 refine pB Tryz.func66 ?_
 repeat' ((conv=>whnf);first|(refine AG ?_;intros)|(refine AH ?_ ?_<;>intro e h)|(refine AJ ?_ ?_<;>intro _)|refine hlim ?_|refine BO.go (PJ ho) ‹_› hc h (λn s1 U hr hl hm hc h=>?_) (λe n s1 U he hc h=>?_)|refine BO.go (S2 hf) ‹_› hc h (λn s1 U hr hl hm hc h=>?_) (λe n s1 U he hc h=>?_)|refine Zu ‹_› ?_|refine Ca ?_|refine Ac (λe1=>?_)|exact B3|fail)
theorem Xm (hD:cq D d) (hL:Jy d L stm opd full) (hV:LD L) (he:BO 66 (λs=>[Am s,.int .i64 ((d+1:Nat):Int)]) exp) (hE:Dv exp):MG 27 (λs=>[Am s,.int .i64 D]) (RD L exp):=by
 obtain ⟨hd,hge,hlim⟩:=hD
 refine ⟨λ{st0 s st rows K} hm hc h=>?_⟩
 simp only [RD,Sh,Rd.Ah,Rd.Az,Rd.wp_seq,Rd.wp_ret,Rd.BK] at h
 refine pB Tryz.func27 ?_
 by_cases hi:A9 s 9 UK=true
 .rw [if_pos hi] at h
  have ht:Be [Av (Aa s).1] s (Aa s).2.1:=.is hi Do Do
  have hm0:=hm
  repeat' ((conv=>whnf);first|refine Bn AC ?_|(refine AG ?_;intros)|(refine AH ?_ ?_<;>intro e h)|(refine AJ ?_ ?_<;>intro _)|refine hlim ?_|refine BO.go hL.decls ‹_› hc h (λn s1 U hr hl hm hc h=>?_) (λe n s1 U he hc h=>?_)|refine Rx.Fk (l:=[_]) (hc.push [_]) (Nat.le_of_ble_eq_true rfl) (λown1 U hc=>?_)|refine oi hL.exp hV ⟨_,hm0,(hz ▸ ht).snoc (hV.decls.at hr)⟩ ‹_› hc h (λl' n own' s1 U hz hm hc h=>?_) (λe l' n own' s1 U he hc h=>?_)|refine ND hz h (λe h=>?_) (λe h=>?_)|refine KR (l:=[_]) (own:=.full) Do he ‹_› (Nat.le_of_ble_eq_true rfl) ‹_› (hc.drop.push [_]) h (λc n n' own1 s1 U hl hm hc h=>?_) (λe l' n own' s1 U he hc h=>?_)|refine Ca ?_|(refine D4 ?_ ?_<;>intro e h)|(refine D5 ?_;intro s1 hz hl hm h)|refine DQ (λn s1 U hr hl hm hc h=>?_) (λe n s1 U he hc h=>?_)|(refine CN ?_;intro own1 U hc)|refine Ac (λe1=>?_)|exact B3|fail)
 .rw [if_neg hi] at h
  have hi:A9 s 9 UK=false:=Bool.eq_false_iff.2 hi
  have hm0:=hm
  repeat' ((conv=>whnf);first|refine Bn AC ?_|(refine AG ?_;intros)|(refine AH ?_ ?_<;>intro e h)|(refine AJ ?_ ?_<;>intro _)|refine hlim ?_|refine BO.go he ‹_› hc h (λn s1 U hr hl hm hc h=>?_) (λe n s1 U he hc h=>?_)|refine ND (hE.tU hr hm0) h (λe h=>?_) (λe h=>?_)|refine KR (l:=[_]) (own:=.full) Do he ‹_› (Nat.le_of_ble_eq_true rfl) ‹_› (hc.push [_]) h (λc n n' own1 s1 U hl hm hc h=>?_) (λe l' n own' s1 U he hc h=>?_)|refine Ca ?_|(refine D4 ?_ ?_<;>intro e h)|(refine D5 ?_;intro s1 hz hl hm h)|refine DQ (λn s1 U hr hl hm hc h=>?_) (λe n s1 U he hc h=>?_)|(refine CN ?_;intro own1 U hc)|refine Ac (λe1=>?_)|exact B3|fail)
end
section
variable {st0 st:St} {s:Af} {rows:List (AF×List Nd)} {K:AL->St->Prop} {E:Er->Af->Prop} {d:Nat} {L:C8} {atom stm opd full exp stmt:Rd Nd} {o:Nd}
theorem Zr {Q:List Nd->Af->Prop} (hs:BO 27 (λs=>[Am s,.int .i64 D]) stmt) (hm:mu s<=100000000) (hc:Rx st0 st rows) (h:Rd.wp (Ed stmt []) s Q E)
 (k:∀l' n U s' st',l'.length<=400000002->mu s'<mu s->mu s'<=100000000->Rx st0 st' ((U,l')::rows)->Q l' s'->K (.ret (.Bh [.slice 6 (l'.map Ax) U,AO n s' 0])) st')
 (kb:∀e l' n U s' st',¬e.1=0->Rx st0 st' ((U,l')::rows)->E e s'->K (.ret (.Bh [.slice 6 (l'.map Ax) U,AO n s' e.1])) st'):PC 134 [.slice 6 [] .full,Am s,.str [124],.int .i64 D] st K:=
 X8.go (l:=[]) (own:=.full) (SZ hs) (Nat.le_of_ble_eq_true rfl) hm (hc.push _) h (λl' n U s' st' hr hl hm' hc' q=>k l' n U s' st' (by have:=Lq hr;simp only [List.length_nil] at *;omega) (Oz _ _ _ hr) hm' hc' q) kb
def MC (L:C8) (l:List Nd):Rd Nd:=.look λs=>if A9 s 9 ZM=true then .seq A0 λw=>.seq L.decls λb=>.ret (Ar 29 (l++[Ar 31 ([w]++[b])])) else .ret (Ar 29 l)
theorem rI (hl:l=[]/\A9 s 10 [124]=true\/l≠[]/\(l.headD FR).kind=30) (h:Rd.wp (Ob L exp stmt m l) s Q E):
 if A9 s 10 [124]=true then Rd.wp (Ed stmt []) s (λg s1=>Rd.wp (Gj exp 10 m g) s1 (λg s2=>mu s2<mu s->Rd.wp (Ob L exp stmt m (l++[Ar 30 g])) s2 Q E) E) E else Rd.wp (MC L l) s Q E:=by
 have hg:Rd.wp (Ml exp stmt m l) s (Rd.again (HE exp stmt m) s (λl s1=>Rd.wp (MC L l) s1 Q E) E) E->Rd.wp (Ed stmt []) s (λg s1=>Rd.wp (Gj exp 10 m g) s1 (λg s2=>mu s2<mu s->Rd.wp (Ob L exp stmt m (l++[Ar 30 g])) s2 Q E) E) E:=λh=>by
  simp only [Ml,Rd.wp_seq,Rd.wp_ret] at h
  simp only [Gj,Rd.wp_seq,Rd.wp_ret]
  refine Rd.wp_mono h (λg s1 _ h=>Rd.wp_mono h (λq s2 _ h=>Rd.wp_mono h (λe s3 _ h U=>?_) λ_ _ _ h=>h) λ_ _ _ h=>h) λ_ _ _ h=>h
  have:=Rd.BF h U
  unfold Ob
  rw [Rd.wp_seq]
  exact this
 unfold Ob at h
 rw [Rd.wp_seq,Rd.wp_loop] at h
 replace h:Rd.wp (HE exp stmt m l) s (Rd.again (HE exp stmt m) s (λl s1=>Rd.wp (MC L l) s1 Q E) E) E:=h
 unfold HE at h
 rcases hl with ⟨rfl,hi⟩|⟨hn,hk⟩
 .rw [if_pos (show ((([]:List Nd).length:Int)==0)=true from rfl)] at h
  rw [if_pos hi]
  exact hg h
 .rw [if_neg (by
   have:((l.length:Int)==0)=false:=beq_eq_false_iff_ne.2 λe=>hn (List.length_eq_zero_iff.1 AC)
   rw [this];decide),if_pos (show ((l.headD FR).kind==30)=true by rw [hk];rfl),Rd.Ah,Rd.Az,Rd.wp_ret,Rd.A5] at h
  split
  .rename_i hi;rw [if_pos hi] at h;exact hg h
  .rename_i hi;rw [if_neg hi] at h;exact h
theorem rJ {a e:Nd} (U:a.kind≠30) (h:Rd.wp (Ob L exp stmt m [a,e]) s Q E):Rd.wp (MC L [a,e]) s Q E:=by
 unfold Ob at h
 rw [Rd.wp_seq,Rd.wp_loop] at h
 replace h:Rd.wp (HE exp stmt m [a,e]) s (Rd.again (HE exp stmt m) s (λl s1=>Rd.wp (MC L l) s1 Q E) E) E:=h
 unfold HE at h
 rw [if_neg (by show ¬((2:Int)==0)=true;decide),if_neg (by show ¬(a.kind==30)=true;rw [beq_iff_eq];exact U),Rd.wp_ret,Rd.A5] at h
 exact h
def fY (n:Nd) (w:AF) (s:Af):List V:=[.int .i64 n.kind,.int .i64 n.form,.str n.text,.int .i64 n.line,.int .i64 n.CC,.slice 6 (Cc n.kids) w,.slice 4 (A4 s.As) .any,.int .i64 s.pos,.slice 1 (ints s.BT) .any,.int .i64 s.wait,.int .i64 0]
theorem eH (h:Rd.wp A0 s Q E):Rd.wp A0 s (λc s'=>c.kind=1/\Q c s') E:=Rd.wp_mono h (λv s' U q=>⟨(by
 by_cases e:(Aa s).2.2=0
 .rw [CU e] at U;cases U;rfl
 .rw [H2 e] at U;cases U),q⟩) λ_ _ _ h=>h
theorem tn {g:List Nd} (h:l=[]/\P\/l≠[]/\(l.headD FR).kind=30):l++[Ar 30 g]≠[]/\((l++[Ar 30 g]).headD FR).kind=30:=by
 refine ⟨GT,?_⟩
 cases l with
 |nil=>rfl
 |cons a r=>
  rcases h with h|h
  .cases h.1
  .exact h.2
theorem sA {x y:Code} {Q:AM->Env->St->Prop} {st:St} (f:α->List (Nat×V)) (g:α->List (Nat×List V)) (keep U:List Nat) (S:α->St) (J:α->Prop) (hx:AW Tryz.prog x (Bp (λenv' st'=>∃p,J p/\(env.F3 (f p) (g p) keep U).C7 env'/\St.le (S p) st') Q) env st)
 (hy:∀p,J p->AW Tryz.prog y Q (env.F3 (f p) (g p) keep U) (S p)):AW Tryz.prog (.seq x y) Q env st:=Pj (λp=>env.F3 (f p) (g p) keep U) S J hy hx
theorem nF {Q:β->Af->Prop} (T:σ->Rd β) (P:σ->Af->Prop) {x0:σ} (hp:P x0 s)
 (f:σ->Af->AF->List (Nat×V)) (g:σ->Af->AF->List (Nat×List V)) (keep kb:List Nat) (rw:σ->AF->List (AF×List Nd)) (wt:σ->Nat) (U:AF) (hm:mu s<=100000000) (hc:Rx st0 st (rw x0 U)) (h:Rd.wp (T x0) s Q E) (hl:wt x0+4*mu s<=500000000)
 (he:(env.F3 (f x0 s U) (g x0 s U) keep kb).C7 env)
 (hb:∀x s1 st1 own1,P x s1->mu s1<=100000000->Rx st0 st1 (rw x own1)->Rd.wp (T x) s1 Q E->wt x+4*mu s1<=500000000->
   ih (Bp (λenv' st'=>∃y:LS σ,(P y.x y.s/\mu y.s<=100000000/\Rx st0 y.m (rw y.x y.o)/\Rd.wp (T y.x) y.s Q E/\wt y.x+4*mu y.s<=500000000)/\mu y.s<mu s1/\(env.F3 (f y.x y.s y.o) (g y.x y.s y.o) keep kb).C7 env'/\St.le y.m st') Q0)
    (env.F3 (f x s1 own1) (g x s1 own1) keep kb) st1):
 ∃(α:Type) (E:α->Env) (S:α->St) (J:α->Prop) (μ:α->Nat) (x0:α),J x0/\(E x0).C7 env/\St.le (S x0) st/\
  ∀x,J x->ih (Bp (λenv' st'=>∃y,J y/\μ y<μ x/\(E y).C7 env'/\St.le (S y) st') Q0) (E x) (S x):=
 ⟨LS σ,λy=>env.F3 (f y.x y.s y.o) (g y.x y.s y.o) keep kb,λy=>y.m,
   λy=>P y.x y.s/\mu y.s<=100000000/\Rx st0 y.m (rw y.x y.o)/\Rd.wp (T y.x) y.s Q E/\wt y.x+4*mu y.s<=500000000,λy=>mu y.s,⟨x0,s,st,U⟩,⟨hp,hm,hc,h,hl⟩,he,St.le_refl _,
   λy ⟨j0,j1,j3,j4,j5⟩=>hb y.x y.s y.m y.o j0 j1 j3 j4 j5⟩
attribute [local irreducible] Go.Aw.Ag
theorem bQ (hd:d+1<=100) (hL:Jy d L stm opd full) (he:BO 66 (λs=>[Am s,.int .i64 ((d+1:Nat):Int)]) exp) (hs:BO 27 (λs=>[Am s,.int .i64 ((d+1:Nat):Int)]) stmt):BO 71 (λs=>[Am s,.str m,.int .i64 ((d+1:Nat):Int)]) (Xc L exp stmt m):=by
 refine ⟨λ{st0 s st rows K} hm hc h=>?_⟩
 simp only [Xc,Rd.Ah,Rd.Az,Rd.wp_seq] at h
 refine Bu Ad [] Tryz.func71 rfl Do rfl ?_
 refine Ak (Al Ad ?_)
 repeat' ((conv=>whnf);first|(refine AG ?_;intros)|(refine AH ?_ ?_<;>intro e h)|(refine AJ ?_ ?_<;>intro _)|refine Hx (λ_=>?_) ?_|fail)
 refine Ak (Al Ad ?_)
 repeat' ((conv=>whnf);first|(refine AG ?_;intros)|(refine AH ?_ ?_<;>intro e h)|(refine AJ ?_ ?_<;>intro _)|refine Hx (λ_=>?_) ?_|fail)
 refine Ak (Al Ad ?_)
 repeat' ((conv=>whnf);first|(refine AG ?_;intros)|(refine AH ?_ ?_<;>intro e h)|(refine AJ ?_ ?_<;>intro _)|refine Hx (λ_=>?_) ?_|fail)
 refine sA (α:=LS (List Nd×Nd×AF)) (λp=>[(7,.slice 6 (p.x.1.map Ax) p.o)]) (λp=>[(2,fY p.x.2.1 p.x.2.2 p.s)]) [1,2,6,8] [1] (λp=>p.m) (λp=>mu p.s<=100000000/\Rx st0 p.m ((p.o,p.x.1)::rows)/\p.x.1.length+4*mu p.s<=500000000/\Rd.wp (MC L p.x.1) p.s (λv s'=>∀st',Rx st0 st' rows->K (.ret (AO v s' 0)) st') (λe s'=>∀n st',Rx st0 st' rows->K (.ret (AO n s' e.1)) st')) (Al Ad ?_) ?_
 .by_cases hi:A9 s 10 m=true
  .rw [if_pos hi] at h
   have h:=eH h
   repeat' ((conv=>whnf);first|refine Bn AC ?_|(refine AG ?_;intros)|(refine AH ?_ ?_<;>intro e h)|(refine AJ ?_ ?_<;>intro _)|refine Hx (λ_=>?_) ?_|refine KR (l:=[]) (own:=.full) Do he ‹_› (Nat.le_of_ble_eq_true rfl) ‹_› (hc.push []) (Rd.wp_mono h (λc s' _ h=>Rd.wp_mono h.2 (λn s2 _ q=>(⟨h.1,q⟩:c.kind=1/\_)) (λ_ _ _ h=>h)) (λ_ _ _ h=>h)) (λc n n' own1 s1 U hl hm hc h=>?_) (λe l' n own' s1 U he hc h=>?_)|exact ⟨⟨(_,_,.any),s1,U,own1⟩,⟨‹_›,hc,So,rJ (by rw [h.1]<;>decide) h.2⟩,Yl,St.le_refl _⟩|refine Ca ?_|(refine D4 ?_ ?_<;>intro e h)|(refine D5 ?_;intro s1 hz hl hm h)|refine DQ (λn s1 U hr hl hm hc h=>?_) (λe n s1 U he hc h=>?_)|(refine ME ?_;intro e he h)|(refine CN ?_;intro own1 U hc)|refine Ac (λe1=>?_)|exact B3|fail)
  .rw [if_neg hi] at h
   have hi:A9 s 10 m=false:=Bool.eq_false_iff.2 hi
   by_cases hb:A9 s 10 [124]=true
   .rw [if_pos hb] at h
    repeat' ((conv=>whnf);first|(refine AG ?_;intros)|(refine AH ?_ ?_<;>intro e h)|(refine AJ ?_ ?_<;>intro _)|refine Hx (λ_=>?_) ?_|refine Ca ?_|(refine D4 ?_ ?_<;>intro e h)|(refine D5 ?_;intro s1 hz hl hm h)|refine DQ (λn s1 U hr hl hm hc h=>?_) (λe n s1 U he hc h=>?_)|(refine ME ?_;intro e he h)|(refine CN ?_;intro own1 U hc)|refine Ac (λe1=>?_)|exact B3|fail)
    refine nF (λp=>Ob L exp stmt m p.1) (λp s=>p.1=[]/\A9 s 10 [124]=true\/p.1≠[]/\(p.1.headD FR).kind=30) (x0:=([],FR,.full)) (.inl ⟨rfl,hb⟩) (λp s own=>[(7,.slice 6 (p.1.map Ax) own)]) (λp s own=>[(2,fY p.2.1 p.2.2 s)]) [1,2,6,8] [1] (λp own=>(own,p.1)::rows) (λp=>p.1.length) .full hm (hc.push []) h la Yl ?_
    rintro ⟨l,n,w⟩ s1 U own1 hp hm hc h hl
    dsimp only at hp hc h hl
    have h:=rI hp h
    by_cases KE:A9 s1 10 [124]=true
    .rw [if_pos KE] at h
     repeat' ((conv=>whnf);first|(refine AG ?_;intros)|(refine AH ?_ ?_<;>intro e h)|(refine AJ ?_ ?_<;>intro _)|refine Hx (λ_=>?_) ?_|refine Zr hs ‹_› hc h (λl' n own' s1 U hl2 hlt hm hc h=>?_) (λe l' n own' s1 U he hc h=>?_)|refine X8.go (Fw Do he) AC ‹_› hc h (λl' n own' s1 U hr hl hm hc h=>?_) (λe l' n own' s1 U he hc h=>?_)|refine Rx.Fk hc.drop ke (λown1 U hc=>?_)|exact Fc hc.drop.drop (h _) rfl|exact ⟨⟨(_,_,.any),s1,U,own1⟩,⟨.inr (tn hp),‹_›,hc,h AC,So⟩,(by dsimp only<;>omega),Yl,St.le_refl _⟩|refine Ca ?_|(refine D4 ?_ ?_<;>intro e h)|(refine D5 ?_;intro s1 hz hl hm h)|refine DQ (λn s1 U hr hl hm hc h=>?_) (λe n s1 U he hc h=>?_)|(refine ME ?_;intro e he h)|(refine CN ?_;intro own1 U hc)|refine Ac (λe1=>?_)|exact B3|fail)
    .rw [if_neg KE] at h
     have KE:A9 s1 10 [124]=false:=Bool.eq_false_iff.2 KE
     repeat' ((conv=>whnf);first|(refine AG ?_;intros)|(refine AH ?_ ?_<;>intro e h)|(refine AJ ?_ ?_<;>intro _)|refine Hx (λ_=>?_) ?_|exact ⟨⟨(_,_,_),s1,U,own1⟩,⟨hm,hc,hl,h⟩,Yl,St.le_refl _⟩|refine Ca ?_|(refine D4 ?_ ?_<;>intro e h)|(refine D5 ?_;intro s1 hz hl hm h)|refine DQ (λn s1 U hr hl hm hc h=>?_) (λe n s1 U he hc h=>?_)|(refine ME ?_;intro e he h)|(refine CN ?_;intro own1 U hc)|refine Ac (λe1=>?_)|exact B3|fail)
   .rw [if_neg hb] at h
    have hb:A9 s 10 [124]=false:=Bool.eq_false_iff.2 hb
    repeat' ((conv=>whnf);first|(refine AG ?_;intros)|(refine AH ?_ ?_<;>intro e h)|(refine AJ ?_ ?_<;>intro _)|refine Hx (λ_=>?_) ?_|refine Ca ?_|(refine D4 ?_ ?_<;>intro e h)|(refine D5 ?_;intro s1 hz hl hm h)|refine DQ (λn s1 U hr hl hm hc h=>?_) (λe n s1 U he hc h=>?_)|(refine ME ?_;intro e he h)|(refine CN ?_;intro own1 U hc)|refine Ac (λe1=>?_)|exact B3|fail)
 .rintro ⟨⟨l,n,w⟩,s1,U,own1⟩ ⟨hm,hc,hl,h⟩
  dsimp only at hm hc hl h |-
  simp only [MC,Rd.Ah,Rd.Az,Rd.wp_seq,Rd.wp_ret] at h
  refine Al Ad ?_
  repeat' ((conv=>whnf);first|refine Bn AC ?_|(refine AG ?_;intros)|(refine AH ?_ ?_<;>intro e h)|(refine AJ ?_ ?_<;>intro _)|refine Hx (λ_=>?_) ?_|refine BO.go hL.decls ‹_› hc h (λn s1 U hr hl hm hc h=>?_) (λe n s1 U he hc h=>?_)|refine Rx.Fk hc.drop ke (λown1 U hc=>?_)|refine Ca ?_|(refine D4 ?_ ?_<;>intro e h)|(refine D5 ?_;intro s1 hz hl hm h)|refine DQ (λn s1 U hr hl hm hc h=>?_) (λe n s1 U he hc h=>?_)|(refine ME ?_;intro e he h)|(refine CN ?_;intro own1 U hc)|refine Ac (λe1=>?_)|exact B3|fail)
end
section
variable {st0 st:St} {b d:Nat} {s:Af} {rows:List (AF×List Nd)} {K:AL->St->Prop} {L:C8}
attribute [local irreducible] Go.Aw.Ag
theorem qh (hL:L0 d L) {ops exp:Rd Nd} (ho:Bx enc 130 (λb=>[pv b d]) ops) (he:Bx enc 80 (λb=>[pv b d]) exp) (hs:Bx enc 60 (λb=>[pv b d]) stmt):
 Bx enc 69 (λb=>[pv b d]) (Ye L ops exp stmt):=by
 refine ⟨λ{st0 b s st rows K} hc h=>?_⟩
 simp only [Ye,Rd.Az,Rd.wp_seq,Rd.wp_ret,Rd.BK] at h
 refine pB Tryz.func69 ?_
 repeat' ((conv=>whnf);first|exact Dk|(refine AG ?_;intros)|(refine Dl ?_ ?_ ?_;rotate_left)|(refine AH ?_ ?_<;>intro e h)|(refine AJ ?_ ?_<;>intro _)|exact F5|refine Kq ?_|refine Ac (λe1=>?_)|refine Bx.go ho hc h (λn s1 U hr hm hc h=>?_) (λe s1 U hc h=>?_)|refine TR ?_|refine T6 ?_|refine T5 ?_|refine Bx.go (jK hL he hs) hc h (λn s1 U hr hm hc h=>?_) (λe s1 U hc h=>?_)|refine Ae [(0,true),(1,true),(2,false),(3,false)] [] GE ?_|refine Ae [(0,true),(1,true),(2,false),(3,true),(4,false),(5,false)] [1] GE ?_|with_reducible refine WF ?_)
end
theorem Rd.iO {body:σ->Rd (Sum σ β)} {P:β->Prop} (h1:∀x s y s',(body x).run s=.inr (.inr y,s')->P y) (x:σ) (s:Af):∀y s',(Rd.loop body x).run s=.inr (y,s')->P y:=by
 show ∀y s',Rd.iter body x s=.inr (y,s')->_
 fun_induction Rd.iter body x s with
 |case1 x s e h=>intro y s' U;cases U
 |case2 x s y s1 h=>intro y s' U;cases U;exact h1 _ _ _ _ h
 |case3 x s x' s1 h hlt ih=>exact ih
 |case4 x s x' s1 h hlt=>intro y s' U;cases U
theorem kr {s:Af} (h:(HB opd U).run s=.inr (p,s')):∃x,p.1[((p.1.length:Nat) - 1:Int).toNat]? =some x/\p.1.getLastD FR=x/\1<=p.1.length:=by
 have:∃l x,p.1=l++[x]:=by
  refine Rd.iO (body:=Xh opd U) (P:=λp=>∃l x,p.1=l++[x]) (λx s y s' h=>?_) _ _ _ _ h
  unfold Xh at h
  obtain ⟨l,s1,_,h⟩:=B4 h
  obtain ⟨n,s2,_,h⟩:=B4 h
  replace h:(if Gf (Aa s2).1=true then .seq EK λo=>
   if U=true then .look λs=>if A9 s 15 [41]=true then .ret (.inr (l++[n]++[o],true)) else .ret (.inl (l++[n]++[o]))
   else .ret (.inl (l++[n]++[o]))
   else .ret (.inr (l++[n],false)):Rd (Sum (List Nd) (List Nd×Bool))).run s2=.inr (.inr y,s'):=h
  split at h
  .obtain ⟨o,s3,_,h⟩:=B4 h
   split at h
   .replace h:(if A9 s3 15 [41]=true then .ret (.inr (l++[n]++[o],true)) else .ret (.inl (l++[n]++[o])):Rd (Sum (List Nd) (List Nd×Bool))).run s3=.inr (.inr y,s'):=h
    split at h
    .cases h;exact ⟨_,_,rfl⟩
    .cases h
   .cases h
  .cases h;exact ⟨_,_,rfl⟩
 obtain ⟨l,x,e⟩:=this
 refine ⟨x,?_,?_,?_⟩
 .rw [e];simp only [List.length_append,List.length_cons,List.length_nil]
  rw [show (((l.length+(0+1):Nat):Int) - 1).toNat=l.length by omega]
  simp
 .rw [e];simp
 .rw [e];simp
theorem Zy (hn:1<=l.length) (k:K ((l.take (l.length - 1)).map Ax)):
 ((0:Int)<=0/\(0:Int)<=(l.length:Int) - 1/\(l.length:Int) - 1=(l.length:Int) - 1/\(l.length:Int) - 1<=((l.map Ax).length:Int))/\∀U,U=List.drop (Int.toNat 0) (List.take ((l.length:Int) - 1).toNat (l.map Ax))->K U:=by
 refine ⟨⟨AC,AC,rfl,by rw [List.length_map];omega⟩,λU e=>?_⟩
 rw [e,show ((l.length:Int) - 1).toNat=l.length - 1 by omega,<-List.map_take]
 exact k
section
variable {st0 st:St} {b d:Nat} {s:Af} {rows:List (AF×List Nd)} {K:AL->St->Prop} {L:C8}
attribute [local irreducible] Go.Aw.Ag
theorem Ts {full exp:Rd Nd} (ho:Bx enc 240 (λb=>[pv b d]) opd) (hf:Bx enc 203 (λb=>[pv b d]) full) (he:Bx enc 80 (λb=>[pv b d]) exp):
 Bx enc 340 (λb=>[pv b d,enc o]) (EE opd full exp o):=by
 refine ⟨λ{st0 b s st rows K} hc h=>?_⟩
 simp only [EE,Rd.Az,Rd.wp_seq,Rd.wp_ret,Rd.BK] at h
 have hmu:=hc.mu
 refine Bu Ad [] Tryz.func340 rfl Do rfl ?_
 refine Ak (Al Ad ?_)
 repeat' ((conv=>whnf);first|exact Dk|(refine AG ?_;intros)|(refine Dl ?_ ?_ ?_;rotate_left)|(refine AH ?_ ?_<;>intro e h)|(refine AJ ?_ ?_<;>intro _)|with_reducible refine WF ?_)
 refine Ak (Al Ad ?_)
 repeat' ((conv=>whnf);first|exact Dk|(refine AG ?_;intros)|(refine Dl ?_ ?_ ?_;rotate_left)|(refine AH ?_ ?_<;>intro e h)|(refine AJ ?_ ?_<;>intro _)|refine sE.go (kt ho) hc h (λp own1 s1 U hr hm hc h=>?_) (λe s1 U hc h=>?_)|exact DJ hc h|with_reducible refine WF ?_)
 all_goals obtain ⟨x,hx,hd,hn⟩:=kr hr
 all_goals try rw [hd] at h
 all_goals refine Al Ad ?_
 all_goals (repeat' ((conv=>whnf);first|exact Dk|(refine AG ?_;intros)|(refine Dl ?_ ?_ ?_;rotate_left)|(refine AH ?_ ?_<;>intro e h)|(refine AJ ?_ ?_<;>intro _)|(refine It ?_;intro U hc)|(refine L1 ?_ ?_<;>intro U hc e h)|(refine K1 ?_;intro s1 U hz hm hc h)|refine Jv (λn s1 U hr hm hc h=>?_) (λe s1 U hc h=>?_)|exact F5|refine Kq ?_|(refine LJ ?_;intro own1 U hc)|refine Bj (λ_=>?_)|refine Ac (λe1=>?_)|refine Zy hn ?_|refine L3 hx AC ?_|refine Bx.go (XT hf) hc h (λn s1 U hr hm hc h=>?_) (λe s1 U hc h=>?_)|refine Ae [(0,true),(1,true),(2,true),(3,true),(4,true),(6,true),(7,true),(8,true),(9,true),(10,true),(11,true),(5,false),(12,false),(13,true),(14,false),(15,false)] [2] GE ?_|refine Ae [(0,true),(1,true),(2,true),(3,false),(4,false),(5,true),(6,true)] [] GE ?_|with_reducible refine WF ?_))
 all_goals refine Dh (λ(q:Int×List Nd) own=>[(9,.int .i64 q.1),(8,.slice 6 (q.2.map Ax) own)]) (λ_ _=>[]) [2,4] [0,2] (λq own=>(own,q.2)::rows) (λq=>q.2.length) .full (hc.drop.push _) h (by show 2+_<=_;omega) Yl ?_
 all_goals intro q s1 U own1 hc h hl hm1
 all_goals simp only [RJ,Rd.Ah,Rd.Az,Rd.wp_seq,Rd.wp_ret,Rd.A5] at h
 all_goals obtain ⟨k,l⟩:=q
 all_goals dsimp only at hc h hl
 all_goals (repeat' ((conv=>whnf);first|exact Dk|(refine AG ?_;intros)|(refine Dl ?_ ?_ ?_;rotate_left)|(refine AH ?_ ?_<;>intro e h)|(refine AJ ?_ ?_<;>intro _)|(refine It ?_;intro U hc)|(refine L1 ?_ ?_<;>intro U hc e h)|(refine K1 ?_;intro s1 U hz hm hc h)|refine Jv (λn s1 U hr hm hc h=>?_) (λe s1 U hc h=>?_)|exact F5|refine Kq ?_|(refine LJ ?_;intro own1 U hc)|refine Bj (λ_=>?_)|refine Ac (λe1=>?_)|refine Bx.go he hc h (λn s1 U hr hm hc h=>?_) (λe s1 U hc h=>?_)|refine Ae [(0,true),(1,true),(2,true),(3,true),(4,true),(6,true),(7,true),(8,true),(9,true),(10,true),(11,true),(5,false),(12,false),(13,true),(14,false),(15,false)] [2] GE ?_|refine Ae [(0,true),(1,true),(2,true),(3,false),(4,false),(5,true),(6,true)] [] GE ?_|with_reducible refine WF ?_))
 all_goals conv=>whnf
end
section
variable {st0 st:St} {b d c:Nat} {s:Af} {rows:List (AF×List Nd)} {K:AL->St->Prop} {L:C8} {o:Nd} {A:Rd Nd}
theorem jQ (hb:Bx enc 340 (λb=>[pv b d,enc o]) A) (hx:st.box c=some (Ax o)) (hc:Cx st0 b s st rows)
 (h:Rd.wp A s (λv s'=>∀st',Cx st0 b s' st' rows->K (.ret (enc v)) st') (λe s'=>∀st',Cy st0 b s' st' rows->K (.Cz (fault e.1)) st')):PC 339 [pv b d,.ptr c 0] st K:=by
 refine pB Tryz.func339 ?_
 repeat' ((conv=>whnf);first|(refine AG ?_;intros)|(refine AH ?_ ?_<;>intro e h)|(refine AJ ?_ ?_<;>intro _)|refine AB hx ?_|refine Bx.go hb hc h (λn s1 U hr hm hc h=>?_) (λe s1 U hc h=>?_)|exact F5|refine Ac (λe1=>?_))
theorem eC (hb:Bx enc 342 (λb=>[pv b d,enc o]) A) (hx:st.box c=some (Ax o)) (hc:Cx st0 b s st rows)
 (h:Rd.wp A s (λv s'=>∀st',Cx st0 b s' st' rows->K (.ret (enc v)) st') (λe s'=>∀st',Cy st0 b s' st' rows->K (.Cz (fault e.1)) st')):PC 341 [pv b d,.ptr c 0] st K:=by
 refine pB Tryz.func341 ?_
 repeat' ((conv=>whnf);first|(refine AG ?_;intros)|(refine AH ?_ ?_<;>intro e h)|(refine AJ ?_ ?_<;>intro _)|refine AB hx ?_|refine Bx.go hb hc h (λn s1 U hr hm hc h=>?_) (λe s1 U hc h=>?_)|exact F5|refine Ac (λe1=>?_))
end
section
variable {st0 st:St} {b d:Nat} {s:Af} {rows:List (AF×List Nd)} {K:AL->St->Prop} {L:C8}
attribute [local irreducible] Go.Aw.Ag
theorem YG:Bx enc 197 (λb=>[pv b d]) A0:=by
 refine ⟨λ{st0 b s st rows K} hc h=>?_⟩
 refine pB Tryz.func197 ?_
 repeat' ((conv=>whnf);first|(refine AG ?_;intros)|(refine AH ?_ ?_<;>intro e h)|(refine AJ ?_ ?_<;>intro _)|refine J6.go hc h (λn s1 U hr hm hc h=>?_) (λe s1 U hc h=>?_)|(refine K1 ?_;intro s1 U hz hm hc h)|refine Jv (λn s1 U hr hm hc h=>?_) (λe s1 U hc h=>?_)|exact F5|refine Ac (λe1=>?_))
theorem jr {x:Nd} (hx:n.kids[(Int.tdiv (n.kids.length:Int) 2).toNat]? =some x) (U:n.kids[n.kids.length / 2]? =some x) (h:K (.ret (.bool (Ez n))) st):PC 200 [enc n] st K:=by
 have e:Ez n= !(x.form==7||x.form==8||x.form==3||x.form==4):=by unfold Ez;rw [U]
 rw [e] at h
 refine pB Tryz.func200 ?_
 have h0:0<=Int.tdiv (n.kids.length:Int) 2:=Int.tdiv_nonneg AC AC
 repeat' ((conv=>whnf);first|(refine AG ?_;intros)|(refine AH ?_ ?_<;>intro e h)|(refine AJ ?_ ?_<;>intro _)|refine Wm hx h0 ?_)
 all_goals conv=>whnf
 all_goals (refine Ao h ?_;clear h;simp_all)
end
end Go.Proofs.Z
namespace Go.Aw
open Go
theorem Rc {l:List UInt8} (h:(BN l).1≠10):Ep l=(11,2+Bo (BN l).1 (l.drop 2)):=if_pos h
theorem Za {l:List UInt8} (h:(BN l).1=10) (k:Bo 10 l=0):Ep l=(0,0):=by unfold Ep;rw [if_neg (λe=>e h),if_pos k]
theorem Uc {l:List UInt8} {n f e:Nat} (h:(BN l).1=10) (hn:Bo 10 l=n) (U:n≠0) (hf:HD (l.drop n)=f) (he:IX (l.drop (n+f))=e):Ep l=(if 0<f\/0<e then 12 else 11,n+f+e):=by
 subst hn;subst hf;subst he
 unfold Ep;rw [if_neg (λe=>e h),if_neg U]
theorem bt {l:List UInt8} {b:Int} (h:BN l=(b,2)):AV l=48/\2<=l.length:=by
 unfold BN at h
 split at h
 .rename_i hc
  refine ⟨hc.1,?_⟩
  have:=hc.2.2
  have U:=C2 (Ej l) (l.drop 2)
  rw [List.length_drop] at U
  omega
 .injection h with _ h;cases h
def Hq (s:List UInt8) (pos:Nat):Int×Int:=if (Ep (s.drop pos)).1=0 then (0,0) else ((Ep (s.drop pos)).1,(pos+(Ep (s.drop pos)).2:Nat))
end Go.Aw
namespace Go.Proofs.Z
open Go Go.Aw
section
variable {st:St} {R:AL->St->Prop}
theorem sN {n:Nat} (e:i.toNat=n) (h:R (.ret (.bool (decide (AV (s.drop n)=46)))) st):PC 87 [.str (s.drop i.toNat),.str [46]] st R:=by
 refine Ji ?_
 rw [Fv,e]
 exact h
theorem Yz {n:Nat} (e:i.toNat=n) (U:s.length<=4611686018427387903) (h:R (.ret (.int .i64 (IX (s.drop n):Nat))) st):PC 280 [.str (s.drop i.toNat)] st R:=by
 rw [e];exact Yy M2 h
theorem ko {b:Int} {n:Nat} (e:i.toNat=n) (U:s.length<=4611686018427387903) (h:R (.ret (.int .i64 (Bo b (s.drop n):Nat))) st):PC 279 [.str (s.drop i.toNat),.int .i64 b] st R:=by
 rw [e];exact pW M2 h
theorem pX {b:Int} {n v:Nat} (e:i.toNat=n) (hv:Bo b (s.drop n)=v) (U:s.length<=4611686018427387903) (h:R (.ret (.int .i64 v)) st):PC 279 [.str (s.drop i.toNat),.int .i64 b] st R:=
 ko e U (by rw [hv];exact h)
theorem QJ {n v:Nat} (e:i.toNat=n) (hv:IX (s.drop n)=v) (U:s.length<=4611686018427387903) (h:R (.ret (.int .i64 v)) st):PC 280 [.str (s.drop i.toNat)] st R:=
 Yz e U (by rw [hv];exact h)
theorem PE {k:Int} {n:Nat} (U:Ep s=(k,n)) (e2:i.toNat=n):AL.ret (.Bh [.int .i64 (Ep s).1,.str (s.take (Ep s).2)])=AL.ret (.Bh [.int .i64 k,.str (s.take i.toNat)]):=by rw [U,e2]
theorem jf (U:Ep s=(0,0)):AL.ret (.Bh [.int .i64 (Ep s).1,.str (s.take (Ep s).2)])=AL.ret (.Bh [.int .i64 0,.str []]):=by rw [U];rfl
theorem JV {b:Int} {n:Nat} (hp:BN s=(b,n)) (U:s.length<=4611686018427387903) (h:R (.ret (.Bh [.int .i64 b,.int .i64 n])) st):PC 278 [.str s] st R:=
 Zf U (by rw [hp];exact h)
theorem aY (hl:s.length<=4611686018427387903) (h:R (.ret (.Bh [.int .i64 (Ep s).1,.str (s.take (Ep s).2)])) st):PC 228 [.str s] st R:=by
 have hle:=Ub s
 refine pB Tryz.func228 ?_
 rcases HS s with hp|⟨hp,_⟩|⟨hp,_⟩
 .have h1:=C2 10 s
  have h2:=QO (s.drop (Bo 10 s))
  have h3:=TG (s.drop (Bo 10 s+HD (s.drop (Bo 10 s))))
  rw [List.length_drop] at h2 h3
  generalize hr:Bo 10 s=r at h1 h2 h3
  have hr0:Bo 10 (s.drop 0)=r:=hr
  generalize hf:HD (s.drop r)=f at h2 h3
  generalize he:IX (s.drop (r+f))=e at h3
  have h4:=C2 10 (s.drop (r+1))
  have e0:(BN s).1=10:=by rw [hp]
  have hlt:=Yr s r
  have hfd:(AV (s.drop r)=46/\Bo 10 (s.drop (r+1))≠0/\f=1+Bo 10 (s.drop (r+1)))\/((AV (s.drop r)≠46\/Bo 10 (s.drop (r+1))=0)/\f=0):=by
   rw [<-hf]
   unfold HD
   rw [List.drop_drop]
   split<;>omega
  rw [List.length_drop] at h4
  generalize hd:Bo 10 (s.drop (r+1))=d at h4 hfd
  repeat' ((conv=>whnf);first|exact D1|(refine BV ?_;intros)|(refine D2 ?_ ?_ ?_;rotate_left)|(refine BW ?_ ?_<;>intro _)|refine JV hp hl ?_|refine pX AC hr0 hl ?_|refine pX AC hd hl ?_|refine sN (n:=r) AC ?_|refine QJ AC he hl ?_|refine QJ AC he' hl ?_|with_reducible refine WF ?_)
  all_goals first
   |(have U:=Za e0 AC;exact fin h (jf U))
   |(have U:=Uc e0 hr AC hf he;rw [if_pos AC] at U;exact fin h (PE U AC))
   |(have U:=Uc e0 hr AC hf he;rw [if_neg AC] at U;exact fin h (PE U AC))
 .have hr:=C2 8 (s.drop 2)
  have h2:=(bt hp).2
  rw [List.length_drop] at hr
  repeat' ((conv=>whnf);first|exact D1|(refine BV ?_;intros)|(refine D2 ?_ ?_ ?_;rotate_left)|(refine BW ?_ ?_<;>intro _)|refine JV hp hl ?_|refine ko (n:=2) AC hl ?_|with_reducible refine WF ?_)
  all_goals (have U:=Rc (l:=s) (by rw [hp];decide);rw [hp] at U;dsimp only at U;exact fin h (PE U AC))
 .have hr:=C2 16 (s.drop 2)
  have h2:=(bt hp).2
  rw [List.length_drop] at hr
  repeat' ((conv=>whnf);first|exact D1|(refine BV ?_;intros)|(refine D2 ?_ ?_ ?_;rotate_left)|(refine BW ?_ ?_<;>intro _)|refine JV hp hl ?_|refine ko (n:=2) AC hl ?_|with_reducible refine WF ?_)
  all_goals (have U:=Rc (l:=s) (by rw [hp];decide);rw [hp] at U;dsimp only at U;exact fin h (PE U AC))
theorem je (hl:s.length<=4611686018427387903) (hp:pos<s.length) (h:R (.ret (.Bh [.int .i64 (Hq s pos).1,.int .i64 (Hq s pos).2])) st):PC 154 [.str s,.int .i64 pos] st R:=by
 have hw:=Ub (s.drop pos)
 have ht:((s.drop pos).take (Ep (s.drop pos)).2).length=(Ep (s.drop pos)).2:=NE
 rw [List.length_drop] at hw
 have U:(s.drop pos).length<=4611686018427387903:=M2
 refine pB Tryz.func154 ?_
 repeat' ((conv=>whnf);first|(refine BV ?_;intros)|(refine BW ?_ ?_<;>intro _)|refine aY U ?_)
 .exact fin h (by unfold Hq;rw [if_pos ‹_›];simp_all)
 .exact fin h (by unfold Hq;rw [if_neg ‹_›];simp only [];rw [show (pos:Int).toNat=pos by omega] at *;rw [ht];rfl)
end
end Go.Proofs.Z
namespace Go.Aw
open Go
theorem SN {P:Program} {r:List V} {st:St} {R:AL->St->Prop} (hb:Plain P f) (h:s.length<4611686018427387904->Bc P f (.str s::r) st R):Bc P f (.str s::r) st R:=by
 refine ⟨?_,hb⟩
 intro I w cargs hs U
 have hl:s.length<4611686018427387904:=by
  have h2:=U
  simp only [Aj,AE] at h2
  obtain ⟨c,rr,_,h2,_⟩:=h2
  exact h2.2
 exact (h hl).a I w cargs hs U
def FM (s:List UInt8) (k:Int):Bool:=(Ep s).1==k&&(s.take (Ep s).2==s)
theorem eI {n:Nat} (h:n<=s.length):s.take n=s↔n=s.length:=by
 constructor
 .intro e
  have:=congrArg List.length e
  rw [List.length_take] at this
  omega
 .intro e;rw [e,List.take_length]
theorem Jd {k:Int}:FM s k=true↔(Ep s).1=k/\(Ep s).2=s.length:=by
 unfold FM
 rw [Bool.and_eq_true,beq_iff_eq,beq_iff_eq,eI (Ub s)]
theorem Ot (h:FM s 11=true):Bo (BN s).1 (s.drop (BN s).2)=s.length - (BN s).2/\(BN s).2<=s.length:=by
 obtain ⟨U,h2⟩:=Jd.1 h
 by_cases hb:(BN s).1=10
 .have hp:BN s=(10,0):=by
   rcases HS s with e|⟨e,_⟩|⟨e,_⟩
   .exact e
   .rw [e] at hb;cases hb
   .rw [e] at hb;cases hb
  rw [hp]
  refine ⟨?_,Nat.zero_le _⟩
  show Bo 10 (s.drop 0)=s.length - 0
  rw [List.drop_zero,Nat.sub_zero]
  by_cases h0:Bo 10 s=0
  .rw [Za hb h0] at U;cases U
  .have e:=Uc (l:=s) hb rfl h0 rfl rfl
   rw [e] at U h2
   dsimp only at U h2
   split at U
   .cases U
   .omega
 .have e:=Rc (l:=s) hb
  have hp2:(BN s).2=2:=by
   rcases HS s with e|⟨e,_⟩|⟨e,_⟩
   .rw [e] at hb;exact absurd rfl hb
   .rw [e]
   .rw [e]
  rw [e] at h2
  dsimp only at h2
  rw [hp2]
  omega
theorem Sp {c b:Int} (hb:b<=16) (h:¬Bw c b<0):0<=Bw c b/\Bw c b<b/\Bw c b<=15:=by
 unfold Bw at h |-
 dsimp only at h |-
 (repeat' split at h)<;>(repeat' split)<;>omega
end Go.Aw
namespace Go.Proofs.Z
open Go Go.Aw
theorem XY {base:Int} {c m:Nat} (h:pos<s.length) (U:(c,m)=AU (s.drop pos)) (k:¬Bw (c:Int) base<0):
 m=1/\GN base (s.drop pos) v=if (4611686018427387904 - Bw (c:Int) base) / base<v then (0,3) else GN base (s.drop (pos+1)) (v*base+Bw (c:Int) base):=by
 obtain ⟨a,ha⟩:∃a,s[pos]? =some a:=⟨_,List.getElem?_eq_getElem h⟩
 have e:=drop_at ha
 have hlo:a.toNat<128:=by
  apply Classical.byContradiction
  intro hn
  have:=Pr (r:=s.drop (pos+1)) hn
  rw [e] at U
  rw [<-U] at this
  exact k (IV (by dsimp only at this;omega))
 rw [e,Ea hlo] at U
 obtain ⟨rfl,rfl⟩:=Prod.mk.inj U
 refine ⟨rfl,?_⟩
 rw [e,GN]
theorem kQ {t:List UInt8} {n:Nat} {K:List UInt8->Prop} (ht:s.drop n=t) (U:0<=(n:Int)) (h1:(n:Int)<=s.length) (k:K t):
 (0<=(n:Int)/\(n:Int)<=(s.length:Int)/\(s.length:Int)<=s.length)/\∀s',s'=(s.take (s.length:Int).toNat).drop (n:Int).toNat->K s':=WN U h1 (by subst ht;exact k)
section
variable {st:St} {R:AL->St->Prop}
theorem te {k:Int} (U:s.length<=4611686018427387903) (h:R (.ret (.bool (FM s k))) st):PC 299 [.str s,.int .i64 k] st R:=by
 refine pB Tryz.func299 ?_
 repeat' ((conv=>whnf);first|(refine AG ?_;intros)|(refine AH ?_ ?_<;>intro e h)|(refine AJ ?_ ?_<;>intro _)|refine aY U ?_)
 all_goals conv=>whnf
 all_goals (refine Ao h ?_;clear h;simp_all [FM])
theorem pQ {k:Int} {b:Bool} (e:FM s k=b) (U:s.length<=4611686018427387903) (h:R (.ret (.bool b)) st):PC 299 [.str s,.int .i64 k] st R:=te U (by rw [e];exact h)
theorem mn {t:List UInt8} {c m:Nat} {b:Int} (hb:b<=16) (hl:pos<t.length) (hd:(c,m)=AU (t.drop pos)) (hr:Bo b (t.drop pos)=t.length - pos) (k:∀d,d=Bw c b->0<=d->d<b->R (.ret (.int .i64 d)) st):PC 300 [.int .i32 c,.int .i64 b] st R:=by
 have hn:¬Bw (c:Int) b<0:=λe=>by
  have:=Il hl hd e
  omega
 obtain ⟨U,h2,_⟩:=Sp hb hn
 exact MQ (k _ rfl U h2)
theorem pP {b:Int} {K:Int->Prop} (hb:b=10\/b=8\/b=16) (U:0<=v) (h1:0<=d) (h2:d<b) (h3:¬(4611686018427387904 - d) / b<v) (k:K (v*b)):∃r,r=IntKind.i64.wrap (v*b)/\K r:=by
 refine ⟨_,(LC ?_ ?_).symm,k⟩<;>(rcases hb with rfl|rfl|rfl<;>omega)
theorem pq {b:Int} {K:Int->Prop} (hb:b=10\/b=8\/b=16) (U:0<=v) (h1:0<=d) (h2:d<b) (h3:¬(4611686018427387904 - d) / b<v) (k:K (v*b+d)):∃r,r=IntKind.i64.wrap (v*b+d)/\K r:=by
 refine ⟨_,(LC ?_ ?_).symm,k⟩<;>(rcases hb with rfl|rfl|rfl<;>omega)
theorem pE {b:Int} (hb:b=10\/b=8\/b=16) (U:0<=v) (h1:0<=d) (h2:d<b) (h3:¬(4611686018427387904 - d) / b<v):0<=v*b+d/\v*b+d<=4611686018427387904:=by
 rcases hb with rfl|rfl|rfl<;>omega
theorem Tj {b:Int} {n:Nat} (hn:FM s 11=true) (U:BN s=(b,n)):Fj s=GN b (s.drop n) 0:=by
 unfold Fj
 rw [if_pos (Jd.1 hn),U]
theorem o4 (h:R (.ret (.Bh [.int .i64 (Fj s).1,.int .i64 (Fj s).2])) st):PC 248 [.str s] st R:=by
 refine SN ⟨_,Tryz.func248,Do,Do⟩ λhl0=>?_
 have hl:s.length<=4611686018427387903:=AC
 refine pB Tryz.func248 ?_
 cases hn:FM s 11 with
 |false=>
  have hw:Fj s=(0,40):=by
   unfold Fj
   rw [if_neg λe=>?_]
   rw [Jd.2 e] at hn;cases hn
  rw [hw] at h
  repeat' ((conv=>whnf);first|(refine AG ?_;intros)|(refine AH ?_ ?_<;>intro e h)|(refine AJ ?_ ?_<;>intro _)|refine pQ hn hl ?_)
  all_goals exact fin h rfl
 |true=>
  obtain ⟨hr,hle⟩:=Ot hn
  have key:∀(b:Int) (n:Nat),BN s=(b,n)->b=10\/b=8\/b=16:=λb n e=>by
   rcases HS s with h|⟨h,_⟩|⟨h,_⟩<;>(rw [h] at e;cases e;omega)
  generalize hp:BN s=p at hr hle
  obtain ⟨b,n⟩:=p
  have hp0:BN s=(b,n):=hp
  dsimp only at hr hle
  have hb:=key b n hp
  rw [Tj hn hp] at h
  have hlen:(s.drop n).length=s.length - n:=by rw [List.length_drop]
  generalize ht:s.drop n=t at h hr hlen
  have hr:Bo b t=t.length:=AC
  clear hp key hlen
  repeat' ((conv=>whnf);first|(refine AG ?_;intros)|(refine AH ?_ ?_<;>intro e h)|(refine AJ ?_ ?_<;>intro _)|refine pQ hn hl ?_|refine JV hp0 hl ?_|refine kQ ht AC AC ?_)
  conv=>whnf
  refine TZ (α:=Nat) (β:=Int) (λpos v=>[(6,.int .i64 v)]) (λpos v=>[(0,[.O9 t pos])]) [0,4,5,21] [] (λ_ _=>st) (λpos v=>pos<=t.length/\Bo b (t.drop pos)=t.length - pos/\GN b t 0=GN b (t.drop pos) v/\0<=v/\v<=4611686018427387904) (λpos v=>t.length - pos) 0 0 ⟨Nat.zero_le _,by rw [List.drop_zero];omega,by rw [List.drop_zero],AC,AC⟩ Yl (St.le_refl _) ?_
  rintro pos v ⟨j1,j2,j3,j4,j5⟩
  rw [j3] at h
  have hb0:0<b:=AC
  repeat' ((conv=>whnf);first|(refine AG ?_;intros)|(refine AH ?_ ?_<;>intro e h)|(refine AJ ?_ ?_<;>intro _)|refine WK (λc m hd=>?_)|refine Wr hb0 AC AC ?_|refine mn AC ‹_› ‹_› j2 (λd U hd1 hd2=>?_)|refine pP hb j4 hd1 hd2 ‹_› ?_|refine pq hb j4 hd1 hd2 ‹_› ?_)
  .rename_i hlt hgt
   obtain ⟨e1,e2⟩:=XY (v:=v) (base:=b) hlt hd (by rw [<-U];omega)
   rw [e2,<-U,if_pos hgt] at h
   exact fin h rfl
  .rename_i hlt hgt
   obtain ⟨e1,e2⟩:=XY (v:=v) (base:=b) hlt hd (by rw [<-U];omega)
   have e3:=(Nw (base:=b) hlt hd (by rw [<-U];omega)).2
   rw [<-U,if_neg hgt] at e2
   have hf:=pE hb j4 hd1 hd2 hgt
   subst e1
   conv=>whnf
   exact ⟨(pos+1,v*b+d),⟨UV,UV,by rw [j3,e2],hf.1,hf.2⟩,UV,Yl,St.le_refl _⟩
  .rename_i hlt
   rw [List.drop_eq_nil_iff.2 AC] at h
   exact fin h rfl
end
end Go.Proofs.Z
