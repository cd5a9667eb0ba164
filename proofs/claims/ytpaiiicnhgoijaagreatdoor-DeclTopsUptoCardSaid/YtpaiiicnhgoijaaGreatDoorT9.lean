/-
  Parts of a proof: lemmas that the last text uses.
-/
import Derived.Test.YtpaiiicnhgoijaaGreatDoorT8
import Derived.RangeFuncRecord
import Derived.RangeFuncSeq
import Derived.OrdersIn
set_option linter.unusedVariables false
set_option linter.unusedSimpArgs false
set_option maxHeartbeats 16000000
variable {f g:Go.FuncId} {s:Go.Proofs.Z.Af} {deep:Int} {st' st0:Go.Aw.St} {A:Go.Proofs.Z.Rd Go.Aw.Nd} {K:Go.Aw.AD->Go.Aw.St->Prop} {E:Go.Proofs.Z.Er->Go.Proofs.Z.Af->Prop} {args:List Go.Aw.V} {w w':Go.World} {o:Bool} {ops:Array Go.Oper} {Q:Go.Aw.Nd->Go.Proofs.Z.Af->Prop} {l:List Go.Aw.Nd} {r:Go.Loop} {b id d:Nat} {Im:Go.Aw.Mem} {fn:Go.Func} {x:List UInt8} {P:Prop} {ks:List Int} {n:Go.Aw.Nd} {rows:List (Go.Aw.Ay×List Go.Aw.Nd)} {p:Go.Aw.Nd->Bool}
namespace Go.Proofs.Z
open Go Go.Aw
section
variable {st:St} {R:AD->St->Prop}
attribute [local irreducible] Go.Aw.Ai
theorem dv {c:Nat} {q:Rs} (hq:¬deep<1->∀(b:Nat) (st5:St) (R:AD->St->Prop),st.le st5->Has st5 b s->Fv st5 b R q->PC f [.ptr b 0,.int .i64 (if 100<deep then 100 else deep),.ptr c 0] st5 R) (h:R (.ret (ME (C5 s deep q))) st):PC 67 [Am s,.int .i64 deep,.func f [] [.ptr c 0]] st R:=by
 refine Bp.ends (Oe Ac [6,7,8,9,12] Tryz.func67 rfl IR rfl rfl rfl rfl rfl rfl ⟨_,Tryz.func138,rfl,IR⟩ rfl ?_)
 repeat' ((conv=>whnf);first|  (refine BU ?_ ?_<;>intro _)|refine er (λb5 f5=>?_)|refine AK (St.As ..) ?_|fail)
 rename_i b1 f1 b2 f2 b3 f3 b4 f4
 obtain ⟨n12,f2a⟩:=Ct f2
 obtain ⟨n23,f3a⟩:=Ct f3
 obtain ⟨n13,f3b⟩:=Ct f3a
 obtain ⟨n34,f4a⟩:=Ct f4
 obtain ⟨n24,f4b⟩:=Ct f4a
 obtain ⟨n14,f4c⟩:=Ct f4b
 obtain ⟨n45,f5a⟩:=Ct f5
 obtain ⟨n35,f5b⟩:=Ct f5a
 obtain ⟨n25,f5c⟩:=Ct f5b
 obtain ⟨n15,f5d⟩:=Ct f5c
 conv=>whnf
 refine ⟨rfl,A7 rfl ?_⟩
 generalize hst5:St.Ab _ b5 [V.ptr b4 0]=st5
 have k1:st5.box b1=some Eh:=by subst hst5;rw [St.AH n15.symm,St.AH n15.symm,St.AH n14.symm,St.AH n13.symm,St.AH n12.symm,St.As];rfl
 have k2:st5.box b2=some [.slice 4 (Bb FH.AR) .full,.int .i64 FH.pos,.slice 1 (ints FH.Cf) .full,.int .i64 FH.wait]:=by subst hst5;rw [St.AH n25.symm,St.AH n25.symm,St.AH n24.symm,St.AH n23.symm,St.As];rfl
 have k3:st5.box b3=some [.int .i64 0]:=by subst hst5;rw [St.AH n35.symm,St.AH n35.symm,St.AH n34.symm,St.As]
 have k4:Has st5 b4 s:=by subst hst5;refine .inr ⟨oW,FH,.full,.full,0,?_⟩;rw [St.AH n45.symm,St.AH n45.symm,St.As];rfl
 have k5:st5.box b5=some [.ptr b4 0]:=by subst hst5;rw [St.As]
 have kle:st.le st5:=by
  subst hst5
  exact St.Av (St.Av (St.Av (St.Av (St.Av (St.Av (St.le_refl _) f1.1 _) f2a.1 _) f3b.1 _) f4c.1 _) f5d.1 _) f5d.1 _
 have kpan:∀(U:St) (e:Int) (s':Af),II st5 U b4 s'->U.box b5=some [.ptr b4 0]/\U.box b1=some Eh/\U.box b2=some [.slice 4 (Bb FH.AR) .full,.int .i64 FH.pos,.slice 1 (ints FH.Cf) .full,.int .i64 FH.wait]/\U.box b3=some [.int .i64 0]/\st.le U:=by
  rintro U e s' ⟨_,cs,rfl⟩
  exact ⟨by rw [St.AH n45];exact k5,by rw [St.AH n14.symm];exact k1,by rw [St.AH n24.symm];exact k2,by rw [St.AH n34.symm];exact k3,St.Av kle f4c.1 _⟩
 clear hst5 f2 f3 f4 f5 f3a f4a f4b f5a f5b f5c
 refine Ah (Aj Ac ?_)
 repeat' ((conv=>whnf);(first|  refine BU ?_ ?_|refine AK k5 ?_|refine CL ?_|fail)<;>intros)
 .refine Kn (n0:=BC) (s0:=FH) k5 k4 k1 k2 k3 n15 n14 n12 n13 n25 n24 n23 ?_
  have g1:(((st5.Ab b1 Eh).Ab b2 s.cells).Ab b3 [.int .i64 2]).box b1=some Eh:=by rw [St.AH n13.symm,St.AH n12.symm,St.As]
  have g2:(((st5.Ab b1 Eh).Ab b2 s.cells).Ab b3 [.int .i64 2]).box b2=some s.cells:=by rw [St.AH n23.symm,St.As]
  have gl:st.le (((st5.Ab b1 Eh).Ab b2 s.cells).Ab b3 [.int .i64 2]):=St.Av (St.Av (St.Av kle f1.1 _) f2a.1 _) f3b.1 _
  unfold C5 at h
  rw [if_pos ‹_›] at h
  repeat' ((conv=>whnf);(first|  refine BU ?_ ?_|refine AK g1 ?_|refine AK g2 ?_|refine AK (St.As ..) ?_|fail)<;>intros)
  all_goals exact CS gl rfl h
 .rename_i hd
  unfold C5 at h
  rw [if_neg hd] at h
  have hq:=λst5 R h=>hq hd b4 st5 R h
  refine Ah (Aj Ac ?_)
  cases q with
  |inl q=>
   obtain ⟨e,s'⟩:=q
   repeat' ((conv=>whnf);first|  (refine BU ?_ ?_<;>intro _)|refine AK k5 ?_|refine ⟨_,rfl,?_⟩|refine hq _ _ kle k4 (λU hu=>?_)|fail)
   obtain ⟨j5,j1,j2,j3,jle⟩:=kpan U e s' hu
   refine Kn (n0:=BC) (s0:=FH) j5 hu.1 j1 j2 j3 n15 n14 n12 n13 n25 n24 n23 ?_
   have g1:(((U.Ab b1 Eh).Ab b2 s'.cells).Ab b3 [.int .i64 e]).box b1=some Eh:=by rw [St.AH n13.symm,St.AH n12.symm,St.As]
   have g2:(((U.Ab b1 Eh).Ab b2 s'.cells).Ab b3 [.int .i64 e]).box b2=some s'.cells:=by rw [St.AH n23.symm,St.As]
   have gl:st.le (((U.Ab b1 Eh).Ab b2 s'.cells).Ab b3 [.int .i64 e]):=St.Av (St.Av (St.Av jle f1.1 _) f2a.1 _) f3b.1 _
   repeat' ((conv=>whnf);(first|  refine BU ?_ ?_|refine AK g1 ?_|refine AK g2 ?_|refine AK (St.As ..) ?_|fail)<;>intros)
   all_goals exact CS gl rfl h
  |inr q=>
   obtain ⟨n,s'⟩:=q
   have kret:=λU hu=>kpan U 0 s' hu
   repeat' ((conv=>whnf);first|  (refine BU ?_ ?_<;>intro _)|refine AK k5 ?_|refine ⟨_,rfl,?_⟩|refine hq _ _ kle k4 (λU hu=>?_)|refine AK (kret U hu).2.1 ?_|fail)
   obtain ⟨j5,j1,j2,j3,jle⟩:=kret U hu
   generalize hst7:U.Ab b1 (Ap n)=st7
   have i1:st7.box b1=some (Ap n):=by subst hst7;rw [St.As]
   have i5:st7.box b5=some [.ptr b4 0]:=by subst hst7;rw [St.AH n15];exact j5
   have i2:st7.box b2=some [.slice 4 (Bb FH.AR) .full,.int .i64 FH.pos,.slice 1 (ints FH.Cf) .full,.int .i64 FH.wait]:=by subst hst7;rw [St.AH n12];exact j2
   have i3:(st7.Ab b2 s'.cells).box b3=some [.int .i64 0]:=by subst hst7;rw [St.AH n23,St.AH n13];exact j3
   have i4:Has st7 b4 s':=by
    subst hst7
    rcases hu.1 with e|⟨t,u,o1,o2,e',e⟩
    .exact .inl (by rw [St.AH n14];exact e)
    .exact .inr ⟨t,u,o1,o2,e',by rw [St.AH n14];exact e⟩
   have ile:st.le st7:=by subst hst7;exact St.Av jle f1.1 _
   refine Ah (U4 Ac (BX _) (λbs=>kP bs b1 b2 b3 b4 b5 (Ap n) s'.cells) (kR st7 b2 b3 s'.cells) QC NE Yl (by rw [<-hst7];exact St.le_refl _) ?_ ?_)
   .skip
    unfold QC
    rcases i4 with i4|⟨t,u,q1,q2,q3,i4⟩
    all_goals repeat' (first|refine List.forall_mem_cons.2 ⟨?_,?_⟩|exact λ_ h=>nomatch h)
    repeat' ((conv=>whnf);(first|  refine BU ?_ ?_|refine AK i5 ?_|refine AK i1 ?_|refine AK i4 ?_|refine AK i2 ?_|refine AK i3 ?_|fail)<;>intros)
    all_goals conv=>whnf
    all_goals (refine ⟨Yl,?_⟩)
    all_goals first|exact St.le_refl _|exact dZ i1
   .refine Aj Ac (RB (bp:=b5) ?_)
    have g1:((st7.Ab b2 s'.cells).Ab b3 [.int .i64 0]).box b1=some (Ap n):=by rw [St.AH n13.symm,St.AH n12.symm];exact i1
    have g2:((st7.Ab b2 s'.cells).Ab b3 [.int .i64 0]).box b2=some s'.cells:=by rw [St.AH n23.symm,St.As]
    have gl:st.le ((st7.Ab b2 s'.cells).Ab b3 [.int .i64 0]):=St.Av (St.Av ile f2a.1 _) f3b.1 _
    repeat' ((conv=>whnf);(first|  refine BU ?_ ?_|refine AK g1 ?_|refine AK g2 ?_|refine AK (St.As ..) ?_|fail)<;>intros)
    all_goals exact CS gl rfl h
end
def DC (A:Rd Nd) (s:Af):Rs:=match A.run s with
 | .inl p=>.inl (p.1.1,p.2)
 | .inr p=>.inr p
section
variable {st0 st:St} {b c d:Nat} {s:Af} {K R:AD->St->Prop}
theorem Cx.yk {s':Af} (h:Has st' b s') (hr:∃cs,Rx (st.Ab b cs) st' []):∃U,II st U b s'/\St.le U st':=by
 obtain ⟨cs,hr⟩:=hr
 have hb:=hr.le.1 b cs (St.As ..)
 refine ⟨st.Ab b cs,⟨?_,cs,rfl⟩,hr.le⟩
 rcases h with e|⟨t,u,o1,o2,e0,e⟩
 .rw [hb] at e;injection e with e;subst e;exact .inl (St.As ..)
 .rw [hb] at e;injection e with e;subst e;exact .inr ⟨t,u,o1,o2,e0,St.As ..⟩
theorem ZK {mk:Nat->List V} (hf:Bi enc f mk A) (hs:Has st b s) (hm:mu s<=100000000) (ht:Fv st b K (DC A s)):PC f (mk b) st K:=by
 refine Bp.ends (hf.ap (Cx.start hs hm) (Rd.UQ (λv s' e st' hc=>?_) (λe s' he st' hc=>?_)))
 .unfold DC at ht
  rw [e] at ht
  obtain ⟨U,hu,hl⟩:=Cx.yk hc.has hc.rx
  exact ⟨_,U,.inl rfl,hl,ht U hu⟩
 .unfold DC at ht
  rw [he] at ht
  obtain ⟨U,hu,hl⟩:=Cx.yk hc.has hc.rx
  exact ⟨_,U,.inl rfl,hl,ht U hu⟩
theorem wJ (hA:Bi enc g (λb=>[pv b d]) A) (hx:st.box c=some [.func g [] []]) (hs:Has st b s) (hm:mu s<=100000000) (ht:Fv st b K (DC A s)):PC 210 [.ptr b 0,.int .i64 (d:Int),.ptr c 0] st K:=by
 have U:∀{K:AD->St->Prop},Fv st b K (DC A s)->PC g [pv b d] st K:=λh=>ZK hA hs hm h
 refine pB Tryz.func210 ?_
 unfold DC at *
 cases hr:A.run s with
 |inl p=>
  rw [hr] at ht U
  repeat' ((conv=>whnf);first|  refine AK hx ?_|refine U (λst1 hu=>?_))
  all_goals exact ⟨_,_,.inl rfl,St.le_refl _,ht _ hu⟩
 |inr p=>
  rw [hr] at ht U
  repeat' ((conv=>whnf);first|  refine AK hx ?_|refine U (λst1 hu=>?_))
  all_goals exact AU rfl (ht _ hu)
theorem lH {A:Nat->Rd Nd} (hA:∀d:Nat,1<=d->d<=100->Bi enc g (λb=>[pv b d]) (A d)) (hm:mu s<=100000000) (h:K (.ret (ME (C5 s deep (DC (A (B0 deep)) s)))) st):
 PC 154 [Am s,.int .i64 deep,.func g [] []] st K:=by
 refine AQ Ac [] Tryz.func154 rfl IR rfl ?_
 refine Ah (Aj Ac ?_)
 repeat' ((conv=>whnf);(first|  fail)<;>intros)
 refine MP 5 1 rfl rfl rfl (λc fc=>?_)
 refine Aj Ac ?_
 have hq:¬deep<1->∀(b:Nat) (U:St) (R:AD->St->Prop),(st.Ab c [.func g [] []]).le U->Has U b s->Fv U b R (DC (A (B0 deep)) s)->PC 210 [.ptr b 0,.int .i64 (if 100<deep then 100 else deep),.ptr c 0] U R:=λhd b U R hle hs ht=>by
  have e:(if 100<deep then 100 else deep)=((B0 deep:Nat):Int):=by unfold B0;split<;>omega
  rw [e]
  exact wJ (hA _ (by unfold B0;split<;>omega) (by unfold B0;split<;>omega)) (hle.1 _ _ (St.As ..)) hs hm ht
 obtain ⟨n,s',e,hq3⟩:∃n s' e,C5 s deep (DC (A (B0 deep)) s)=(n,s',e):=⟨_,_,_,rfl⟩
 rw [hq3] at h
 have hcat:∀{K:AD->St->Prop},K (.ret (XR n s' e)) (st.Ab c [.func g [] []])->PC 67 [Am s,.int .i64 deep,.func 210 [] [.ptr c 0]] (st.Ab c [.func g [] []]) K:=λk=>dv (s:=s) (q:=DC (A (B0 deep)) s) hq (by rw [hq3];exact k)
 repeat' ((conv=>whnf);(first|  refine hcat ?_)<;>intros)
 all_goals exact CS (St.Av (St.le_refl _) fc.1 _) rfl h
end
section
variable {d:Nat}
theorem lh {t:Tk} {st:St} (h:K (.ret (.bool (FT t))) st):PC 361 [DP t] st K:=by
 refine pB Tryz.func361 ?_
 repeat' ((conv=>whnf);(first|  refine BU ?_ ?_|refine NK ?_|refine Vq ?_)<;>intros)
 all_goals conv=>whnf
 all_goals (refine An h ?_;clear h;simp_all [FT])
theorem ga {item:Rd Nd} (hi:Bi enc 155 (λb=>[pv b d]) item) (U:Dv item):Bi enc 295 (λb=>[pv b d]) (Dp FT item):=by
 refine ⟨λ{st0 b s st rows K} hc h=>?_⟩
 refine pB Tryz.func295 ?_
 repeat' ((conv=>whnf);(first|  exact Ge|refine GJ.go (by first|  exact (Ru (λh=>lh ‹_›) hi U).a) ?_ ?_)<;>intros)
theorem gb {item:Rd Nd} (hi:Bi enc 360 (λb=>[pv b d]) item) (U:Dv item):Bi enc 416 (λb=>[pv b d]) (Dp D2 item):=by
 refine ⟨λ{st0 b s st rows K} hc h=>?_⟩
 refine pB Tryz.func416 ?_
 repeat' ((conv=>whnf);(first|  exact Ge|refine GJ.go (by first|  exact (Ru (λh=>NK ‹_›) hi U).a) ?_ ?_)<;>intros)
theorem kI {item:Rd Nd} (hi:Bi enc 415 (λb=>[pv b d]) item) (U:Dv item):Bi enc 391 (λb=>[pv b d]) (Dp D2 item):=by
 refine ⟨λ{st0 b s st rows K} hc h=>?_⟩
 refine pB Tryz.func391 ?_
 repeat' ((conv=>whnf);(first|  exact Ge|refine GJ.go (by first|  exact (Ru (λh=>NK ‹_›) hi U).a) ?_ ?_)<;>intros)
structure zh (D:Nat) (full:Rd Nd) (L:DL):Prop where
 atom:Bi enc 288 (λb=>[pv b D]) (kx L)
 exp:Bi enc 292 (λb=>[pv b D]) (Qm full L)
 ops:Bi enc 212 (λb=>[pv b D]) (opsL L)
 stmt:Bi enc 360 (λb=>[pv b D]) (K1 full L)
 alt:Bi enc 415 (λb=>[pv b D]) (aD full L)
 decl:Bi enc 155 (λb=>[pv b D]) (F2 full L)
 decls:Bi enc 295 (λb=>[pv b D]) (Dp FT (F2 full L))
 stmts:Bi enc 416 (λb=>[pv b D]) (Dp D2 (K1 full L))
 alts:Bi enc 391 (λb=>[pv b D]) (Dp D2 (aD full L))
 F1:∀o,Bi enc 419 (λb=>[pv b D,enc o]) (ER (ca L) full (Qm full L) o)
 list:∀o,Bi enc 421 (λb=>[pv b D,enc o]) (PW (Qm full L) (K1 full L) o)
theorem zl {full:Rd Nd} {L:DL} (hL:MQ d L) (U:Ms L) (hf:Bi enc 289 (λb=>[pv b d]) full) (hF:Dv full):zh d full L:=by
 have atom:=qd hL
 have dat:=Lj U
 have opd:=cc hL atom PO
 have ops:=nj opd
 have exp:=vk opd hf
 have stmt:=sS hL exp
 have alt:=uS hL ops exp stmt
 have decl:=qy hL atom dat ops (M5 (M4 U)) exp stmt hf
 exact ⟨atom,exp,ops,stmt,alt,decl,ga decl (NT hF U),gb stmt (JE hF U),kI alt (Vi hF U),λo=>U7 opd hf exp,λo=>rG exp stmt⟩
theorem xR:∀d,d<=100->MQ (d+1) (Jq d)
 |0,_=>⟨Ey H1 (λ_=>rfl) (λh=>absurd rfl h),Ey H1 (λ_=>rfl) (λh=>absurd rfl h),Ey H1 (λ_=>rfl) (λh=>absurd rfl h),Ey H1 (λ_=>rfl) (λh=>absurd rfl h),
   Ey H1 (λ_=>rfl) (λh=>absurd rfl h),Ey H1 (λ_=>rfl) (λh=>absurd rfl h),λU hc h=>QM H1 (λ_=>rfl) hc h (λh=>absurd rfl h),λU hc h=>QM H1 (λ_=>rfl) hc h (λh=>absurd rfl h)⟩
 |d+1,h=>by
  have l:=zl (xR d H1) (O0 d) (dS (d:=d) H1) (Lk _)
  have no:∀{p:Prop},d+1=0->p:=λe=>by cases e
  exact ⟨Ey H1 no λ_=>l.atom,Ey H1 no λ_=>l.exp,Ey H1 no λ_=>l.ops,Ey H1 no λ_=>l.decls,Ey H1 no λ_=>l.stmts,Ey H1 no λ_=>l.alts,
   λU hc h=>QM H1 no hc h λ_ K h=>nM (l.F1 _) U hc h,λU hc h=>QM H1 no hc h λ_ K h=>iZ (l.list _) U hc h⟩
theorem xM (U:1<=d) (h:d<=100):zh d (CH d) (Jq (d - 1)):=by
 obtain ⟨d,rfl⟩:∃e,d=e+1:=⟨d - 1,H1⟩
 exact zl (xR d H1) (O0 d) (dS (d:=d) H1) (Lk _)
def RG (d:Nat):Rd Nd:=F2 (CH d) (Jq (d - 1))
def aS (d:Nat):Rd Nd:=Dp FT (RG d)
end
section
variable {st:St} {K:AD->St->Prop} {s:Af} {deep:Int}
theorem tA (hm:mu s<=100000000) (h:K (.ret (ME (C5 s deep (DC (RG (B0 deep)) s)))) st):PC 85 [Am s,.int .i64 deep] st K:=by
 refine pB Tryz.func85 ?_
 repeat' ((conv=>whnf);(first|  refine lH (s:=s) (A:=RG) (λd U h1=>(xM U h1).decl) hm ?_)<;>intros)
 all_goals exact AU rfl h
theorem pF (hm:mu s<=100000000) (h:K (.ret (ME (C5 s deep (DC (aS (B0 deep)) s)))) st):PC 228 [Am s,.int .i64 deep] st K:=by
 refine pB Tryz.func228 ?_
 repeat' ((conv=>whnf);(first|  refine lH (s:=s) (A:=aS) (λd U h1=>(xM U h1).decls) hm ?_)<;>intros)
 all_goals exact AU rfl h
end
def M3:Nat->Rd Nd
 |0=>.fail Fi
 |d+1=>aS (d+1)
def Tf (d:Nat):Rd Nd:=Tg (G5 d) (Kd d) (GG d) (CH d) (RG d) (M3 (d - 1))
def Nv (top:Rd Nd) (l:List Nd):Rd Nd:=.look λs0=>.seq top λn=>if ((n.kind==50)&&l.any λx=> !(x.kind==50))=true then .M6 s0 Fj else .ret n
def FR (top:Rd Nd):Rd Nd:=NN Qf (Nv top)
def DT (d:Nat):Rd Nd:=FR (Tf d)
section
variable {s s0 s1:Af} {A:Rd Nd} {l:List Nd}
theorem bg {B C D E F:Rd Nd} (U:Rd.AZ E):Rd.AZ (Tg A B C D E F):=Rd.AZ.look λs v s' h=>by
 split at h
 .rename_i hk
  rw [beq_iff_eq] at hk
  have ht:∀{v:Nd} {s':Af},AB.run s=.inr (v,s')->mu s'<mu s:=λe=>Ix e H1
  (repeat' split at h)<;>first|exact Rd.AZ.at (λ_ _ e=>ht e) h|exact U _ _ _ h
 .exact U _ _ _ h
theorem R2 (d:Nat):Rd.AZ (Tf d):=bg (NT (Lk _) (O0 _)).XW
end
end Go.Proofs.Z
namespace Go.Aw
open Go
abbrev fw (ro:Option Nat):Fence:={Fence.wide with round:=ro}
section
variable {P:Program} {n:Nat} {ro:Option Nat}
theorem kO {args:Array Value} {R:Ending->World->Prop} (h:Calls P f args w R):CallsIn (fw ro) n P f args w R:=callsIn_wide.2 h
theorem sC {row:String} {args:Array Value} {R:Value->World->Prop} (h:Rows P row args w R):RowsIn (fw ro) n P row args w R:=λc cs _=>let ⟨v,w',r,s⟩:=h c cs;⟨v,w',r,stepsIn_wide.2 s⟩
theorem um {o:Oper} {a:Act} {next next':Act->World->Prop} {Q0 Q:Exit->Act->World->Prop} (nd:∀c,o.op≠.defer c) (h:o.wp P a w next Q0) (hn:∀a w,next a w->next' a w) (hq:∀e a w,e≠.normal->Q0 e a w->Q e a w):o.wpIn (fw ro) n P a w next' Q:=by
 refine ⟨λ_ _=>trivial,?_⟩
 rw [Oper.semAt_eq _ _ _ nd]
 unfold Oper.wp at h
 generalize (execOp a.eval o).run P w=r at h
 cases r with
 |ok x w'=>
  cases x<;>simp only [Oper.upon] at h<;>simp only [Oper.uponIn]
  all_goals first
   |exact hn _ _ h
   |exact ⟨λe=>(by cases e),(kO h).mono λe w'' U=>by cases e<;>first|exact hn _ _ U|exact hq _ _ _ Pi U|exact U.imp λa U=>U.imp λw U=>hq _ _ _ Pi U⟩
   |exact ⟨λe=>(by cases e),(sC h).mono λv w'' U=>hn _ _ U⟩
 |halt x w'=>cases x<;>simp only [Oper.upon] at h<;>simp only [Oper.uponIn]<;>exact hq _ _ _ Pi h
theorem QO {ops:Array Oper} {Q0 Q:Exit->Act->World->Prop} (hl:¬LetsOut Q0) (hq:∀e a w,e≠.normal->Q0 e a w->Q e a w) {l2:List Oper} (hN:∀a w,Q0 .normal a w->wpListIn (fw ro) n P ops Q l2 a w):
 ∀(l1:List Oper) (a:Act) (w:World),(∀o ∈ l1,∀c,o.op≠.defer c)->wpList P ops Q0 l1 a w->wpListIn (fw ro) n P ops Q (l1++l2) a w
 |[],a,w,_,h=>hN a w h
 |o::r,a,w,nd,h=>by
  have ih:=QO hl hq hN r
  unfold wpList at h
  rw [List.cons_append]
  unfold wpListIn
  split
  .rename_i hw
   rw [if_pos hw] at h
   rcases h with h|h
   .exact um (nd o List.mem_cons_self) h (λa w h=>ih a w (λo U=>nd o (List.mem_cons_of_mem _ U)) h) hq
   simp_all
  .rename_i hw
   rw [if_neg hw] at h
   exact ⟨λ_ _=>trivial,ih _ w (λo U=>nd o (List.mem_cons_of_mem _ U)) h⟩
theorem ki {ops:Array Oper} {md:Region.Mode} {Q0:Exit->Act->World->Prop} (hl:¬LetsOut Q0) (nd:∀o ∈ ops.toList,∀c,o.op≠.defer c):∀(fuel:Nat) (listed:Array Bool) (a:Act) (w:World),
 wpAny P md ops Q0 fuel listed a w->wpAnyIn (fw ro) n P md ops Q0 fuel listed a w
 |0,listed,a,w,h=>h
 |fuel+1,listed,a,w,h=>by
  have ih:=ki (md:=md) hl nd fuel
  refine ⟨h.1,λi hi=>?_⟩
  have U:=h.2 i hi
  unfold wpOp at U
  unfold wpOpIn
  split
  .simp_all
  .rename_i o ho
   rw [ho] at U
   dsimp only at U
   split
   .rename_i hw
    rw [if_pos hw] at U
    rcases U with U|U
    .exact um (nd o GT) U (λa w h=>ih _ a w h) (λ_ _ _ _ h=>h)
    simp_all
   .rename_i hw
    rw [if_neg hw] at U
    exact ⟨λ_ _=>trivial,ih _ _ _ U⟩
theorem N5 {D:List Deferred} {I0:Mem} {w0:World} {Q:AG->Env->St->Prop}:¬LetsOut (DH D I0 st0 w0 Q):=by
 rintro ⟨a,w,I,β,env,st,U,_,h,_⟩
 cases U<;>exact h
end
def QQ (l:List Oper):Bool:=l.all λo=>match o.op with| .defer _=>false|_=>true
theorem Lv {l:List Oper} (h:QQ l=true):∀o ∈ l,∀c,o.op≠.defer c:=λo U c e=>by
 have:=List.all_eq_true.1 h o U
 simp_all
def Hl:Code->Bool
 | .skip=>true
 | .region _ ops _=>QQ ops.toList
 | .seq x y=>Hl x&&Hl y
 | .cond _ x y=>Hl x&&Hl y
 | .block _ c=>Hl c
 |_=>false
section
variable {P:Program} {T:List (Nat×Ty)}
def zw (P:Program) (ro:Option Nat) (c:Code) (Q:AG->Env->St->Prop) (env:Env) (st:St):Prop:=
 ∀n D I0 st0 w0 I β a w,Rel D I0 st0 w0 I β env st a w->c.wpIn (fw ro) n P (DH D I0 st0 w0 Q) a w
theorem MW (hP:TK P T) (ro:Option Nat):∀(c:Code) {Q:AG->Env->St->Prop} {env:Env} {st:St},Hl c=true->Qx T (Bp P) c Q env st->zw P ro c Q env st
 | .skip,Q,env,st,_,k=>λn D I0 st0 w0 I β a w h=>wpIn_skip ⟨I,β,env,st,.normal,h,trivial,k⟩
 | .region id ops true,Q,env,st,U,k=>λn D I0 st0 w0 I β a w h=>by
   have hC:=BX P
   have hM:∀f args st (R R':AD->St->Prop),(∀r s,R r s->R' r s)->Bp P f args st R->Bp P f args st R':=λ_ _ _ _ _ h k=>k.mono h
   obtain ⟨sched,L,k1,k2⟩:=(show ∃(sched:List (Nat×Bool)) (L:List Nat),F5 sched ops.toList=true/\Ee T (Bp P) ops.toList sched L (Bm (L.map some) env.boxes) Q sched env st from k)
   refine wpIn_region_any hP.m (ki N5 (Lv U) _ _ _ _ ?_)
   have:=T9 hP.t hC hM k1 k2 h
   omega
 | .region id ops false,Q,env,st,U,k=>λn D I0 st0 w0 I β a w h=>by
   have:=F6 hP.t (BX P) h (show IZ T (Bp P) ops.toList Q ops.toList env st from k)
   have h2:=QO (ro:=ro) (n:=n) (l2:=[]) N5 (λ_ _ _ _ h=>h) (λa w h=>h) ops.toList a w (Lv U) (by simpa using this)
   rw [List.append_nil] at h2
   exact wpIn_region_list h2
 | .seq x y,Q,env,st,U,k=>λn D I0 st0 w0 I β a w h=>by
   simp only [Hl,Bool.and_eq_true] at U
   refine wpIn_seq (wpIn_mono (MW hP ro x U.1 (show Qx T (Bp P) x _ env st from k) n D I0 st0 w0 I β a w h) ?_)
   rintro e a w ⟨I,β,env,st,ae,h1,h2,h3⟩
   cases ae with
   |normal=>cases e<;>first|exact MW hP ro y U.2 h3 n D I0 st0 w0 I β a w h1|exact h2.elim
   |exit i=>cases e<;>first|exact ⟨I,β,env,st,.exit i,h1,h2,h3⟩|exact h2.elim
   |goto i=>cases e<;>first|exact ⟨I,β,env,st,.goto i,h1,h2,h3⟩|exact h2.elim
   |ret=>cases e<;>first|exact ⟨I,β,env,st,.ret,h1,h2,h3⟩|exact h2.elim
   |Ci v=>cases e<;>first|exact ⟨I,β,env,st,.Ci v,h1,h2,h3⟩|exact h2.elim
 | .cond c x y,Q,env,st,U,k=>λn D I0 st0 w0 I β a w h=>by
   simp only [Hl,Bool.and_eq_true] at U
   have hc:=h.f.eval c
   have k:(match env.eval c with
    | .bool t=>lit t (Qx T (Bp P) x Q env st) (Qx T (Bp P) y Q env st)
    |_=>False):=k
   split at k
   .rename_i t he
    rw [he] at hc
    have hc:=J1 hc
    cases t with
    |true=>exact wpIn_cond_true hc (MW hP ro x U.1 (show Qx T (Bp P) x Q env st from k) n D I0 st0 w0 I β a w h)
    |false=>exact wpIn_cond_false hc (MW hP ro y U.2 (show Qx T (Bp P) y Q env st from k) n D I0 st0 w0 I β a w h)
   simp_all
 | .block id c,Q,env,st,U,k=>λn D I0 st0 w0 I β a w h=>by
   refine wpIn_block (wpIn_mono (MW hP ro c U (show Qx T (Bp P) c _ env st from k) n D I0 st0 w0 I β a w h) ?_)
   rintro e a w ⟨I,β,env,st,ae,h1,h2,h3⟩
   cases ae with
   |normal=>cases e<;>first|exact ⟨I,β,env,st,.normal,h1,trivial,h3⟩|exact h2.elim
   |exit i=>
    cases e<;>try exact h2.elim
    rename_i i'
    have h2:i'=i:=h2
    subst h2
    simp only [MY] at h3
    show (if i'=id then DH D I0 st0 w0 Q .normal a w else DH D I0 st0 w0 Q (.exit i') a w)
    by_cases hi:i'=id
    .subst hi
     rw [if_pos rfl]
     simp only [Nat.beq_refl,cond_true] at h3
     exact ⟨I,β,env,st,.normal,h1,trivial,h3⟩
    .rw [if_neg hi]
     have:Nat.beq i' id=false:=by
      cases hb:Nat.beq i' id with
      |false=>rfl
      |true=>simp_all
     rw [this] at h3
     exact ⟨I,β,env,st,.exit i',h1,rfl,h3⟩
   |goto i=>cases e<;>first|exact ⟨I,β,env,st,.goto i,h1,h2,h3⟩|exact h2.elim
   |ret=>cases e<;>first|exact ⟨I,β,env,st,.ret,h1,h2,h3⟩|exact h2.elim
   |Ci v=>cases e<;>first|exact ⟨I,β,env,st,.Ci v,h1,h2,h3⟩|exact h2.elim
 | .loop _,_,_,_,U,_| .exit _,_,_,_,U,_| .goto _,_,_,_,U,_| .label _,_,_,_,U,_| .ret,_,_,_,U,_| .rangeFunc ..,_,_,_,U,_| .scope _,_,_,_,U,_| .refuse _,_,_,_,U,_=>by cases U
end
section
variable {D:List Deferred} {P:Program} {T:List (Nat×Ty)} {I0 I:Mem} {st0 st:St} {w0 w:World} {β:Nat->Option Nat} {env:Env} {a:Act}
theorem rU {l:Nat} {o:Nat} {v:Value} (U:w.heap[l]? =some (.loop r)) (h:w.cell? ⟨b,o,none⟩=some v):b≠l:=by
 rintro rfl
 simp [World.cell?,U] at h
theorem Db.put {l:Nat} {r':Loop} (h:Db I st w) (hl:w.heap[l]? =some (.loop r)):Db I st (w.putObj l (.loop r')):=by
 have ne:∀{b:Nat} {c:Array Value} {ty:TypeId},w.heap[b]? =some (.cells c ty (0,0))->b≠l:=λe=>by grind
 refine ⟨λb o v e=>?_,λb n e=>?_,λb cs e=>?_,h.Jh,λb n e=>?_,h.UE⟩
 .have e:=h.cell b o v e
  rw [HI (World.putObj_heap_other (rU hl e))];exact e
 .obtain ⟨c,ty,U,h2⟩:=h.shape b n e
  exact ⟨c,ty,by rw [World.putObj_heap_other (ne U)];exact U,h2⟩
 .obtain ⟨vs,ty,U,h2⟩:=h.box b cs e
  exact ⟨vs,ty,by rw [World.putObj_heap_other (ne U)];exact U,h2⟩
 .rw [World.putObj_size];exact h.hw b n e
def Idle (l:Nat) (st:St):Prop:=st.box l=none/\st.hw l=none
theorem Idle.fr {l:Nat} {U:Mem} (h:Idle l st) (hl:l<w.heap.size) (hf:Fr I st w U st' w'):Idle l st'/\w'.heap[l]? =w.heap[l]? :=by
 refine ⟨?_,hf.NB l hl h.1 h.2⟩
 have:¬(st'.box l≠none\/st'.hw l≠none):=λe=>by
  rcases hf.Mv l e with e|e|e
  .omega
  .exact e h.1
  .exact e h.2
 exact ⟨Classical.byContradiction λe=>this (.inl e),Classical.byContradiction λe=>this (.inr e)⟩
theorem KC {l:Nat} {o:Obj} (h:w.heap[l]? =some o):l<w.heap.size:=(Array.getElem?_eq_some_iff.1 h).1
def YS (P:Program) (l:Nat) (r:Loop) (Im:Mem) (vs:List V) (st:St) (K:St->Prop):Prop:=
 ∀n I w (U:List Value),Im.le I->Db I st w->Ar I vs U->w.heap[l]? =some (.loop r)->Idle l st->
  YieldAt (fw none) n P l U.toArray w λe w'=>e=.returned (.bool true)/\∃I' st',Fr I st w I' st' w'/\Db I' st' w'/\K st'
theorem YS.mono {l:Nat} {r:Loop} {Im:Mem} {vs:List V} {K K':St->Prop} (h:YS P l r Im vs st K) (k:∀st,K st->K' st):YS P l r Im vs st K':=λn I w U h1 h2 h3 h4 h5=>by
 obtain ⟨fn,tmps,assign,body,e,hr⟩:=h n I w U h1 h2 h3 h4 h5
 exact ⟨fn,tmps,assign,body,e,hr.mono λe w' ⟨e1,I',st',q1,q2,q3⟩=>⟨e1,I',st',q1,q2,k _ q3⟩⟩
def eZ (P:Program) (T:List (Nat×Ty)) (assign body:Code) (env:Env) (st:St) (K:St->Prop):Prop:=
 Qx T (Bp P) assign (Bz (λenv st=>(env.boxes=[]/\(env.tmps.all λp=>p.2.plain)=true)/\Qx T (Bp P) body (Bz (λ_ st=>K st) pR) env st) pR) env st
theorem Us {v:V} {c:Value} (h:Bg I β v c) (U:v.plain=true):Bg I (λ_=>none) v c:=by
 cases v<;>first|exact h|cases U
theorem Rel.bare (h:Je D w0.heap.size I β env st a w) (hb:env.boxes=[]) (hp:(env.tmps.all λp=>p.2.plain)=true) {U:Mem} (hs:Db U st' w') (hle:I.le U) {D':List Deferred}:Rel D' U st' w' U (λ_=>none) env st' {a with defers:=D'} w':=by
 refine ⟨Fr.refl,hs,⟨h.size,λt v e=>?_,λid cs e=>?_,(λid b e=>by cases e),(λi j b e=>by cases e),(λid b e=>by cases e),rfl⟩⟩
 .have hv:=List.all_eq_true.1 hp _ (GO e)
  have:=Us (h.tmps t v e) hv
  have e2:v.plain=true:=hv
  cases v<;>first|exact A0.mono hle _ _ this|cases e2
 .rw [hb] at e;cases e
theorem pP (hP:TK P T) {l:Nat} {wm:World} {stm:St} {B:Nat} (hF:Je D B Im β env stm a wm) (hb:env.boxes=[]) (hp:(env.tmps.all λp=>p.2.plain)=true) {fn:FuncId} {p1 p2:Tmp} {assign body:Code} {df:Nat}
 (hr:r={state:=.ready,pending:=none,fn,tmps:=a.tmps,params:=#[p1,p2],assign,body,defers:=df}) (ok:(Hl assign&&Hl body)=true) (hlt:(Nat.blt p1 env.sz&&Nat.blt p2 env.sz)=true) {v1 v2:V} {K:St->Prop} (hv:(v1.plain&&v2.plain)=true)
 (h:eZ P T assign body {env with tmps:=(p2,v2)::(p1,v1)::env.tmps} st K):YS P l r Im [v1,v2] st K:=by
 intro n I w cargs hle hs hargs hl hid
 simp only [Ar] at hargs
 obtain ⟨c1,r1,rfl,q1,c2,r2,rfl,q2,rfl⟩:=hargs
 simp only [Bool.and_eq_true] at ok hlt hv
 have hl1:p1<env.sz:=by simpa [Nat.blt_eq] using hlt.1
 have hl2:p2<env.sz:=by simpa [Nat.blt_eq] using hlt.2
 have hy:=run_yield (P:=P) (args:=#[c1,c2]) hl lm
 rw [hr] at hy
 have ht:(#[p1,p2].zip #[c1,c2]).foldl (λtmps (x:Nat×Value)=>match x with|(t,a)=>tmps.setIfInBounds t a) a.tmps=(a.tmps.setIfInBounds p1 c1).setIfInBounds p2 c2:=by
  simp [Array.zip]
 dsimp only at hy
 rw [ht] at hy
 refine ⟨fn,_,assign,body,hy,roundIn_of_wpIn trivial ?_⟩
 have hsz:=hF.size
 have r0:Rel [] I st w I (λ_=>none) {env with tmps:=(p2,v2)::(p1,v1)::env.tmps} st {tmps:=(a.tmps.setIfInBounds p1 c1).setIfInBounds p2 c2,defers:=[]} w:=by
  refine ⟨Fr.refl,hs,⟨lm,λt v e=>?_,λid cs e=>?_,λid b e=>(by cases e),λi j b e=>(by cases e),λid b e=>(by cases e),rfl⟩⟩
  .have key:∀{x:V} {c:Value},A0 I x c->x.plain=true->Bg I (λ_=>none) x c:=λh _=>Bg.of h
   rw [BF] at e
   cases hb2:Nat.beq p2 t with
   |true=>
    simp_all
   |false=>
    rw [hb2] at e
    have hn2:p2≠t:=λx=>by simp_all
    simp only [cond_false] at e
    rw [BF] at e
    cases hb1:Nat.beq p1 t with
    |true=>
     simp_all
    |false=>
     rw [hb1] at e
     have hn1:p1≠t:=λx=>by simp_all
     simp only [cond_false] at e
     have hpl:v.plain=true:=List.all_eq_true.1 hp _ (GO e)
     have h0:=Us (hF.tmps t v e) hpl
     have:((a.tmps.setIfInBounds p1 c1).setIfInBounds p2 c2).getD t undef=a.tmps.getD t undef:=by
      simp [Array.getD_eq_getD_getElem?,Array.getElem?_setIfInBounds_ne hn2,Array.getElem?_setIfInBounds_ne hn1]
     rw [this]
     cases v<;>first|exact A0.mono hle _ _ h0|cases hpl
  .rw [show ({env with tmps:=(p2,v2)::(p1,v1)::env.tmps}:Env).boxes=[] from hb] at e;cases e
 have hltl:=KC hl
 refine wpIn_mono (MW hP (some l) assign ok.1 h n [] I st w I _ _ w r0) ?_
 rintro e a1 w1 ⟨I1,β1,env1,st1,ae,r1,x1,k1⟩
 cases ae with
 |exit _|goto _|ret|Ci _=>exact k1.elim
 |normal=>
 cases e with
 |exit _|goto _|ret|panic _|outgrown=>exact x1.elim
 |normal=>
 obtain ⟨⟨b1,b2⟩,k1⟩:=k1
 obtain ⟨hid1,U⟩:=hid.fr hltl r1.fr
 rw [hl] at U
 have hrdy:r.state=.ready:=by rw [hr]
 refine ⟨_,run_beginRound U hrdy,?_⟩
 have hs2:Db I1 st1 (w1.putObj l (.loop {r with state:=.busy})):=r1.s.put U
 have r2:=Rel.bare (D':=[]) r1.f b1 b2 hs2 (Mem.le_refl _)
 have hd1:a1={a1 with defers:=[]}:=by
  have:=r1.f.defers
  cases a1;simp_all
 rw [hd1]
 refine wpIn_mono (MW hP (some l) body ok.2 k1 n [] I1 st1 _ I1 _ _ _ r2) ?_
 rintro e a3 w3 ⟨I3,β3,env3,st3,ae,r3,x3,k3⟩
 cases ae with
 |exit _|goto _|ret|Ci _=>exact k3.elim
 |normal=>
 cases e with
 |exit _|goto _|ret|panic _|outgrown=>exact x3.elim
 |normal=>
 have hlt1:l<w1.heap.size:=KC U
 obtain ⟨hid3,hl3⟩:=hid1.fr (w:=w1.putObj l (.loop {r with state:=.busy})) (by rw [World.putObj_size];omega) r3.fr
 rw [World.putObj_heap_same hlt1] at hl3
 refine ⟨_,_,run_endRound none hl3,?_⟩
 have hrr:({({r with state:=.busy}:Loop) with state:=if (none:Option Code).isNone then .ready else .done,pending:=none}:Loop)=r:=by rw [hr];rfl
 rw [hrr]
 refine ⟨rfl,I3,st3,?_,r3.s.put hl3,k3⟩
 have f1:=r1.fr
 have f3:=r3.fr
 have z1:(w1.putObj l (.loop {r with state:=.busy})).heap.size=w1.heap.size:=World.putObj_size
 have z3:(w3.putObj l (.loop r)).heap.size=w3.heap.size:=World.putObj_size
 have f13:Fr I1 st1 w1 I3 st3 (w3.putObj l (.loop r)):=by
  refine ⟨f3.os,f3.tape,f3.output,by rw [z3,<-z1];exact f3.size,λb hb h1 h2=>?_,f3.le,λb o h1 h2=>by rw [<-z1];exact f3.new b o h1 h2,λb h1 h2=>by rw [<-z1];exact f3.My b h1 h2,λb h1=>by rw [<-z1];exact f3.Mv b h1⟩
  by_cases e:b=l
  .subst e
   rw [World.putObj_heap_same (KC hl3),U]
  .rw [World.putObj_heap_other e,f3.NB b H1 h1 h2,World.putObj_heap_other e]
 exact f1.trans f13
def Rb (P:Program) (l:Nat) (r:Loop) (Im:Mem) (c:Code) (Q:AG->Env->St->Prop) (env:Env) (st:St):Prop:=
 ∀D I0 st0 w0 I β a w,Im.le I0->w0.heap[l]? =some (.loop r)->Idle l st0->Rel D I0 st0 w0 I β env st a w->c.wp P (DH D I0 st0 w0 Q) a w
variable {l:Nat} {r:Loop} {Im:Mem} {Q:AG->Env->St->Prop}
theorem Rb.of {c:Code} (h:AW P c Q env st):Rb P l r Im c Q env st:=λD I0 st0 w0 I β a w _ _ _ U=>h D I0 st0 w0 I β a w U
theorem Hb {x y:Code} (h:Rb P l r Im x (Bz (λenv st=>Rb P l r Im y Q env st) Q) env st):Rb P l r Im (.seq x y) Q env st:=λD I0 st0 w0 I β a w g1 g2 g3 hr=>by
 refine wp_seq (wp_mono (h D I0 st0 w0 I β a w g1 g2 g3 hr) ?_)
 rintro e a w ⟨I,β,env,st,ae,h1,U,h3⟩
 cases ae with
 |normal=>cases e<;>first|exact h3 D I0 st0 w0 I β a w g1 g2 g3 h1|exact U.elim
 |exit i=>cases e<;>first|exact ⟨I,β,env,st,.exit i,h1,U,h3⟩|exact U.elim
 |goto i=>cases e<;>first|exact ⟨I,β,env,st,.goto i,h1,U,h3⟩|exact U.elim
 |ret=>cases e<;>first|exact ⟨I,β,env,st,.ret,h1,U,h3⟩|exact U.elim
 |Ci v=>cases e<;>first|exact ⟨I,β,env,st,.Ci v,h1,U,h3⟩|exact U.elim
theorem TI {c:Code} (h:Rb P l r Im c (MY id Q) env st):Rb P l r Im (.block id c) Q env st:=λD I0 st0 w0 I β a w g1 g2 g3 hr=>by
 refine wp_block (wp_mono (h D I0 st0 w0 I β a w g1 g2 g3 hr) ?_)
 rintro e a w ⟨I,β,env,st,ae,h1,U,h3⟩
 cases ae with
 |normal=>cases e<;>first|exact ⟨I,β,env,st,.normal,h1,trivial,h3⟩|exact U.elim
 |exit i=>
  cases e<;>try exact U.elim
  rename_i i'
  have U:i'=i:=U
  subst U
  simp only [MY] at h3
  show (if i'=id then DH D I0 st0 w0 Q .normal a w else DH D I0 st0 w0 Q (.exit i') a w)
  by_cases hi:i'=id
  .subst hi
   rw [if_pos rfl]
   simp only [Nat.beq_refl,cond_true] at h3
   exact ⟨I,β,env,st,.normal,h1,trivial,h3⟩
  .rw [if_neg hi]
   have:Nat.beq i' id=false:=by
    cases hb:Nat.beq i' id with
    |false=>rfl
    |true=>simp_all
   rw [this] at h3
   exact ⟨I,β,env,st,.exit i',h1,rfl,h3⟩
 |goto i=>cases e<;>first|exact ⟨I,β,env,st,.goto i,h1,U,h3⟩|exact U.elim
 |ret=>cases e<;>first|exact ⟨I,β,env,st,.ret,h1,U,h3⟩|exact U.elim
 |Ci v=>cases e<;>first|exact ⟨I,β,env,st,.Ci v,h1,U,h3⟩|exact U.elim
theorem jW {c:Code} (h:∃(α:Type) (E:α->Env) (S:α->St) (J:α->Prop) (μ:α->Nat) (x0:α),J x0/\(E x0).C3 env/\St.le (S x0) st/\
 ∀x,J x->Rb P l r Im c (Bz (λenv' st'=>∃y,J y/\μ y<μ x/\(E y).C3 env'/\St.le (S y) st') Q) (E x) (S x)):Rb P l r Im (.loop c) Q env st:=λD I0 st0 w0 I β a w g1 g2 g3 hr=>by
 obtain ⟨α,E,S,J,μ,x0,h0,he,hs,round⟩:=h
 refine LO (λn a w=>∃I β x,Rel D I0 st0 w0 I β (E x) (S x) a w/\J x/\n=μ x) (n0:=μ x0) ⟨I,_,x0,(hr.Iw hs).JF (Env.JS he),h0,rfl⟩ ?_
 rintro n a w ⟨I,β,x,h,hi,rfl⟩
 refine wp_mono (round x hi D I0 st0 w0 I β a w g1 g2 g3 h) ?_
 rintro e a w ⟨I,β,env,st,ae,h1,U,h3⟩
 cases ae with
 |normal=>
  cases e<;>try exact U.elim
  obtain ⟨y,q1,q2,q3,q4⟩:=h3
  exact ⟨μ y,q2,I,_,y,(h1.Iw q4).JF (Env.JS q3),q1,rfl⟩
 |exit i=>cases e<;>first|exact ⟨I,β,env,st,.exit i,h1,U,h3⟩|exact U.elim
 |goto i=>cases e<;>first|exact ⟨I,β,env,st,.goto i,h1,U,h3⟩|exact U.elim
 |ret=>cases e<;>first|exact ⟨I,β,env,st,.ret,h1,U,h3⟩|exact U.elim
 |Ci v=>cases e<;>first|exact ⟨I,β,env,st,.Ci v,h1,U,h3⟩|exact U.elim
theorem fL (hP:TK P T) {all pre post:List Oper} {oc:Oper} {c:Call} {f:Operand} (hall:all=pre++oc::post) (hnd:QQ all=true) (hc:oc.op=.call c) (hf:c.callee=.value f) (hg:oc.guard=none)
 (h:IZ T (Bp P) all (Bz (λenv st=>env.eval f=.jU l/\Xn env c.args.toList λvs=>YS P l r Im vs st λst'=>env.go oc.dst (.bool true) λenv=>IZ T (Bp P) all Q post env st') Q) pre env st):
 Rb P l r Im (.region id all.toArray false) Q env st:=λD I0 st0 w0 I β a w g1 g2 g3 hr=>by
 have hC:=BX P
 have nd:=Lv hnd
 rw [<-wpIn_wide (n:=1)]
 refine wpIn_region_list (F:=fw none) (n:=1) ?_
 rw [show all.toArray.toList=pre++oc::post by rw [hall]]
 have hpre:∀o ∈ pre,∀c,o.op≠.defer c:=λo ho=>nd o lm
 refine QO (ro:=none) (n:=1) (Q0:=DH D I0 st0 w0 (Bz (λenv st=>env.eval f=.jU l/\Xn env c.args.toList λvs=>YS P l r Im vs st λst'=>env.go oc.dst (.bool true) λenv=>IZ T (Bp P) all Q post env st') Q)) N5 ?_ ?_ pre a w hpre (F6 hP.t hC hr h)
 .rintro e a w hne ⟨I,β,env,st,ae,U,h2,h3⟩
  cases ae with
  |normal=>cases e<;>first|exact absurd rfl hne|exact h2.elim
  |exit i=>exact ⟨I,β,env,st,.exit i,U,h2,h3⟩
  |goto i=>exact ⟨I,β,env,st,.goto i,U,h2,h3⟩
  |ret=>exact ⟨I,β,env,st,.ret,U,h2,h3⟩
  |Ci v=>exact ⟨I,β,env,st,.Ci v,U,h2,h3⟩
 .rintro a1 w1 ⟨I1,β1,env1,st1,ae,U,h2,h3⟩
  cases ae with
  |exit _|goto _|ret|Ci _=>exact h2.elim
  |normal=>
  obtain ⟨he,h3⟩:=h3
  have hfv:=U.f.eval f
  rw [he] at hfv
  have hfv':A0 I1 (.jU l) (a1.eval f):=hfv
  simp only [A0] at hfv'
  obtain ⟨vs,q1,q2⟩:=GP U.f h3
  obtain ⟨hid,hl⟩:=g3.fr (KC g2) U.fr
  rw [g2] at hl
  obtain ⟨fn,tmps,assign,body,hy,hround⟩:=q2 (1 - 1) I1 w1 _ (Mem.le_trans g1 U.fr.le) U.s q1 hl hid
  have harr:(c.args.toList.map a1.eval).toArray=c.args.map a1.eval:=by apply Array.ext';simp
  rw [harr] at hy
  have hrun:(execOp a1.eval oc).run P w1=.ok (.round l fn tmps assign body) w1:=by
   simp only [execOp,hc,resolve,hf,hfv',Deferred.ofValue,Sem.run_bind,Sem.run_pure,Result.andThen_ok,invoke]
   simpa using hy
  unfold wpListIn
  rw [if_pos (by simp [Region.wanted,hg])]
  refine ⟨λ_ _=>trivial,?_⟩
  rw [Oper.semAt_eq _ _ _ lm,hrun]
  refine ⟨λe=>(by cases e),hround.mono λe w' ⟨e1,I2,st2,f1,f2,k⟩=>?_⟩
  subst e1
  have r2:=U.called f1 f2
  obtain ⟨env3,r3,k3⟩:=Dr r2 (c:=.bool true) (Bg.of PP) k
  have hpost:∀o ∈ post,∀c,o.op≠.defer c:=λo ho=>nd o lm
  have:=QO (ro:=none) (n:=1) (l2:=[]) N5 (λ_ _ _ _ h=>h) (λa w h=>h) post _ w' hpost (F6 hP.t hC r3 k3)
  simp_all
end
def bk:Obj->Bool
 | .loop _| .deferred _=>true
 |_=>false
section
variable {D:List Deferred} {P:Program} {T:List (Nat×Ty)} {I0 I:Mem} {st0 st:St} {w0 w:World} {β:Nat->Option Nat} {env:Env} {a:Act}
theorem ql {l o:Nat} {x:Obj} {v:Value} (U:w.heap[l]? =some x) (hx:bk x=true) (h:w.cell? ⟨b,o,none⟩=some v):b≠l:=by
 rintro rfl
 cases x<;>first|(simp [World.cell?,U] at h;done)|cases hx
theorem Rt {l:Nat} {x:Obj} {c:Array Value} {ty:TypeId} (U:w.heap[l]? =some x) (hx:bk x=true) (h:w.heap[b]? =some (.cells c ty (0,0))):b≠l:=by
 rintro rfl
 rw [U] at h;cases h;cases hx
theorem Db.iw {l:Nat} {x y:Obj} (h:Db I st w) (hl:w.heap[l]? =some x) (hx:bk x=true):Db I st (w.putObj l y):=by
 refine ⟨λb o v e=>?_,λb n e=>?_,λb cs e=>?_,h.Jh,λb n e=>?_,h.UE⟩
 .have e:=h.cell b o v e
  rw [HI (World.putObj_heap_other (ql hl hx e))];exact e
 .obtain ⟨c,ty,U,h2⟩:=h.shape b n e
  exact ⟨c,ty,by rw [World.putObj_heap_other (Rt hl hx U)];exact U,h2⟩
 .obtain ⟨vs,ty,U,h2⟩:=h.box b cs e
  exact ⟨vs,ty,by rw [World.putObj_heap_other (Rt hl hx U)];exact U,h2⟩
 .rw [World.putObj_size];exact h.hw b n e
theorem Fr.iw {l:Nat} {y:Obj} (h:Fr I0 st0 w0 I st w) (hl:w0.heap.size<=l):Fr I0 st0 w0 I st (w.putObj l y):=
 ⟨h.os,h.tape,h.output,by rw [World.putObj_size];exact h.size,λb hb U h2=>by rw [World.putObj_heap_other H1];exact h.NB b hb U h2,h.le,h.new,h.My,h.Mv⟩
theorem Rel.iw {l:Nat} {x y:Obj} (h:Rel D I0 st0 w0 I β env st a w) (hl:w.heap[l]? =some x) (hx:bk x=true) (hw:w0.heap.size<=l):Rel D I0 st0 w0 I β env st a (w.putObj l y):=by
 refine ⟨h.fr.iw hw,h.s.iw hl hx,⟨h.f.size,h.f.tmps,λid cs e=>?_,h.f.BS,h.f.inj,λid b e=>?_,h.f.defers⟩⟩
 .obtain ⟨b,h1,U⟩:=h.f.box id cs e
  refine ⟨b,h1,?_⟩
  have hne:b≠l:=by
   rintro rfl
   rcases U with ⟨vs,ty,U,_⟩|⟨s,pos,_,_,U⟩
   .exact Rt hl hx U rfl
   .rw [hl] at U;cases U;cases hx
  rw [World.putObj_heap_other hne];exact U
 .rw [World.putObj_size];exact h.f.sep id b e
theorem Db.idle {l:Nat} (h:Db I st w) (hl:w.heap.size<=l):Idle l st:=by
 refine ⟨?_,?_⟩
 .cases e:st.box l with
  |none=>rfl
  |some cs=>
   obtain ⟨vs,ty,U,_⟩:=h.box l cs e
   simp_all
 .cases e:st.hw l with
  |none=>rfl
  |some n=>have:=(h.hw l n e).1;omega
theorem U8 (hP:TK P T) {c:Code} (hf:P.funcs[f]? =some fn) (hb:fn.body=some c) (hres:fn.results.toList=[]) {l:Nat} {K:St->Prop} (hle:Nat.ble args.length fn.ntmps=true)
 (h:Rb P l r Im c (λae _ st=>(ae=.normal\/ae=.ret)/\K st) {tmps:=KR 0 args,boxes:=[],BS:=0,sz:=fn.ntmps,gl:=[]} st) {U:List Value} (hm:Im.le I) (hs:Db I st w) (hargs:Ar I args U) (hl:w.heap[l]? =some (.loop r)) (hi:Idle l st):
 Calls P f U.toArray w λe w'=>(∃v,e=.returned v)/\∃I' st',Fr I st w I' st' w'/\Db I' st' w'/\K st':=by
 refine calls_of_wp hf hb (wp_mono (h [] I st w I _ _ w hm hl hi (H3 [] hs hargs hle)) ?_)
 rintro e a w' ⟨I1,β1,env1,st1,ae,h1,h2,h3,h4⟩
 have hret:a.defers=[]/\∃v,(results fn a.tmps).run P w'=.ok v w'/\((∃v',Ending.returned v=.returned v')/\∃I' st',Fr I st w I' st' w'/\Db I' st' w'/\K st'):=by
  obtain ⟨v,c,g1,g2,g3⟩:=Dz (P:=P) (fn:=fn) (R:=λ_ s=>K s) hP.t h1 (by rw [hres];exact h4)
  exact ⟨h1.f.defers,c,g1,⟨_,rfl⟩,I1,st1,h1.fr,h1.s,g3⟩
 rcases h3 with rfl|rfl<;>(cases e<;>first|exact hret|exact h2.elim)
def wj (P:Program) (T:List (Nat×Ty)) (fn:Func) (g:Operand) (ps:Array Tmp) (assign body rest:Code) (R:AD->St->Prop) (env:Env) (st:St):Prop:=
 (env.boxes=[]/\(env.tmps.all λp=>p.2.plain)=true)/\∃(gf:FuncId) (caps:List V) (K:St->Prop),(env.eval g=.func gf [] caps/\Plain P gf)/\
   (∀(D:List Deferred) (B:Nat) (Im:Mem) (β:Nat->Option Nat) (a:Act) (wm:World) (l df:Nat) (fi:FuncId),Je D B Im β env st a wm->
     ∀(I:Mem) (w:World) (U:List Value),Im.le I->Db I st w->Ar I caps U->w.heap[l]? =some (.loop {state:=.ready,pending:=none,fn:=fi,tmps:=a.tmps,params:=ps,assign,body,defers:=df})->Idle l st->
      Calls P gf (Value.func (.yield l) #[] #[]::U).toArray w λe w'=>(∃v,e=.returned v)/\∃I' st',Fr I st w I' st' w'/\Db I' st' w'/\K st')/\
   ∀st',K st'->AW P rest (λae env st=>(ae=.normal\/ae=.ret)/\Y5 T fn R env st) env st'
theorem V0 (hP:TK P T) (gl:List Nat) {R:AD->St->Prop} (hf:P.funcs[f]? =some fn) {c0 c1 c2 assign body rest:Code} {bid:Nat} {g:Operand} {ps:Array Tmp}
 (hb : fn.body = some (.seq c0 (.seq c1 (.seq (.seq c2 (.block bid (.rangeFunc g ps assign body))) rest)))) (hn : (fn.name == "runtime.NumGoroutine") = false) (hle : Nat.ble args.length fn.ntmps = true)
 (h:AW P c0 (Bz (λenv st=>AW P c1 (Bz (λenv st=>AW P c2 (Bz (pX (wj P T fn g ps assign body rest R)) pR) env st) pR) env st) pR) {tmps:=KR 0 args,boxes:=[],BS:=0,sz:=fn.ntmps,gl} st):Bp P f args st R:=by
 refine ⟨?_,fn,hf,lm,hn⟩
 intro I w cargs hs hargs
 rw [<-callsIn_wide (n:=3)]
 refine callsIn_of_wp_marks hf hb trivial ?_
 have norm:∀{c:Code} {Q:Env->St->Prop} {n:Nat} {D:List Deferred} {I0:Mem} {st0:St} {w0:World} {X:Act->World->Prop} {Y:Exit->Act->World->Prop} {a:Act} {w:World},c.wp P (DH D I0 st0 w0 (Bz Q pR)) a w->
  (∀I β env st a w,Rel D I0 st0 w0 I β env st a w->Q env st->X a w)->c.wpIn Fence.wide n P (Exit.then X Y) a w:=λh k=>by
  refine wpIn_wide.2 (wp_mono h ?_)
  rintro e a w ⟨I,β,env,st,ae,h1,h2,h3⟩
  cases ae with
  |exit _|goto _|ret|Ci _=>exact h3.elim
  |normal=>
  cases e with
  |exit _|goto _|ret|panic _|outgrown=>exact h2.elim
  |normal=>exact k I β env st a w h1 h3
 refine wpIn_seq (norm (h [] I st w I _ _ w (H3 gl hs hargs hle)) λI1 β1 env1 st1 a1 w1 r1 k1=>?_)
 refine wpIn_seq (norm (k1 [] I st w I1 β1 a1 w1 r1) λI2 β2 env2 st2 a2 w2 r2 k2=>?_)
 refine wpIn_seq (wpIn_seq (norm (k2 [] I st w I2 β2 a2 w2 r2) λI3 β3 env3 st3 a3 U r3 k3=>?_))
 refine wpIn_block ?_
 obtain ⟨I4,β4,env4,st4,r4,k4⟩:=k3 [] I st w I3 β3 a3 U r3
 obtain ⟨⟨b1,b2⟩,gf,caps,K,⟨hg,fg,q1,q2,q3⟩,hit,hrest⟩:=k4
 have hgv:=r4.f.eval g
 rw [hg] at hgv
 have hgv':A0 I4 (.func gf [] caps) (a3.eval g):=hgv
 simp only [A0,Ar] at hgv'
 obtain ⟨az,lb,hge,haz,hlb⟩:=hgv'
 subst haz
 refine wpIn_rangeFunc λfi hfi=>?_
 obtain ⟨rec,hrec⟩:∃rec:Loop,rec={state:=.ready,pending:=none,fn:=fi,tmps:=a3.tmps,params:=ps,assign,body,defers:=U.heap.size}:=⟨_,rfl⟩
 obtain ⟨W1,hW1⟩:∃W1,(U.alloc (.deferred (some []))).alloc (.loop rec)=W1:=⟨_,rfl⟩
 have hL1:W1.heap[U.heap.size+1]? =some (.loop rec):=by
  rw [<-hW1];have:=World.alloc_heap_new (U.alloc (.deferred (some []))) (.loop rec);rwa [World.size_alloc] at this
 have hK1:W1.heap[U.heap.size]? =some (.deferred (some [])):=by
  rw [<-hW1];exact (RowKit.Below.heap_alloc _ _ _ Pi).trans (World.alloc_heap_new U _)
 have r5:Rel [] I st w I4 β4 env4 st4 a3 W1:=by rw [<-hW1];exact (r4.Kx (Jd.alloc _ _)).Kx (Jd.alloc _ _)
 have hidL:Idle (U.heap.size+1) st4:=r4.s.idle H1
 have hidD:Idle U.heap.size st4:=r4.s.idle (Nat.le_refl _)
 have hsz:w.heap.size<=U.heap.size:=r4.fr.size
 have heg:∀args w,(callFunc gf args).run P w=.ok (.enter gf args) w:=λargs w=>by
  have hb:fg.body.isNone=false:=by cases hb:fg.body<;>simp_all
  simp only [callFunc,Sem.run_bind,Sem.run_pure,Result.andThen_ok,run_program,q1]
  rw [q3]
  simp [hb]
 refine ⟨U.heap.size+1,[{target:=.collected U.heap.size,args:=#[]}],W1,{target:=.fn (.func gf) lb.toArray,args:=#[.func (.yield (U.heap.size+1)) #[] #[]]},W1,gf,#[.func (.yield (U.heap.size+1)) #[] #[]]++lb.toArray,W1,?_,?_,λ_ _=>trivial,?_,λe=>(by cases e),?_⟩
 .rw [<-hW1,hrec];exact run_enterLoop_outer _ _ _ _ _
 .simp only [resolve,hge,Deferred.ofValue,Sem.run_pure]
  simp [Act.eval]
 .simp [invoke,heg]
 .have hcall:=hit [] w.heap.size I4 β4 a3 U (U.heap.size+1) U.heap.size fi r4.f I4 W1 lb (Mem.le_refl _) r5.s hlb lm hidL
  have harr:(Value.func (.yield (U.heap.size+1)) #[] #[]::lb).toArray=#[.func (.yield (U.heap.size+1)) #[] #[]]++lb.toArray:=by apply Array.ext';simp
  rw [harr] at hcall
  refine (callsIn_wide.2 hcall).mono ?_
  rintro e W2 ⟨⟨v,rfl⟩,I6,st6,f6,s6,k6⟩
  have r6:=r5.called f6 s6
  obtain ⟨hidL6,hL6⟩:=hidL.fr (KC hL1) f6
  obtain ⟨hidD6,hD6⟩:=hidD.fr (KC hK1) f6
  rw [hL1] at hL6
  rw [hK1] at hD6
  refine ⟨none,W2.putObj (U.heap.size+1) (.loop {rec with state:=.exhausted}),by have:=run_endLoop (P:=P) hL6 GT;grind,?_⟩
  have r7:=r6.iw (y:=.loop {rec with state:=.exhausted}) hL6 rfl H1
  have hD7:(W2.putObj (U.heap.size+1) (.loop {rec with state:=.exhausted})).heap[U.heap.size]? =some (.deferred (some [])):=(World.putObj_heap_other H1).trans hD6
  generalize W2.putObj (U.heap.size+1) (.loop {rec with state:=.exhausted})=W3 at r7 hD7
  show rest.wpIn Fence.wide 3 P _ _ W3
  have r8:=Rel.bare (D':=[{target:=.collected U.heap.size,args:=#[]}]) r7.f b1 b2 r7.s (Mem.le_refl _)
  have hd0:a3.defers=[]:=r7.f.defers
  rw [hd0]
  refine wpIn_wide.2 (wp_mono (hrest st6 k6 _ I6 st6 W3 I6 _ _ W3 r8) ?_)
  rintro e a9 w9 ⟨I9,β9,env9,st9,ae,r9,x9,k9,q9⟩
  have hlast:LeavesInM Fence.wide 3 P fn a9.tmps (λe w'=>∃I' st' r,Fr I st w I' st' w'/\Db I' st' w'/\Y3 I' e r/\R r st') a9.defers .returning w9:=by
   rw [r9.f.defers]
   obtain ⟨_,hD9⟩:=hidD6.fr (KC hD7) r9.fr
   rw [hD7] at hD9
   refine ⟨Pi,.inl ⟨_,_,rfl,run_takeDeferred hD9,?_⟩⟩
   have hle9:W3.heap.size<=w9.heap.size:=r9.fr.size
   have hfr:Fr I st w I9 st9 w9:=r7.fr.trans r9.fr
   have r10:Rel [{target:=.collected U.heap.size,args:=#[]}] I st w I9 β9 env9 st9 a9 w9:=⟨hfr,r9.s,⟨r9.f.size,r9.f.tmps,r9.f.box,r9.f.BS,r9.f.inj,λid b e=>by
    obtain ⟨h1,h2⟩:=r9.f.sep id b e
    grind,r9.f.defers⟩⟩
   have r11:=r10.iw (y:=.deferred none) hD9 rfl hsz
   obtain ⟨v,c,g1,g2,g3⟩:=Dz (P:=P) hP.t r11 q9
   exact ⟨c,g1,I9,st9,.ret v,r11.fr,r11.s,g2,g3⟩
  rcases k9 with rfl|rfl
  .cases e<;>first|exact hlast|exact x9.elim
  .cases e<;>first|exact hlast|exact x9.elim
theorem dj (hP:TK P T) {l:Nat} {Q:AG->Env->St->Prop} {all:List Oper} (k:Nat) {U:Oper} {c:Call} {f:Operand} (hk:all[k]? =some U) (hnd:QQ all=true) (hc:U.op=.call c) (hf:c.callee=.value f) (hg:U.guard=none)
 (h:IZ T (Bp P) all (Bz (λenv st=>env.eval f=.jU l/\Xn env c.args.toList λvs=>YS P l r Im vs st λst'=>env.go U.dst (.bool true) λenv=>IZ T (Bp P) all Q (all.drop (k+1)) env st') Q) (all.take k) env st):
 Rb P l r Im (.region id all.toArray false) Q env st:=
 fL hP (by
  obtain ⟨h1,h2⟩:=List.getElem?_eq_some_iff.1 hk
  rw [<-h2,<-List.drop_eq_getElem_cons h1,List.take_append_drop]) hnd hc hf hg h
end
end Go.Aw
namespace Go.Proofs.Z
open Go Go.Aw
theorem gV {l:List (List UInt8)} {K:Nat->Prop} (k:l.length<4611686018427387904->K l.length):∀m,m=(strs l).length->m<Fk->K m:=λm U h=>by
 rw [show (strs l).length=l.length by simp [strs]] at U;subst U;exact k h
theorem bJ (s:List UInt8) (U pos:Nat):(Eo s U pos).length<=s.length - pos+1:=by
 fun_induction Eo s U pos with
 |case1 U pos h1 h2 ih=>rw [List.length_cons];omega
 |case2 U pos h1 h2 ih=>omega
 |case3 U pos h1=>rw [List.length_singleton];omega
def Ss (t:Tk):Bool:=t.kind==9&&(t.text==[108,101,116]||t.text==[119,104,101,114,101]||t.text==[100,111]||t.text==[111,102])
def bB (t:Tk) (k:Int) (x:List UInt8):Bool:=t.kind==k&&t.text==x
def tT (t:Tk):Int:=t.line+((Eo t.text 0 0).length:Nat) - 1
def Ys (p:Option Tk) (t:Tk):Int:=match p with
 |none=>if (bB t 9 [109,111,100,117,108,101]||bB t 15 [123])=true then 17 else 16
 |some p=>if (Ss p&& !bB t 15 [123])=true then 16 else if (!(t.line==p.line)&& !(t.line==tT p))=true then 17 else 0
def markT (m:Int) (t:Tk):List Tk:=if m=0 then [t] else [⟨m,[],t.line,t.Da⟩,t]
def EL:Option Tk->List Tk->List Tk
 |_,[]=>[]
 |p,t::r=>markT (Ys p t) t++EL (some t) r
def T7 (l:List Tk):List Tk:=match l.getLast? with
 |none=>[⟨16,[],0,0⟩]
 |some t=>if Ss t=true then [⟨16,[],0,0⟩] else []
def Ed (l:List Tk):List Tk:=EL none l++T7 l
def ahead (l:List Tk) (i:Nat):Option Tk:=if i=0 then none else l[i - 1]?
def Gt (l:List Tk) (i:Nat):Int:=match l[i]? with
 |some t=>Ys (ahead l i) t
 |none=>0
section
variable {st:St} {K:AD->St->Prop}
theorem Su {t:Tk} (h:K (.ret (.bool (Ss t))) st):PC 82 [DP t] st K:=by
 refine pB Tryz.func82 ?_
 repeat' ((conv=>whnf);first|  (refine CD ?_ ?_<;>intro _)|fail)
 all_goals conv=>whnf
 all_goals (refine An h ?_;clear h;simp_all [Ss])
theorem uh {t:Tk} {k:Int} (h:K (.ret (.bool (bB t k x))) st):PC 151 [DP t,.int .i64 k,.str x] st K:=by
 refine pB Tryz.func151 ?_
 repeat' ((conv=>whnf);first|  (refine CD ?_ ?_<;>intro _)|fail)
 all_goals conv=>whnf
 all_goals (refine An h ?_;clear h;simp_all [bB])
theorem vg {t:Tk} (U:t.text.length<=100000000) (h2: -1000000000<=t.line) (h3:t.line<=1000000000) (h:K (.ret (.int .i64 (tT t))) st):PC 152 [DP t] st K:=by
 refine pB Tryz.func152 ?_
 have hb:=bJ t.text 0 0
 repeat' ((conv=>whnf);first|exact B1|(refine Bc ?_;intros)|(refine B2 ?_ ?_ ?_;rotate_left)|refine ee U (λown ho=>?_)|refine gV (λ_=>?_)|refine Ad 9 [4] [] ?_|fail)
 all_goals conv=>whnf
 all_goals exact ⟨_,_,.inl rfl,Ay.Bj ho,h⟩
theorem sQ {l:List Tk} {own:Ay} (h:∀c,st.fresh c->K (.ret (.func 150 [] [.ptr c 0])) (st.Ab c [.slice 4 (Bb l) own])):PC 81 [.slice 4 (Bb l) own] st K:=by
 refine AQ Ac [] Tryz.func81 rfl IR rfl ?_
 refine Ah (Aj Ac ?_)
 repeat' ((conv=>whnf);first|  fail)
 refine MP 1 0 rfl rfl rfl (λc U=>?_)
 refine Aj Ac ?_
 repeat' ((conv=>whnf);first|  fail)
 all_goals conv=>whnf
 all_goals exact ⟨_,_,.inl rfl,St.le_refl _,h c U⟩
end
def oX (l:List Tk):Bool:=l.all λt=>decide (t.text.length<=100000000)&&(decide (-1000000000<=t.line)&&decide (t.line<=1000000000))
def cU:List UInt8:=[105,109,112,111,114,116,32,113,117,97,108,105,102,105,101,100,32,77,46,78,32,97,115,32,75,32,104,105,100,105,110,103,32,40,97,44,32,84,32,40,46,46,41,44,32,40,43,41,41,10,100,97,116,97,32,69,113,32,97,32,61,62,32,84,32,97,32,61,32,65,32,97,32,33,73,110,116,32,124,32,97,32,58,43,32,98,10,32,32,100,101,114,105,118,105,110,103,32,40,69,113,41,10,102,32,61,32,120]
def cV:List UInt8:=[110,101,119,116,121,112,101,32,78,32,61,32,78,32,33,73,110,116]
def N4 (s:List UInt8):List Tk:=match Gq s with| .inr x=>x.AR| .inl _=>[]
theorem tg:(match Gq cU with| .inr _=>true| .inl _=>false)=true:=M2
theorem th:(match Gq cV with| .inr _=>true| .inl _=>false)=true:=M2
theorem td:(oX (N4 cU)&&oX (N4 cV)&&decide ((N4 cU).length<=1000)&&decide ((N4 cV).length<=1000)&&decide ((Ed (N4 cU)).length<=200)&&decide ((Ed (N4 cV)).length<=200))=true:=M2
theorem yf:(match (FR (Tg (G5 4) (Kd 4) (GG 4) (CH 4) (F2 (CH 4) (Jq 3)) (Dp FT (F2 (CH 3) (Jq 2))))).run ⟨Ed (N4 cU),0,[],0⟩ with
 | .inr (n,s')=>(n.kind==2&&s'.pos==(s'.AR.length:Nat))&&(n.kids.map (λk=>(k.kind,if k.kind=50 then k.kids.length else 0))==[(50,7),(42,0),(36,0)])
 | .inl _=>false)=true:=M2
theorem yg:(match (FR (Tg (G5 4) (Kd 4) (GG 4) (CH 4) (F2 (CH 4) (Jq 3)) (Dp FT (F2 (CH 3) (Jq 2))))).run ⟨Ed (N4 cV),0,[],0⟩ with
 | .inr _=>false
 | .inl (e,_)=>e.1==120)=true:=M2
section
variable {st0 st st':St} {b d:Nat} {s:Af} {rows:List (Ay×List Nd)} {K:AD->St->Prop}
attribute [local irreducible] Go.Aw.Ai
theorem Cx.mono (h:Cx st0 b s st rows) (k:st.le st'):Cx st0 b s st' rows:=by
 refine ⟨?_,?_,h.mu⟩
 .rcases h.has with e|⟨t,u,o1,o2,e0,e⟩
  .exact .inl (k.1 _ _ e)
  .exact .inr ⟨t,u,o1,o2,e0,k.1 _ _ e⟩
 .obtain ⟨cs,U⟩:=h.rx
  refine ⟨cs,St.le_trans U.le k,λr hr'=>?_,U.ap⟩
  have:=U.ok r hr'
  obtain ⟨o,l⟩:=r
  cases o with
  |any=>exact this
  |full=>exact this
  |tok t=>exact ⟨this.1,k.2 _ _ this.2⟩
theorem Cx.uV {l new:List Int} {Q:V->St->Prop} (hc:Cx st0 b s st rows) (hb:l.length+new.length<=1000000000) (k:∀U st',Cx st0 b s st' rows->Q (.slice 1 (ints (l++new)) U) st'):Ai 1 8 (ints l) .full (ints new) st Q:=
 Jy (own:=.full) trivial hb λU ho=>k U _ (hc.mono (Ay.Bj ho))
theorem sN {k:Int} (hc:Cx st0 b s st rows) (e:AP s k x=true) (U:k≠0/\k≠21) (kk:∀st',Cx st0 b (Aa s).2.1 st' rows->K (.ret (DP (Aa s).1)) st'):PC 139 [.ptr b 0] st K:=
 WS hc.has hc.hb (λ_ st' hu=>kk st' (hc.PD hu (Nat.le_of_lt (C6 e U.1 U.2)))) (λn=>absurd (Fp e U.1) n)
theorem Rq {Q:List V->Prop} (h:Has st b s) (U:Q (Dy s)) (k2:∀t u o1 o2 e,Q (X7 s t u o1 o2 e)):∃cs,st.box b=some cs/\Q cs:=by
 rcases h with e|⟨t,u,o1,o2,e0,e⟩
 .exact ⟨_,e,U⟩
 .exact ⟨_,e,k2 ..⟩
theorem Mo {k:Int} {own:Ay} (h:K (.ret (enc (Al k l))) st):PC 122 [.int .i64 k,.slice 6 (l.map Ap) own] st K:=by
 refine pB Tryz.func122 ?_
 repeat' ((conv=>whnf);(first|  fail)<;>intros)
 all_goals exact CS (St.le_refl _) Ck h
theorem o0 {k:Int} {a:Nd} {own:Ay} (h:K (.ret (enc (Al k [a]))) st):PC 122 [.int .i64 k,.slice 6 [Ap a] own] st K:=Mo (l:=[a]) h
theorem o7 {k:Int} {a b:Nd} {own:Ay} (h:K (.ret (enc (Al k [a,b]))) st):PC 122 [.int .i64 k,.slice 6 [Ap a,Ap b] own] st K:=Mo (l:=[a,b]) h
theorem o8 {k:Int} {a b c:Nd} {own:Ay} (h:K (.ret (enc (Al k [a,b,c]))) st):PC 122 [.int .i64 k,.slice 6 [Ap a,Ap b,Ap c] own] st K:=Mo (l:=[a,b,c]) h
theorem o9 {k:Int} {a b c d:Nd} {own:Ay} (h:K (.ret (enc (Al k [a,b,c,d]))) st):PC 122 [.int .i64 k,.slice 6 [Ap a,Ap b,Ap c,Ap d] own] st K:=Mo (l:=[a,b,c,d]) h
theorem ZW (hc:Cx st0 b s st rows) (U:∀st',Cx st0 b s st' rows->K (.ret (.bool (AP s 15 x))) st'):PC 119 [pv b d,.str x] st K:=by
 refine pB Tryz.func119 ?_
 repeat' ((conv=>whnf);(first|  refine BU ?_ ?_|refine rq ‹_› ?_)<;>intros)
 all_goals conv=>whnf
 all_goals exact An (U _ ‹_›) ‹_›
theorem ZV (hc:Cx st0 b s st rows) (e:AP s 15 x=true) (U:∀st',Cx st0 b s st' rows->K (.ret (.bool true)) st'):PC 119 [pv b d,.str x] st K:=ZW hc (by rw [e];exact U)
theorem fD (hc:Cx st0 b s st rows) (e:AP s 15 x=false) (U:∀st',Cx st0 b s st' rows->K (.ret (.bool false)) st'):PC 119 [pv b d,.str x] st K:=ZW hc (by rw [e];exact U)
theorem sZ {Q:Prop} (hc:Cx st0 b s st rows) (h:if AP s 15 x=true then P else Q) (U:∀st',Cx st0 b s st' rows->AP s 15 x=true->P->K (.ret (.bool true)) st') (k2:∀st',Cx st0 b s st' rows->AP s 15 x=false->Q->K (.ret (.bool false)) st'):
 PC 119 [pv b d,.str x] st K:=by
 cases e:AP s 15 x with
 |true=>exact ZV hc e λst' c=>U st' c e (by rw [if_pos e] at h;exact h)
 |false=>exact fD hc e λst' c=>k2 st' c e (by rw [if_neg (by rw [e];decide)] at h;exact h)
theorem sV (k:K (.Ci (fault Fj.1)) st):PC 159 [pv b d,.bool false] st K:=by
 refine pB Tryz.func159 ?_
 repeat' ((conv=>whnf);(first|  refine CL ?_)<;>intros)
 all_goals exact ⟨_,_,.inl rfl,St.le_refl _,k⟩
theorem sW (k:K (.ret (.Bl [])) st):PC 159 [pv b d,.bool true] st K:=by
 refine pB Tryz.func159 ?_
 repeat' ((conv=>whnf);(first|  refine CL ?_)<;>intros)
 all_goals exact ⟨_,_,.inl rfl,St.le_refl _,k⟩
theorem D7 {c:Bool} {Q:Unit->Af->Prop} (h:Rd.wp (FB c) s Q E) (e:c=true) (U:Q () s->K (.ret (.Bl [])) st):PC 159 [pv b d,.bool true] st K:=by
 subst e
 unfold FB at h
 rw [Rd.Ao,if_pos rfl,Rd.wp_ret] at h
 exact sW (U h)
theorem D6 {c:Bool} {Q:Unit->Af->Prop} (h:Rd.wp (FB c) s Q E) (e:c=false) (U:E Fj s->K (.Ci (fault Fj.1)) st):PC 159 [pv b d,.bool false] st K:=by
 subst e
 unfold FB at h
 rw [Rd.Ao,if_neg IR,Rd.BD] at h
 exact sV (U h)
def xu (st0:St) (b:Nat) (f:FuncId) (args:List V) (A:Rd Nd):Prop:=∀{s:Af} {st:St} {rows:List (Ay×List Nd)} {K:AD->St->Prop},Cx st0 b s st rows->
 Rd.wp A s (λv s'=>∀st',Cx st0 b s' st' rows->K (.ret (enc v)) st') (λe s'=>∀st',Cy st0 b s' st' rows->K (.Ci (fault e.1)) st')->PC f args st K
theorem Bi.z {mk:Nat->List V} (h:Bi enc f mk A):xu st0 b f (mk b) A:=h.ap
theorem xu.go (hf:xu st0 b f args A) (hc:Cx st0 b s st rows) (h:Rd.wp A s Q E)
 (k:∀v s' st',mu s'<=mu s->Cx st0 b s' st' rows->Q v s'->K (.ret (enc v)) st') (U:∀e s' st',Cy st0 b s' st' rows->E e s'->K (.Ci (fault e.1)) st'):PC f args st K:=
 hf hc (Rd.wp_mono h (λv s' r q st' c=>k v s' st' (A.le _ _ _ r) c q) (λe s' _ q st' c=>U e s' st' c q))
end
theorem HE (h:P:=by (with_reducible show ∃_,_);first|exact ⟨⟨_,_,_,_⟩,⟨‹_›,Rd.Bh ‹_› i7,kw,i7⟩,i7,Yl,St.le_refl _⟩|exact Ch (Cx.y ‹_›) ‹_›|exact Ch (Cx.y (Cx.drop ‹_›)) ‹_›|exact tU ‹_› ‹_› rfl|exact DR ‹_› ‹_› rfl|exact DR ‹_› ‹_› Ck|exact DR (Cx.drop ‹_›) ‹_› rfl|exact DR (Cx.drop ‹_›) ‹_› Ck|exact Ch ‹_› ‹_›|exact Ch (Cy.drop ‹_›) ‹_›|exact Ch (Cy.drop (Cy.drop ‹_›)) ‹_›|fail):P:=h
theorem UZ {A:Prop} (k:A) (h:A->P:=by intro k;(with_reducible show Ai _ _ _ _ _ _ _);first|exact Cx.BE ‹_› la k|exact Cx.BE (Cx.push ‹_› _) la k|fail):P:=h k
theorem fN {A:Prop} (k:A) (h:A->P:=by intro k;(with_reducible show PC _ _ _ _);first|((with_reducible show PC 156 _ _ _);exact bD ‹_› ‹_› k)|((with_reducible show PC 156 _ _ _);exact mb ‹_› ‹_› k)|((with_reducible show PC 119 _ _ _);exact ZV ‹_› ‹_› k)|((with_reducible show PC 119 _ _ _);exact fD ‹_› ‹_› k)|((with_reducible show PC 83 _ _ _);exact SH ‹_› k)|fail):P:=h k
theorem Xm {A B:Prop} (k:A) (l:B) (h:A->B->P:=by intro k l;(with_reducible show PC _ _ _ _);first|((with_reducible show PC 156 _ _ _);exact ma ‹_› ‹_› k l)|((with_reducible show PC 119 _ _ _);exact sZ ‹_› ‹_› k l)|fail):P:=h k l
theorem Ts {A:Prop} (k:A) (h:A->P:=by intro k;(with_reducible show PC _ _ _ _);first|((with_reducible show PC 121 _ _ _);exact W6 ‹_› ‹_› ‹_› IR k)|((with_reducible show PC 121 _ _ _);exact Q6 ‹_› ‹_› H1 k)|fail):P:=h k
theorem Mu {A B:Prop} (k:A) (l:B) (h:A->B->P:=by intro k l;(with_reducible show PC _ _ _ _);first|((with_reducible show PC 121 _ _ _);exact HS.go ‹_› ‹_› k l)|((with_reducible show PC 118 _ _ _);exact Xh.go ‹_› ‹_› k l)|fail):P:=h k l
theorem zB {A:Prop} (k:A) (h:A->P:=by intro k;(with_reducible show PC _ _ _ _);first|((with_reducible show PC 171 _ _ _);exact TO ‹_› ‹_› k)|fail):P:=h k
theorem Tq {A:Prop} (k:A) (h:A->P:=by intro k;(with_reducible show PC _ _ _ _);first|((with_reducible show PC 122 _ _ _);exact o0 k)|((with_reducible show PC 122 _ _ _);exact o7 k)|((with_reducible show PC 122 _ _ _);exact o8 k)|((with_reducible show PC 122 _ _ _);exact o9 k)|((with_reducible show PC 122 _ _ _);exact Mo k)|fail):P:=h k
theorem N2 {A:Af->Rs} {hle:∀s v s',A s=.inr (v,s')->mu s'<=mu s} (U:C4 A) (hf:DV g (d:Int) A) (h0:d=0->∀s,A s=.inl (2,s)):
 Bi enc 84 (λb=>[.ptr b 0,.func g [] [],.int .i64 (d:Int)]) (Ly A hle):=⟨λhc h=>Sk (d:=d) rfl hf h0 U hc.mu hc.has (ZL U hc h)⟩
theorem NQ (U:1<=d) (h:d<=100):B0 (d:Int)=d:=by unfold B0;split<;>omega
theorem UD {s':Af} (h:(D5 ks).run s=.inr (n,s')):∃o x c,n=Al 3 [o,x,c]:=by
 unfold D5 at h
 obtain ⟨o,s1,_,h⟩:=Bn h
 obtain ⟨x,s2,_,h⟩:=Bn h
 obtain ⟨c,U,_,h⟩:=Bn h
 cases h
 exact ⟨o,x,c,rfl⟩
section
variable {st0 st:St} {b d:Nat} {s:Af} {rows:List (Ay×List Nd)} {K:AD->St->Prop}
attribute [local irreducible] Go.Aw.Ai
theorem oP (U:1<=d) (h:d<=100):Bi enc 365 (λb=>[pv b d]) (G5 d):=by
 have hi:=N2 (hle:=λs v s' h=>Nat.le_of_lt (BL (Bv _) _ _ _ h)) (Cr (B3 (d - 1))) (by have:=xy (deep:=(d:Int));rw [NQ U h] at this;exact this) (λe=>by omega)
 refine ⟨λ{st0 b s st rows K} hc h=>?_⟩
 unfold G5 at h
 refine pB Tryz.func365 ?_
 repeat' ((conv=>whnf);(first|  exact HE|refine GJ.go (by first|exact Bi.q) ?_ ?_)<;>intros)
theorem s9 (U:1<=d) (h:d<=100):Bi enc 158 (λb=>[pv b d]) (Kd d):=by
 have hi:=N2 (hle:=λs v s' h=>Nat.le_of_lt (DN (BL (Bv _)) _ _ _ h)) (DF (Cr (B3 (d - 1)))) (by have:=yX (deep:=(d:Int));rw [NQ U h] at this;exact this) (λe=>by omega)
 refine ⟨λ{st0 b s st rows K} hc h=>?_⟩
 unfold Kd at h
 refine pB Tryz.func158 ?_
 repeat' ((conv=>whnf);(first|  exact HE|refine GJ.go (by first|exact Bi.q) ?_ ?_)<;>intros)
theorem jx (U:1<=d) (h:d<=100):Bi enc 161 (λb=>[pv b d]) (GG d):=by
 have hi:=N2 (hle:=λs v s' h=>Nat.le_of_lt (IP (BL (Bv _)) _ _ _ h)) (Ki (Cr (B3 (d - 1)))) (by have:=yj (deep:=(d:Int));rw [NQ U h] at this;exact this) (λe=>by omega)
 refine ⟨λ{st0 b s st rows K} hc h=>?_⟩
 unfold GG at h
 refine pB Tryz.func161 ?_
 repeat' ((conv=>whnf);(first|  exact HE|refine GJ.go (by first|exact Bi.q) ?_ ?_)<;>intros)
theorem oV (U:1<=d) (h:d<=100):Bi enc 173 (λb=>[pv b d]) (CH d):=by
 have hi:=N2 (hle:=λs v s' h=>Nat.le_of_lt (RY (BL (Bv _)) _ _ _ h)) (OP (Cr (B3 (d - 1)))) (by have:=tX (deep:=(d:Int));rw [NQ U h] at this;exact this) (λe=>by omega)
 refine ⟨λ{st0 b s st rows K} hc h=>?_⟩
 unfold CH at h
 refine pB Tryz.func173 ?_
 repeat' ((conv=>whnf);(first|  exact HE|refine GJ.go (by first|exact Bi.q) ?_ ?_)<;>intros)
theorem Iy {own:Ay} (U:ks.contains 0=false):Bi enc 193 (λb=>[pv b d,.slice 1 (ints ks) own]) (D5 ks):=by
 refine ⟨λ{st0 b s st rows K} hc h=>?_⟩
 simp only [D5,Rd.wp_seq,Rd.wp_ret] at h
 refine pB Tryz.func193 ?_
 repeat' ((conv=>whnf);(first|exact C1|(refine C2 ?_ ?_ ?_;rotate_left)|refine Mu ?_ ?_|exact HE|refine Tq ?_|refine AA ?_|refine GJ.go (by first|  exact (E8 U).a) ?_ ?_|refine Az [1,3,7,9,11,15,17,4,12,18,21,22,24] [1] ?_|fail)<;>intros)
theorem je {own:Ay} (h0:ks.contains 0=false) (hc:Cx st0 b s st rows) (h:Rd.wp (D5 ks) s Q E)
 (k:∀o x c s' st',mu s'<=mu s->Cx st0 b s' st' rows->Q (Al 3 [o,x,c]) s'->K (.ret (enc (Al 3 [o,x,c]))) st') (kb:∀e s' st',Cy st0 b s' st' rows->E e s'->K (.Ci (fault e.1)) st'):PC 193 [pv b d,.slice 1 (ints ks) own] st K:=
 (Iy h0).go hc h (λn s1 U hr hm hc h=>by obtain ⟨o,x,c,rfl⟩:=UD hr;exact k o x c s1 U hm hc h) kb
theorem PA:Bi enc 172 (λb=>[pv b d]) HC:=by
 refine ⟨λ{st0 b s st rows K} hc h=>?_⟩
 simp only [HC,Rd.Ag,Rd.Ao,Rd.wp_seq,Rd.wp_ret,Rd.Df] at h
 have U:=hc.mu
 refine pB Tryz.func172 ?_
 repeat' ((conv=>whnf);(first|refine E3 ‹_› ?_ ?_|refine AV ?_|refine Xm ?_ ?_|refine CL ?_|exact HE|refine GJ.go (by first|  exact (E8 (ks:=[1]) rfl).a) ?_ ?_|refine Rq (Cx.has ‹_›) ?_ ?_|refine je (ks:=[5,6]) rfl ‹_› ‹_› ?_ ?_|refine Wm (ks:=[_,_,_]) rfl H1 ?_|refine He ‹_› U ?_|refine CL ?_)<;>intros)
theorem Te:Bi enc 194 (λb=>[pv b d]) N6:=by
 refine ⟨λ{st0 b s st rows K} hc h=>?_⟩
 simp only [N6,Rd.Ag,Rd.Ao] at h
 refine pB Tryz.func194 ?_
 repeat' ((conv=>whnf);(first|refine AV ?_|refine Xm ?_ ?_|exact HE|refine GJ.go (by first|  exact (E8 (ks:=[1,2]) rfl).a|exact (Iy (ks:=[5,6]) rfl).a) ?_ ?_)<;>intros)
end
structure uN (f:FuncId) (mk:Nat->V->List V) (A:List Nd->Rd (List Nd×Nd)):Prop where
 ap:∀{st0:St} {b:Nat} {s:Af} {st:St} {rows:List (Ay×List Nd)} {K:AD->St->Prop} {own:Ay} {l:List Nd},l.length<=90000000->Cx st0 b s st ((own,l)::rows)->
 Rd.wp (A l) s (λp s'=>∀own' st',Cx st0 b s' st' ((own',p.1++[p.2])::rows)->K (.ret (.slice 6 ((p.1++[p.2]).map Ap) own')) st') (λe s'=>∀st',Cy st0 b s' st' rows->K (.Ci (fault e.1)) st')->PC f (mk b (.slice 6 (l.map Ap) own)) st K
theorem uN.go {mk:Nat->V->List V} {A:List Nd->Rd (List Nd×Nd)} {st:St} {Q:List Nd×Nd->Af->Prop} {own:Ay} (hf:uN f mk A) (hl:l.length<=90000000) (hc:Cx st0 b s st ((own,l)::rows)) (h:Rd.wp (A l) s Q E)
 (k:∀l' x U s' st',(A l).run s=.inr ((l',x),s')->mu s'<=mu s->Cx st0 b s' st' ((U,l'++[x])::rows)->Q (l',x) s'->K (.ret (.slice 6 ((l'++[x]).map Ap) U)) st') (kb:∀e s' st',Cy st0 b s' st' rows->E e s'->K (.Ci (fault e.1)) st'):PC f (mk b (.slice 6 (l.map Ap) own)) st K:=
 hf.ap hl hc (Rd.wp_mono h (λv s' r q own st' c=>k v.1 v.2 own s' st' r ((A l).le _ _ _ r) c q) (λe s' _ q st' c=>kb e s' st' c q))
theorem EO {x:Nd} {Q:List V->Prop} (k:Q (Ap x)):0<=(((l++[x]).length:Nat):Int) - 1/\∃e,((l++[x]).map Ap)[((((l++[x]).length:Nat):Int) - 1).toNat]? =some e/\Q e:=
 ⟨by rw [List.length_append];show (0:Int)<=((l.length+1:Nat):Int) - 1;omega,Ap x,by
   rw [show ((((l++[x]).length:Nat):Int) - 1).toNat=l.length by rw [List.length_append];show (((l.length+1:Nat):Int) - 1).toNat=_;omega,List.map_append,List.getElem?_append_right (by rw [List.length_map];exact Nat.le_refl _),List.length_map,Nat.sub_self]
   rfl,k⟩
theorem JN {R:Rd Nd} {p:List Nd×Nd} {s':Af} (h:(KW R l).run s=.inr (p,s')):p.1.length<=l.length+2:=by
 unfold KW at h
 obtain ⟨r,s1,_,h⟩:=Bn h
 replace h:(if AP s1 10 [61,62]=true then Rd.seq AB λa=>.seq R λq=>.ret (l++[r]++[a],q) else .ret (l,r):Rd (List Nd×Nd)).run s1=.inr (p,s'):=h
 split at h
 .obtain ⟨a,s2,_,h⟩:=Bn h
  obtain ⟨q,U,_,h⟩:=Bn h
  cases h
  simp
 .cases h;exact Nat.le_add_right _ _
section
variable {st0 st:St} {b d:Nat} {s:Af} {rows:List (Ay×List Nd)} {K:AD->St->Prop} {A B R W F D E:Rd Nd}
attribute [local irreducible] Go.Aw.Ai
theorem OB (hr:Bi enc 158 (λb=>[pv b d]) R):uN 162 (λb v=>[pv b d,v]) (KW R):=by
 refine ⟨λ{st0 b s st rows K own l} hl hc h=>?_⟩
 simp only [KW,Rd.Ag,Rd.Ao,Rd.wp_seq,Rd.wp_ret] at h
 have U:=hc.mu
 refine pB Tryz.func162 ?_
 repeat' ((conv=>whnf);(first|refine AV ?_|refine Xm ?_ ?_|refine Ts ?_|exact HE|refine UZ ?_|refine GJ.go (by first|exact Bi.q|exact ‹_›.a) ?_ ?_)<;>intros)
theorem ED {own:Ay} (h:K (.ret (.bool (BR n ks))) st):PC 166 [enc n,.slice 1 (ints ks) own] st K:=by
 refine pB Tryz.func166 ?_
 repeat' ((conv=>whnf);(first|  refine BU ?_ ?_|refine PM ?_)<;>intros)
 all_goals conv=>whnf
 all_goals (refine An h ?_;clear h;simp_all [BR])
theorem Th (U:Bi enc 365 (λb=>[pv b d]) A):Bi enc 300 (λb=>[pv b d]) (HR A):=by
 refine ⟨λ{st0 b s st rows K} hc h=>?_⟩
 simp only [HR,Rd.wp_seq,Rd.wp_ret] at h
 refine pB Tryz.func300 ?_
 repeat' ((conv=>whnf);(first|exact C1|(refine C2 ?_ ?_ ?_;rotate_left)|refine Mu ?_ ?_|exact HE|refine Tq ?_|refine AA ?_|refine GJ.go (by first|exact Bi.q) ?_ ?_|refine Az [1,3,7,4,8,11,12,14] [1] ?_|fail)<;>intros)
theorem sU (hc:Cx st0 b s st rows) (h:∀st',Cx st0 b s st' rows->K (.ret (.bool (Pw (Aa s).1))) st'):PC 299 [pv b d] st K:=by
 refine pB Tryz.func299 ?_
 repeat' ((conv=>whnf);(first|  refine BU ?_ ?_|refine fN ?_|fail)<;>intros)
 all_goals conv=>whnf
 all_goals (refine An (h _ ‹_›) ?_;clear h;simp_all [Pw])
theorem OC (h:K (.ret (.bool (EV n))) st):PC 222 [enc n] st K:=by
 refine pB Tryz.func222 ?_
 repeat' ((conv=>whnf);(first|refine AV ?_|refine BU ?_ ?_|refine ED (ks:=[2]) ?_|refine ED (ks:=[6]) ?_)<;>intros)
 all_goals conv=>whnf
 all_goals (refine An h ?_;clear h;simp_all [EV])
theorem jw {t:Tk} (h:K (.ret (.bool (Qf t))) st):PC 70 [DP t] st K:=by
 refine pB Tryz.func70 ?_
 repeat' ((conv=>whnf);(first|  refine BU ?_ ?_|refine NK ?_|refine Vq ?_)<;>intros)
 all_goals conv=>whnf
 all_goals (refine An h ?_;clear h;simp_all [Qf])
theorem pf (ha:Bi enc 365 (λb=>[pv b d]) A):Bi enc 298 (λb=>[pv b d]) (GF A):=by
 refine ⟨λ{st0 b s st rows K} hc h=>?_⟩
 simp only [GF,Rd.Ag,Rd.Ao] at h
 have U:=hc.mu
 refine pB Tryz.func298 ?_
 repeat' ((conv=>whnf);(first|refine AV ?_|refine Ej ?_ ?_|refine fN ?_|refine Xm ?_ ?_|exact HE|refine GJ.go (by first|exact Bi.q|exact (Th ha).a|exact (Iy (ks:=[6]) rfl).a) ?_ ?_|refine Rq (Cx.has ‹_›) ?_ ?_|refine sN ‹_› ‹_› IR ?_|refine He ‹_› U ?_)<;>intros)
theorem pd:Bi enc 225 (λb=>[pv b d]) Py:=by
 refine ⟨λ{st0 b s st rows K} hc h=>?_⟩
 simp only [Py,Rd.Ag,Rd.Ao,Rd.wp_seq,Rd.wp_ret,Rd.Df] at h
 have hmu:=hc.mu
 refine AQ Ac [] Tryz.func225 rfl IR rfl ?_
 refine Ah (Aj Ac ?_)
 repeat' ((conv=>whnf);(first|exact C1|(refine C2 ?_ ?_ ?_;rotate_left)|fail)<;>intros)
 refine Ah (Aj Ac ?_)
 repeat' ((conv=>whnf);first|refine E3 h (λe h=>?_) (λe h=>?_)|exact C1|(refine C2 ?_ ?_ ?_;rotate_left)|(refine fN ?_;intro U hc)|(refine Ts ?_;intro s1 U hz hm hc h)|(refine Mu ?_ ?_<;>(first|intro n s1 U hr hm hc h|intro e s1 U hc h))|refine CL ?_|exact HE|refine Tq ?_|refine AA (λe1=>?_)|fail)
 refine Ah (Aj Ac ?_)
 repeat' ((conv=>whnf);first|exact C1|(refine C2 ?_ ?_ ?_;rotate_left)|(refine fN ?_;intro U hc)|(refine Ts ?_;intro s1 U hz hm hc h)|(refine Mu ?_ ?_<;>(first|intro n s1 U hr hm hc h|intro e s1 U hc h))|refine CL ?_|exact HE|refine Tq ?_|refine AA (λe1=>?_)|refine Rq hc.has ?_ (λt u o1 o2 e=>?_)|fail)
 all_goals refine Ah (Aj Ac ?_)
 all_goals (repeat' ((conv=>whnf);first|exact C1|(refine C2 ?_ ?_ ?_;rotate_left)|(refine fN ?_;intro U hc)|(refine Ts ?_;intro s1 U hz hm hc h)|(refine Mu ?_ ?_<;>(first|intro n s1 U hr hm hc h|intro e s1 U hc h))|refine CL ?_|exact HE|refine Tq ?_|refine AA (λe1=>?_)|fail))
 all_goals refine Ah (OM Ac (BX _) (λ_ _ _ _ _ h k=>k.mono h) 10 5 [(0,true),(1,true),(2,true),(3,true),(5,true),(6,true),(4,false),(7,false),(8,true),(9,false)] [] rfl rfl rfl M2 M2 rfl rfl rfl (Nat.le_of_ble_eq_true rfl) rfl ?_)
 all_goals (repeat' ((conv=>whnf);first|exact C1|(refine C2 ?_ ?_ ?_;rotate_left)|(refine fN ?_;intro U hc)|(refine Ts ?_;intro s1 U hz hm hc h)|(refine Mu ?_ ?_<;>(first|intro n s1 U hr hm hc h|intro e s1 U hc h))|refine CL ?_|exact HE|refine Tq ?_|refine AA (λe1=>?_)|refine Bi.go (E8 (ks:=[1,2,3,4]) rfl) hc h (λn s1 U hr hm hc h=>?_) (λe s1 U hc h=>?_)|fail|fail))
 all_goals refine Aj Ac ?_
 all_goals (repeat' ((conv=>whnf);first|refine E3 h (λe h=>?_) (λe h=>?_)|exact C1|(refine C2 ?_ ?_ ?_;rotate_left)|(refine fN ?_;intro U hc)|(refine Ts ?_;intro s1 U hz hm hc h)|(refine Mu ?_ ?_<;>(first|intro n s1 U hr hm hc h|intro e s1 U hc h))|refine CL ?_|exact HE|refine Tq ?_|refine AA (λe1=>?_)|refine Wm (ks:=[_,_,_]) rfl H1 ?_|refine He hc hmu (λU hc=>?_)|refine CL ?_|fail|fail))
structure au (f:FuncId) (mk:Nat->V->List V) (A:List Nd->Rd Nd):Prop where
 ap:∀{st0:St} {b:Nat} {s:Af} {st:St} {rows:List (Ay×List Nd)} {K:AD->St->Prop} {own:Ay} {l:List Nd},l.length<=900000000->Cx st0 b s st ((own,l)::rows)->
 Rd.wp (A l) s (λv s'=>∀st',Cx st0 b s' st' rows->K (.ret (enc v)) st') (λe s'=>∀st',Cy st0 b s' st' rows->K (.Ci (fault e.1)) st')->PC f (mk b (.slice 6 (l.map Ap) own)) st K
theorem au.go {mk:Nat->V->List V} {A:List Nd->Rd Nd} {st:St} {E:Er->Af->Prop} {own:Ay} (hf:au f mk A) (U:l.length<=900000000) (hc:Cx st0 b s st ((own,l)::rows)) (h:Rd.wp (A l) s Q E)
 (k:∀v s' st',(A l).run s=.inr (v,s')->mu s'<=mu s->Cx st0 b s' st' rows->Q v s'->K (.ret (enc v)) st') (kb:∀e s' st',Cy st0 b s' st' rows->E e s'->K (.Ci (fault e.1)) st'):PC f (mk b (.slice 6 (l.map Ap) own)) st K:=
 hf.ap U hc (Rd.wp_mono h (λv s' r q st' c=>k v s' st' r ((A l).le _ _ _ r) c q) (λe s' _ q st' c=>kb e s' st' c q))
theorem Qd {k:Int} (hd:Bi enc 226 (λb=>[pv b d]) HY):au 164 (λb v=>[pv b d,.int .i64 k,v]) (JC k):=by
 refine ⟨λ{st0 b s st rows K own l} hl hc h=>?_⟩
 simp only [JC,Rd.Ag,Rd.Ao,Rd.wp_seq,Rd.wp_ret] at h
 have U:=hc.mu
 refine pB Tryz.func164 ?_
 repeat' ((conv=>whnf);(first|refine AV ?_|refine Xm ?_ ?_|exact HE|refine Tq ?_|refine UZ ?_|refine GJ.go (by first|exact Bi.q) ?_ ?_)<;>intros)
theorem ZX (hr:Bi enc 158 (λb=>[pv b d]) R) (hw:Bi enc 161 (λb=>[pv b d]) W) (hs:∀{n:Nd} {st:St} {K:AD->St->Prop},K (.ret (.bool (CN n))) st->PC 160 [enc n] st K):
 Bi enc 87 (λb=>[pv b d]) (J7 R W):=by
 refine ⟨λ{st0 b s st rows K} hc h=>?_⟩
 simp only [J7,Rd.wp_seq,Rd.wp_ret] at h
 have U:=hc.mu
 refine pB Tryz.func87 ?_
 repeat' ((conv=>whnf);(first|exact C1|(refine C2 ?_ ?_ ?_;rotate_left)|refine BU ?_ ?_|refine Mu ?_ ?_|exact HE|refine Tq ?_|refine UZ ?_|refine AA ?_|refine GJ.go (by first|exact Bi.q|exact ‹_›.a) ?_ ?_|refine hs ?_|refine D7 ‹_› ‹_› ?_|refine D6 ‹_› ‹_› ?_|refine aI H1 rfl ?_|refine Cx.BE (l:=[_,_]) (Cx.push ‹_› _) (Nat.le_of_ble_eq_true rfl) ?_|refine Az [1,3,7,4,8,11,13] [] ?_|refine Ad 6 [4,5] [] ?_|fail)<;>intros)
end
theorem Rd.hZ {σ β:Type} {body:σ->Rd (Sum σ β)} {I:σ->Prop} {P:β->Prop} (h1:∀x s x' s',I x->(body x).run s=.inr (.inl x',s')->I x') (h2:∀x s y s',I x->(body x).run s=.inr (.inr y,s')->P y) (x:σ) (s:Af) (hx:I x):∀y s',(Rd.loop body x).run s=.inr (y,s')->P y:=by
 show ∀y s',Rd.iter body x s=.inr (y,s')->P y
 fun_induction Rd.iter body x s with
 |case1 x s e h=>intro y s' U;cases U
 |case2 x s y s1 h=>intro y s' U;cases U;exact h2 _ _ _ _ hx h
 |case3 x s x' s1 h hlt ih=>exact ih (h1 _ _ _ _ hx h)
 |case4 x s x' s1 h hlt=>intro y s' U;cases U
theorem YO {s':Af} (h:(Lz A).run s=.inr (l,s')):l≠[]:=by
 unfold Lz at h
 obtain ⟨n,s1,_,h⟩:=Bn h
 refine Rd.hZ (body:=SF A) (I:=λl=>l≠[]) (P:=λl=>l≠[]) (λx s x' s' U h=>?_) (λx s y s' U h=>?_) [n] s1 Pi l s' h
 all_goals replace h:(if Pw (Aa s).1=true then Rd.seq (GF A) λn=>.ret (.inl (x++[n])) else .ret (.inr x):Rd (Sum (List Nd) (List Nd))).run s=.inr (_,s'):=h
 all_goals split at h
 .obtain ⟨n,s2,_,h⟩:=Bn h;cases h;simp
 .cases h
 .obtain ⟨n,s2,_,h⟩:=Bn h;cases h
 .cases h;exact U
theorem rp {k:Int} (h:AP s k x=true) (U:k≠21):(Aa s).1.kind≠21:=λe=>by
 unfold AP at h
 rw [e] at h
 simp only [Bool.and_eq_true,beq_iff_eq] at h
 exact U h.1.symm
theorem R1 (U:Rd.AZ A):Rd.AZ (GF A):=Rd.AZ.look λs v s' h=>by
 split at h
 .rename_i hi
  exact Rd.AZ.at (λ_ _ e=>Ix e (rp hi IR)) h
 split at h
 .split at h
  .exact Rd.AZ.seq (GR IR) s v s' h
  .exact U _ _ _ h
 .exact U _ _ _ h
theorem tY (h:l≠[]):∃x,l[((0:Int)).toNat]? =some x/\l.headD BC=x:=by
 cases l with
 |nil=>exact absurd rfl h
 |cons x r=>exact ⟨x,rfl,rfl⟩
section
variable {st0 st:St} {b d:Nat} {s:Af} {rows:List (Ay×List Nd)} {K:AD->St->Prop} {A B R W F D E:Rd Nd}
attribute [local irreducible] Go.Aw.Ai
abbrev ye (l:List Nd) (own:Ay):V:=.slice 6 (l.map Ap) own
theorem UH (hA:Rd.AZ A) (hp:Bi enc 298 (λb=>[pv b d]) (GF A)):tH ye (λl=>l) 221 (λb=>[pv b d]) (Lz A):=by
 refine ⟨λ{st0 b s st rows K} hc h=>?_⟩
 simp only [Lz,Rd.wp_seq] at h
 have hmu:=hc.mu
 refine pB Tryz.func221 ?_
 repeat' ((conv=>whnf);(first|  refine Ej ?_ ?_|exact HE|refine UZ ?_|refine GJ.go (by first|exact Bi.q) ?_ ?_)<;>intros)
 refine CZ (λl own=>[(3,.slice 6 (l.map Ap) own)]) (λ_ _=>[]) [1] [0] (λl own=>(own,l)::rows) (λl=>l.length) .full (Cx.push ‹_› _) ‹_› (by show 1+_<=_;omega) Yl ?_
 intro l s1 st1 U hc h hl hm1
 simp only [SF,Rd.Ag,Rd.Ao,Rd.wp_seq,Rd.wp_ret,Rd.AO] at h
 repeat' ((conv=>whnf);(first|  refine Ej ?_ ?_|exact HE|refine UZ ?_|refine sU ‹_› ?_|refine Bi.Tr (hp) (R1 hA) ‹_› ‹_› ?_ ?_)<;>intros)
theorem Ka {item:Rd Nd} {fs cs:List V} {own:Ay} {Q:List Nd->Af->Prop} {E:Er->Af->Prop} (hi:xu st0 b g (fs++cs) item) (hl:l.length<=90000000) (hc:Cx st0 b s st ((own,l)::rows)) (h:Rd.wp (D3 item x l) s Q E)
 (k:∀l' U s' st',mu s'<=mu s->Cx st0 b s' st' ((U,l')::rows)->Q l' s'->K (.ret (.slice 6 (l'.map Ap) U)) st') (kb:∀e s' st',Cy st0 b s' st' rows->E e s'->K (.Ci (fault e.1)) st'):
 PC 170 [pv b d,.slice 6 (l.map Ap) own,.str x,.func g fs cs] st K:=by
 replace h:=Rd.wp_mono (Q':=λl' s'=>∀U st',Cx st0 b s' st' ((U,l')::rows)->K (.ret (.slice 6 (l'.map Ap) U)) st') (E':=λe s'=>∀st',Cy st0 b s' st' rows->K (.Ci (fault e.1)) st') h (λv s' r q own st' c=>k v own s' st' ((D3 item x l).le _ _ _ r) c q) (λe s' _ q st' c=>kb e s' st' c q)
 clear k kb
 simp only [D3,Rd.wp_seq,Rd.wp_ret] at h
 have hmu:=hc.mu
 refine pB Tryz.func170 ?_
 repeat' ((conv=>whnf);(first|refine AV ?_|fail)<;>intros)
 refine CZ (x0:=(true,l)) (λ(p:Bool×List Nd) own=>[(9,.bool p.1),(1,.slice 6 (p.2.map Ap) own)]) (λ_ _=>[]) [2,3,4] [0] (λp own=>(own,p.2)::rows) (λp=>p.2.length) own ‹_› ‹_› f9 Yl ?_
 intro p s1 st1 own1 hc h hl hm1
 obtain ⟨f,l⟩:=p
 dsimp only at hc hl
 simp only [H5,Rd.Ag,Rd.Ao,Rd.wp_seq,Rd.wp_ret,Rd.AO] at h
 cases f
 all_goals simp only [Bool.false_eq_true,if_false,if_true] at h
 all_goals (repeat' ((conv=>whnf);first|(refine AV ?_;intros)|exact ⟨⟨(false,_),_,_,_⟩,⟨hc,Rd.Bh h i7,kw,i7⟩,i7,Yl,St.le_refl _⟩|(refine Xm ?_ ?_<;>intro st1 hc e h)|(refine Ts ?_;intro s1 st1 hz hm hc h)|(refine Mu ?_ ?_<;>(first|intro n s1 st1 hr hm hc h|intro e s1 st1 hc h))|exact HE|(refine UZ ?_;intro own1 st1 hc)|refine Se ?_|refine xu.go hi hc h (λn s1 st1 hm hc h=>?_) (λe s1 st1 hc h=>?_)))
end
theorem TU {W:Rd Nd} {s':Af} (h:(FO A W).run s=.inr (n,s')):n.kids≠[]:=by
 have hB:∀{l:List Nd} {s:Af},l≠[]->(Kp A l).run s=.inr (n,s')->n.kids≠[]:=λ{l s} hl h=>by
  have hC:(Kq A l).run s=.inr (n,s')->n.kids≠[]:=λh=>by
   obtain ⟨a,s1,_,h⟩:=Bn h
   obtain ⟨o,s2,_,h⟩:=Bn h
   obtain ⟨r,s3,_,h⟩:=Bn h
   obtain ⟨c,s4,_,h⟩:=Bn h
   cases h;simp [Al,Nd.kids]
  replace h:(if ((Aa s).1.kind==6)=true then Kq A l else if AP s 15 [96]=true then Kq A l else .seq (FB (EV (l.headD BC))) λ_=>.ret (Al 48 l):Rd Nd).run s=.inr (n,s'):=h
  split at h
  .exact hC h
  .split at h
   .exact hC h
   .obtain ⟨a,s1,_,h⟩:=Bn h
    cases h;exact hl
 obtain ⟨l,s1,h1,h⟩:=Bn h
 have hl:=YO h1
 split at h
 .replace h:(if AP s1 15 [123]=true then Rd.seq AB λo=>.seq (D3 (Hm A W) [125] (l++[o])) λl=>.ret (Al 48 l) else Kp A l:Rd Nd).run s1=.inr (n,s'):=h
  split at h
  .obtain ⟨o,s2,_,h⟩:=Bn h
   obtain ⟨l2,s3,U,h⟩:=Bn h
   obtain ⟨l3,s4,_,U⟩:=Bn U
   obtain ⟨c,s5,_,U⟩:=Bn U
   cases U;cases h
   simp [Al,Nd.kids]
  .exact hB hl h
 .exact hB hl h
section
variable {st0 st:St} {b d c:Nat} {s:Af} {rows:List (Ay×List Nd)} {K:AD->St->Prop} {A B R W F D E:Rd Nd}
attribute [local irreducible] Go.Aw.Ai
theorem js (hs:Bi enc 300 (λb=>[pv b d]) (HR A)) (hw:Bi enc 161 (λb=>[pv b d]) W):Bi enc 223 (λb=>[pv b d]) (Hm A W):=by
 refine ⟨λ{st0 b s st rows K} hc h=>?_⟩
 simp only [Hm,Rd.Ag,Rd.Ao,Rd.wp_seq,Rd.wp_ret] at h
 have hmu:=hc.mu
 refine pB Tryz.func223 ?_
 repeat' ((conv=>whnf);(first|refine AV ?_|refine Xm ?_ ?_|refine Ts ?_|refine Mu ?_ ?_|exact HE|refine Tq ?_|refine UZ ?_|refine GJ.go (by first|exact Bi.q|exact PA.a) ?_ ?_)<;>intros)
 refine CZ (λl own=>[(3,.slice 6 (l.map Ap) own)]) (λ_ _=>[]) [1,2] [0,1] (λl own=>(own,l)::rows) (λl=>l.length) .full (Cx.push ‹_› _) ‹_› (by show 1+_<=_;omega) Yl ?_
 intro l s1 st1 U hc h hl hm1
 simp only [O5,Rd.Ag,Rd.Ao,Rd.wp_seq,Rd.wp_ret,Rd.AO] at h
 repeat' ((conv=>whnf);(first|refine AV ?_|refine Xm ?_ ?_|refine Ts ?_|refine Mu ?_ ?_|exact HE|refine Tq ?_|refine UZ ?_|refine GJ.go (by first|exact Bi.q|exact PA.a) ?_ ?_)<;>intros)
abbrev xX (b d:Nat):V:=.HK [.ptr b 0,.int .i64 (d:Int)] 0
theorem NR:Bi enc 302 (λb=>[xX b d]) (Cm [2,4]):=by
 refine ⟨λ{st0 b s st rows K} hc h=>?_⟩
 refine pB Tryz.func302 ?_
 repeat' ((conv=>whnf);(first|  exact HE|refine GJ.go (by first|  exact (E8 (ks:=[2,4]) rfl).a) ?_ ?_)<;>intros)
theorem OA:Bi enc 226 (λb=>[pv b d]) HY:=by
 refine ⟨λ{st0 b s st rows K} hc h=>?_⟩
 simp only [HY,Rd.Ag,Rd.Ao,Rd.wp_seq,Rd.wp_ret] at h
 have hmu:=hc.mu
 refine AQ Ac [] Tryz.func226 rfl IR rfl ?_
 refine Ah (Aj Ac ?_)
 repeat' ((conv=>whnf);(first|exact C1|refine AV ?_|(refine C2 ?_ ?_ ?_;rotate_left)|fail)<;>intros)
 refine Ah (Aj Ac ?_)
 repeat' ((conv=>whnf);first|exact C1|(refine AV ?_;intros)|(refine C2 ?_ ?_ ?_;rotate_left)|refine HS.go hc h (λo s1 U hr hm hc h=>?_) (λe s1 U hc h=>?_)|exact Ch hc h|fail)
 refine UW 1 0 rfl rfl rfl ?_
 refine Aj Ac ?_
 repeat' ((conv=>whnf);(first|exact C1|refine AV ?_|(refine C2 ?_ ?_ ?_;rotate_left)|refine Xm ?_ ?_|refine Ts ?_|exact HE|refine Tq ?_|refine AA ?_|refine GJ.go (by first|  exact NR.a) ?_ ?_|refine Ka (l:=[_,_]) (fs:=[]) (cs:=[xX b d]) NR.z (Nat.le_of_ble_eq_true rfl) ‹_› ‹_› ?_ ?_|refine Cx.BE (l:=[_]) (Cx.push ‹_› [_]) (Nat.le_of_ble_eq_true rfl) ?_|refine Az [1,3,5,7,15,8,11,12,16,18,20] [1] ?_|fail)<;>intros)
theorem wU {own:Ay} (hf:∀x ∈ l,B4 f p x) (h:K (.ret (.bool (l.any p))) st):PC 229 [.slice 6 (l.map Ap) own,.func f [] []] st K:=
 JW (args':=[.slice 6 (Co l) .any,.func f [] []]) (by rw [<-BV];rfl) (KU hf h)
theorem sL {x:Nd}:B4 301 C0 x:=by
 intro st R h
 refine pB Tryz.func301 ?_
 repeat' ((conv=>whnf);(first|  refine BU ?_ ?_|fail)<;>intros)
 all_goals conv=>whnf
 all_goals (refine An h ?_;clear h;simp_all [C0])
theorem tc {own:Ay} {E:Er->Af->Prop} (hc:Cx st0 b s st ((own,l)::rows)) (h:Rd.wp (SZ l) s Q E)
 (k:∀v st',Cx st0 b s st' rows->Q v s->K (.ret (enc v)) st') (kb:∀e st',Cy st0 b s st' rows->E e s->K (.Ci (fault e.1)) st'):PC 224 [pv b d,.slice 6 (l.map Ap) own] st K:=by
 refine pB Tryz.func224 ?_
 unfold SZ at h
 by_cases U:l.length=1
 .have hn:(l.length:Int)=1:=H1
  obtain ⟨x,rfl⟩:=List.length_eq_one_iff.1 U
  rw [if_pos U,Rd.wp_ret] at h
  have h:=k _ st hc.drop h
  repeat' ((conv=>whnf);(first|exact C1|refine AV ?_|(refine C2 ?_ ?_ ?_;rotate_left)|refine BU ?_ ?_|refine BH (l:=[x]) ?_|refine aI H1 rfl ?_|fail)<;>intros)
  all_goals exact AU rfl h
 .have hn:¬(l.length:Int)=1:=H1
  rw [if_neg U,Rd.wp_seq] at h
  simp only [Rd.wp_ret] at h
  repeat' ((conv=>whnf);first|exact C1|(refine AV ?_;intros)|(refine C2 ?_ ?_ ?_;rotate_left)|(refine BU ?_ ?_<;>intro _)|refine BH (l:=l) (λ_=>?_)|refine wU (l:=l) (λx hx=>sL) ?_|refine D7 h (by simp only [show l.any C0=false by assumption,Bool.not_false]) (λh=>?_)|refine D6 h (by simp only [show l.any C0=true by assumption,Bool.not_true]) (λh=>?_)|refine Mo (l:=l) ?_|exact AU rfl (k _ _ hc.drop h)|exact λe'=>⟨_,_,.inl rfl,St.le_refl _,kb _ _ hc.drop.y h⟩|refine Ad 5 [2,4] [] ?_|fail)
theorem cP (hA:Rd.AZ A) (hp:Bi enc 298 (λb=>[pv b d]) (GF A)) (hf:Bi enc 223 (λb=>[pv b d]) (Hm A W)):Bi enc 163 (λb=>[pv b d]) (FO A W):=by
 refine ⟨λ{st0 b s st rows K} hc h=>?_⟩
 have hmu:=hc.mu
 simp only [FO,Kp,Kq,Rd.Ag,Rd.Ao,Rd.wp_seq,Rd.wp_ret] at h
 refine AQ Ac [] Tryz.func163 rfl IR rfl ?_
 refine Ah (Aj Ac ?_)
 repeat' ((conv=>whnf);(first|exact C1|refine AV ?_|(refine C2 ?_ ?_ ?_;rotate_left)|refine BU ?_ ?_|fail)<;>intros)
 refine Ah (Aj Ac ?_)
 repeat' ((conv=>whnf);first|exact C1|(refine AV ?_;intros)|(refine C2 ?_ ?_ ?_;rotate_left)|(refine BU ?_ ?_<;>intro _)|refine tH.go (UH hA hp) hc h (λl own1 s1 st1 hr hm hc h=>?_) (λe s1 st1 hc h=>?_)|exact Ch hc h|fail)
 obtain ⟨x,hx,hd⟩:=tY (YO hr)
 rw [hd] at h
 refine Aj Ac ?_
 have e2:(l.length==1)=true↔(l.length:Int)=1:=by rw [beq_iff_eq];omega
 have hB:((l.length:Int)=1/\EV x=true/\AP s1 15 [123]=true)\/((l.length:Int)=1/\EV x=true/\AP s1 15 [123]=false)\/((l.length:Int)=1/\EV x=false)\/¬((l.length:Int)=1):=by
  by_cases e:(l.length:Int)=1
  .cases EV x<;>cases AP s1 15 [123]<;>simp [e]
  .simp [e]
 have e3:¬((l.length:Int)=1)->(l.length==1)=false:=λe=>by
  cases e4:l.length==1 with
  |true=>exact absurd (e2.1 e4) e
  |false=>rfl
 rcases hB with ⟨U,em,eb⟩|hB
 .simp only [e2.2 U,em,eb,Bool.and_self,if_true] at h
  repeat' ((conv=>whnf);(first|exact C1|refine AV ?_|(refine C2 ?_ ?_ ?_;rotate_left)|refine BU ?_ ?_|refine fN ?_|refine Ts ?_|exact HE|refine Tq ?_|refine UZ ?_|refine BH ?_|refine AA ?_|refine BH (l:=l) ?_|refine XQ (es:=l.map Ap) (x:=Ap x) (by rw [List.getElem?_map,hx]<;>rfl) H1 ?_|refine OC ?_|refine Ka (l:=l++[_]) (fs:=[pv b d]) (cs:=[]) hf.z f8 ‹_› ‹_› ?_ ?_|refine Az [1,3,5,7,15,17,8,11,12,18,20,22] [1] ?_|refine Ad 6 [4,5] [] ?_|refine Ad 9 [4,5,7,8] [1] ?_|fail)<;>intros)
 cases e6:((Aa s1).1.kind==6)
 all_goals cases e9:AP s1 15 [96]
 all_goals (simp only [e6,e9,if_true,Bool.false_eq_true,if_false] at h)
 all_goals rcases hB with ⟨U,em,eb⟩|⟨U,em⟩|U
 all_goals first
  |simp only [e2.2 U,em,eb,Bool.and_self,Bool.true_and,Bool.false_eq_true,if_true,if_false] at h
  |simp only [e2.2 U,em,Bool.true_and,Bool.false_eq_true,if_false] at h
  |simp only [e3 U,Bool.false_and,Bool.false_eq_true,if_false] at h
 all_goals (repeat' ((conv=>whnf);(first|exact C1|refine AV ?_|(refine C2 ?_ ?_ ?_;rotate_left)|refine BU ?_ ?_|refine fN ?_|refine Ts ?_|exact HE|refine Tq ?_|refine UZ ?_|refine BH ?_|refine AA ?_|refine BH (l:=l) ?_|refine XQ (es:=l.map Ap) (x:=Ap x) (by rw [List.getElem?_map,hx]<;>rfl) H1 ?_|refine OC ?_|refine tc ‹_› ‹_› ?_ ?_|refine GJ.go (by first|  exact pd.a) ?_ ?_|refine tH.go (UH hA hp) ‹_› ‹_› ?_ ?_|refine D7 ‹_› ‹_› ?_|refine D6 ‹_› ‹_› ?_|refine D7 ‹_› rfl ?_|refine D6 ‹_› rfl ?_|refine Az [1,3,5,7,15,17,8,11,12,18,20,22] [1] ?_|refine Ad 6 [4,5] [] ?_|refine Ad 9 [4,5,7,8] [1] ?_|fail)<;>intros))
end
def S1 (n:Nd):Nat->Bool
 |0=>CN n
 |k+1=>(n.kids.drop (k+1)).all (BR · [1])
theorem WQ {k:Nat}:S1 n (k+1)=(n.kids.drop (k+1)).all (BR · [1]):=rfl
theorem dO {x:Nd} {K:Int->Prop} (h:l.length<=90000000) (k:K (((l++[x]).length:Int) - 1)):∃r,r=IntKind.i64.wrap (((l++[x]).length:Int) - 1)/\K r:=
 Wq (by rw [List.length_append];show _<=((l.length+1:Nat):Int) - 1;omega) (by rw [List.length_append];show ((l.length+1:Nat):Int) - 1<=_;omega) k
theorem rj {R:Rd Nd} {p:List Nd×Nd} {s':Af} (h:(KW R [n]).run s=.inr (p,s')):p.1.length<=90000000:=Nat.le_trans (JN h) (Nat.le_of_ble_eq_true rfl)
theorem l6 {R:Rd Nd} {p:List Nd×Nd} {s':Af} {x y z:Nd} (h:(KW R [n]).run s=.inr (p,s')):(p.1++[x]++[y]++[z]).length<=900000000:=by
 have U:p.1.length<=3:=JN h
 rw [List.length_append,List.length_append,List.length_append]
 show p.1.length+1+1+1<=_
 omega
theorem XL {k:Nat} {x:Nd} (h:l[k]? =some x):l.drop k=x::l.drop (k+1):=by
 obtain ⟨U,h2⟩:=List.getElem?_eq_some_iff.1 h
 rw [<-h2,List.drop_eq_getElem_cons U]
section
variable {st0 st:St} {b d c:Nat} {s:Af} {rows:List (Ay×List Nd)} {K:AD->St->Prop} {A B R W F D E:Rd Nd}
attribute [local irreducible] Go.Aw.Ai
theorem Pz {st:St} (h:K (.ret (.bool (CN n))) st):PC 160 [enc n] st K:=by
 refine pB Tryz.func160 ?_
 by_cases hk:n.kind=39
 .skip
  repeat' ((conv=>whnf);(first|refine AV ?_|refine BU ?_ ?_|fail)<;>intros)
  refine Lr 14 [12,13] n.kids.length (λk=>k<=n.kids.length/\CN n=S1 n k) ⟨Nat.zero_le _,rfl⟩ Yl ?_
  rintro k ⟨hk1,hi⟩
  by_cases hlt:k<n.kids.length
  .obtain ⟨x,hx⟩:∃x,n.kids[(k:Int).toNat]? =some x:=⟨_,List.getElem?_eq_getElem hlt⟩
   have hdr:=XL (show n.kids[k]? =some x from hx)
   by_cases h0:k=0
   .subst h0
    have hz:((0:Nat):Int)=0:=rfl
    have e:CN n=(BR x [2]&&S1 n 1):=by
     unfold CN S1
     rw [hk,beq_self_eq_true,if_pos rfl]
     cases hkk:n.kids with
     |nil=>rw [hkk] at hx;cases hx
     |cons y r=>rw [hkk] at hx;cases hx;simp
    cases hb:BR x [2] with
    |true=>
     have U:∀{st:St} {K:AD->St->Prop} {own:Ay},K (.ret (.bool true)) st->PC 166 [enc x,.slice 1 [[.int .i64 2]] own] st K:=λh=>ED (ks:=[2]) (by rw [hb];exact h)
     repeat' ((conv=>whnf);first|(refine AV ?_;intros)|(refine BU ?_ ?_<;>intro _)|refine U ?_)
     all_goals conv=>whnf
     all_goals exact ⟨1,⟨hlt,by rw [e,hb,Bool.true_and]⟩,Nat.sub_lt_sub_left hlt (Nat.lt_succ_self 0),Yl,St.le_refl _⟩
    |false=>
     have U:∀{st:St} {K:AD->St->Prop} {own:Ay},K (.ret (.bool false)) st->PC 166 [enc x,.slice 1 [[.int .i64 2]] own] st K:=λh=>ED (ks:=[2]) (by rw [hb];exact h)
     rw [e,hb,Bool.false_and] at h
     repeat' ((conv=>whnf);first|(refine AV ?_;intros)|(refine BU ?_ ?_<;>intro _)|refine U ?_)
     all_goals exact AU rfl h
   .have e:S1 n k=(BR x [1]&&S1 n (k+1)):=by
     obtain ⟨j,rfl⟩:∃j,k=j+1:=⟨k - 1,H1⟩
     rw [WQ,WQ,hdr,List.all_cons]
    have hpos:(k:Int)>0:=H1
    cases hb:BR x [1] with
    |true=>
     have U:∀{st:St} {K:AD->St->Prop} {own:Ay},K (.ret (.bool true)) st->PC 166 [enc x,.slice 1 [[.int .i64 1]] own] st K:=λh=>ED (ks:=[1]) (by rw [hb];exact h)
     repeat' ((conv=>whnf);first|(refine AV ?_;intros)|(refine BU ?_ ?_<;>intro _)|refine U ?_)
     all_goals conv=>whnf
     all_goals exact ⟨k+1,⟨hlt,by rw [hi,e,hb,Bool.true_and]⟩,Nat.sub_lt_sub_left hlt (Nat.lt_succ_self k),Yl,St.le_refl _⟩
    |false=>
     have U:∀{st:St} {K:AD->St->Prop} {own:Ay},K (.ret (.bool false)) st->PC 166 [enc x,.slice 1 [[.int .i64 1]] own] st K:=λh=>ED (ks:=[1]) (by rw [hb];exact h)
     rw [hi,e,hb,Bool.false_and] at h
     repeat' ((conv=>whnf);first|(refine AV ?_;intros)|(refine BU ?_ ?_<;>intro _)|refine U ?_)
     all_goals exact AU rfl h
  .have hk2:k=n.kids.length:=H1
   have h1:CN n=true:=by
    rw [hi]
    cases k with
    |zero=>
     have h2:n.kids=[]:=List.length_eq_zero_iff.1 hk2.symm
     unfold S1 CN
     rw [hk,h2];rfl
    |succ k=>rw [WQ,List.drop_eq_nil_of_le H1];rfl
   rw [h1] at h
   repeat' ((conv=>whnf);first|(refine AV ?_;intros)|(refine BU ?_ ?_<;>intro _)|fail)
   all_goals exact AU rfl h
 .have e:CN n=BR n [2]:=by
   unfold CN
   rw [if_neg (by rw [beq_iff_eq];exact hk)]
  rw [e] at h
  repeat' ((conv=>whnf);first|(refine AV ?_;intros)|(refine BU ?_ ?_<;>intro _)|refine ED (ks:=[2]) ?_)
  all_goals conv=>whnf
  all_goals (refine An h ?_;clear h;simp_all)
theorem oR (hc1:Bi enc 163 (λb=>[pv b d]) (FO A W)) (hr1:Bi enc 158 (λb=>[pv b d]) R):Bi enc 88 (λb=>[pv b d]) (TW A R W):=by
 refine ⟨λ{st0 b s st rows K} hc h=>?_⟩
 simp only [TW,Rd.wp_seq] at h
 have hmu:=hc.mu
 refine pB Tryz.func88 ?_
 repeat' ((conv=>whnf);first|exact C1|(refine AV ?_;intros)|(refine C2 ?_ ?_ ?_;rotate_left)|(refine BU ?_ ?_<;>intro _)|(refine Xm ?_ ?_<;>intro U hc e h)|(refine Ts ?_;intro s1 U hz hm hc h)|(refine Mu ?_ ?_<;>(first|intro n s1 U hr hm hc h|intro e s1 U hc h))|exact HE|(refine UZ ?_;intro own1 U hc)|refine BH (λ_=>?_)|refine AA (λe1=>?_)|refine uN.go (l:=[_]) (OB hr1) (Nat.le_of_ble_eq_true rfl) (hc.push _) h (λl x own1 s1 U hh hm hc h=>?_) (λe s1 U hc h=>?_)|refine EO ?_|refine dO (rj hh) ?_|refine Pz ?_|refine D7 h ‹_› (λh=>?_)|refine D6 h ‹_› (λh=>?_)|refine Ad 7 [3,5] [] ?_|refine Ad 9 [7,8] [] ?_|fail)
 have hl2:l.length<=3:=JN hh
 refine CZ (x0:=([61],l++[x])) (λ(p:List UInt8×List Nd) own=>[(4,.str p.1),(3,.slice 6 (p.2.map Ap) own)]) (λ_ _=>[]) [1,2] [0,1] (λp own=>(own,p.2)::rows) (λp=>p.2.length) _ ‹_› ‹_› (by dsimp only;simp only [List.length_append,List.length_cons,List.length_nil];omega) Yl ?_
 intro p s1 U own1 hc h hl hm1
 obtain ⟨x,l⟩:=p
 dsimp only at hc hl
 simp only [TV,Rd.Ag,Rd.Ao,Rd.wp_seq,Rd.wp_ret,Rd.AO] at h
 repeat' ((conv=>whnf);first|exact C1|(refine AV ?_;intros)|(refine C2 ?_ ?_ ?_;rotate_left)|(refine BU ?_ ?_<;>intro _)|exact ⟨⟨(_,_),_,_,_⟩,⟨hc,Rd.Bh h i7,kw,i7⟩,i7,Yl,St.le_refl _⟩|(refine Xm ?_ ?_<;>intro U hc e h)|(refine Ts ?_;intro s1 U hz hm hc h)|(refine Mu ?_ ?_<;>(first|intro n s1 U hr hm hc h|intro e s1 U hc h))|exact HE|(refine UZ ?_;intro own1 U hc)|refine BH (λ_=>?_)|refine AA (λe1=>?_)|refine Bi.go hc1 hc h (λn s1 U hr hm hc h=>?_) (λe s1 U hc h=>?_)|refine au.go (l:=l) (Qd OA) H1 hc h (λn s1 U hr hm hc h=>?_) (λe s1 U hc h=>?_)|fail)
theorem vA (h:n.kids≠[]):∃x,n.kids[((0:Int)).toNat]? =some x/\n.kids.headD BC=x:=tY h
theorem ju {st:St} (hn:n.kids≠[]) (h:K (.ret (.bool (HO n))) st):PC 165 [enc n] st K:=by
 refine pB Tryz.func165 ?_
 obtain ⟨x,hx,hd⟩:=vA hn
 unfold HO at h
 rw [hd] at h
 cases hm:EV x with
 |false=>
  rw [hm,if_neg IR] at h
  have U:∀{st:St} {K:AD->St->Prop},K (.ret (.bool false)) st->PC 222 [enc x] st K:=λh=>OC (by rw [hm];exact h)
  repeat' ((conv=>whnf);first|(refine AV ?_;intros)|(refine BU ?_ ?_<;>intro _)|refine U ?_)
  all_goals exact AU rfl h
 |true=>
  rw [hm,if_pos rfl] at h
  have U:∀{st:St} {K:AD->St->Prop},K (.ret (.bool true)) st->PC 222 [enc x] st K:=λh=>OC (by rw [hm];exact h)
  by_cases h2:n.kids.length=2
  .obtain ⟨y,hy⟩:∃y,n.kids[((1:Int)).toNat]? =some y:=⟨_,List.getElem?_eq_getElem (show 1<n.kids.length by omega)⟩
   have hy2:n.kids[1]? =some y:=hy
   rw [if_pos h2,hy2] at h
   repeat' ((conv=>whnf);first|(refine AV ?_;intros)|(refine BU ?_ ?_<;>intro _)|refine U ?_)
   all_goals conv=>whnf
   all_goals (refine An h ?_;clear h;simp_all [C0])
  .by_cases h4:n.kids.length=4
   .obtain ⟨y,hy⟩:∃y,n.kids[((2:Int)).toNat]? =some y:=⟨_,List.getElem?_eq_getElem (show 2<n.kids.length by omega)⟩
    have hy2:n.kids[2]? =some y:=hy
    rw [if_neg h2,hy2] at h
    by_cases hk:y.kind=13
    .by_cases h3:y.kids.length=3
     .obtain ⟨z,hz⟩:∃z,y.kids[((2:Int)).toNat]? =some z:=⟨_,List.getElem?_eq_getElem (show 2<y.kids.length by omega)⟩
      have hz2:y.kids[2]? =some z:=hz
      repeat' ((conv=>whnf);first|(refine AV ?_;intros)|(refine BU ?_ ?_<;>intro _)|refine U ?_)
      all_goals conv=>whnf
      all_goals (refine An h ?_;clear h;simp_all [C0])
     .skip
      repeat' ((conv=>whnf);first|(refine AV ?_;intros)|(refine BU ?_ ?_<;>intro _)|refine U ?_)
      all_goals conv=>whnf
      all_goals (refine An h ?_;clear h;simp_all [C0])
    .skip
     repeat' ((conv=>whnf);first|(refine AV ?_;intros)|(refine BU ?_ ?_<;>intro _)|refine U ?_)
     all_goals conv=>whnf
     all_goals (refine An h ?_;clear h;simp_all [C0])
   .rw [if_neg h2,if_neg (λe=>h4 e.1)] at h
    repeat' ((conv=>whnf);first|(refine AV ?_;intros)|(refine BU ?_ ?_<;>intro _)|refine U ?_)
    all_goals exact AU rfl h
theorem ZQ (hc1:Bi enc 163 (λb=>[pv b d]) (FO A W)) (hr1:Bi enc 158 (λb=>[pv b d]) R):Bi enc 89 (λb=>[pv b d]) (JV A R W):=by
 refine ⟨λ{st0 b s st rows K} hc h=>?_⟩
 simp only [JV,Rd.wp_seq] at h
 have hmu:=hc.mu
 refine AQ Ac [] Tryz.func89 rfl IR rfl ?_
 refine Ah (Aj Ac ?_)
 repeat' ((conv=>whnf);(first|exact C1|(refine C2 ?_ ?_ ?_;rotate_left)|refine BU ?_ ?_|fail)<;>intros)
 refine Ah (Aj Ac ?_)
 repeat' ((conv=>whnf);first|exact C1|(refine C2 ?_ ?_ ?_;rotate_left)|(refine BU ?_ ?_<;>intro _)|(refine Mu ?_ ?_<;>(first|intro n s1 U hr hm hc h|intro e s1 U hc h))|exact HE|(refine UZ ?_;intro own1 U hc)|refine BH (λ_=>?_)|refine AA (λe1=>?_)|refine uN.go (l:=[_]) (OB hr1) (Nat.le_of_ble_eq_true rfl) (hc.push _) h (λl x own1 s1 U hh hm hc h=>?_) (λe s1 U hc h=>?_)|exact Ch hc h|refine Ad 7 [3,5] [] ?_|refine Ad 9 [7,8] [] ?_|refine Ad 9 [7,8] [] ?_|fail)
 have hl2:l.length<=3:=JN hh
 refine Aj Ac ?_
 repeat' ((conv=>whnf);first|exact C1|(refine C2 ?_ ?_ ?_;rotate_left)|(refine BU ?_ ?_<;>intro _)|(refine Mu ?_ ?_<;>(first|intro n s1 U hr hm hc h|intro e s1 U hc h))|exact HE|(refine UZ ?_;intro own1 U hc)|refine BH (λ_=>?_)|refine AA (λe1=>?_)|refine EO ?_|refine dO la ?_|refine Pz ?_|refine Bi.go hc1 hc h (λn s1 U hr hm hc h=>?_) (λe s1 U hc h=>?_)|refine ju (TU hr) ?_|refine D7 h ‹_› (λh=>?_)|refine D6 h ‹_› (λh=>?_)|refine au.go (Qd OA) (l6 hh) hc h (λn s1 U hr hm hc h=>?_) (λe s1 U hc h=>?_)|refine Ad 7 [3,5] [] ?_|refine Ad 9 [7,8] [] ?_|refine Ad 9 [7,8] [] ?_|fail)
abbrev xI (g:FuncId):V:=.HK [.func g [] []] 0
theorem qn {x:Nd} {st:St} (U:∀{n:Nd} {st:St} {K:AD->St->Prop},K (.ret (.bool (p n))) st->PC g [enc n] st K) (h:K (.ret (.bool (!p x))) st):PC 230 [enc x,xI g] st K:=by
 refine pB Tryz.func230 ?_
 repeat' ((conv=>whnf);first|  (refine BU ?_ ?_<;>intro _)|refine U ?_)
 all_goals conv=>whnf
 all_goals (refine An h ?_;clear h;simp_all)
theorem vC {st:St} (hf:∀x st (K:AD->St->Prop),K (.ret (.bool (p x))) st->PC f [enc x,xI g] st K) (h:K (.ret (.int .i64 (Dg p l 0))) st):PC 304 [.slice 6 (Co l) .any,.func f [] [xI g]] st K:=by
 refine pB Tryz.func304 ?_
 repeat' ((conv=>whnf);(first|refine AV ?_|refine BU ?_ ?_|fail)<;>intros)
 refine Lr 8 [6,7,0,1] l.length (λk=>k<=l.length/\(Dg p l 0=Dg p (l.drop k) k)) ⟨Nat.zero_le _,rfl⟩ Yl ?_
 rintro k ⟨U,hi⟩
 repeat' ((conv=>whnf);first|(refine AV ?_;intros)|(refine BU ?_ ?_<;>intro _)|refine hf _ _ _ ?_)
 all_goals conv=>whnf
 all_goals try (have e:=XL ‹l[Int.toNat k]? =some _›;rw [Int.toNat_natCast] at e;rw [e,Dg] at hi;clear e)
 all_goals first
  |(refine ⟨k+1,⟨H1,?_⟩,H1,Yl,St.le_refl _⟩;clear h;simp_all)
  |(refine fin h ?_;clear h;simp_all;done)
  |(refine fin h ?_;rw [hi,List.drop_eq_nil_of_le H1];rfl)
theorem uT {st:St} (hf:∀x st (K:AD->St->Prop),K (.ret (.bool (p x))) st->PC f [enc x,xI g] st K) (h:K (.ret (.bool (l.any p))) st):PC 229 [.slice 6 (Co l) .any,.func f [] [xI g]] st K:=by
 refine pB Tryz.func229 ?_
 refine vC hf ?_
 have key:=Ic (p:=p) (l:=l) (i:=0) H1
 refine Wh (λU=>?_) (λU=>?_)
 .exact An h (key.1 U)
 .refine An h ?_
  simp_all
theorem dm:(!l.any λx=> !p x)=l.all p:=by
 rw [List.all_eq_not_any_not]
theorem uR (h:(l.any λx=> !p x)=true):l.all p=false:=by rw [<-dm,h];rfl
theorem p6 (h:(l.any λx=> !p x)=false):l.all p=true:=by rw [<-dm,h];rfl
theorem HT {k:Int} (hg:∀{n:Nd} {st:St} {K:AD->St->Prop},K (.ret (.bool (p n))) st->PC g [enc n] st K) (hd1:Bi enc 84 (λb=>[.ptr b 0,.func 228 [] [],.int .i64 ((d:Int) - 1)]) D) (hd0:d<=100):
 au 167 (λb v=>[pv b d,.int .i64 k,v,.func g [] []]) (λl=>TR D k l p):=by
 refine ⟨λ{st0 b s st rows K own l} hl hc h=>?_⟩
 simp only [TR,Rd.Ag,Rd.Ao,Rd.wp_seq,Rd.wp_ret] at h
 refine AQ Ac [] Tryz.func167 rfl IR rfl ?_
 refine Ah (Aj Ac ?_)
 repeat' ((conv=>whnf);(first|exact C1|refine AV ?_|(refine C2 ?_ ?_ ?_;rotate_left)|refine BU ?_ ?_|fail)<;>intros)
 refine UW 7 1 rfl rfl rfl ?_
 refine Aj Ac ?_
 repeat' ((conv=>whnf);first|exact C1|(refine AV ?_;intros)|(refine C2 ?_ ?_ ?_;rotate_left)|(refine BU ?_ ?_<;>intro _)|(refine Xm ?_ ?_<;>intro U hc e h)|(refine Ts ?_;intro s1 U hz hm hc h)|exact HE|refine Tq ?_|(refine UZ ?_;intro own1 U hc)|refine AA (λe1=>?_)|refine Wq (a:=(d:Int) - 1) H1 H1 ?_|refine Bi.go hd1 hc h (λn s1 U hr hm hc h=>?_) (λe s1 U hc h=>?_)|refine uT (p:=λx=> !p x) (λx st K h=>qn hg h) ?_|refine D7 h (p6 ‹_›) (λh=>?_)|refine D6 h (uR ‹_›) (λh=>?_)|refine Ad 7 [4,6] [] ?_|fail)
theorem Lh {st:St} (h:K (.ret (.bool true)) st):PC 168 [enc n] st K:=by
 refine pB Tryz.func168 ?_
 repeat' ((conv=>whnf);(first|  fail)<;>intros)
 all_goals exact AU rfl h
theorem IV {st:St} (h:K (.ret (.bool (n.kind==36))) st):PC 169 [enc n] st K:=by
 refine pB Tryz.func169 ?_
 repeat' ((conv=>whnf);(first|  refine BU ?_ ?_|fail)<;>intros)
 all_goals conv=>whnf
 all_goals (refine An h ?_;clear h;simp_all)
theorem jl (hr1:Bi enc 158 (λb=>[pv b d]) R) (hd1:Bi enc 84 (λb=>[.ptr b 0,.func 228 [] [],.int .i64 ((d:Int) - 1)]) D) (hd0:d<=100):Bi enc 90 (λb=>[pv b d]) (OU R D):=by
 refine ⟨λ{st0 b s st rows K} hc h=>?_⟩
 simp only [OU,Rd.wp_seq] at h
 have hmu:=hc.mu
 refine AQ Ac [] Tryz.func90 rfl IR rfl ?_
 refine Ah (Aj Ac ?_)
 repeat' ((conv=>whnf);(first|exact C1|refine AV ?_|(refine C2 ?_ ?_ ?_;rotate_left)|fail)<;>intros)
 refine Ah (Aj Ac ?_)
 repeat' ((conv=>whnf);first|exact C1|(refine AV ?_;intros)|(refine C2 ?_ ?_ ?_;rotate_left)|(refine Mu ?_ ?_<;>(first|intro n s1 U hr hm hc h|intro e s1 U hc h))|exact HE|refine BH (λ_=>?_)|refine AA (λe1=>?_)|refine uN.go (l:=[_]) (OB hr1) (Nat.le_of_ble_eq_true rfl) (hc.push _) h (λl x own1 s1 U hh hm hc h=>?_) (λe s1 U hc h=>?_)|exact Ch hc h|refine Ad 7 [3,5] [] ?_|refine Ad 27 [16,24,26] [] ?_|fail)
 have hl2:l.length<=3:=JN hh
 refine Aj Ac ?_
 by_cases hk:x.kind=39
 .by_cases h2:(x.kids.length:Int)=2
  .have h2':x.kids.length=2:=H1
   obtain ⟨y0,hx0⟩:∃y,x.kids[((0:Int)).toNat]? =some y:=⟨_,List.getElem?_eq_getElem (show 0<x.kids.length by omega)⟩
   obtain ⟨y1,hx1⟩:∃y,x.kids[((1:Int)).toNat]? =some y:=⟨_,List.getElem?_eq_getElem (show 1<x.kids.length by omega)⟩
   have hy0:x.kids[0]? =some y0:=hx0
   have hy1:x.kids[1]? =some y1:=hx1
   have hN:Gf x=(BR y0 [2]&&BR y1 [1]):=by unfold Gf;rw [hk,h2',hy0,hy1];rfl
   cases i0:BR y0 [2]
   .have hcl:Gf x=false:=by rw [hN,i0];rfl
    repeat' ((conv=>whnf);first|exact C1|(refine AV ?_;intros)|(refine C2 ?_ ?_ ?_;rotate_left)|(refine Mu ?_ ?_<;>(first|intro n s1 U hr hm hc h|intro e s1 U hc h))|exact HE|refine BH (λ_=>?_)|refine AA (λe1=>?_)|refine EO ?_|refine Wm hx0 H1 ?_|refine Wm hx1 H1 ?_|refine ED (ks:=[2]) ?_|refine ED (ks:=[1]) ?_|refine D7 h hcl (λh=>?_)|refine D6 h hcl (λh=>?_)|refine au.go (l:=l++[x]) (HT (d:=d) (λh=>Lh h) hd1 hd0) (by rw [List.length_append]<;>exact Nat.le_trans (Nat.add_le_add_right hl2 _) (Nat.le_of_ble_eq_true rfl)) hc h (λn s1 U hr hm hc h=>?_) (λe s1 U hc h=>?_)|refine Ad 7 [3,5] [] ?_|refine Ad 27 [16,24,26] [] ?_|fail)
   cases i1:BR y1 [1]
   .have hcl:Gf x=false:=by rw [hN,i0,i1];rfl
    repeat' ((conv=>whnf);first|exact C1|(refine AV ?_;intros)|(refine C2 ?_ ?_ ?_;rotate_left)|(refine Mu ?_ ?_<;>(first|intro n s1 U hr hm hc h|intro e s1 U hc h))|exact HE|refine BH (λ_=>?_)|refine AA (λe1=>?_)|refine EO ?_|refine Wm hx0 H1 ?_|refine Wm hx1 H1 ?_|refine ED (ks:=[2]) ?_|refine ED (ks:=[1]) ?_|refine D7 h hcl (λh=>?_)|refine D6 h hcl (λh=>?_)|refine au.go (l:=l++[x]) (HT (d:=d) (λh=>Lh h) hd1 hd0) (by rw [List.length_append]<;>exact Nat.le_trans (Nat.add_le_add_right hl2 _) (Nat.le_of_ble_eq_true rfl)) hc h (λn s1 U hr hm hc h=>?_) (λe s1 U hc h=>?_)|refine Ad 7 [3,5] [] ?_|refine Ad 27 [16,24,26] [] ?_|fail)
   .have hcl:Gf x=true:=by rw [hN,i0,i1];rfl
    repeat' ((conv=>whnf);first|exact C1|(refine AV ?_;intros)|(refine C2 ?_ ?_ ?_;rotate_left)|(refine Mu ?_ ?_<;>(first|intro n s1 U hr hm hc h|intro e s1 U hc h))|exact HE|refine BH (λ_=>?_)|refine AA (λe1=>?_)|refine EO ?_|refine Wm hx0 H1 ?_|refine Wm hx1 H1 ?_|refine ED (ks:=[2]) ?_|refine ED (ks:=[1]) ?_|refine D7 h hcl (λh=>?_)|refine D6 h hcl (λh=>?_)|refine au.go (l:=l++[x]) (HT (d:=d) (λh=>Lh h) hd1 hd0) (by rw [List.length_append]<;>exact Nat.le_trans (Nat.add_le_add_right hl2 _) (Nat.le_of_ble_eq_true rfl)) hc h (λn s1 U hr hm hc h=>?_) (λe s1 U hc h=>?_)|refine Ad 7 [3,5] [] ?_|refine Ad 27 [16,24,26] [] ?_|fail)
  .have hcl:Gf x=false:=by unfold Gf;rw [show (x.kids.length==2)=false by cases e:x.kids.length==2 with|true=>exact absurd (by rw [beq_iff_eq] at e;omega) h2|false=>rfl];simp
   repeat' ((conv=>whnf);first|exact C1|(refine AV ?_;intros)|(refine C2 ?_ ?_ ?_;rotate_left)|(refine Mu ?_ ?_<;>(first|intro n s1 U hr hm hc h|intro e s1 U hc h))|exact HE|refine BH (λ_=>?_)|refine AA (λe1=>?_)|refine EO ?_|refine ED (ks:=[2]) ?_|refine ED (ks:=[1]) ?_|refine D7 h hcl (λh=>?_)|refine D6 h hcl (λh=>?_)|refine au.go (l:=l++[x]) (HT (d:=d) (λh=>Lh h) hd1 hd0) (by rw [List.length_append]<;>exact Nat.le_trans (Nat.add_le_add_right hl2 _) (Nat.le_of_ble_eq_true rfl)) hc h (λn s1 U hr hm hc h=>?_) (λe s1 U hc h=>?_)|refine Ad 7 [3,5] [] ?_|refine Ad 27 [16,24,26] [] ?_|fail)
 .have hcl:Gf x=false:=by unfold Gf;rw [show (x.kind==39)=false by cases e:x.kind==39 with|true=>exact absurd (by simpa using e) hk|false=>rfl];rfl
  repeat' ((conv=>whnf);first|exact C1|(refine AV ?_;intros)|(refine C2 ?_ ?_ ?_;rotate_left)|(refine Mu ?_ ?_<;>(first|intro n s1 U hr hm hc h|intro e s1 U hc h))|exact HE|refine BH (λ_=>?_)|refine AA (λe1=>?_)|refine EO ?_|refine ED (ks:=[2]) ?_|refine ED (ks:=[1]) ?_|refine D7 h hcl (λh=>?_)|refine D6 h hcl (λh=>?_)|refine au.go (l:=l++[x]) (HT (d:=d) (λh=>Lh h) hd1 hd0) (by rw [List.length_append]<;>exact Nat.le_trans (Nat.add_le_add_right hl2 _) (Nat.le_of_ble_eq_true rfl)) hc h (λn s1 U hr hm hc h=>?_) (λe s1 U hc h=>?_)|refine Ad 7 [3,5] [] ?_|refine Ad 27 [16,24,26] [] ?_|fail)
theorem Xb (hr1:Bi enc 158 (λb=>[pv b d]) R) (hd1:Bi enc 84 (λb=>[.ptr b 0,.func 228 [] [],.int .i64 ((d:Int) - 1)]) D) (hd0:d<=100):Bi enc 91 (λb=>[pv b d]) (HZ R D):=by
 refine ⟨λ{st0 b s st rows K} hc h=>?_⟩
 simp only [HZ,Rd.wp_seq] at h
 have hmu:=hc.mu
 refine AQ Ac [] Tryz.func91 rfl IR rfl ?_
 refine Ah (Aj Ac ?_)
 repeat' ((conv=>whnf);(first|exact C1|refine AV ?_|(refine C2 ?_ ?_ ?_;rotate_left)|fail)<;>intros)
 refine Ah (Aj Ac ?_)
 repeat' ((conv=>whnf);first|exact C1|(refine AV ?_;intros)|(refine C2 ?_ ?_ ?_;rotate_left)|(refine Mu ?_ ?_<;>(first|intro n s1 U hr hm hc h|intro e s1 U hc h))|exact HE|refine BH (λ_=>?_)|refine AA (λe1=>?_)|refine uN.go (l:=[_]) (OB hr1) (Nat.le_of_ble_eq_true rfl) (hc.push _) h (λl x own1 s1 U hh hm hc h=>?_) (λe s1 U hc h=>?_)|exact Ch hc h|refine Ad 7 [3,5] [] ?_|refine Ad 19 [16,18] [] ?_|fail)
 have hl2:l.length<=3:=JN hh
 refine Aj Ac ?_
 by_cases hk:x.kind=39
 .by_cases h2:(x.kids.length:Int)=2
  .have h2':x.kids.length=2:=H1
   obtain ⟨y0,hx0⟩:∃y,x.kids[((0:Int)).toNat]? =some y:=⟨_,List.getElem?_eq_getElem (show 0<x.kids.length by omega)⟩
   obtain ⟨y1,hx1⟩:∃y,x.kids[((1:Int)).toNat]? =some y:=⟨_,List.getElem?_eq_getElem (show 1<x.kids.length by omega)⟩
   have hy0:x.kids[0]? =some y0:=hx0
   have hy1:x.kids[1]? =some y1:=hx1
   have hN:Ih x=BR y0 [2,4]:=by unfold Ih;rw [hk,h2',hy0];rfl
   cases i0:BR y0 [2,4]
   .have hcl:Ih x=false:=by rw [hN,i0]
    repeat' ((conv=>whnf);first|exact C1|(refine AV ?_;intros)|(refine C2 ?_ ?_ ?_;rotate_left)|(refine Mu ?_ ?_<;>(first|intro n s1 U hr hm hc h|intro e s1 U hc h))|exact HE|refine BH (λ_=>?_)|refine AA (λe1=>?_)|refine EO ?_|refine Wm hx0 H1 ?_|refine Wm hx1 H1 ?_|refine ED (ks:=[2,4]) ?_|refine ED (ks:=[1]) ?_|refine D7 h hcl (λh=>?_)|refine D6 h hcl (λh=>?_)|refine au.go (l:=l++[x]) (HT (d:=d) (λh=>IV h) hd1 hd0) (by rw [List.length_append]<;>exact Nat.le_trans (Nat.add_le_add_right hl2 _) (Nat.le_of_ble_eq_true rfl)) hc h (λn s1 U hr hm hc h=>?_) (λe s1 U hc h=>?_)|refine Ad 7 [3,5] [] ?_|refine Ad 19 [16,18] [] ?_|fail)
   .have hcl:Ih x=true:=by rw [hN,i0]
    repeat' ((conv=>whnf);first|exact C1|(refine AV ?_;intros)|(refine C2 ?_ ?_ ?_;rotate_left)|(refine Mu ?_ ?_<;>(first|intro n s1 U hr hm hc h|intro e s1 U hc h))|exact HE|refine BH (λ_=>?_)|refine AA (λe1=>?_)|refine EO ?_|refine Wm hx0 H1 ?_|refine Wm hx1 H1 ?_|refine ED (ks:=[2,4]) ?_|refine ED (ks:=[1]) ?_|refine D7 h hcl (λh=>?_)|refine D6 h hcl (λh=>?_)|refine au.go (l:=l++[x]) (HT (d:=d) (λh=>IV h) hd1 hd0) (by rw [List.length_append]<;>exact Nat.le_trans (Nat.add_le_add_right hl2 _) (Nat.le_of_ble_eq_true rfl)) hc h (λn s1 U hr hm hc h=>?_) (λe s1 U hc h=>?_)|refine Ad 7 [3,5] [] ?_|refine Ad 19 [16,18] [] ?_|fail)
  .have hcl:Ih x=false:=by unfold Ih;rw [show (x.kids.length==2)=false by cases e:x.kids.length==2 with|true=>exact absurd (by rw [beq_iff_eq] at e;omega) h2|false=>rfl];simp
   repeat' ((conv=>whnf);first|exact C1|(refine AV ?_;intros)|(refine C2 ?_ ?_ ?_;rotate_left)|(refine Mu ?_ ?_<;>(first|intro n s1 U hr hm hc h|intro e s1 U hc h))|exact HE|refine BH (λ_=>?_)|refine AA (λe1=>?_)|refine EO ?_|refine ED (ks:=[2,4]) ?_|refine ED (ks:=[1]) ?_|refine D7 h hcl (λh=>?_)|refine D6 h hcl (λh=>?_)|refine au.go (l:=l++[x]) (HT (d:=d) (λh=>IV h) hd1 hd0) (by rw [List.length_append]<;>exact Nat.le_trans (Nat.add_le_add_right hl2 _) (Nat.le_of_ble_eq_true rfl)) hc h (λn s1 U hr hm hc h=>?_) (λe s1 U hc h=>?_)|refine Ad 7 [3,5] [] ?_|refine Ad 19 [16,18] [] ?_|fail)
 .have hcl:Ih x=false:=by unfold Ih;rw [show (x.kind==39)=false by cases e:x.kind==39 with|true=>exact absurd (by simpa using e) hk|false=>rfl];rfl
  repeat' ((conv=>whnf);first|exact C1|(refine AV ?_;intros)|(refine C2 ?_ ?_ ?_;rotate_left)|(refine Mu ?_ ?_<;>(first|intro n s1 U hr hm hc h|intro e s1 U hc h))|exact HE|refine BH (λ_=>?_)|refine AA (λe1=>?_)|refine EO ?_|refine ED (ks:=[2,4]) ?_|refine ED (ks:=[1]) ?_|refine D7 h hcl (λh=>?_)|refine D6 h hcl (λh=>?_)|refine au.go (l:=l++[x]) (HT (d:=d) (λh=>IV h) hd1 hd0) (by rw [List.length_append]<;>exact Nat.le_trans (Nat.add_le_add_right hl2 _) (Nat.le_of_ble_eq_true rfl)) hc h (λn s1 U hr hm hc h=>?_) (λe s1 U hc h=>?_)|refine Ad 7 [3,5] [] ?_|refine Ad 19 [16,18] [] ?_|fail)
end
theorem eo {a b:Bool} {Q:Prop}:(if (if a=true then true else b)=true then P else Q)=if a=true then P else if b=true then P else Q:=by cases a<;>cases b<;>simp
section
variable {st0 st:St} {b d:Nat} {s:Af} {rows:List (Ay×List Nd)} {K:AD->St->Prop} {A B R W F D E:Rd Nd}
attribute [local irreducible] Go.Aw.Ai
theorem oO {k k':Int} {x':List UInt8} {E:Er->Af->Prop} (hc:Cx st0 b s st rows) (h:if AP (Aa s).2.1 k' x'=true then P else AB.wp s Q E) (e:AP s k x=true) (U:k≠0/\k≠21) (kk:∀st',mu (Aa s).2.1<mu s->Cx st0 b (Aa s).2.1 st' rows->K (.ret (enc (AJ (Aa s).1))) st'):PC 121 [.ptr b 0] st K:=
 Nu hc.has hc.hb (λ_ st' hu=>kk st' (C6 e U.1 U.2) (hc.PD hu (Nat.le_of_lt (C6 e U.1 U.2)))) (λn=>absurd (Fp e U.1) n)
theorem lZ {s0:Af} (hc:Cx st0 b s st rows) (U:mu (Aa s0).2.1<mu s0) (hb:mu s0<=100000000) (k:∀st',Cx st0 b s0 st' rows->K (.ret (.Bl [])) st'):PC 72 [.ptr b 0,.agg s0.cells] st K:=He hc hb k
theorem yh {k U:Int} {y:List UInt8} {E:Er->Af->Prop} (hc:Cx st0 b (Aa s).2.1 st rows) (h:if AP (Aa s).2.1 k x=true then P else AB.wp s Q E) (e:AP s U y=true) (hk:U≠0)
 (k1:∀st',Cx st0 b (Aa s).2.1 st' rows->P->K (.ret (.bool true)) st') (U:∀st',Cx st0 b (Aa s).2.1 st' rows->Q (AJ (Aa s).1) (Aa s).2.1->K (.ret (.bool false)) st'):PC 156 [.ptr b 0,.int .i64 k,.str x] st K:=by
 refine ma hc h (λst' c _ p=>k1 st' c p) (λst' c _ q=>U st' c ?_)
 unfold Rd.wp at q
 rw [C8 (Fp e hk)] at q
 exact q
theorem xK {p:Prop} (e:AP s 1 x=true) (k:(Aa s).1.kind=14):p:=by
 unfold AP at e
 rw [k] at e
 cases e
theorem oZ:Bi enc 120 (λb=>[pv b d,.bool o]) (PX o):=by
 refine ⟨λ{st0 b s st rows K} hc h=>?_⟩
 have hmu:=hc.mu
 refine pB Tryz.func120 ?_
 cases o
 all_goals simp only [PX,YA,Yz,Bool.false_eq_true,if_false,if_true,Rd.Ag,Rd.Ao,Rd.wp_seq,Rd.wp_ret] at h
 .skip
  repeat' ((conv=>whnf);first|refine E3 h (λe h=>?_) (λe h=>?_)|exact C1|(refine AV ?_;intros)|(refine C2 ?_ ?_ ?_;rotate_left)|(refine fN ?_;intro U hc)|(refine Xm ?_ ?_<;>intro U hc e h)|(refine Ts ?_;intro s1 U hz hm hc h)|(refine Mu ?_ ?_<;>(first|intro n s1 U hr hm hc h|intro e s1 U hc h))|exact HE|refine Tq ?_|refine AA (λe1=>?_)|refine Cx.uV (l:=[1]) (new:=[3]) hc (Nat.le_of_ble_eq_true rfl) (λown1 U hc=>?_)|refine Cx.uV (l:=[2]) (new:=[4]) hc (Nat.le_of_ble_eq_true rfl) (λown1 U hc=>?_)|refine Cx.uV (l:=[5,6]) (new:=[7,8]) hc (Nat.le_of_ble_eq_true rfl) (λown1 U hc=>?_)|refine Bi.go (E8 (ks:=Nb false) rfl) hc h (λn s1 U hr hm hc h=>?_) (λe s1 U hc h=>?_)|refine Bi.go (E8 (ks:=S2 false) rfl) hc h (λn s1 U hr hm hc h=>?_) (λe s1 U hc h=>?_)|refine Bi.go (Iy (ks:=ZJ false) rfl) hc h (λn s1 U hr hm hc h=>?_) (λe s1 U hc h=>?_)|refine Cx.BE (l:=[_]) (hc.push [_]) (Nat.le_of_ble_eq_true rfl) (λown1 U hc=>?_)|refine Cx.uU (l:=[_,_]) hc (Nat.le_of_ble_eq_true rfl) (λown1 U hc=>?_)|refine Ka (l:=[_,_]) (fs:=[pv b d]) (cs:=[]) Te.z (Nat.le_of_ble_eq_true rfl) hc h (λl own1 s1 U hm hc h=>?_) (λe s1 U hc h=>?_)|refine Az [1,3,7,9,11,4,12,15,16,18] [1] ?_|refine Az [1,3,5,9,11,6,12,15,16,18,20] [1] ?_|fail)
 .skip
  repeat' ((conv=>whnf);first|refine E3 h (λe h=>?_) (λe h=>?_)|exact C1|(refine AV ?_;intros)|(refine C2 ?_ ?_ ?_;rotate_left)|(refine fN ?_;intro U hc)|(refine Xm ?_ ?_<;>intro U hc e h)|(refine Ts ?_;intro s1 U hz hm hc h)|(refine Mu ?_ ?_<;>(first|intro n s1 U hr hm hc h|intro e s1 U hc h))|exact HE|refine Tq ?_|refine AA (λe1=>?_)|refine Bi.go (E8 (ks:=Nb true) rfl) hc h (λn s1 U hr hm hc h=>?_) (λe s1 U hc h=>?_)|refine Bi.go (E8 (ks:=S2 true) rfl) hc h (λn s1 U hr hm hc h=>?_) (λe s1 U hc h=>?_)|refine Bi.go (Iy (ks:=ZJ true) rfl) hc h (λn s1 U hr hm hc h=>?_) (λe s1 U hc h=>?_)|refine Cx.BE (l:=[_]) (hc.push [_]) (Nat.le_of_ble_eq_true rfl) (λown1 U hc=>?_)|refine Cx.uU (l:=[_,_]) hc (Nat.le_of_ble_eq_true rfl) (λown1 U hc=>?_)|refine Ka (l:=[_,_]) (fs:=[pv b d]) (cs:=[]) Te.z (Nat.le_of_ble_eq_true rfl) hc h (λl own1 s1 U hm hc h=>?_) (λe s1 U hc h=>?_)|refine Az [1,3,7,9,11,4,12,15,16,18] [1] ?_|refine Az [1,3,5,9,11,6,12,15,16,18,20] [1] ?_|fail)
theorem jt:Bi enc 49 (λb=>[pv b d,.bool o]) (Pf o):=by
 refine ⟨λ{st0 b s st rows K} hc h=>?_⟩
 simp only [Pf,Rd.wp_seq,Rd.wp_ret] at h
 have hmu:=hc.mu
 refine pB Tryz.func49 ?_
 repeat' ((conv=>whnf);(first|refine AV ?_|refine Xm ?_ ?_|refine Ts ?_|refine Mu ?_ ?_|exact HE|refine Tq ?_|refine UZ ?_|fail)<;>intros)
 refine CZ (λl own=>[(5,.slice 6 (l.map Ap) own)]) (λ_ _=>[]) [1,2,4] [0,1] (λl own=>(own,l)::rows) (λl=>l.length) .full (Cx.push ‹_› _) ‹_› (by show 1+_<=_;omega) Yl ?_
 intro l s1 st1 U hc h hl hm1
 simp only [Nh,aP,Rd.Ag,Rd.Ao,Rd.wp_seq,Rd.wp_ret,Rd.AO] at h
 repeat' ((conv=>whnf);(first|refine AV ?_|refine Xm ?_ ?_|refine Ts ?_|refine Mu ?_ ?_|exact HE|refine Tq ?_|refine UZ ?_|refine GJ.go (by first|  exact (oZ (o:=o)).a) ?_ ?_)<;>intros)
theorem ZN:Bi enc 86 (λb=>[pv b d]) JP:=by
 refine ⟨λ{st0 b s st rows K} hc h=>?_⟩
 simp only [JP,QJ,QK,QL,Rd.Ag,Rd.Ao,Rd.wp_seq,Rd.wp_ret] at h
 have U:=hc.mu
 refine pB Tryz.func86 ?_
 repeat' ((conv=>whnf);(first|refine AV ?_|refine Xm ?_ ?_|refine Ts ?_|refine Mu ?_ ?_|exact HE|refine Tq ?_|refine UZ ?_|refine GJ.go (by first|  exact (E8 (ks:=[2,4]) rfl).a|exact (jt (o:=true)).a) ?_ ?_|refine Cx.BE (l:=[_]) (Cx.push ‹_› [_]) (Nat.le_of_ble_eq_true rfl) ?_)<;>intros)
theorem ZM (hf:Bi enc 173 (λb=>[pv b d]) F):Bi enc 93 (λb=>[pv b d]) (JJ F):=by
 refine ⟨λ{st0 b s st rows K} hc h=>?_⟩
 simp only [JJ,Lo,Sf,JI,Lp,Rd.Ag,Rd.Ao,Rd.wp_seq,Rd.wp_ret,eo] at h
 have U:=hc.mu
 refine pB Tryz.func93 ?_
 repeat' ((conv=>whnf);(first|exact xK ‹_› ‹_›|refine yh ‹_› ‹_› ‹_› IR ?_ ?_|refine oO ‹_› ‹_› ‹_› IR ?_|refine AV ?_|refine Ej ?_ ?_|refine fN ?_|refine Xm ?_ ?_|refine Ts ?_|refine Mu ?_ ?_|refine zB ?_|exact HE|refine Tq ?_|refine UZ ?_|refine GJ.go (by first|exact Bi.q|exact (E8 (ks:=[1]) rfl).a|exact PA.a) ?_ ?_|refine Rq (Cx.has ‹_›) ?_ ?_|refine lZ ‹_› ‹_› H1 ?_|refine Cx.BE (l:=[_]) (Cx.push ‹_› [_]) (Nat.le_of_ble_eq_true rfl) ?_)<;>intros)
theorem W7 (hw:Bi enc 161 (λb=>[pv b d]) W):Bi enc 92 (λb=>[pv b d]) (HX W):=by
 refine ⟨λ{st0 b s st rows K} hc h=>?_⟩
 simp only [HX,Rd.wp_seq,Rd.wp_ret] at h
 have hmu:=hc.mu
 refine pB Tryz.func92 ?_
 repeat' ((conv=>whnf);first|exact C1|(refine C2 ?_ ?_ ?_;rotate_left)|(refine Mu ?_ ?_<;>(first|intro n s1 U hr hm hc h|intro e s1 U hc h))|exact HE|refine Tq ?_|refine AA (λe1=>?_)|refine Ka (l:=[_,_]) (fs:=[pv b d]) (cs:=[]) hw.z (Nat.le_of_ble_eq_true rfl) (hc.push _) h (λl own1 s1 U hm hc h=>?_) (λe s1 U hc h=>?_)|refine Az [1,3,7,9,4,10,13,15] [] ?_|fail)
end
end Go.Proofs.Z
