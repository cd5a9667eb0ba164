/-
  Parts of a proof: lemmas that the last text uses.
-/
import Derived.Test.YtpaiiicnhgoijaaGreatDoorT4
set_option linter.unusedVariables false
set_option linter.unusedSimpArgs false
set_option maxHeartbeats 16000000
variable {A Y:Go.Proofs.Z.Af->Go.Proofs.Z.Rs} {s:Go.Proofs.Z.Af} {l:List Go.Aw.Nd} {x w:List UInt8} {f g:Go.FuncId} {d e deep i:Int} {R:Go.Aw.AD->Go.Aw.St->Prop} {n1 n:Go.Aw.Nd} {t:Go.Proofs.Z.Tk} {b:Nat} {K:List Go.Aw.V->Prop} {args cs:List Go.Aw.V} {r':Go.Aw.AD} {env:Go.Aw.Env} {α:Type} {P B:Prop} {Q:Go.Aw.AG->Go.Aw.Env->Go.Aw.St->Prop} {stmt:Go.Proofs.Z.Rd Go.Aw.Nd}
namespace Go.Proofs.Z
open Go Go.Aw
def rn:Rs->Nd
 | .inr p=>p.1
 | .inl _=>BC
def rs:Rs->Af
 | .inr p=>p.2
 | .inl p=>p.2
def re:Rs->Int
 | .inr _=>0
 | .inl p=>p.1
theorem Cs (q:Rs):F3 q=Ax (rn q) (rs q) (re q):=by cases q<;>rfl
theorem Ig (hB:C4 A) (h:re (A s)=0):A s=.inr (rn (A s),rs (A s)):=by
 cases U:A s with
 |inl p=>obtain ⟨e,s'⟩:=p;rw [U] at h;exact absurd h (hB _ _ _ U)
 |inr p=>rfl
theorem Jo {q:Rs} (h:¬re q=0):q=.inl (re q,rs q):=by
 cases q with
 |inl p=>rfl
 |inr p=>exact absurd rfl h
theorem SQ {q:Rs} (h:¬re q=0):rn q=BC:=by rw [Jo h];rfl
theorem MI (U:C4 A) (hF:AZ A) (h:re (A s)=0):mu (rs (A s))<mu s:=hF _ _ _ (Ig U h)
def Iz (Y:Af->Rs) (l:List Nd) (s:Af):Ls:=match Y s with
 | .inl e=>.inl e
 | .inr q=>CU Y (l++[q.1]) q.2
theorem PB (U:C4 Y) (h:re (Y s)=0):Iz Y l s=CU Y (l++[rn (Y s)]) (rs (Y s)):=by
 unfold Iz
 rw [Ig U h]
 rfl
theorem cZ (h:¬re (Y s)=0):Iz Y l s=.inl (re (Y s),rs (Y s)):=by
 unfold Iz
 rw [Jo h]
 rfl
def LH (Y:Af->Rs) (n:Nd) (s:Af):Rs:=
 if AP s 10 [45,62] then Ek 3 [n,AJ (Aa s).1] (Aa s).2.1 [41]
 else if AP s 15 [41] then Ek 3 [n] s [41]
 else if AP s 15 [44] then Ek 3 (CK [n] s).1 (CK [n] s).2 [41]
 else match Iz Y [n] s with
  | .inl e=>.inl e
  | .inr r=>Ek (if 2<r.1.length then 5 else 4) r.1 r.2 [41]
theorem nP:G1 Y s=match CP s with
 | .inl e=>.inl e
 | .inr p=>LH Y p.1 p.2:=by
 unfold G1 LH Iz
 grind
theorem pj (U:AZ Y) (h:AP s 15 [44]=true):CU Y l s=Iz Y (l++[AJ (Aa s).1]) (Aa s).2.1:=by
 rw [CU,if_pos h]
 unfold Iz
 cases hq:Y (Aa s).2.1 with
 |inl e=>rfl
 |inr p=>
  have h1:=U _ _ _ hq
  have h2:=C6 h IR IR
  grind
theorem ZZ (h:AP s 15 [44]=false):CU Y l s=.inr (l,s):=by
 rw [CU,if_neg lm]
theorem dQ {k:Int} (h:re (DB s 15 x)=0):Ek k l s x=.inr (Al k (l++[rn (DB s 15 x)]),rs (DB s 15 x)):=by
 unfold Ek
 rw [Ig LR h]
 rfl
theorem XZ {k:Int} (h:¬re (DB s 15 x)=0):F3 (Ek k l s x)=Ax (rn (DB s 15 x)) (rs (DB s 15 x)) (re (DB s 15 x)):=by
 unfold Ek
 rw [Jo h]
 rfl
def EF (f:FuncId) (d:Int) (A:Af->Rs):Prop:=∀s,mu s<=100000000->∀(st:St) (R:AD->St->Prop),R (.ret (F3 (A s))) st->PC f [Am s,.int .i64 d] st R
theorem EF.q {x:Int} (h:EF f d A) (hx:x=d) (U:mu s<=100000000) {st:St} (k:R (.ret (Ax (rn (A s)) (rs (A s)) (re (A s)))) st):PC f [Am s,.int .i64 x] st R:=by
 subst hx;exact h s U st R (by rw [Cs];exact k)
section
variable {st:St} {R:AD->St->Prop}
attribute [local irreducible] Go.Aw.Ai
theorem fo {k:Int} (U:k≠0) (hb:s.Cf.length<=500000000) (h:R (.ret (Ax (rn (DB s k x)) (rs (DB s k x)) (re (DB s k x)))) st):PC 75 [Am s,.int .i64 k,.str x] st R:=Ov U hb (by rw [Cs];exact h)
theorem gq {own:Ay} (U:own.B5 st) (hn:l.length+1<=1000000000) (hb:s.Cf.length<=500000000) (h:R (.ret (Ax (rn (Ek 3 l s [41])) (rs (Ek 3 l s [41])) (re (Ek 3 l s [41])))) st):
 PC 367 [.slice 6 (l.map Ap) own,Am s] (own.st st (l.length*6)) R:=gp U hn hb (by rw [Cs];exact h)
theorem XG {q:Rs} (hq:Ek 3 (CK [n1] s).1 (CK [n1] s).2 [41]=q) (U:mu s<=100000000) (h:R (.ret (Ax (rn q) (rs q) (re q))) st):
 PC 366 [.slice 6 [Ap n1] .full,Am s] st R:=ld U (by rw [Cs,hq];exact h)
theorem oe {d:Nat} {x:Int} (hx:x=((d+1:Nat):Int)) (hd:d<=1000000) (hY:EF 99 d Y) (hB:C4 Y) (hF:AZ Y) (hm:mu s<=100000000) (h:R (.ret (F3 (LH Y n1 s))) st):
 PC 306 [.slice 6 [Ap n1] .full,Am s,.int .i64 x] st R:=by
 refine pB Tryz.func306 ?_
 have hb:=BT hm
 have hn1:[n1].length+1<=1000000000:=by show 1+1<=1000000000;decide
 have hn3:∀y:Nd,([n1]++[y]).length+1<=1000000000:=λy=>by simp_all
 unfold LH at h
 cases hA:AP s 10 [45,62] with
 |true=>
  have hC:AP s 15 [41]=false:=by unfold AP at hA |-;simp only [Bool.and_eq_true,beq_iff_eq] at hA;rw [hA.1];rfl
  have hE:AP s 15 [44]=false:=by unfold AP at hA |-;simp only [Bool.and_eq_true,beq_iff_eq] at hA;rw [hA.1];rfl
  rw [if_pos hA] at h
  have hb2:(Aa s).2.1.Cf.length<=500000000:=BT (by have:=C6 hA IR IR;omega)
  repeat' ((conv=>whnf);first|(refine Bc ?_;intros)|(refine CD ?_ ?_<;>intro _)|refine EY hC IR hb ?_|refine EY hE IR hb ?_|refine EY hA IR hb ?_|refine Eu (DK hA IR) hb ?_|refine D8 (l:=[n1]) (x:=AJ (Aa s).1) (own:=.full) trivial hn1 (λown1 ho1=>?_)|refine gq (own:=own1) (l:=[n1]++[AJ (Aa s).1]) ho1 (hn3 _) hb2 ?_)
  rw [Cs] at h
  all_goals exact AU rfl h
 |false=>
  rw [if_neg lm] at h
  cases hC:AP s 15 [41] with
  |true=>
   have hE:AP s 15 [44]=false:=by unfold AP at hC |-;simp only [Bool.and_eq_true,beq_iff_eq] at hC;rw [hC.2];simp
   rw [if_pos hC] at h
   rw [Cs] at h
   have hq:Ek 3 (CK [n1] s).1 (CK [n1] s).2 [41]=Ek 3 [n1] s [41]:=by rw [M1 hE]
   repeat' ((conv=>whnf);first|(refine Bc ?_;intros)|(refine CD ?_ ?_<;>intro _)|refine EY hC IR hb ?_|refine XG hq hm ?_)
   all_goals exact AU rfl h
  |false=>
   rw [if_neg lm] at h
   cases hE:AP s 15 [44] with
   |true=>
    rw [if_pos hE] at h
    rw [Cs] at h
    repeat' ((conv=>whnf);first|(refine Bc ?_;intros)|(refine CD ?_ ?_<;>intro _)|refine EY hC IR hb ?_|refine EY hE IR hb ?_|refine XG rfl hm ?_)
    all_goals exact AU rfl h
   |false=>
    rw [if_neg lm] at h
    repeat' ((conv=>whnf);first|(refine Bc ?_;intros)|(refine CD ?_ ?_<;>intro _)|refine EY hC IR hb ?_|refine EY hE IR hb ?_|refine EY hA IR hb ?_)
    refine Gr (α:=List Nd×Af×Ay×Int) (λx=>[(0,.slice 6 (x.1.map Ap) x.2.2.1),(8,.int .i64 x.2.2.2)]) [2,4,6] (λx=>[(0,x.2.1.cells)]) [1] (λx=>x.2.2.1.st st (x.1.length*6))
     (λx=>x.2.2.1.B5 st/\mu x.2.1<=mu s/\x.1.length+2*mu x.2.1<=400000000/\1<=x.1.length/\x.2.2.2=(if 1<x.1.length then 5 else 4)/\Iz Y x.1 x.2.1=Iz Y [n1] s) (λx=>mu x.2.1) ([n1],s,.full,4)
     ⟨trivial,Nat.le_refl _,GT,Nat.le_refl _,rfl,rfl⟩ Yl (St.le_refl _) ?_
    rintro ⟨l,U,own,kd⟩ ⟨j1,j2,j3,j4,j5,j6⟩
    dsimp only at j1 j2 j3 j4 j5 j6
    have hm3:mu U<=100000000:=H1
    have hn:l.length+1<=1000000000:=H1
    have hn2:∀y:Nd,(l++[y]).length+1<=1000000000:=λy=>by grind
    have hd4:re (Y U)=0->mu (rs (Y U))<mu U:=MI hB hF
    have hm4:re (Y U)=0->mu (rs (Y U))<=100000000:=λe=>by omega
    rw [<-j6] at h
    repeat' ((conv=>whnf);first|(refine Bc ?_;intros)|(refine CD ?_ ?_<;>intro _)|refine hY.q H1 hm3 ?_|refine D8 (l:=l) (x:=rn (Y U)) j1 hn (λown1 ho1=>?_)|refine eV (s:=rs (Y U)) IR (BT (hm4 ‹_›)) ?_|refine Eu (DK ‹_› IR) (BT (hm4 ‹_›)) ?_|refine D8 (l:=l++[rn (Y U)]) (x:=AJ (Aa (rs (Y U))).1) ho1 (hn2 _) (λown2 ho2=>?_)|refine fo (s:=rs (Y U)) IR (BT (hm4 ‹_›)) ?_|refine D8 (l:=l++[rn (Y U)]) (x:=rn (DB (rs (Y U)) 15 [41])) ho1 (hn2 _) (λown2 ho2=>?_))
    all_goals conv=>whnf
    .have hp:AP (rs (Y U)) 15 [44]=true:=Nm
     have hy:re (Y U)=0:=Nm
     have k1:=hd4 hy
     have k2:=C6 hp IR IR
     refine ⟨(l++[rn (Y U)]++[AJ (Aa (rs (Y U))).1],(Aa (rs (Y U))).2.1,own2,5),⟨ho2,GT,?_,?_,?_,?_⟩,GT,Yl,St.le_refl _⟩
     .grind
     .simp_all
     .simp_all
     .show Iz Y (l++[rn (Y U)]++[AJ (Aa (rs (Y U))).1]) (Aa (rs (Y U))).2.1=_
      rw [<-j6,PB hB hy,pj hF hp]
    .have hy:re (Y U)=0:=Nm
     have hw:re (DB (rs (Y U)) 15 [41])=0:=Nm
     rw [PB hB hy,ZZ H1] at h
     dsimp only at h
     rw [dQ hw] at h
     have hk:(if 2<(l++[rn (Y U)]).length then (5:Int) else 4)=kd:=by
      rw [j5,List.length_append,List.length_singleton]
      split<;>split<;>omega
     rw [hk] at h
     exact CS (Ay.Bj ho2) Ak h
    .have hy:re (Y U)=0:=Nm
     rw [PB hB hy,ZZ H1] at h
     dsimp only at h
     rw [XZ H1] at h
     exact CS (Ay.Bj ho1) rfl h
    .have hy:¬re (Y U)=0:=Nm
     rw [cZ hy] at h
     have h:R (.ret (Ax BC (rs (Y U)) (re (Y U)))) st:=h
     rw [<-SQ hy] at h
     exact CS (Ay.Bj j1) rfl h
end
section
variable {st:St} {R:AD->St->Prop}
attribute [local irreducible] Go.Aw.Ai
theorem G2 {v:Bool} (e:Ca t=v) (h:R (.ret (.bool v)) st):PC 233 [DP t] st R:=Uw lm
theorem wo (hb:s.Cf.length<=500000000) (h:R (.ret (Ax (rn (Ql s)) (rs (Ql s)) (re (Ql s)))) st):PC 106 [Am s] st R:=V4 hb (by rw [Cs];exact h)
theorem og {d:Nat} {x:Int} (hx:x=((d+1:Nat):Int)) (hd:d<=1000000) (hY:EF 99 d Y) (U:C4 Y) (hF:AZ Y) (hm:mu s<=100000000) (h:R (.ret (Ax (rn (LH Y n1 s)) (rs (LH Y n1 s)) (re (LH Y n1 s)))) st):
 PC 306 [.slice 6 [Ap n1] .full,Am s,.int .i64 x] st R:=oe hx hd hY U hF hm (by rw [Cs];exact h)
theorem sT (h:(Aa s).2.2=0):CP s=.inr (AJ (Aa s).1,(Aa s).2.1):=by unfold CP;simp_all
theorem fz (h:¬(Aa s).2.2=0):CP s=.inl ((Aa s).2.2,s):=by unfold CP;simp_all
theorem ky (h:¬(Aa s).2.2=0):BN Y s=CP s:=by
 unfold BN
 rw [SA h,if_neg IR,fz h]
 unfold Ql OO
 simp_all
theorem eN {d:Nat} {x:Int} (hx:x=((d+1:Nat):Int)) (hd:d<=1000000) (hY:EF 99 d Y) (hB:C4 Y) (hF:AZ Y):EF 232 x (BN Y):=by
 intro s hm st R h
 refine pB Tryz.func232 ?_
 have hb:=BT hm
 rw [Cs] at h
 by_cases ht:(Aa s).2.2=0
 .have hq:=sT ht
  have hm1:mu (Aa s).2.1<=100000000:=by have:=(De ht).1;omega
  have hb1:=BT hm1
  cases U:Ca (Aa s).1 with
  |false=>
   have e:BN Y s=Ql s:=by unfold BN;rw [if_neg lm]
   rw [e] at h
   repeat' ((conv=>whnf);first|(refine Bc ?_;intros)|(refine CD ?_ ?_<;>intro _)|refine Eu hq hb ?_|refine KN hb ?_|refine G2 U ?_|refine wo hb ?_)
   all_goals exact AU rfl h
  |true=>
   by_cases hk:(Aa s).1.kind=15
   .have hk1:(AJ (Aa s).1).form=15:=hk
    by_cases ho:(Aa s).1.text=[40]
    .have ho1:(AJ (Aa s).1).text=[40]:=ho
     have e:BN Y s=LH Y (AJ (Aa s).1) (Aa s).2.1:=by
      unfold BN;rw [if_pos U,if_pos hk,if_pos ho,nP,hq]
     rw [e] at h
     repeat' ((conv=>whnf);first|(refine Bc ?_;intros)|(refine CD ?_ ?_<;>intro _)|refine Eu hq hb ?_|refine KN hb ?_|refine G2 U ?_|refine og (n1:=AJ (Aa s).1) hx hd hY hB hF hm1 ?_)
     all_goals exact AU rfl h
    .have hsq:(Aa s).1.text=[91]:=by
      unfold Ca at U
      simp only [hk] at U
      simp at U
      exact U.resolve_left ho
     have hs1:(AJ (Aa s).1).text=[91]:=hsq
     have hs2:¬(AJ (Aa s).1).text=[40]:=ho
     have e:BN Y s=Ff Y s:=by
      unfold BN;rw [if_pos U,if_pos hk,if_neg ho]
     rw [e] at h
     unfold Ff at h
     rw [hq] at h
     dsimp only at h
     have hn1:[AJ (Aa s).1].length+1<=1000000000:=by show 1+1<=1000000000;decide
     have hn2:∀y:Nd,([AJ (Aa s).1]++[y]).length+1<=1000000000:=λy=>by simp_all
     cases hC:AP (Aa s).2.1 15 [93] with
     |true=>
      rw [if_pos hC] at h
      have hw:DB (Aa s).2.1 15 [93]=.inr (AJ (Aa (Aa s).2.1).1,(Aa (Aa s).2.1).2.1):=by unfold DB;rw [if_pos hC,DK hC IR]
      repeat' ((conv=>whnf);first|(refine Bc ?_;intros)|(refine CD ?_ ?_<;>intro _)|refine Eu hq hb ?_|refine KN hb ?_|refine G2 U ?_|refine EY hC IR hb1 ?_|refine Ow hw IR hb1 ?_|refine D8 (l:=[AJ (Aa s).1]) (x:=AJ (Aa (Aa s).2.1).1) (own:=.full) trivial hn1 (λown1 ho1=>?_))
      all_goals exact CS (Ay.Bj ho1) (Ak (l:=[AJ (Aa s).1]++[AJ (Aa (Aa s).2.1).1])) h
     |false=>
      rw [if_neg lm] at h
      have hd4:re (Y (Aa s).2.1)=0->mu (rs (Y (Aa s).2.1))<mu (Aa s).2.1:=MI hB hF
      have hm4:re (Y (Aa s).2.1)=0->mu (rs (Y (Aa s).2.1))<=100000000:=λe=>by omega
      repeat' ((conv=>whnf);first|(refine Bc ?_;intros)|(refine CD ?_ ?_<;>intro _)|refine Eu hq hb ?_|refine KN hb ?_|refine G2 U ?_|refine EY hC IR hb1 ?_|refine hY.q H1 hm1 ?_|refine fo (s:=rs (Y (Aa s).2.1)) IR (BT (hm4 ‹_›)) ?_|refine D8 (l:=[AJ (Aa s).1]) (x:=rn (Y (Aa s).2.1)) (own:=.full) trivial hn1 (λown1 ho1=>?_)|refine D8 (l:=[AJ (Aa s).1]++[rn (Y (Aa s).2.1)]) (x:=rn (DB (rs (Y (Aa s).2.1)) 15 [93])) ho1 (hn2 _) (λown2 ho2=>?_))
      .rw [Ig hB H1] at h
       dsimp only at h
       rw [<-Cs] at h
       have h:R (.ret (F3 (Ek 6 ([AJ (Aa s).1]++[rn (Y (Aa s).2.1)]) (rs (Y (Aa s).2.1)) [93]))) st:=h
       rw [dQ H1] at h
       exact CS (Ay.Bj ho2) Ak h
      .rw [Ig hB H1] at h
       dsimp only at h
       rw [<-Cs] at h
       have h:R (.ret (F3 (Ek 6 ([AJ (Aa s).1]++[rn (Y (Aa s).2.1)]) (rs (Y (Aa s).2.1)) [93]))) st:=h
       rw [XZ H1] at h
       exact CS (Ay.Bj ho1) rfl h
      .have hy:¬re (Y (Aa s).2.1)=0:=Nm
       rw [<-Cs,Jo hy] at h
       have h:R (.ret (Ax BC (rs (Y (Aa s).2.1)) (re (Y (Aa s).2.1)))) st:=h
       rw [<-SQ hy] at h
       exact AU rfl h
   .have hk1:¬(AJ (Aa s).1).form=15:=hk
    have e:BN Y s=CP s:=by
     unfold BN;rw [if_pos U,if_neg hk]
    rw [e,hq] at h
    repeat' ((conv=>whnf);first|(refine Bc ?_;intros)|(refine CD ?_ ?_<;>intro _)|refine Eu hq hb ?_|refine KN hb ?_|refine G2 U ?_)
    all_goals exact AU rfl h
 .have hq:=fz ht
  rw [ky ht,hq] at h
  repeat' ((conv=>whnf);first|(refine Bc ?_;intros)|(refine CD ?_ ?_<;>intro _)|refine Eu hq hb ?_)
  all_goals exact AU rfl h
def SR (A:Af->Rs) (l:List Nd) (q:Rs):Ls:=match q with
 | .inl e=>.inl e
 | .inr p=>GL A (l++[p.1]) p.2
theorem wD (U:AZ A) (h:Ca (Aa s).1=true):GL A l s=SR A l (A s):=by
 rw [GL,if_pos h]
 unfold SR
 cases hq:A s with
 |inl e=>rfl
 |inr p=>dsimp only;rw [if_pos (U _ _ _ hq)]
theorem nT (h:Ca (Aa s).1=false):GL A l s=.inr (l,s):=by
 rw [GL,if_neg lm]
theorem Wd (U:C4 A) (h:re (A s)=0):SR A l (A s)=GL A (l++[rn (A s)]) (rs (A s)):=by
 unfold SR
 rw [Ig U h]
 rfl
theorem nU {q:Rs} (h:¬re q=0):SR A l q=.inl (re q,rs q):=by
 unfold SR
 rw [Jo h]
 rfl
theorem oh (ha:EF 232 d A) (hB:C4 A) (hF:AZ A):EF 175 d (A8 A):=by
 intro s hm st R h
 refine pB Tryz.func175 ?_
 have hb:=BT hm
 have h:R (.ret (F3 (match SR A [] (A s) with
  | .inl e=>.inl e
  | .inr q=>if q.1.length=1 then .inr (rn (A s),q.2) else .inr (Al 39 q.1,q.2)))) st:=by
  unfold A8 at h
  unfold SR
  cases hq:A s with
  |inl e=>simp_all
  |inr p=>rw [hq] at h;exact h
 have hm4:re (A s)=0->mu (rs (A s))<mu s:=MI hB hF
 repeat' ((conv=>whnf);first|(refine Bc ?_;intros)|(refine CD ?_ ?_<;>intro _)|refine ha.q rfl hm ?_)
 refine Gr (α:=List Nd×Rs×Ay) (λx=>[(6,.slice 6 ((x.1++[rn x.2.1]).map Ap) x.2.2)]) [1,4,5] (λx=>[(2,[.int .i64 (rn x.2.1).kind,.int .i64 (rn x.2.1).form,.str (rn x.2.1).text,.int .i64 (rn x.2.1).line,.int .i64 (rn x.2.1).Da,.slice 6 (Co (rn x.2.1).kids) .any,
 .slice 4 (Bb (rs x.2.1).AR) .any,.int .i64 (rs x.2.1).pos,.slice 1 (ints (rs x.2.1).Cf) .any,.int .i64 (rs x.2.1).wait,.int .i64 (re x.2.1)])]) [1] (λx=>x.2.2.st st ((x.1++[rn x.2.1]).length*6))
  (λx=>x.2.2.B5 st/\(∃U,x.2.1=A U/\mu U<=mu s/\x.1.length+mu U<=200000000/\(x.1=[]->U=s))/\SR A x.1 x.2.1=SR A [] (A s)) (λx=>if re x.2.1=0 then mu (rs x.2.1)+1 else 0) ([],A s,.full)
  ⟨trivial,⟨s,rfl,Nat.le_refl _,GT,λ_=>rfl⟩,rfl⟩ Yl (St.le_refl _) ?_
 rintro ⟨l,q,own⟩ ⟨j1,⟨U,rfl,j2,j3,j4⟩,j5⟩
 dsimp only at j1 j2 j3 j4 j5
 have hd4:re (A U)=0->mu (rs (A U))<mu U:=MI hB hF
 have hm5:re (A U)=0->mu (rs (A U))<=100000000:=λe=>by omega
 have hn2:(l++[rn (A U)]).length+1<=1000000000:=bl
 rw [<-j5] at h
 repeat' ((conv=>whnf);first|(refine Bc ?_;intros)|(refine CD ?_ ?_<;>intro _)|refine KN (s:=rs (A U)) (BT (hm5 ‹_›)) ?_|refine Uw ?_|refine ha.q (s:=rs (A U)) rfl (hm5 ‹_›) ?_|refine D8 (l:=l++[rn (A U)]) (x:=rn (A (rs (A U)))) j1 hn2 (λown1 ho1=>?_)|refine BH (λ_=>?_))
 all_goals conv=>whnf
 .have hz:re (A U)=0:=Nm
  have hp:Ca (Aa (rs (A U))).1=true:=Nm
  have k1:=hd4 hz
  have k2:re (A (rs (A U)))=0->mu (rs (A (rs (A U))))<mu (rs (A U)):=MI hB hF
  refine ⟨(l++[rn (A U)],A (rs (A U)),own1),⟨ho1,⟨rs (A U),rfl,H1,?_,?_⟩,?_⟩,?_,Yl,St.le_refl _⟩
  .grind
  .simp_all
  .show SR A (l++[rn (A U)]) (A (rs (A U)))=_
   rw [<-j5,Wd hB hz,wD hF hp]
  grind
 .have hz:re (A U)=0:=Nm
  have hl:1<(((l++[rn (A U)]).length:Nat):Int):=Nm
  rw [Wd hB hz,nT H1] at h
  dsimp only at h
  rw [if_neg H1] at h
  have h:R (.ret (Ax (Al 39 (l++[rn (A U)])) (rs (A U)) (re (A U)))) st:=by rw [hz];exact h
  exact CS (Ay.Bj j1) Ak h
 .have hz:re (A U)=0:=Nm
  have hl:¬1<(((l++[rn (A U)]).length:Nat):Int):=Nm
  rw [Wd hB hz,nT H1] at h
  dsimp only at h
  have hl0:l=[]:=List.eq_nil_iff_length_eq_zero.2 GT
  have e3:=j4 hl0
  subst hl0
  subst e3
  have h:R (.ret (Ax (rn (A U)) (rs (A U)) (re (A U)))) st:=by rw [hz];exact h
  exact CS (Ay.Bj j1) rfl h
 .have hz:¬re (A U)=0:=Nm
  rw [nU hz] at h
  have h:R (.ret (Ax BC (rs (A U)) (re (A U)))) st:=h
  rw [<-SQ hz] at h
  exact CS (Ay.Bj j1) rfl h
end
def Dq (n:Nd) (s:Af) (e:Int):List V:=[.int .i64 n.kind,.int .i64 n.form,.str n.text,.int .i64 n.line,.int .i64 n.Da,.slice 6 (Co n.kids) .any,
 .slice 4 (Bb s.AR) .any,.int .i64 s.pos,.slice 1 (ints s.Cf) .any,.int .i64 s.wait,.int .i64 e]
theorem kt (h:AP s 10 [45,62]=false):Ga A l s=.inr (l,s):=by
 rw [Ga,if_neg lm]
theorem qb (U:C4 A) (hF:AZ A) (h:AP s 10 [45,62]=true) (hz:re (A8 A (Aa s).2.1)=0):
 Ga A l s=Ga A (l++[AJ (Aa s).1]++[rn (A8 A (Aa s).2.1)]) (rs (A8 A (Aa s).2.1)):=by
 rw [Ga,if_pos h,Ig (DF U) hz]
 dsimp only
 have h1:=MI (DF U) (DN hF) hz
 have h2:=C6 h IR IR
 rw [if_pos H1,List.append_assoc]
 rfl
theorem fT (h:AP s 10 [45,62]=true) (U:¬re (A8 A (Aa s).2.1)=0):Ga A l s=.inl (re (A8 A (Aa s).2.1),rs (A8 A (Aa s).2.1)):=by
 rw [Ga,if_pos h,Jo U]
 rfl
theorem fH (U:C4 A) (hz:re (A8 A s)=0):C9 A s=CB A (rn (A8 A s)) (rs (A8 A s)):=by
 unfold C9
 rw [Ig (DF U) hz]
 rfl
theorem UO (U:¬re (A8 A s)=0):C9 A s=.inl (re (A8 A s),rs (A8 A s)):=by
 unfold C9
 rw [Jo U]
 rfl
section
variable {st:St} {R:AD->St->Prop}
attribute [local irreducible] Go.Aw.Ai
theorem LB (U:¬e=0) (h:R (.ret (Ax n s e)) st):PC 176 [Ax n s e,.int .i64 d] st R:=by
 refine pB Tryz.func176 ?_
 repeat' ((conv=>whnf);first|(refine Bc ?_;intros)|fail)
 all_goals exact AU rfl h
theorem Un (hr:EF 175 d (A8 A)) (hB:C4 A) (hF:AZ A) {e0:Int} (he:e0=0) (hm:mu s<=100000000) (h:R (.ret (F3 (CB A n s))) st):PC 176 [Ax n s e0,.int .i64 d] st R:=by
 refine pB Tryz.func176 ?_
 have hb:=BT hm
 unfold CB at h
 cases hA:AP s 10 [45,62] with
 |false=>
  rw [kt hA] at h
  dsimp only at h
  rw [if_pos (show [n].length=1 from rfl)] at h
  have h:R (.ret (Ax n s e0)) st:=by rw [he];exact h
  repeat' ((conv=>whnf);first|(refine Bc ?_;intros)|(refine CD ?_ ?_<;>intro _)|refine EY hA IR hb ?_)
  all_goals exact AU rfl h
 |true=>
  repeat' ((conv=>whnf);first|(refine Bc ?_;intros)|(refine CD ?_ ?_<;>intro _)|refine EY hA IR hb ?_)
  refine Gr (α:=List Nd×(Nd×Af×Int)×Ay) (λx=>[(5,.slice 6 (x.1.map Ap) x.2.2)]) [1,2,4] (λx=>[(0,Dq x.2.1.1 x.2.1.2.1 x.2.1.2.2)]) [1] (λx=>x.2.2.st st (x.1.length*6))
   (λx=>x.2.2.B5 st/\x.2.1.2.2=0/\mu x.2.1.2.1<=mu s/\x.1.length+2*mu x.2.1.2.1<=400000000/\(x.1.length=1->AP x.2.1.2.1 10 [45,62]=true)/\Ga A x.1 x.2.1.2.1=Ga A [n] s) (λx=>mu x.2.1.2.1) ([n],(n,s,e0),.full)
   ⟨trivial,he,Nat.le_refl _,GT,λ_=>hA,rfl⟩ Yl (St.le_refl _) ?_
  rintro ⟨l,⟨n3,U,e3⟩,own⟩ ⟨j1,j2,j3,j4,j5,j6⟩
  dsimp only at j1 j2 j3 j4 j5 j6
  have hm3:mu U<=100000000:=H1
  have hb3:=BT hm3
  have hn:l.length+1<=1000000000:=H1
  have hn2:∀y:Nd,(l++[y]).length+1<=1000000000:=λy=>by grind
  have hm4:AP U 10 [45,62]=true->mu (Aa U).2.1<=100000000:=λe=>by have:=C6 e IR IR;omega
  rw [<-j6] at h
  repeat' ((conv=>whnf);first|(refine Bc ?_;intros)|(refine CD ?_ ?_<;>intro _)|refine eV (s:=U) IR hb3 ?_|refine Eu (DK ‹_› IR) hb3 ?_|refine D8 (l:=l) (x:=AJ (Aa U).1) j1 hn (λown1 ho1=>?_)|refine hr.q (s:=(Aa U).2.1) rfl (hm4 ‹_›) ?_|refine D8 (l:=l++[AJ (Aa U).1]) (x:=rn (A8 A (Aa U).2.1)) ho1 (hn2 _) (λown2 ho2=>?_))
  all_goals conv=>whnf
  .have hp:AP U 10 [45,62]=true:=Nm
   have hz:re (A8 A (Aa U).2.1)=0:=Nm
   have k1:=MI (DF hB) (DN hF) hz
   have k2:=C6 hp IR IR
   refine ⟨(l++[AJ (Aa U).1]++[rn (A8 A (Aa U).2.1)],(rn (A8 A (Aa U).2.1),rs (A8 A (Aa U).2.1),re (A8 A (Aa U).2.1)),own2),⟨ho2,hz,GT,?_,?_,?_⟩,GT,Yl,St.le_refl _⟩
   .grind
   .simp_all
   .show Ga A (l++[AJ (Aa U).1]++[rn (A8 A (Aa U).2.1)]) (rs (A8 A (Aa U).2.1))=_
    rw [<-j6,<-qb hB hF hp hz]
  .have hp:AP U 10 [45,62]=true:=Nm
   have hz:¬re (A8 A (Aa U).2.1)=0:=Nm
   rw [fT hp hz] at h
   have h:R (.ret (Ax BC (rs (A8 A (Aa U).2.1)) (re (A8 A (Aa U).2.1)))) st:=h
   rw [<-SQ hz] at h
   exact CS (Ay.Bj ho1) rfl h
  .have hp:AP U 10 [45,62]=false:=Nm
   have hl:¬l.length=1:=λe=>by simp_all
   rw [kt hp] at h
   dsimp only at h
   rw [if_neg hl] at h
   have h:R (.ret (Ax (Al 37 l) U e3)) st:=by rw [j2];exact h
   exact CS (Ay.Bj j1) Ak h
theorem Up (hr:EF 175 d (A8 A)) (U:C4 A) (hF:AZ A) {e0:Int} (he:e0=0) (hm:mu s<=100000000) (h:R (.ret (Ax (rn (CB A n s)) (rs (CB A n s)) (re (CB A n s)))) st):
 PC 176 [Ax n s e0,.int .i64 d] st R:=Un hr U hF he hm (by rw [Cs];exact h)
theorem J0 {q:Rs} (h:R (.ret (Ax (rn q) (rs q) (re q))) st):PC 80 [Ax (rn q) (rs q) (re q)] st R:=by
 by_cases U:re q=0
 .rw [U] at h |-;exact RA h
 .rw [SQ U] at h |-;exact OV U h
def ES (s:Af) (deep:Int) (q:Rs):Rs:=if deep<1 then .inl (2,s) else q
theorem We (hr:¬deep<1->EF 175 (if 100<deep then 100 else deep) (A8 A)) (hB:C4 A) (hF:AZ A) (hm:mu s<=100000000) (h:R (.ret (F3 (ES s deep (C9 A s)))) st):
 PC 99 [Am s,.int .i64 deep] st R:=by
 refine pB Tryz.func99 ?_
 unfold ES at h
 by_cases U:deep<1
 .rw [if_pos U] at h
  repeat' ((conv=>whnf);first|exact B1|(refine Bc ?_;intros)|(refine B2 ?_ ?_ ?_;rotate_left)|refine Oh ?_|refine Az [1,3,9,4,6,10,12,14,16] [1] ?_|fail)
  all_goals exact AU rfl h
 .rw [if_neg U,Cs] at h
  by_cases hz:re (A8 A s)=0
  .have hm1:mu (rs (A8 A s))<=100000000:=by have:=MI (DF hB) (DN hF) hz;omega
   rw [fH hB hz] at h
   repeat' ((conv=>whnf);first|exact B1|(refine Bc ?_;intros)|(refine B2 ?_ ?_ ?_;rotate_left)|refine FQ U ?_|refine (hr U).q rfl hm ?_|refine Up (hr U) hB hF hz hm1 ?_|refine J0 (q:=CB A (rn (A8 A s)) (rs (A8 A s))) ?_|refine Az [1,3,9,4,6,10,12,14,16] [1] ?_|fail)
   all_goals exact AU rfl h
  .have e:C9 A s=A8 A s:=by rw [UO hz];exact (Jo hz).symm
   rw [e] at h
   repeat' ((conv=>whnf);first|exact B1|(refine Bc ?_;intros)|(refine B2 ?_ ?_ ?_;rotate_left)|refine FQ U ?_|refine (hr U).q rfl hm ?_|refine LB (n:=rn (A8 A s)) (s:=rs (A8 A s)) hz ?_|refine J0 (q:=A8 A s) ?_|refine Az [1,3,9,4,6,10,12,14,16] [1] ?_|fail)
   all_goals exact AU rfl h
theorem nw (hr:¬deep<1->EF 232 (if 100<deep then 100 else deep) A) (hm:mu s<=100000000) (h:R (.ret (F3 (ES s deep (A s)))) st):
 PC 307 [Am s,.int .i64 deep] st R:=by
 refine pB Tryz.func307 ?_
 unfold ES at h
 by_cases U:deep<1
 .rw [if_pos U] at h
  repeat' ((conv=>whnf);first|exact B1|(refine Bc ?_;intros)|(refine B2 ?_ ?_ ?_;rotate_left)|refine Oh ?_|refine Ad 6 [2,3,4,5] [1] ?_|fail)
  all_goals exact AU rfl h
 .rw [if_neg U,Cs] at h
  repeat' ((conv=>whnf);first|exact B1|(refine Bc ?_;intros)|(refine B2 ?_ ?_ ?_;rotate_left)|refine FQ U ?_|refine (hr U).q rfl hm ?_|refine J0 (q:=A s) ?_|refine Ad 6 [2,3,4,5] [1] ?_|fail)
  all_goals exact AU rfl h
theorem sD (hr:¬deep<1->EF 175 (if 100<deep then 100 else deep) A) (hm:mu s<=100000000) (h:R (.ret (F3 (ES s deep (A s)))) st):
 PC 97 [Am s,.int .i64 deep] st R:=by
 refine pB Tryz.func97 ?_
 unfold ES at h
 by_cases U:deep<1
 .rw [if_pos U] at h
  repeat' ((conv=>whnf);first|exact B1|(refine Bc ?_;intros)|(refine B2 ?_ ?_ ?_;rotate_left)|refine Oh ?_|refine Ad 6 [2,3,4,5] [1] ?_|fail)
  all_goals exact AU rfl h
 .rw [if_neg U,Cs] at h
  repeat' ((conv=>whnf);first|exact B1|(refine Bc ?_;intros)|(refine B2 ?_ ?_ ?_;rotate_left)|refine FQ U ?_|refine (hr U).q rfl hm ?_|refine J0 (q:=A s) ?_|refine Ad 6 [2,3,4,5] [1] ?_|fail)
  all_goals exact AU rfl h
end
theorem vw (U:C4 A) (hz:re (A8 A s)=0) (hi:AP (rs (A8 A s)) 10 [61,62]=true):EJ A s=match C9 A (Aa (rs (A8 A s))).2.1 with
 | .inl e=>.inl e
 | .inr q=>.inr (Al 38 [rn (A8 A s),AJ (Aa (rs (A8 A s))).1,q.1],q.2):=by
 unfold EJ
 have e:=Ig (DF U) hz
 generalize rn (A8 A s)=n at *
 generalize rs (A8 A s)=s1 at *
 rw [e]
 dsimp only
 rw [if_pos hi]
 cases C9 A (Aa s1).2.1<;>rfl
theorem vv (U:C4 A) (hz:re (A8 A s)=0) (hi:AP (rs (A8 A s)) 10 [61,62]=false):EJ A s=CB A (rn (A8 A s)) (rs (A8 A s)):=by
 unfold EJ
 have e:=Ig (DF U) hz
 generalize rn (A8 A s)=n at *
 generalize rs (A8 A s)=s1 at *
 rw [e]
 dsimp only
 rw [if_neg (by rw [hi];decide)]
theorem lX (U:¬re (A8 A s)=0):EJ A s=A8 A s:=by
 unfold EJ
 rw [Jo U]
section
variable {st:St} {R:AD->St->Prop}
attribute [local irreducible] Go.Aw.Ai
theorem YU {k:Int} {own:Ay} (U:e=0) (hg:own.B5 st) (h:R (.ret (Ax (Al k l) s e)) (own.st st (l.length*6))):PC 80 [.agg [.int .i64 k,.int .i64 0,.str [],.int .i64 0,.int .i64 0,.slice 6 (l.map Ap) own,
 .slice 4 (Bb s.AR) .any,.int .i64 s.pos,.slice 1 (ints s.Cf) .any,.int .i64 s.wait,.int .i64 e]] (own.st st (l.length*6)) R:=by
 have:=RA (n:=Al k l) (s:=s) (st:=own.st st (l.length*6)) (R:=R) (by rw [<-U];exact h)
 rw [<-U] at this
 exact JW (args':=[Ax (Al k l) s e]) (by rw [<-BV];rfl) this
theorem Og {k:Int} {own:Ay} (U:¬e=0) (hg:own.B5 st) (h:R (.ret (Ax BC s e)) (own.st st (l.length*6))):PC 80 [.agg [.int .i64 k,.int .i64 0,.str [],.int .i64 0,.int .i64 0,.slice 6 (l.map Ap) own,
 .slice 4 (Bb s.AR) .any,.int .i64 s.pos,.slice 1 (ints s.Cf) .any,.int .i64 s.wait,.int .i64 e]] (own.st st (l.length*6)) R:=
 JW (args':=[Ax (Al k l) s e]) (by rw [<-BV];rfl) (OV (n:=Al k l) U h)
theorem Uo (hr:EF 175 d (A8 A)) (U:C4 A) (hF:AZ A) {e0:Int} {w:Rs} (hw:CB A n s=w) (he:e0=0) (hm:mu s<=100000000) (h:R (.ret (Ax (rn w) (rs w) (re w))) st):
 PC 176 [Ax n s e0,.int .i64 d] st R:=Un hr U hF he hm (by rw [hw,Cs];exact h)
theorem sk (hr:¬deep<1->EF 175 (if 100<deep then 100 else deep) (A8 A)) (hB:C4 A) (hF:AZ A) (hm:mu s<=100000000) (h:R (.ret (F3 (ES s deep (EJ A s)))) st):
 PC 108 [Am s,.int .i64 deep] st R:=by
 refine pB Tryz.func108 ?_
 unfold ES at h
 by_cases U:deep<1
 .rw [if_pos U] at h
  repeat' ((conv=>whnf);first|(refine Bc ?_;intros)|refine Oh ?_)
  all_goals exact AU rfl h
 .rw [if_neg U,Cs] at h
  by_cases hz:re (A8 A s)=0
  .have hm1:mu (rs (A8 A s))<=100000000:=by have:=MI (DF hB) (DN hF) hz;omega
   have hb1:=BT hm1
   cases hi:AP (rs (A8 A s)) 10 [61,62] with
   |false=>
    rw [vv hB hz hi] at h
    repeat' ((conv=>whnf);first|(refine Bc ?_;intros)|refine FQ U ?_|refine (hr U).q rfl hm ?_|refine EY hi IR hb1 ?_|refine Up (hr U) hB hF hz hm1 ?_|refine J0 (q:=CB A (rn (A8 A s)) (rs (A8 A s))) ?_)
    all_goals exact AU rfl h
   |true=>
    have hm2:mu (Aa (rs (A8 A s))).2.1<=100000000:=by have:=C6 hi IR IR;omega
    have hn1:[rn (A8 A s)].length+1<=1000000000:=by show 1+1<=1000000000;decide
    have hn2:∀y:Nd,([rn (A8 A s)]++[y]).length+1<=1000000000:=λy=>by show 2+1<=1000000000;decide
    rw [vw hB hz hi] at h
    by_cases hz2:re (A8 A (Aa (rs (A8 A s))).2.1)=0
    .have hm3:mu (rs (A8 A (Aa (rs (A8 A s))).2.1))<=100000000:=by have:=MI (DF hB) (DN hF) hz2;omega
     have hq:C9 A (Aa (rs (A8 A s))).2.1=CB A (rn (A8 A (Aa (rs (A8 A s))).2.1)) (rs (A8 A (Aa (rs (A8 A s))).2.1)):=fH hB hz2
     rw [hq] at h
     generalize hw:CB A (rn (A8 A (Aa (rs (A8 A s))).2.1)) (rs (A8 A (Aa (rs (A8 A s))).2.1))=w at h
     by_cases hz3:re w=0
     .have hin:w=.inr (rn w,rs w):=by
       rw [<-hw]
       exact Ig (Lc hB) (by rw [hw];exact hz3)
      rw [hin] at h
      repeat' ((conv=>whnf);first|(refine Bc ?_;intros)|refine FQ U ?_|refine (hr U).q rfl hm ?_|refine EY hi IR hb1 ?_|refine Eu (DK hi IR) hb1 ?_|refine D8 (l:=[rn (A8 A s)]) (x:=AJ (Aa (rs (A8 A s))).1) (own:=.full) trivial hn1 (λown1 ho1=>?_)|refine (hr U).q (s:=(Aa (rs (A8 A s))).2.1) rfl hm2 ?_|refine Uo (hr U) hB hF hw hz2 hm3 ?_|refine D8 (l:=[rn (A8 A s)]++[AJ (Aa (rs (A8 A s))).1]) (x:=rn w) ho1 (hn2 _) (λown2 ho2=>?_)|refine YU hz3 ho2 ?_)
      have h:R (.ret (Ax (Al 38 ([rn (A8 A s)]++[AJ (Aa (rs (A8 A s))).1]++[rn w])) (rs w) (re w))) st:=by rw [hz3];exact h
      all_goals exact CS (Ay.Bj ho2) rfl h
     .rw [Jo hz3] at h
      have h:R (.ret (Ax BC (rs w) (re w))) st:=h
      repeat' ((conv=>whnf);first|(refine Bc ?_;intros)|refine FQ U ?_|refine (hr U).q rfl hm ?_|refine EY hi IR hb1 ?_|refine Eu (DK hi IR) hb1 ?_|refine D8 (l:=[rn (A8 A s)]) (x:=AJ (Aa (rs (A8 A s))).1) (own:=.full) trivial hn1 (λown1 ho1=>?_)|refine (hr U).q (s:=(Aa (rs (A8 A s))).2.1) rfl hm2 ?_|refine Uo (hr U) hB hF hw hz2 hm3 ?_|refine D8 (l:=[rn (A8 A s)]++[AJ (Aa (rs (A8 A s))).1]) (x:=rn w) ho1 (hn2 _) (λown2 ho2=>?_)|refine Og hz3 ho2 ?_)
      all_goals exact CS (Ay.Bj ho2) rfl h
    .rw [UO hz2] at h
     have h:R (.ret (Ax BC (rs (A8 A (Aa (rs (A8 A s))).2.1)) (re (A8 A (Aa (rs (A8 A s))).2.1)))) st:=h
     repeat' ((conv=>whnf);first|(refine Bc ?_;intros)|refine FQ U ?_|refine (hr U).q rfl hm ?_|refine EY hi IR hb1 ?_|refine Eu (DK hi IR) hb1 ?_|refine D8 (l:=[rn (A8 A s)]) (x:=AJ (Aa (rs (A8 A s))).1) (own:=.full) trivial hn1 (λown1 ho1=>?_)|refine (hr U).q (s:=(Aa (rs (A8 A s))).2.1) rfl hm2 ?_|refine LB (n:=rn (A8 A (Aa (rs (A8 A s))).2.1)) (s:=rs (A8 A (Aa (rs (A8 A s))).2.1)) hz2 ?_|refine D8 (l:=[rn (A8 A s)]++[AJ (Aa (rs (A8 A s))).1]) (x:=rn (A8 A (Aa (rs (A8 A s))).2.1)) ho1 (hn2 _) (λown2 ho2=>?_)|refine Og hz2 ho2 ?_)
     all_goals exact CS (Ay.Bj ho2) rfl h
  .rw [lX hz] at h
   repeat' ((conv=>whnf);first|(refine Bc ?_;intros)|refine FQ U ?_|refine (hr U).q rfl hm ?_|refine LB (n:=rn (A8 A s)) (s:=rs (A8 A s)) hz ?_|refine J0 (q:=A8 A s) ?_)
   all_goals exact AU rfl h
end
section
variable {st:St} {R:AD->St->Prop}
attribute [local irreducible] Go.Aw.Ai
theorem vu (hr:DW 296 d (A8 A)) (ha:av 364 d (CB A)) (hw:DW 297 d (C9 A)) (hF:AZ A):DW 305 d (EJ A):=by
 intro s hm b st R hs h
 refine pB Tryz.func305 ?_
 unfold EJ at h
 have hm1:∀{n1 s1},A8 A s=.inr (n1,s1)->mu s1<=100000000:=λe=>by have:=DN hF _ _ _ e;omega
 have hm2:∀{n1 s1},A8 A s=.inr (n1,s1)->AP s1 10 [61,62]=true->mu (Aa s1).2.1<=100000000:=λe i=>by have:=hm1 e;have:=C6 i IR IR;omega
 repeat' ((conv=>whnf);first|exact B1|(refine B2 ?_ ?_ ?_;rotate_left)|(refine CD ?_ ?_<;>intro _)|refine hr s hm b _ _ hs (EC (λn1 s1 U st1 h1=>?_) (λe1 s1 U st1 h1=>?_))|refine bC h1.1 (BT (hm1 U)) ?_|refine ha n1 s1 (hm1 U) b _ _ FA (EC (λn2 s2 hq2 st2 h2=>?_) (λe2 s2 hq2 st2 h2=>?_))|refine Az [1,3,7,9,4,10,13,15,16] [0] ?_|refine GD FA (BT (hm1 U)) (HU (DK ‹_› IR) (λst2 h2=>?_))|refine hw (Aa s1).2.1 (hm2 U ‹_›) b _ _ h2.1 (EC (λn3 s3 hq3 st3 h3=>?_) (λe3 s3 hq3 st3 h3=>?_))|fail)
 all_goals rw [U] at h
 all_goals dsimp only at h
 .rw [if_pos ‹_›,hq3] at h
  exact CS (St.le_refl _) (Ck (l:=[n1,AJ (Aa s1).1,n3])) (h st3 ((h1.trans Bf).trans (h2.trans h3)))
 .rw [if_pos ‹_›,hq3] at h
  intro e'
  exact fin (h st3 ((h1.trans Bf).trans (h2.trans h3))) rfl
 .rw [if_neg (Bool.eq_false_iff.1 ‹_›),hq2] at h
  exact AU rfl (h st2 ((h1.trans Bf).trans h2))
 .rw [if_neg (Bool.eq_false_iff.1 ‹_›),hq2] at h
  exact fin (h st2 ((h1.trans Bf).trans h2)) rfl
 .exact fin (h st1 h1) rfl
theorem lW {d:Nat} (U:d+1<=1000000) (h:DV 220 (d:Int) (B8 d)):DW 305 ((d+1:Nat):Int) (EJ (BN (B8 d))):=
 vu (Ot U h) (Xu (Ot U h) (BL (Bv d))) (PF U h) (BL (Bv d))
theorem tX:DV 231 deep (EJ (BN (B8 (B0 deep - 1)))):=qW λh=>by
 rw [RI h]
 have:=RJ deep
 exact lW H1 (LN _ H1)
end
end Go.Proofs.Z
namespace Go.Aw
theorem qi {b:Bool} {p q:Prop} (h:b=true) (k:p):BG b p q:=Wk (λ_=>k) (λe=>by rw [h] at e;cases e)
theorem WG {k l c:Int} {t:List UInt8} {p q:Prop} (h:p):BG (k==k&&(t==t&&(l==l&&(c==c&&true)))) p q:=qi Pi h
theorem WI {l:List Int} {x:Int} (h:l[i.toNat]? =some x) (U:0<=i) (k:K [.int .i64 x]):0<=i/\∃e,(ints l)[i.toNat]? =some e/\K e:=⟨U,_,by simp [ints,h],k⟩
end Go.Aw
namespace Go.Proofs.Z
open Go Go.Aw
section
variable {st:St} {R:AD->St->Prop}
attribute [local irreducible] Go.Aw.Ai
theorem iR:∀(m:Nat) {n:Nd} {st:St} {R:AD->St->Prop},n.size<=m->R (.ret (.bool true)) st->PC 16 [enc n,enc n] st R:=by
 intro m
 induction m with
 |zero=>intro n st R hm h;cases n;rw [Nd.size] at hm;omega
 |succ m ih=>
  intro n st R hm h
  refine pB Tryz.func16 ?_
  repeat' ((conv=>whnf);first|(with_reducible first|refine Wt rfl ?_|exact Wa|refine W8 NE ?_ ?_ ?_|refine W0 NE ?_ ?_ ?_|refine Wt RK ?_|refine Wv H1 ?_|refine Ww H1 ?_|refine Wi ?_|refine Wj ?_|refine Wl (λ_=>?_)|refine Wm ‹_› H1 ?_|refine Wq H1 H1 ?_)|refine Ad 12 [10] [] ?_|fail)
  refine L9 5 [2,3] [0,1] n.kids.length (λk=>k<=n.kids.length) (Nat.zero_le _) Yl ?_
  intro k hk
  by_cases U:k<n.kids.length
  .obtain ⟨x,hx⟩:∃x,n.kids[(k:Int).toNat]? =some x:=⟨_,List.getElem?_eq_getElem U⟩
   have hxm:x ∈ n.kids:=List.mem_of_getElem? hx
   have hxs:=Dl hxm
   repeat' ((conv=>whnf);first|(with_reducible first|refine Wt rfl ?_|exact Wa|refine W8 NE ?_ ?_ ?_|refine W0 NE ?_ ?_ ?_|refine Wt RK ?_|refine Wv H1 ?_|refine Ww H1 ?_|refine Wi ?_|refine Wj ?_|refine Wl (λ_=>?_)|refine Wm ‹_› H1 ?_|refine Wq H1 H1 ?_)|refine ih (n:=x) H1 ?_|refine Ad 12 [10] [] ?_|fail)
   all_goals conv=>whnf
   all_goals exact ⟨k+1,U,Nat.sub_lt_sub_left U (Nat.lt_succ_self k),Yl,St.le_refl _⟩
  .skip
   repeat' ((conv=>whnf);first|(with_reducible first|refine Wt rfl ?_|exact Wa|refine W8 NE ?_ ?_ ?_|refine W0 NE ?_ ?_ ?_|refine Wt RK ?_|refine Wv H1 ?_|refine Ww H1 ?_|refine Wi ?_|refine Wj ?_|refine Wl (λ_=>?_)|refine Wm ‹_› H1 ?_|refine Wq H1 H1 ?_)|refine Ad 12 [10] [] ?_|fail)
   all_goals exact fin h rfl
theorem Zn (h:R (.ret (.bool true)) st):PC 17 [Am s,Am s] st R:=by
 refine pB Tryz.func17 ?_
 repeat' ((conv=>whnf);first|(with_reducible first|refine Wt rfl ?_|refine WG ?_|refine WI ‹_› H1 ?_|exact Wa|refine W8 NE ?_ ?_ ?_|refine Wt RK ?_|refine Wv H1 ?_|refine Ww H1 ?_|refine Wj ?_|refine Wq H1 H1 ?_|refine Wz (λ_=>?_)|refine WA (λ_=>?_)|refine WB ‹_› H1 ?_)|refine Au NE ?_|fail)
 refine L9 5 [2,3] [0,1] s.AR.length (λk=>k<=s.AR.length) (Nat.zero_le _) Yl ?_
 intro k hk
 by_cases U:k<s.AR.length
 .obtain ⟨x,hx⟩:∃x,s.AR[(k:Int).toNat]? =some x:=⟨_,List.getElem?_eq_getElem U⟩
  repeat' ((conv=>whnf);first|(with_reducible first|refine Wt rfl ?_|refine WG ?_|refine WI ‹_› H1 ?_|exact Wa|refine W8 NE ?_ ?_ ?_|refine Wt RK ?_|refine Wv H1 ?_|refine Ww H1 ?_|refine Wj ?_|refine Wq H1 H1 ?_|refine Wz (λ_=>?_)|refine WA (λ_=>?_)|refine WB ‹_› H1 ?_)|refine Au NE ?_|fail)
  all_goals conv=>whnf
  all_goals exact ⟨k+1,U,Nat.sub_lt_sub_left U (Nat.lt_succ_self k),Yl,St.le_refl _⟩
 .skip
  repeat' ((conv=>whnf);first|(with_reducible first|refine Wt rfl ?_|refine WG ?_|refine WI ‹_› H1 ?_|exact Wa|refine W8 NE ?_ ?_ ?_|refine Wt RK ?_|refine Wv H1 ?_|refine Ww H1 ?_|refine Wj ?_|refine Wq H1 H1 ?_|refine Wz (λ_=>?_)|refine WA (λ_=>?_)|refine WB ‹_› H1 ?_)|refine Au NE ?_|fail)
  refine L9 6 [2,3] [0,1] s.Cf.length (λk=>k<=s.Cf.length) (Nat.zero_le _) Yl ?_
  intro k hk
  by_cases U:k<s.Cf.length
  .obtain ⟨x,hx⟩:∃x,s.Cf[(k:Int).toNat]? =some x:=⟨_,List.getElem?_eq_getElem U⟩
   repeat' ((conv=>whnf);first|(with_reducible first|refine Wt rfl ?_|refine WG ?_|refine WI ‹_› H1 ?_|exact Wa|refine W8 NE ?_ ?_ ?_|refine Wt RK ?_|refine Wv H1 ?_|refine Ww H1 ?_|refine Wj ?_|refine Wq H1 H1 ?_|refine Wz (λ_=>?_)|refine WA (λ_=>?_)|refine WB ‹_› H1 ?_)|refine Au NE ?_|fail)
   all_goals conv=>whnf
   all_goals exact ⟨k+1,U,Nat.sub_lt_sub_left U (Nat.lt_succ_self k),Yl,St.le_refl _⟩
  .skip
   repeat' ((conv=>whnf);first|(with_reducible first|refine Wt rfl ?_|refine WG ?_|refine WI ‹_› H1 ?_|exact Wa|refine W8 NE ?_ ?_ ?_|refine Wt RK ?_|refine Wv H1 ?_|refine Ww H1 ?_|refine Wj ?_|refine Wq H1 H1 ?_|refine Wz (λ_=>?_)|refine WA (λ_=>?_)|refine WB ‹_› H1 ?_)|refine Au NE ?_|fail)
   all_goals exact fin h rfl
end
theorem Rw (s:Af) (deep:Int) (q:Rs):ME (C5 s deep q)=.Bl [enc (rn (ES s deep q)),Am (rs (ES s deep q)),.int .i64 (re (ES s deep q))]:=by
 unfold C5 ES
 by_cases h:deep<1
 .rw [if_pos h,if_pos h];rfl
 .rw [if_neg h,if_neg h]
  cases q<;>rfl
theorem L1 {q U:Rs} (h:ES s deep q=U):F3 (ES s deep q)=Ax (rn U) (rs U) (re U):=by rw [h,Cs]
theorem Ux:∀d:Nat,d<=100->EF 99 (d:Int) (B8 d)
 |0,_=>λs U st R h=>We (A:=BN (B8 0)) (λe=>absurd IR e) (Cr (B3 0)) (BL (Bv 0)) U (by
  unfold ES;rw [if_pos IR];exact h)
 |d+1,hd=>λs U st R h=>We (A:=BN (B8 d)) (λ_=>by
   rw [if_neg H1]
   exact oh (eN rfl H1 (Ux d H1) (B3 d) (Bv d)) (Cr (B3 d)) (BL (Bv d))) (Cr (B3 d)) (BL (Bv d)) U (by
  unfold ES;rw [if_neg H1];exact h)
theorem Uq (h:¬deep<1):EF 232 (if 100<deep then 100 else deep) (BN (B8 (B0 deep - 1))):=by
 have:=RJ deep
 exact eN (RI h) H1 (Ux _ H1) (B3 _) (Bv _)
theorem SS (h:¬deep<1):EF 175 (if 100<deep then 100 else deep) (A8 (BN (B8 (B0 deep - 1)))):=
 oh (Uq h) (Cr (B3 _)) (BL (Bv _))
section
variable {st:St} {R:AD->St->Prop}
attribute [local irreducible] Go.Aw.Ai
theorem sG {q:Rs} (U:mu s<=100000000) (hq:ES s deep (C9 (BN (B8 (B0 deep - 1))) s)=q) (h:R (.ret (Ax (rn q) (rs q) (re q))) st):PC 99 [Am s,.int .i64 deep] st R:=
 We (A:=BN (B8 (B0 deep - 1))) SS (Cr (B3 _)) (BL (Bv _)) U (by rw [L1 hq];exact h)
theorem sg {q:Rs} (U:mu s<=100000000) (hq:ES s deep (BN (B8 (B0 deep - 1)) s)=q) (h:R (.ret (Ax (rn q) (rs q) (re q))) st):PC 307 [Am s,.int .i64 deep] st R:=
 nw (A:=BN (B8 (B0 deep - 1))) Uq U (by rw [L1 hq];exact h)
theorem wH {q:Rs} (U:mu s<=100000000) (hq:ES s deep (A8 (BN (B8 (B0 deep - 1))) s)=q) (h:R (.ret (Ax (rn q) (rs q) (re q))) st):PC 97 [Am s,.int .i64 deep] st R:=
 sD (A:=A8 (BN (B8 (B0 deep - 1)))) SS U (by rw [L1 hq];exact h)
theorem sl {q:Rs} (U:mu s<=100000000) (hq:ES s deep (EJ (BN (B8 (B0 deep - 1))) s)=q) (h:R (.ret (Ax (rn q) (rs q) (re q))) st):PC 108 [Am s,.int .i64 deep] st R:=
 sk (A:=BN (B8 (B0 deep - 1))) SS (Cr (B3 _)) (BL (Bv _)) U (by rw [L1 hq];exact h)
end
structure Ba (f:FuncId) (mk:Af->List V) (A:Rd Nd):Prop where
 ap:∀{st0:St} {s:Af} {st:St} {rows:List (Ay×List Nd)} {K:AD->St->Prop},mu s<=100000000->Rx st0 st rows->
  Rd.wp A s (λv s'=>∀st',Rx st0 st' rows->K (.ret (Ax v s' 0)) st') (λe s'=>∀n st',Rx st0 st' rows->K (.ret (Ax n s' e.1)) st')->PC f (mk s) st K
theorem rN {k:Int} (h:([1,2,3,4]:List Int).contains k=true):k≠0/\k≠21:=by
 simp only [List.contains_cons,List.contains_nil,Bool.or_eq_true,beq_iff_eq,Bool.or_false] at h
 omega
section
variable {st0 st:St} {s:Af} {rows:List (Ay×List Nd)} {K:AD->St->Prop} {Q:Nd->Af->Prop} {E:Er->Af->Prop}
theorem Ba.go {mk:Af->List V} {A:Rd Nd} (hf:Ba f mk A) (U:mu s<=100000000) (hc:Rx st0 st rows) (h:Rd.wp A s Q E)
 (k:∀n s' st',A.run s=.inr (n,s')->mu s'<=mu s->mu s'<=100000000->Rx st0 st' rows->Q n s'->K (.ret (Ax n s' 0)) st')
 (kb:∀e n s' st',¬e.1=0->Rx st0 st' rows->E e s'->K (.ret (Ax n s' e.1)) st'):PC f (mk s) st K:=
 hf.ap U hc (Rd.wp_mono h (λv s' r q st' c=>k v s' st' r (A.le _ _ _ r) (Nat.le_trans (A.le _ _ _ r) U) c q) (λe s' _ q n st' c=>kb e n s' st' e.2 c q))
theorem Ba.Tr {mk:Af->List V} {A:Rd Nd} (hf:Ba f mk A) (hF:Rd.AZ A) (U:mu s<=100000000) (hc:Rx st0 st rows) (h:Rd.wp A s Q E)
 (k:∀n s' st',A.run s=.inr (n,s')->mu s'<mu s->mu s'<=100000000->Rx st0 st' rows->Q n s'->K (.ret (Ax n s' 0)) st')
 (kb:∀e n s' st',¬e.1=0->Rx st0 st' rows->E e s'->K (.ret (Ax n s' e.1)) st'):PC f (mk s) st K:=
 hf.ap U hc (Rd.wp_mono h (λv s' r q st' c=>k v s' st' r (hF _ _ _ r) (Nat.le_trans (A.le _ _ _ r) U) c q) (λe s' _ q n st' c=>kb e n s' st' e.2 c q))
def LP (f:FuncId) (args:List V) (s:Af) (A:Rd Nd):Prop:=∀{st0:St} {st:St} {rows:List (Ay×List Nd)} {K:AD->St->Prop},mu s<=100000000->Rx st0 st rows->
 Rd.wp A s (λv s'=>∀st',Rx st0 st' rows->K (.ret (Ax v s' 0)) st') (λe s'=>∀n st',Rx st0 st' rows->K (.ret (Ax n s' e.1)) st')->PC f args st K
theorem Ba.a {mk:Af->List V} {A:Rd Nd} (h:Ba f mk A):LP f (mk s) s A:=h.ap
theorem Ba.q {mk:Af->List V} {A:Rd Nd} (h:Ba f mk A:=by assumption) (e:args=mk s:=by rfl):LP f args s A:=e ▸ h.a
theorem LP.go {A:Rd Nd} (hf:LP f args s A)
 (k:∀n s' st',A.run s=.inr (n,s')->mu s'<=mu s->mu s'<=100000000->Rx st0 st' rows->Q n s'->K (.ret (Ax n s' 0)) st')
 (kb:∀e n s' st',¬e.1=0->Rx st0 st' rows->E e s'->K (.ret (Ax n s' e.1)) st') (U:mu s<=100000000:=by assumption) (hc:Rx st0 st rows:=by assumption) (h:Rd.wp A s Q E:=by assumption):PC f args st K:=
 hf U hc (Rd.wp_mono h (λv s' r q st' c=>k v s' st' r (A.le _ _ _ r) (Nat.le_trans (A.le _ _ _ r) U) c q) (λe s' _ q n st' c=>kb e n s' st' e.2 c q))
theorem At {r:Nd->AD} (hc:Rx st0 st rows) (h:∀n st',Rx st0 st' rows->K (r n) st') (e:r n=r'.wk):∃r2 U,(r2=r'\/r2=r'.wk)/\St.le U st/\K r2 U:=⟨r n,st,.inr e,St.le_refl _,h n st hc⟩
theorem vn {F:Ay->List (Ay×List Nd)} {r:Nd->Ay->AD} {o:Ay} (h:∀n o st',Rx st0 st' (F o)->K (r n o) st') (hc:Rx st0 st (F o)) (e:r n o=r'):∃r2 U,(r2=r'\/r2=r'.wk)/\St.le U st/\K r2 U:=⟨r n o,st,.inl e,St.le_refl _,h n o st hc⟩
theorem vo {F:List Nd->Ay->List (Ay×List Nd)} {r:List Nd->Nd->Ay->AD} {o:Ay} (h:∀l n o st',Rx st0 st' (F l o)->K (r l n o) st') (hc:Rx st0 st (F l o)) (e:r l n o=r'):∃r2 U,(r2=r'\/r2=r'.wk)/\St.le U st/\K r2 U:=⟨r l n o,st,.inl e,St.le_refl _,h l n o st hc⟩
theorem Ae {r:AD} (hc:Rx st0 st rows) (h:∀st',Rx st0 st' rows->K r st') (e:r=r'.wk):∃r2 U,(r2=r'\/r2=r'.wk)/\St.le U st/\K r2 U:=⟨r,st,.inr e,St.le_refl _,h st hc⟩
theorem KB {σ β:Type} {ih:(AG->Env->St->Prop)->Env->St->Prop} {Q0:AG->Env->St->Prop} {Q:β->Af->Prop} {body:σ->Rd (Sum σ β)} {x0:σ}
 (f:σ->Af->Ay->List (Nat×V)) (g:σ->Af->Ay->List (Nat×List V)) (keep kb:List Nat) (rw:σ->Ay->List (Ay×List Nd)) (wt:σ->Nat) (U:Ay) (hm:mu s<=100000000) (hc:Rx st0 st (rw x0 U)) (h:Rd.wp (Rd.loop body x0) s Q E) (hl:wt x0+4*mu s<=500000000)
 (he:(env.EG (f x0 s U) (g x0 s U) keep kb).C3 env)
 (hb:∀x s1 st1 own1,mu s1<=100000000->mu s1<=mu s->Rx st0 st1 (rw x own1)->Rd.wp (body x) s1 (Rd.again body s1 Q E) E->wt x+4*mu s1<=500000000->
   ih (Bz (λenv' st'=>∃y:LS σ,(mu y.s<=100000000/\mu y.s<=mu s/\Rx st0 y.m (rw y.x y.o)/\Rd.wp (Rd.loop body y.x) y.s Q E/\wt y.x+4*mu y.s<=500000000)/\mu y.s<mu s1/\(env.EG (f y.x y.s y.o) (g y.x y.s y.o) keep kb).C3 env'/\St.le y.m st') Q0)
    (env.EG (f x s1 own1) (g x s1 own1) keep kb) st1):
 ∃(α:Type) (E:α->Env) (S:α->St) (J:α->Prop) (μ:α->Nat) (x0:α),J x0/\(E x0).C3 env/\St.le (S x0) st/\
  ∀x,J x->ih (Bz (λenv' st'=>∃y,J y/\μ y<μ x/\(E y).C3 env'/\St.le (S y) st') Q0) (E x) (S x):=
 ⟨LS σ,λy=>env.EG (f y.x y.s y.o) (g y.x y.s y.o) keep kb,λy=>y.m,
   λy=>mu y.s<=100000000/\mu y.s<=mu s/\Rx st0 y.m (rw y.x y.o)/\Rd.wp (Rd.loop body y.x) y.s Q E/\wt y.x+4*mu y.s<=500000000,λy=>mu y.s,⟨x0,s,st,U⟩,⟨hm,Nat.le_refl _,hc,h,hl⟩,he,St.le_refl _,
   λy ⟨j1,j2,j3,j4,j5⟩=>hb y.x y.s y.m y.o j1 j2 j3 (by rw [<-Rd.wp_loop];exact j4) j5⟩
theorem DU (U:mu s<=100000000) (h:K (.ret (DP (Aa s).1)) st):PC 35 [Am s] st K:=KN (BT U) h
theorem yz (U:mu s<=100000000) (h:K (.ret (RQ (Aa s))) st):PC 76 [Am s] st K:=LG (BT U) h
theorem jJ {k:Int} (U:k≠0) (hm:mu s<=100000000) (h:K (.ret (.bool (AP s k x))) st):PC 123 [Am s,.int .i64 k,.str x] st K:=eV U (BT hm) h
theorem Zh:Ba 74 (λs=>[Am s]) AB:=by
 refine ⟨λ{st0 s st rows K} U hc h=>?_⟩
 refine QX (BT U) ?_
 by_cases e:(Aa s).2.2=0
 .rw [if_pos e]
  unfold Rd.wp at h;rw [C8 e] at h;exact h st hc
 .rw [if_neg e]
  unfold Rd.wp at h;rw [J8 e] at h;exact h BC st hc
theorem Z8 (hm:mu s<=100000000) (h:Rd.wp AB s Q E) (e:(Aa s).2.2=0) (h2:(Aa s).1.kind≠21) (k:∀s1,(Aa s).2.1=s1->mu s1<mu s->mu s1<=100000000->Q (AJ (Aa s).1) s1->K (.ret (Ax (AJ (Aa s).1) s1 0)) st):PC 74 [Am s] st K:=by
 unfold Rd.wp at h;rw [C8 e] at h
 have U:=(De e).2 h2
 exact QX (BT hm) (by rw [if_pos e];exact k _ rfl U H1 h)
theorem Z7 {k:Int} (hm:mu s<=100000000) (h:Rd.wp AB s Q E) (e:AP s k x=true) (U:k≠0/\k≠21) (kk:∀s1,(Aa s).2.1=s1->mu s1<mu s->mu s1<=100000000->Q (AJ (Aa s).1) s1->K (.ret (Ax (AJ (Aa s).1) s1 0)) st):PC 74 [Am s] st K:=
 Z8 hm h (Fp e U.1) (by unfold AP at e;simp only [Bool.and_eq_true,beq_iff_eq] at e;rw [e.1];exact U.2) kk
theorem Cn (hm:mu s<=100000000) (h:Rd.wp AB s Q E) (U:(Aa s).1.kind≠0/\(Aa s).1.kind≠21) (kk:∀s1,(Aa s).2.1=s1->mu s1<mu s->mu s1<=100000000->Q (AJ (Aa s).1) s1->K (.ret (Ax (AJ (Aa s).1) s1 0)) st):PC 74 [Am s] st K:=
 Z8 hm h (En U.1) U.2 kk
theorem Fl {Q:α->Af->Prop} (U:mu s<=100000000) (h:Rd.wp (MX:Rd α) s Q E) (k:∀e:Er,¬e.1=0->E e s->K (.ret (Ax BC s e.1)) st):PC 106 [Am s] st K:=
 V4 (BT U) (k ⟨OO s,Kh s⟩ (Kh s) h)
theorem J5 {k:Int} (U:k≠0):Ba 75 (λs=>[Am s,.int .i64 k,.str x]) (Bo k x):=by
 refine ⟨λ{st0 s st rows K} hm hc h=>?_⟩
 unfold Bo at h
 rw [Rd.Ag,Rd.Ao] at h
 refine Ov U (BT hm) ?_
 unfold DB
 by_cases e:AP s k x=true
 .rw [if_pos e] at h |-
  rw [DK e U]
  unfold Rd.wp at h;rw [LM e U] at h;exact h st hc
 .rw [if_neg e] at h |-
  exact h BC st hc
theorem yo (h:K (.ret (Ax BC s 2)) st):PC 29 [Am s] st K:=Oh h
theorem OH (h:K (.ret (Ax n s 0)) st):PC 36 [Ax n s 0] st K:=by
 refine pB Tryz.func36 ?_
 repeat' ((conv=>whnf);(first|  refine RA ?_)<;>intros)
 all_goals exact AU rfl h
theorem KP (U:¬e=0) (h:K (.ret (Ax BC s e)) st):PC 36 [Ax n s e] st K:=by
 refine pB Tryz.func36 ?_
 repeat' ((conv=>whnf);(first|  refine OV U ?_)<;>intros)
 all_goals exact AU rfl h
theorem jI (h:K (.ret (Ax BC s 120)) st):PC 115 [Am s] st K:=by
 refine pB Tryz.func115 ?_
 repeat' ((conv=>whnf);(first|  fail)<;>intros)
 all_goals exact AU rfl h
theorem yx {k:Int} (U:k≠0) (hm:mu s<=100000000) (h:K (.ret (.bool (AP s k x))) st):PC 112 [Am s,.int .i64 k,.str x] st K:=by
 refine pB Tryz.func112 ?_
 repeat' ((conv=>whnf);(first|  refine BU ?_ ?_|refine jJ U hm ?_)<;>intros)
 all_goals conv=>whnf
 all_goals exact An h ‹_›
theorem yy (U:mu s<=100000000) (h:K (.ret (.bool (AP s 15 x))) st):PC 111 [Am s,.str x] st K:=by
 refine pB Tryz.func111 ?_
 repeat' ((conv=>whnf);(first|  refine BU ?_ ?_|refine jJ IR U ?_)<;>intros)
 all_goals conv=>whnf
 all_goals exact An h ‹_›
theorem uI {Q:α->Af->Prop} (hm:mu s<=100000000) (h:Rd.wp (MX:Rd α) s Q E) (k:∀e:Er,¬e.1=0->E e s->K (.ret (Ax BC s e.1)) st):PC 77 [Am s] st K:=by
 have U:=k ⟨OO s,Kh s⟩ (Kh s) h
 refine pB Tryz.func77 ?_
 repeat' ((conv=>whnf);(first|  refine V4 (BT hm) ?_)<;>intros)
 all_goals exact AU rfl U
section
variable {k:Int} {x:List UInt8} {P R:Prop}
theorem yq (hm:mu s<=100000000) (e:AP s k x=true) (U:k≠0) (h:K (.ret (.bool true)) st):PC 123 [Am s,.int .i64 k,.str x] st K:=jJ U hm (by rw [e];exact h)
theorem yp (hm:mu s<=100000000) (e:AP s k x=false) (U:k≠0) (h:K (.ret (.bool false)) st):PC 123 [Am s,.int .i64 k,.str x] st K:=jJ U hm (by rw [e];exact h)
theorem zd (hm:mu s<=100000000) (U:k≠0) (h:if AP s k x=true then P else R) (k1:AP s k x=true->P->K (.ret (.bool true)) st) (k2:AP s k x=false->R->K (.ret (.bool false)) st):PC 123 [Am s,.int .i64 k,.str x] st K:=by
 cases e:AP s k x with
 |true=>exact yq hm e U (k1 e (by rw [if_pos e] at h;exact h))
 |false=>exact yp hm e U (k2 e (by rw [if_neg (by rw [e];decide)] at h;exact h))
theorem yu (hm:mu s<=100000000) (e:AP s k x=true) (U:k≠0) (h:K (.ret (.bool true)) st):PC 112 [Am s,.int .i64 k,.str x] st K:=yx U hm (by rw [e];exact h)
theorem yt (hm:mu s<=100000000) (e:AP s k x=false) (U:k≠0) (h:K (.ret (.bool false)) st):PC 112 [Am s,.int .i64 k,.str x] st K:=yx U hm (by rw [e];exact h)
theorem ze (hm:mu s<=100000000) (U:k≠0) (h:if AP s k x=true then P else R) (k1:AP s k x=true->P->K (.ret (.bool true)) st) (k2:AP s k x=false->R->K (.ret (.bool false)) st):PC 112 [Am s,.int .i64 k,.str x] st K:=by
 cases e:AP s k x with
 |true=>exact yu hm e U (k1 e (by rw [if_pos e] at h;exact h))
 |false=>exact yt hm e U (k2 e (by rw [if_neg (by rw [e];decide)] at h;exact h))
theorem yw (U:mu s<=100000000) (e:AP s 15 x=true) (h:K (.ret (.bool true)) st):PC 111 [Am s,.str x] st K:=yy U (by rw [e];exact h)
theorem yv (U:mu s<=100000000) (e:AP s 15 x=false) (h:K (.ret (.bool false)) st):PC 111 [Am s,.str x] st K:=yy U (by rw [e];exact h)
theorem zf (U:mu s<=100000000) (h:if AP s 15 x=true then P else R) (k1:AP s 15 x=true->P->K (.ret (.bool true)) st) (k2:AP s 15 x=false->R->K (.ret (.bool false)) st):PC 111 [Am s,.str x] st K:=by
 cases e:AP s 15 x with
 |true=>exact yw U e (k1 e (by rw [if_pos e] at h;exact h))
 |false=>exact yv U e (k2 e (by rw [if_neg (by rw [e];decide)] at h;exact h))
end
theorem oi (h:K (.ret (.bool (HD t))) st):PC 235 [DP t] st K:=by
 refine pB Tryz.func235 ?_
 repeat' ((conv=>whnf);(first|  refine BU ?_ ?_|fail)<;>intros)
 all_goals conv=>whnf
 all_goals (refine An h ?_;clear h;simp_all [HD])
theorem nI (h:K (.ret (.bool (Gp t))) st):PC 242 [DP t] st K:=by
 refine pB Tryz.func242 ?_
 repeat' ((conv=>whnf);(first|  refine BU ?_ ?_|refine oi ?_)<;>intros)
 all_goals conv=>whnf
 all_goals (refine An h ?_;clear h;simp_all [Gp])
theorem nv (h:K (.ret (.bool (DI t))) st):PC 208 [DP t] st K:=by
 refine pB Tryz.func208 ?_
 repeat' ((conv=>whnf);(first|  refine BU ?_ ?_|fail)<;>intros)
 all_goals conv=>whnf
 all_goals (refine An h ?_;clear h;simp_all [DI])
theorem nz (h:K (.ret (.bool (D2 t))) st):PC 149 [DP t] st K:=by
 refine pB Tryz.func149 ?_
 repeat' ((conv=>whnf);(first|  refine BU ?_ ?_|refine nv ?_)<;>intros)
 all_goals conv=>whnf
 all_goals (refine An h ?_;clear h;simp_all [D2,DI,Xf,xj,UL,xi])
theorem cq (h:K (.ret (.bool (D2 t||Fo t))) st):PC 79 [DP t] st K:=by
 refine pB Tryz.func79 ?_
 repeat' ((conv=>whnf);(first|  refine BU ?_ ?_|refine nz ?_)<;>intros)
 all_goals conv=>whnf
 all_goals (refine An h ?_;clear h;simp_all [Fo])
theorem nJ (h:K (.ret (.bool (([1,2,3,4]:List Int).contains t.kind))) st):PC 236 [DP t] st K:=by
 refine pB Tryz.func236 ?_
 repeat' ((conv=>whnf);(first|  refine BU ?_ ?_|fail)<;>intros)
 all_goals conv=>whnf
 all_goals (refine An h ?_;clear h;simp_all)
theorem QU {k:Int} {own:Ay} (h:K (.ret (enc (Al k l))) st):PC 117 [.int .i64 k,.slice 6 (l.map Ap) own] st K:=by
 refine pB Tryz.func117 ?_
 repeat' ((conv=>whnf);(first|  fail)<;>intros)
 all_goals exact CS (St.le_refl _) Ck h
theorem nK {k:Int} {a:Nd} {own:Ay} (h:K (.ret (enc (Al k [a]))) st):PC 117 [.int .i64 k,.slice 6 [Ap a] own] st K:=QU (l:=[a]) h
theorem nL {k:Int} {a b:Nd} {own:Ay} (h:K (.ret (enc (Al k [a,b]))) st):PC 117 [.int .i64 k,.slice 6 [Ap a,Ap b] own] st K:=QU (l:=[a,b]) h
end
theorem CV (h:P:=by (with_reducible show ∃_,_);first|exact ⟨⟨_,_,_,_⟩,⟨‹_›,FS,‹_›,Rd.Bh ‹_› FS,FS⟩,FS,Yl,St.le_refl _⟩|exact Ae ‹_› ‹_› rfl|exact Ae ‹_› ‹_› Ak|exact At ‹_› ‹_› rfl|exact At ‹_› ‹_› Ak|exact Ae (Rx.drop ‹_›) ‹_› rfl|exact Ae (Rx.drop ‹_›) ‹_› Ak|exact At (Rx.drop ‹_›) ‹_› rfl|exact At (Rx.drop ‹_›) ‹_› Ak|exact vn ‹_› ‹_› rfl|exact vo ‹_› ‹_› rfl|fail):P:=h
theorem El {A:Prop} (k:A) (h:A->P:=by intro k;(with_reducible show Ai _ _ _ _ _ _ _);first|exact Rx.BE ‹_› la k|exact Rx.BE (Rx.push ‹_› _) la k|exact Rx.BE (l:=[_]) (Rx.push ‹_› [_]) (Nat.le_of_ble_eq_true rfl) k|fail):P:=h k
theorem CJ {A:Prop} (k:A) (h:A->P:=by intro k;(with_reducible show PC _ _ _ _);first|((with_reducible show PC 35 _ _ _);exact DU ‹_› k)|((with_reducible show PC 76 _ _ _);exact yz ‹_› k)|((with_reducible show PC 123 _ _ _);exact yq ‹_› ‹_› IR k)|((with_reducible show PC 112 _ _ _);exact yu ‹_› ‹_› IR k)|((with_reducible show PC 111 _ _ _);exact yw ‹_› ‹_› k)|((with_reducible show PC 123 _ _ _);exact yp ‹_› ‹_› IR k)|((with_reducible show PC 112 _ _ _);exact yt ‹_› ‹_› IR k)|((with_reducible show PC 111 _ _ _);exact yv ‹_› ‹_› k)|((with_reducible show PC 29 _ _ _);exact yo k)|((with_reducible show PC 36 _ _ _);exact OH k)|((with_reducible show PC 36 _ _ _);exact KP ‹_› k)|((with_reducible show PC 115 _ _ _);exact jI k)|((with_reducible show PC 235 _ _ _);exact oi k)|((with_reducible show PC 242 _ _ _);exact nI k)|((with_reducible show PC 208 _ _ _);exact nv k)|((with_reducible show PC 149 _ _ _);exact nz k)|((with_reducible show PC 79 _ _ _);exact cq k)|((with_reducible show PC 236 _ _ _);exact nJ k)|((with_reducible show PC 117 _ _ _);exact rnode0_c k)|((with_reducible show PC 117 _ _ _);exact nK k)|((with_reducible show PC 117 _ _ _);exact nL k)|((with_reducible show PC 117 _ _ _);exact QU k)|fail):P:=h k
theorem IE {A:Prop} (k:A) (l:B) (h:A->B->P:=by intro k l;(with_reducible show PC _ _ _ _);first|((with_reducible show PC 123 _ _ _);exact zd ‹_› IR ‹_› k l)|((with_reducible show PC 112 _ _ _);exact ze ‹_› IR ‹_› k l)|((with_reducible show PC 111 _ _ _);exact zf ‹_› ‹_› k l)|fail):P:=h k l
theorem Jx {A:Prop} (k:A) (h:A->P:=by intro k;(with_reducible show PC _ _ _ _);first|((with_reducible show PC 74 _ _ _);exact Z7 ‹_› ‹_› ‹_› IR k)|((with_reducible show PC 74 _ _ _);exact Cn ‹_› ‹_› (by first|exact LQ ‹_›|exact Ns ‹_›|exact rN ‹_›|omega) k)|fail):P:=h k
theorem jS {A:Prop} (k:A) (l:B) (h:A->B->P:=by intro k l;(with_reducible show PC _ _ _ _);first|((with_reducible show PC 74 _ _ _);exact Ba.go Zh ‹_› ‹_› ‹_› k l)|((with_reducible show PC 75 _ _ _);exact Ba.go (J5 IR) ‹_› ‹_› ‹_› k l)|fail):P:=h k l
theorem Rh {A:Prop} (k:A) (h:A->P:=by intro k;(with_reducible show PC _ _ _ _);first|((with_reducible show PC 106 _ _ _);exact Fl ‹_› ‹_› k)|((with_reducible show PC 77 _ _ _);exact uI ‹_› ‹_› k)|fail):P:=h k
def FN (k:Int) (l:List Nd) (x:List UInt8):Rd Nd:=.seq (Bo 15 x) λc=>.ret (Al k (l++[c]))
def Gu (exp:Rd Nd) (k:Int) (x:List UInt8) (l:List Nd):Rd (List Nd):=.seq (Bo k x) λw=>.seq exp λe=>.ret (l++[w]++[e])
def sA (p:List Nd×Bool):Nd:=if p.2=true then Al 17 p.1 else Jr 17 p.1
structure tK (f:FuncId) (mk:Af->List V) (A:Rd (List Nd×Bool)):Prop where
 ap:∀{st0:St} {s:Af} {st:St} {rows:List (Ay×List Nd)} {K:AD->St->Prop},mu s<=100000000->Rx st0 st rows->
  Rd.wp A s (λv s'=>∀st',Rx st0 st' rows->K (.ret (.Bl [Ax (sA v) s' 0,.bool v.2])) st') (λe s'=>∀n st',Rx st0 st' rows->K (.ret (.Bl [Ax n s' e.1,.bool false])) st')->PC f (mk s) st K
structure aw (B:Nat) (f:FuncId) (mk:Af->V->List V) (A:List Nd->Rd (List Nd)):Prop where
 ap:∀{st0:St} {s:Af} {st:St} {rows:List (Ay×List Nd)} {K:AD->St->Prop} {own:Ay} {l:List Nd},l.length<=B->mu s<=100000000->Rx st0 st ((own,l)::rows)->
  Rd.wp (A l) s (λl' s'=>∀n own' st',Rx st0 st' ((own',l')::rows)->K (.ret (.Bl [.slice 6 (l'.map Ap) own',Ax n s' 0])) st') (λe s'=>∀l' n own' st',Rx st0 st' ((own',l')::rows)->K (.ret (.Bl [.slice 6 (l'.map Ap) own',Ax n s' e.1])) st')->PC f (mk s (.slice 6 (l.map Ap) own)) st K
structure tJ (f:FuncId) (mk:Af->V->List V) (A:List Nd->Rd Nd):Prop where
 ap:∀{st0:St} {s:Af} {st:St} {rows:List (Ay×List Nd)} {K:AD->St->Prop} {own:Ay} {l:List Nd},l.length<=900000000->mu s<=100000000->Rx st0 st ((own,l)::rows)->
  Rd.wp (A l) s (λv s'=>∀st',Rx st0 st' rows->K (.ret (Ax v s' 0)) st') (λe s'=>∀n st',Rx st0 st' rows->K (.ret (Ax n s' e.1)) st')->PC f (mk s (.slice 6 (l.map Ap) own)) st K
section
variable {st0 st:St} {s:Af} {rows:List (Ay×List Nd)} {K:AD->St->Prop} {E:Er->Af->Prop}
theorem tK.go {mk:Af->List V} {A:Rd (List Nd×Bool)} {Q:List Nd×Bool->Af->Prop} (hf:tK f mk A) (U:mu s<=100000000) (hc:Rx st0 st rows) (h:Rd.wp A s Q E)
 (k:∀n s' st',A.run s=.inr (n,s')->mu s'<=mu s->mu s'<=100000000->Rx st0 st' rows->Q n s'->K (.ret (.Bl [Ax (sA n) s' 0,.bool n.2])) st')
 (kb:∀e n s' st',¬e.1=0->Rx st0 st' rows->E e s'->K (.ret (.Bl [Ax n s' e.1,.bool false])) st'):PC f (mk s) st K:=
 hf.ap U hc (Rd.wp_mono h (λv s' r q st' c=>k v s' st' r (A.le _ _ _ r) (Nat.le_trans (A.le _ _ _ r) U) c q) (λe s' _ q n st' c=>kb e n s' st' e.2 c q))
theorem aw.go {B:Nat} {mk:Af->V->List V} {A:List Nd->Rd (List Nd)} {own:Ay} {Q:List Nd->Af->Prop} (hf:aw B f mk A) (hl:l.length<=B) (hm:mu s<=100000000) (hc:Rx st0 st ((own,l)::rows)) (h:Rd.wp (A l) s Q E)
 (k:∀l' n U s' st',(A l).run s=.inr (l',s')->mu s'<=mu s->mu s'<=100000000->Rx st0 st' ((U,l')::rows)->Q l' s'->K (.ret (.Bl [.slice 6 (l'.map Ap) U,Ax n s' 0])) st')
 (kb:∀e l' n U s' st',¬e.1=0->Rx st0 st' ((U,l')::rows)->E e s'->K (.ret (.Bl [.slice 6 (l'.map Ap) U,Ax n s' e.1])) st'):PC f (mk s (.slice 6 (l.map Ap) own)) st K:=
 hf.ap hl hm hc (Rd.wp_mono h (λv s' r q n U st' c=>k v n U s' st' r ((A l).le _ _ _ r) (Nat.le_trans ((A l).le _ _ _ r) hm) c q) (λe s' _ q l' n U st' c=>kb e l' n U s' st' e.2 c q))
theorem tJ.go {mk:Af->V->List V} {A:List Nd->Rd Nd} {own:Ay} {Q:Nd->Af->Prop} (hf:tJ f mk A) (hl:l.length<=900000000) (U:mu s<=100000000) (hc:Rx st0 st ((own,l)::rows)) (h:Rd.wp (A l) s Q E)
 (k:∀n s' st',(A l).run s=.inr (n,s')->mu s'<=mu s->mu s'<=100000000->Rx st0 st' rows->Q n s'->K (.ret (Ax n s' 0)) st')
 (kb:∀e n s' st',¬e.1=0->Rx st0 st' rows->E e s'->K (.ret (Ax n s' e.1)) st'):PC f (mk s (.slice 6 (l.map Ap) own)) st K:=
 hf.ap hl U hc (Rd.wp_mono h (λv s' r q st' c=>k v s' st' r ((A l).le _ _ _ r) (Nat.le_trans ((A l).le _ _ _ r) U) c q) (λe s' _ q n st' c=>kb e n s' st' e.2 c q))
attribute [local irreducible] Go.Aw.Ai
theorem Gx:Ba 181 (λs=>[Am s]) EB:=by
 refine ⟨λ{st0 s st rows K} U hc h=>?_⟩
 simp only [EB,Cm,Rd.Ag,Rd.Ao,Rd.wp_seq,Rd.wp_ret] at h
 refine pB Tryz.func181 ?_
 repeat' ((conv=>whnf);(first|refine AV ?_|refine Ej ?_ ?_|refine CJ ?_|refine Jx ?_|refine jS ?_ ?_|refine Rh ?_|refine El ?_|exact CV|fail)<;>intros)
theorem GZ {k:Int}:tJ 370 (λs v=>[.int .i64 k,v,Am s,.str x]) (λl=>FN k l x):=by
 refine ⟨λ{st0 s st rows K own l} U hm hc h=>?_⟩
 simp only [FN,Rd.Ag,Rd.Ao,Rd.wp_seq,Rd.wp_ret] at h
 refine pB Tryz.func370 ?_
 repeat' ((conv=>whnf);(first|  refine jS ?_ ?_|refine CJ ?_|refine El ?_|exact CV|fail)<;>intros)
end
theorem LQ (h:DI t=true):t.kind≠0/\t.kind≠21:=by
 unfold DI at h
 simp only [Bool.or_eq_true,Bool.and_eq_true,beq_iff_eq] at h
 omega
theorem Ns (h:HD t=true):t.kind≠0/\t.kind≠21:=by
 unfold HD at h
 simp only [Bool.or_eq_true,Bool.and_eq_true,beq_iff_eq] at h
 omega
theorem Ja (h:FG t=true):t.kind≠0/\t.kind≠21:=by
 unfold FG at h
 simp only [Bool.or_eq_true,Bool.and_eq_true,beq_iff_eq] at h
 omega
abbrev pv (b d:Nat):V:=.agg [.ptr b 0,.int .i64 (d:Int)]
section
variable {st0 st:St} {b d:Nat} {s:Af} {rows:List (Ay×List Nd)} {K:AD->St->Prop}
theorem eM (hc:Cx st0 b s st rows) (kk:∀st',Cx st0 b s st' rows->K (.ret (.bool (AP s 15 x))) st'):PC 213 [pv b d,.str x] st K:=by
 refine pB Tryz.func213 ?_
 repeat' ((conv=>whnf);first|  (refine BU ?_ ?_<;>intro _)|refine rq hc (λU hc=>?_))
 all_goals conv=>whnf
 all_goals exact An (kk U hc) ‹_›
theorem V2 (hc:Cx st0 b s st rows) (e:AP s 15 x=true) (U:∀st',Cx st0 b s st' rows->K (.ret (.bool true)) st'):PC 213 [pv b d,.str x] st K:=eM hc (by rw [e];exact U)
theorem cn (hc:Cx st0 b s st rows) (e:AP s 15 x=false) (U:∀st',Cx st0 b s st' rows->K (.ret (.bool false)) st'):PC 213 [pv b d,.str x] st K:=eM hc (by rw [e];exact U)
theorem wg {Q:Prop} (hc:Cx st0 b s st rows) (h:if AP s 15 x=true then P else Q) (U:∀st',Cx st0 b s st' rows->AP s 15 x=true->P->K (.ret (.bool true)) st') (k2:∀st',Cx st0 b s st' rows->AP s 15 x=false->Q->K (.ret (.bool false)) st'):
 PC 213 [pv b d,.str x] st K:=by
 cases e:AP s 15 x with
 |true=>exact V2 hc e λst' c=>U st' c e (by rw [if_pos e] at h;exact h)
 |false=>exact cn hc e λst' c=>k2 st' c e (by rw [if_neg (by rw [e];decide)] at h;exact h)
theorem E8 {ks:List Int} {own:Ay} (h0:ks.contains 0=false):Bi enc 157 (λb=>[.ptr b 0,.slice 1 (ints ks) own]) (Cm ks):=by
 refine ⟨λ{st0 b s st rows K} hc h=>?_⟩
 unfold Cm at h
 simp only [Rd.Ag,Rd.Ao] at h
 refine pB Tryz.func157 ?_
 repeat' ((conv=>whnf);first|(refine AV ?_;intros)|refine SH ‹_› (λU hc=>?_)|refine HS.go ‹_› ‹_› (λn s1 U hr hm hc h=>?_) (λe s1 U hc h=>?_)|refine TO ‹_› ‹_› (λe s1 U hc h=>?_)|exact Ch (Cx.y ‹_›) ‹_›|exact Ch (Cx.y (Cx.drop ‹_›)) ‹_›|exact ⟨⟨_,_,_,_⟩,⟨‹_›,Rd.Bh ‹_› i7,kw,i7⟩,i7,(by refine ⟨rfl,?_,?_,rfl⟩<;>repeat' (first|exact trivial|exact rfl|refine And.intro ?_ ?_)),St.le_refl _⟩|exact DR ‹_› ‹_› rfl|exact DR ‹_› ‹_› Ck|exact DR (Cx.drop ‹_›) ‹_› rfl|exact DR (Cx.drop ‹_›) ‹_› Ck|exact Ch ‹_› ‹_›|exact Ch (Cy.drop ‹_›) ‹_›|exact Ch (Cy.drop (Cy.drop ‹_›)) ‹_›|refine WA (λ_=>?_))
 refine O9 (α:=Nat×St) (λx=>[(12,.int .i64 (x.1:Int))]) [0,4,5,10,11] [0,1] (λx=>x.2) (λx=>x.1<=ks.length/\Cx st0 b s x.2 rows/\ks.contains (Aa s).1.kind=(ks.drop x.1).contains (Aa s).1.kind) (λx=>ks.length - x.1) (0,_) ⟨Nat.zero_le _,hc,rfl⟩ Yl (St.le_refl _) ?_
 rintro ⟨k,st2⟩ ⟨hk,hc2,hi⟩
 dsimp only at hk hc2 hi |-
 by_cases hlt:k<ks.length
 .obtain ⟨x,hx⟩:∃x,ks[(k:Int).toNat]? =some x:=⟨_,List.getElem?_eq_getElem hlt⟩
  have hx':ks[k]? =some x:=hx
  rw [drop_at hx',List.contains_cons] at hi
  have hx1:=hx
  by_cases e:(Aa s).1.kind=x
  .rw [beq_iff_eq.2 e,Bool.true_or] at hi
   rw [if_pos hi] at h
   have hkd:(Aa s).1.kind≠0:=λz=>by rw [z] at hi;rw [h0] at hi;cases hi
   have hc:=hc2
   repeat' ((conv=>whnf);first|refine l9 hx H1 ?_|(refine AV ?_;intros)|refine HS.go hc h (λn s1 U hr hm hc h=>?_) (λe s1 U hc h=>?_)|exact DR hc h rfl|exact Ch hc h)
  .rw [beq_eq_false_iff_ne.2 e,Bool.false_or] at hi
   repeat' ((conv=>whnf);first|refine l9 hx H1 ?_|(refine AV ?_;intros)|fail)
   all_goals conv=>whnf
   all_goals exact ⟨(k+1,st2),⟨hlt,hc2,hi⟩,Nat.sub_lt_sub_left hlt (Nat.lt_succ_self k),Yl,St.le_refl _⟩
 .rw [List.drop_eq_nil_iff.2 H1] at hi
  rw [if_neg (by rw [hi];exact Bool.false_ne_true)] at h
  have hc:=hc2
  repeat' ((conv=>whnf);first|(refine AV ?_;intros)|refine TO hc h (λe s1 U hc h=>?_)|exact Ch hc h)
theorem mf:Bi enc 157 (λb=>[.ptr b 0,.slice 1 [[.int .i64 1],[.int .i64 2],[.int .i64 3],[.int .i64 4]] .full]) (Cm [1,2,3,4]):=E8 (ks:=[1,2,3,4]) IR
theorem QT:Bi enc 283 (λb=>[pv b d]) EB:=by
 refine ⟨λ{st0 b s st rows K} hc h=>?_⟩
 unfold EB at h
 simp only [Rd.Ag,Rd.Ao,Rd.wp_seq,Rd.wp_ret] at h
 refine pB Tryz.func283 ?_
 repeat' ((conv=>whnf);first|exact C1|(refine C2 ?_ ?_ ?_;rotate_left)|(refine Ej ?_ ?_<;>intro e h)|refine SH ‹_› (λU hc=>?_)|refine Q6 ‹_› ‹_› (by first|  exact Ns ‹_›|omega) (λs1 U hz hm hc h=>?_)|refine HS.go ‹_› ‹_› (λn s1 U hr hm hc h=>?_) (λe s1 U hc h=>?_)|refine Xh.go ‹_› ‹_› (λn s1 U hr hm hc h=>?_) (λe s1 U hc h=>?_)|exact Ch (Cx.y ‹_›) ‹_›|exact Ch (Cx.y (Cx.drop ‹_›)) ‹_›|refine J6 ?_|refine eu ?_|refine VQ ?_|refine AA (λe1=>?_)|exact ⟨⟨_,_,_,_⟩,⟨‹_›,Rd.Bh ‹_› i7,kw,i7⟩,i7,(by refine ⟨rfl,?_,?_,rfl⟩<;>repeat' (first|exact trivial|exact rfl|refine And.intro ?_ ?_)),St.le_refl _⟩|exact DR ‹_› ‹_› rfl|exact DR ‹_› ‹_› Ck|exact DR (Cx.drop ‹_›) ‹_› rfl|exact DR (Cx.drop ‹_›) ‹_› Ck|exact Ch ‹_› ‹_›|exact Ch (Cy.drop ‹_›) ‹_›|exact Ch (Cy.drop (Cy.drop ‹_›)) ‹_›|refine mf.go hc h (λn s1 U hr hm hc h=>?_) (λe s1 U hc h=>?_)|refine Ad 8 [4,6,7] [1] ?_|fail)
end
theorem Ge (h:P:=by (with_reducible show ∃_,_);first|exact ⟨⟨_,_,_,_⟩,⟨‹_›,Rd.Bh ‹_› i7,kw,i7⟩,i7,Yl,St.le_refl _⟩|exact Ch (Cx.y ‹_›) ‹_›|exact Ch (Cx.y (Cx.drop ‹_›)) ‹_›|exact tU ‹_› ‹_› rfl|exact DR ‹_› ‹_› rfl|exact DR ‹_› ‹_› Ck|exact DR (Cx.drop ‹_›) ‹_› rfl|exact DR (Cx.drop ‹_›) ‹_› Ck|exact Ch ‹_› ‹_›|exact Ch (Cy.drop ‹_›) ‹_›|exact Ch (Cy.drop (Cy.drop ‹_›)) ‹_›|fail):P:=h
theorem MA {A:Prop} (k:A) (h:A->P:=by intro k;(with_reducible show Ai _ _ _ _ _ _ _);first|exact Cx.BE ‹_› la k|exact Cx.BE (Cx.push ‹_› _) la k|fail):P:=h k
theorem UY {A:Prop} (k:A) (h:A->P:=by intro k;(with_reducible show PC _ _ _ _);first|((with_reducible show PC 156 _ _ _);exact bD ‹_› ‹_› k)|((with_reducible show PC 156 _ _ _);exact mb ‹_› ‹_› k)|((with_reducible show PC 213 _ _ _);exact V2 ‹_› ‹_› k)|((with_reducible show PC 213 _ _ _);exact cn ‹_› ‹_› k)|((with_reducible show PC 83 _ _ _);exact SH ‹_› k)|fail):P:=h k
theorem MR {A:Prop} (k:A) (l:B) (h:A->B->P:=by intro k l;(with_reducible show PC _ _ _ _);first|((with_reducible show PC 156 _ _ _);exact ma ‹_› ‹_› k l)|((with_reducible show PC 213 _ _ _);exact wg ‹_› ‹_› k l)|fail):P:=h k l
theorem NF {A:Prop} (k:A) (h:A->P:=by intro k;(with_reducible show PC _ _ _ _);first|((with_reducible show PC 121 _ _ _);exact W6 ‹_› ‹_› ‹_› IR k)|((with_reducible show PC 121 _ _ _);exact Q6 ‹_› ‹_› (by first|exact LQ ‹_›|exact Ns ‹_›|omega) k)|fail):P:=h k
theorem Mt {A:Prop} (k:A) (l:B) (h:A->B->P:=by intro k l;(with_reducible show PC _ _ _ _);first|((with_reducible show PC 121 _ _ _);exact HS.go ‹_› ‹_› k l)|((with_reducible show PC 118 _ _ _);exact Xh.go ‹_› ‹_› k l)|fail):P:=h k l
theorem xd {A:Prop} (k:A) (h:A->P:=by intro k;(with_reducible show PC _ _ _ _);first|((with_reducible show PC 171 _ _ _);exact TO ‹_› ‹_› k)|fail):P:=h k
theorem K9 {A:Prop} (k:A) (h:A->P:=by intro k;(with_reducible show PC _ _ _ _);first|((with_reducible show PC 341 _ _ _);exact J6 k)|((with_reducible show PC 343 _ _ _);exact rl k)|((with_reducible show PC 207 _ _ _);exact Xy k)|((with_reducible show PC 217 _ _ _);exact eu k)|((with_reducible show PC 217 _ _ _);exact rV k)|((with_reducible show PC 217 _ _ _);exact VQ k)|((with_reducible show PC 217 _ _ _);exact rW k)|((with_reducible show PC 217 _ _ _);exact Nj k)|((with_reducible show PC 286 _ _ _);exact vh k)|fail):P:=h k
theorem wS (h:HD t=true):t.kind≠21:=(Ns h).2
theorem GQ:Rd.AZ EB:=Rd.AZ.look λs v s' h=>by
 split at h
 .rename_i U
  exact Rd.AZ.at (λv s' e=>Ix e (wS U)) h
 .exact Rd.AZ.seq (GR IR) s v s' h
section
variable {st0 st:St} {b d:Nat} {s:Af} {rows:List (Ay×List Nd)} {K:AD->St->Prop}
attribute [local irreducible] Go.Aw.Ai
theorem n8 {br:Bool} {opd:Rd Nd} (ho:Bi enc 342 (λb=>[pv b d]) opd):tH (λp own=>.Bl [.slice 6 (p.1.map Ap) own,.bool p.2]) (·.1) 285 (λb=>[pv b d,.bool br]) (H8 opd br):=by
 refine ⟨λ{st0 b s st rows K} hc h=>?_⟩
 unfold H8 at h
 refine pB Tryz.func285 ?_
 have hmu:=hc.mu
 repeat' ((conv=>whnf);(first|refine AV ?_|refine Ej ?_ ?_|fail)<;>intros)
 refine CZ (λl own=>[(4,.slice 6 (l.map Ap) own)]) (λ_ _=>[]) [1,2] [0] (λl own=>(own,l)::rows) (λl=>l.length) .full (Cx.push ‹_› []) ‹_› li Yl ?_
 intro l s1 st1 U hc h hl hm1
 simp only [Zb,Rd.Ag,Rd.Ao,Rd.wp_seq,Rd.wp_ret,Rd.AO] at h
 repeat' ((conv=>whnf);(first|refine AV ?_|refine Ej ?_ ?_|fail)<;>intros)
 unfold VL at h
 refine CZ (λl own=>[(4,.slice 6 (l.map Ap) own)]) (λ_ _=>[]) [1,2] [0] (λl own=>(own,l)::rows) (λl=>l.length) U ‹_› ‹_› hl Yl ?_
 intro l2 s2 st2 own2 hc h hl hm2
 simp only [VK,Rd.Ag,Rd.Ao,Rd.wp_seq,Rd.wp_ret,Rd.AO] at h
 cases br
 .simp only [Bool.false_eq_true,if_false] at h
  repeat' ((conv=>whnf);(first|refine AV ?_|refine Ej ?_ ?_|refine UY ?_|refine MR ?_ ?_|refine NF ?_|exact Ge|refine K9 ?_|refine MA ?_|refine ho.go ‹_› ‹_› ?_ ?_|refine QT.Tr GQ ‹_› ‹_› ?_ ?_)<;>intros)
 .simp only [if_true] at h
  repeat' ((conv=>whnf);(first|refine AV ?_|refine Ej ?_ ?_|refine UY ?_|refine MR ?_ ?_|refine NF ?_|exact Ge|refine K9 ?_|refine MA ?_|refine ho.go ‹_› ‹_› ?_ ?_|refine QT.Tr GQ ‹_› ‹_› ?_ ?_)<;>intros)
end
section
variable {st0 st:St} {b d:Nat} {s:Af} {rows:List (Ay×List Nd)} {K:AD->St->Prop}
attribute [local irreducible] Go.Aw.Ai
theorem nj {opd:Rd Nd} (U:Bi enc 342 (λb=>[pv b d]) opd):Bi enc 212 (λb=>[pv b d]) (Pg opd):=by
 refine ⟨λ{st0 b s st rows K} hc h=>?_⟩
 simp only [Pg,Rd.wp_seq,Rd.wp_ret] at h
 refine pB Tryz.func212 ?_
 repeat' ((conv=>whnf);(first|  refine BU ?_ ?_|exact Ge|refine K9 ?_|refine tH.go (n8 U) ‹_› ‹_› ?_ ?_)<;>intros)
theorem ZL {hle:∀s v s',A s=.inr (v,s')->mu s'<=mu s} (hB:C4 A) (hc:Cx st0 b s st rows) (h:Rd.wp (Ly A hle) s (λv s'=>∀st',Cx st0 b s' st' rows->K (.ret (enc v)) st') (λe s'=>∀st',Cy st0 b s' st' rows->K (.Ci (fault e.1)) st')):Fv st b K (A s):=by
 cases U:A s with
 |inl p=>
  obtain ⟨e,s'⟩:=p
  unfold Rd.wp at h
  rw [Ip hB U] at h
  exact λst' hu=>h st' (hc.yZ hu)
 |inr p=>
  obtain ⟨n,s'⟩:=p
  unfold Rd.wp at h
  rw [IY U] at h
  exact λst' hu=>h st' (hc.PD hu (hle _ _ _ U))
theorem rm {A:Rd Nd} (hd:d<=1000000) (h0:d=0->A=.fail Fi) (hc:Cx st0 b s st rows)
 (h:Rd.wp A s (λv s'=>∀st',Cx st0 b s' st' rows->K (.ret (enc v)) st') (λe s'=>∀st',Cy st0 b s' st' rows->K (.Ci (fault e.1)) st'))
 (hg:d≠0->∀K:AD->St->Prop,Rd.wp A s (λv s'=>∀st',Cx st0 b s' st' rows->K (.ret (enc v)) st') (λe s'=>∀st',Cy st0 b s' st' rows->K (.Ci (fault e.1)) st')->PC g [pv b d] st K):
 PC 294 [pv b (d+1),.func g [] []] st K:=by
 refine pB Tryz.func294 ?_
 by_cases hz:d=0
 .have U:((d+1:Nat):Int)<2:=H1
  rw [h0 hz,Rd.BD] at h
  repeat' ((conv=>whnf);(first|refine AV ?_|refine CL ?_|exact Ch (Cx.y ‹_›) ‹_›)<;>intros)
 .have U:¬((d+1:Nat):Int)<2:=H1
  repeat' ((conv=>whnf);(first|refine BI hd ?_|refine AV ?_|refine hg hz _ (Rd.wp_mono ‹_› ?_ ?_)|refine CL ?_|exact Ge|fail)<;>intros)
theorem QM {c:Nat} {A:Rd Nd} (hd:d<=1000000) (h0:d=0->A=.fail Fi) (hc:Cx st0 b s st rows)
 (h:Rd.wp A s (λv s'=>∀st',Cx st0 b s' st' rows->K (.ret (enc v)) st') (λe s'=>∀st',Cy st0 b s' st' rows->K (.Ci (fault e.1)) st'))
 (hg:d≠0->∀K:AD->St->Prop,Rd.wp A s (λv s'=>∀st',Cx st0 b s' st' rows->K (.ret (enc v)) st') (λe s'=>∀st',Cy st0 b s' st' rows->K (.Ci (fault e.1)) st')->PC g [pv b d,.ptr c 0] st K):
 PC 294 [pv b (d+1),.func g [] [.ptr c 0]] st K:=by
 refine pB Tryz.func294 ?_
 by_cases hz:d=0
 .have U:((d+1:Nat):Int)<2:=H1
  rw [h0 hz,Rd.BD] at h
  repeat' ((conv=>whnf);(first|refine AV ?_|refine CL ?_|exact Ch (Cx.y ‹_›) ‹_›)<;>intros)
 .have U:¬((d+1:Nat):Int)<2:=H1
  repeat' ((conv=>whnf);(first|refine BI hd ?_|refine AV ?_|refine hg hz _ (Rd.wp_mono ‹_› ?_ ?_)|refine CL ?_|exact Ge|fail)<;>intros)
theorem Ey {A:Rd Nd} (hd:d<=1000000) (U:d=0->A=.fail Fi) (hg:d≠0->Bi enc g (λb=>[pv b d]) A):Bi enc 294 (λb=>[pv b (d+1),.func g [] []]) A:=by
 refine ⟨λ{st0 b s st rows K} hc h=>?_⟩
 exact rm hd U hc h λhz K h=>(hg hz).ap hc h
end
section
variable {st0 st:St} {b d:Nat} {s:Af} {rows:List (Ay×List Nd)} {K:AD->St->Prop}
attribute [local irreducible] Go.Aw.Ai
theorem bj (U:d+1<=100):DV 231 ((d+1:Nat):Int) (EJ (BN (B8 (d+1 - 1)))):=by
 have:=tX (deep:=((d+1:Nat):Int))
 have e:B0 ((d+1:Nat):Int) - 1=d+1 - 1:=by unfold B0;split<;>omega
 rw [e] at this;exact this
theorem dS (hd:d+1<=100):Bi enc 289 (λb=>[pv b (d+1)]) (CH (d+1)):=by
 refine ⟨λ{st0 b s st rows K} hc h=>?_⟩
 have U:C4 (EJ (BN (B8 (d+1 - 1)))):=OP (Cr (B3 _))
 have hi:∀{K:AD->St->Prop},Rd.wp (CH (d+1)) s (λv s'=>∀st',Cx st0 b s' st' rows->K (.ret (enc v)) st') (λe s'=>∀st',Cy st0 b s' st' rows->K (.Ci (fault e.1)) st')->
  PC 84 [.ptr b 0,.func 231 [] [],.int .i64 ((d+1:Nat):Int)] st K:=λh=>
  Sk (d:=d+1) rfl (bj hd) (λe=>by omega) U hc.mu hc.has (ZL U hc h)
 refine pB Tryz.func289 ?_
 repeat' ((conv=>whnf);(first|  refine hi (Rd.wp_mono ‹_› ?_ ?_)|exact Ge|fail)<;>intros)
theorem ZY {full:Rd Nd} (hf:Bi enc 289 (λb=>[pv b d]) full):Bi enc 359 (λb=>[pv b d,enc n]) (Jt full n):=by
 refine ⟨λ{st0 b s st rows K} hc h=>?_⟩
 simp only [Jt,Rd.Ag,Rd.Ao,Rd.wp_seq,Rd.wp_ret] at h
 refine pB Tryz.func359 ?_
 repeat' ((conv=>whnf);(first|exact C1|refine AV ?_|(refine C2 ?_ ?_ ?_;rotate_left)|refine MR ?_ ?_|refine NF ?_|exact Ge|refine K9 ?_|refine AA ?_|refine GJ.go (by first|exact Bi.q) ?_ ?_|refine Az [1,3,5,9,6,10,13,14,16] [2] ?_|fail)<;>intros)
theorem vk {opd full:Rd Nd} (U:Bi enc 342 (λb=>[pv b d]) opd) (hf:Bi enc 289 (λb=>[pv b d]) full):Bi enc 292 (λb=>[pv b d]) (aY opd full):=by
 refine ⟨λ{st0 b s st rows K} hc h=>?_⟩
 simp only [aY,Rd.wp_seq] at h
 refine pB Tryz.func292 ?_
 repeat' ((conv=>whnf);(first|exact C1|(refine C2 ?_ ?_ ?_;rotate_left)|exact Ge|refine AA ?_|refine GJ.go (by first|  exact (nj U).a|exact (ZY hf).a) ?_ ?_|refine Ad 5 [2,3,4] [1] ?_|fail)<;>intros)
theorem Yp {L:DL} {lt U:Nd} (he:Bi enc 294 (λb=>[pv b d,.func 292 [] []]) L.exp):Bi enc 389 (λb=>[pv b d,enc lt,enc U]) (Ii L lt U):=by
 refine ⟨λ{st0 b s st rows K} hc h=>?_⟩
 simp only [Ii,Rd.wp_seq,Rd.wp_ret] at h
 refine pB Tryz.func389 ?_
 repeat' ((conv=>whnf);(first|exact C1|(refine C2 ?_ ?_ ?_;rotate_left)|refine Mt ?_ ?_|exact Ge|refine K9 ?_|refine AA ?_|refine GJ.go (by first|exact Bi.q) ?_ ?_|refine Ad 8 [4,6,7] [3] ?_|fail)<;>intros)
theorem eF {L:DL} (he:Bi enc 294 (λb=>[pv b d,.func 292 [] []]) L.exp):tI 414 (λb v=>[pv b d,v,.str w]) (λl=>Od L l w):=by
 refine ⟨λ{st0 b s st rows K own l} hl hc h=>?_⟩
 simp only [Od,P8,Rd.Ag,Rd.Ao,Rd.wp_seq,Rd.wp_ret] at h
 refine pB Tryz.func414 ?_
 have U:=hc.mu
 rcases hc.has with hs|⟨t,u,o1,o2,e0,hs⟩
 .skip
  repeat' ((conv=>whnf);(first|refine AV ?_|refine Ej ?_ ?_|refine AK hs ?_|refine UY ?_|refine MR ?_ ?_|refine Mt ?_ ?_|exact Ge|refine MA ?_|refine WH ?_|refine fq ‹_› ‹_› (Ja ‹_›) ?_|refine He ‹_› U ?_|refine GJ.go (by first|exact Bi.q) ?_ ?_)<;>intros)
 .skip
  repeat' ((conv=>whnf);(first|refine AV ?_|refine Ej ?_ ?_|refine AK hs ?_|refine UY ?_|refine MR ?_ ?_|refine Mt ?_ ?_|exact Ge|refine MA ?_|refine WH ?_|refine fq ‹_› ‹_› (Ja ‹_›) ?_|refine He ‹_› U ?_|refine GJ.go (by first|exact Bi.q) ?_ ?_)<;>intros)
theorem L5 {p:FuncId} {A:Rd Nd} {may:Nd->Bool} (hg:Bi enc g (λb=>[pv b d]) A) (hp:∀{s s' n} {st:St} {K:AD->St->Prop},A.run s=.inr (n,s')->mu s<=100000000->K (.ret (.bool (may n))) st->PC p [enc n] st K):
 Bi enc 280 (λb=>[pv b d,.func g [] [],.func p [] []]) (CY A may):=by
 refine ⟨λ{st0 b s st rows K} hc h=>?_⟩
 simp only [CY,Rd.Ag,Rd.Ao,Rd.wp_seq,Rd.wp_ret,Rd.Df] at h
 refine pB Tryz.func280 ?_
 have U:=hc.mu
 rcases hc.has with hs|⟨t,u,o1,o2,e0,hs⟩
 .skip
  repeat' ((conv=>whnf);(first|  refine Ej ?_ ?_|refine AK hs ?_|refine CL ?_|exact Ge|refine He ‹_› U ?_|refine GJ.go (by first|exact Bi.q) ?_ ?_|refine hp ‹_› U ?_)<;>intros)
 .skip
  repeat' ((conv=>whnf);(first|  refine Ej ?_ ?_|refine AK hs ?_|refine CL ?_|exact Ge|refine He ‹_› U ?_|refine GJ.go (by first|exact Bi.q) ?_ ?_|refine hp ‹_› U ?_)<;>intros)
end
structure MQ (D:Nat) (L:DL):Prop where
 atom:Bi enc 294 (λb=>[pv b D,.func 288 [] []]) L.atom
 exp:Bi enc 294 (λb=>[pv b D,.func 292 [] []]) L.exp
 ops:Bi enc 294 (λb=>[pv b D,.func 212 [] []]) L.ops
 decls:Bi enc 294 (λb=>[pv b D,.func 295 [] []]) L.decls
 stmts:Bi enc 294 (λb=>[pv b D,.func 416 [] []]) L.stmts
 alts:Bi enc 294 (λb=>[pv b D,.func 391 [] []]) L.alts
 F1:∀{o:Nd} {c:Nat} {st0:St} {b:Nat} {s:Af} {st:St} {rows:List (Ay×List Nd)} {K:AD->St->Prop},st.box c=some (Ap o)->Cx st0 b s st rows->
  Rd.wp (L.F1 o) s (λv s'=>∀st',Cx st0 b s' st' rows->K (.ret (enc v)) st') (λe s'=>∀st',Cy st0 b s' st' rows->K (.Ci (fault e.1)) st')->PC 294 [pv b D,.func 418 [] [.ptr c 0]] st K
 list:∀{o:Nd} {c:Nat} {st0:St} {b:Nat} {s:Af} {st:St} {rows:List (Ay×List Nd)} {K:AD->St->Prop},st.box c=some (Ap o)->Cx st0 b s st rows->
  Rd.wp (L.list o) s (λv s'=>∀st',Cx st0 b s' st' rows->K (.ret (enc v)) st') (λe s'=>∀st',Cy st0 b s' st' rows->K (.Ci (fault e.1)) st')->PC 294 [pv b D,.func 420 [] [.ptr c 0]] st K
theorem ua (h:n.kids.length=0):IX n=true:=by
 unfold IX;rw [List.length_eq_zero_iff.1 h];rfl
theorem dY {x:Nd} (h:n.kids[((n.kids.length:Nat) - 1:Int).toNat]? =some x):n.kids.getLast? =some x:=by
 rw [List.getLast?_eq_getElem?,<-h];congr 1;omega
theorem ub {x:Nd} (h:n.kids[((n.kids.length:Nat) - 1:Int).toNat]? =some x) (k:x.kind=32\/x.kind=33):IX n=true:=by
 unfold IX;rw [dY h];simpa using k
theorem uc {x:Nd} (h:n.kids[((n.kids.length:Nat) - 1:Int).toNat]? =some x) (k:¬x.kind=32) (U:¬x.kind=33):¬IX n=true:=by
 unfold IX;rw [dY h];simp [k,U]
theorem Bn {β:Type} {m:Rd α} {k:α->Rd β} {s':Af} {v:β} (h:(Rd.seq m k).run s=.inr (v,s')):∃a s1,m.run s=.inr (a,s1)/\(k a).run s1=.inr (v,s'):=by
 unfold Rd.seq at h
 dsimp only at h
 split at h
 .cases h
 .exact ⟨_,_,‹_›,h⟩
theorem nk {L:DL} {a b:Nd} {s':Af} {n:Nat} (h:(Od L [a,b] w).run s=.inr (l,s')) (U:n<=100000000):l.length<=90000000:=by
 unfold Od at h
 obtain ⟨_,_,_,h⟩:=Bn h
 obtain ⟨_,_,_,h⟩:=Bn h
 obtain ⟨_,_,_,h⟩:=Bn h
 cases h
 exact Nat.le_of_ble_eq_true rfl
section
variable {st0 st:St} {b d:Nat} {s:Af} {rows:List (Ay×List Nd)} {K:AD->St->Prop} {L:DL} {atom:Rd Nd}
attribute [local irreducible] Go.Aw.Ai
theorem gj (U:MQ d L):Bi enc 390 (λb=>[pv b d]) (Km L):=by
 refine ⟨λ{st0 b s st rows K} hc h=>?_⟩
 simp only [Km,Rd.wp_seq,Rd.wp_ret] at h
 have hmu:=hc.mu
 refine pB Tryz.func390 ?_
 repeat' ((conv=>whnf);(first|exact C1|(refine C2 ?_ ?_ ?_;rotate_left)|refine Mt ?_ ?_|exact Ge|refine K9 ?_|refine AA ?_|refine GJ.go (by first|  exact (U.exp).a) ?_ ?_|refine tI.go (l:=[_,_]) (eF U.exp) (Nat.le_of_ble_eq_true rfl) (Cx.push ‹_› _) ‹_› ?_ ?_|refine tI.go (eF U.exp) (nk ‹_› hmu) ‹_› ‹_› ?_ ?_|refine Az [1,3,7,4,8,11,13] [] ?_|refine Ad 7 [3,4,5,6] [1] ?_|fail)<;>intros)
theorem oM (hL:MQ d L):Bi enc 392 (λb=>[pv b d]) (Nr L):=by
 refine ⟨λ{st0 b s st rows K} hc h=>?_⟩
 simp only [Nr,Rd.wp_seq,Rd.wp_ret,Rd.Ao,Rd.BD] at h
 refine pB Tryz.func392 ?_
 repeat' ((conv=>whnf);first|(refine AV ?_;intros)|(refine BU ?_ ?_<;>intro _)|(refine Mt ?_ ?_<;>(first|intro n s1 U hr hm hc h|intro e s1 U hc h))|refine CL ?_|exact Ge|refine K9 ?_|refine Bi.go hL.stmts hc h (λn s1 U hr hm hc h=>?_) (λe s1 U hc h=>?_))
 all_goals conv=>whnf
 all_goals first
  |(rw [if_pos (ua H1)] at h;exact Ch hc.y h)
  |(rw [if_pos (ub ‹_› H1)] at h;exact Ch hc.y h)
  |(rw [if_neg (uc ‹_› H1 H1)] at h;exact DR hc h rfl)
end
section
variable {st0 st:St} {b d:Nat} {s:Af} {rows:List (Ay×List Nd)} {K:AD->St->Prop} {L:DL} {atom:Rd Nd}
attribute [local irreducible] Go.Aw.Ai
theorem lP (U:Bi enc 288 (λb=>[pv b d]) atom):Bi enc 280 (λb=>[pv b d,.func 288 [] [],.func 403 [] []]) (CY atom Hr):=
 L5 U λ_ _ k=>Vy k
theorem Vn {A:Rd Nd} {p:Nd->Bool} (h:Rd.AZ A):Rd.AZ (CY A p):=Rd.AZ.look λs v s' e=>Rd.AZ.at (h _) e
theorem gU (hL:MQ d L) (ha:Bi enc 288 (λb=>[pv b d]) atom) (hF:Rd.AZ atom):Bi enc 388 (λb=>[pv b d]) (Kz L atom):=by
 refine ⟨λ{st0 b s st rows K} hc h=>?_⟩
 simp only [Kz,Rd.wp_seq,Rd.wp_ret] at h
 refine pB Tryz.func388 ?_
 have hmu:=hc.mu
 repeat' ((conv=>whnf);(first|  refine Ej ?_ ?_|refine UY ?_|refine Mt ?_ ?_|exact Ge|refine K9 ?_|refine MA ?_|refine BH ?_)<;>intros)
 refine CZ (λl own=>[(3,.slice 6 (l.map Ap) own)]) (λ_ _=>[]) [1,2] [0,1] (λl own=>(own,l)::rows) (λl=>l.length) .full (Cx.push ‹_› _) ‹_› (by show 1+_<=_;omega) Yl ?_
 intro l s1 st1 U hc h hl hm1
 simp only [L7,KA,Rd.Ag,Rd.Ao,Rd.wp_seq,Rd.wp_ret,Rd.AO] at h
 repeat' ((conv=>whnf);(first|  refine Ej ?_ ?_|refine UY ?_|refine Mt ?_ ?_|exact Ge|refine K9 ?_|refine MA ?_|refine BH ?_|refine Bi.Tr (lP ha) (Vn hF) ‹_› ‹_› ?_ ?_|refine GJ.go (by first|  exact (hL.exp).a) ?_ ?_)<;>intros)
theorem cc (U:MQ d L) (ha:Bi enc 288 (λb=>[pv b d]) atom) (hF:Rd.AZ atom):Bi enc 342 (λb=>[pv b d]) (Iq L atom):=by
 refine ⟨λ{st0 b s st rows K} hc h=>?_⟩
 simp only [Iq,MV,gW,TS,Rd.Ag,Rd.Ao,Rd.wp_seq,Rd.wp_ret] at h
 refine pB Tryz.func342 ?_
 have hmu:=hc.mu
 repeat' ((conv=>whnf);(first|exact C1|refine AV ?_|(refine C2 ?_ ?_ ?_;rotate_left)|refine Ej ?_ ?_|refine UY ?_|refine NF ?_|refine Mt ?_ ?_|exact Ge|refine K9 ?_|refine MA ?_|refine AA ?_|refine GJ.go (by first|exact Bi.q|exact (gU U ha hF).a|exact (gj U).a|exact (oM U).a|exact (U.decls).a|exact (Yp U.exp).a|exact (U.exp).a|exact (U.alts).a) ?_ ?_|refine Cx.BE (l:=[_,_,_]) (Cx.push ‹_› _) (Nat.le_of_ble_eq_true rfl) ?_|refine Az [1,3,5,9,6,10,12,14] [1] ?_|refine Az [1,3,7,11,13,4,8,14,17,19] [] ?_|fail)<;>intros)
 all_goals refine CZ (λl own=>[(5,.slice 6 (l.map Ap) own)]) (λ_ _=>[]) [1,2] [0,1] (λl own=>(own,l)::rows) (λl=>l.length) .full (Cx.push ‹_› _) ‹_› (by show 1+_<=_;omega) Yl ?_
 all_goals intro l s1 st1 own1 hc h hl hm1
 all_goals simp only [MU,Rd.Ag,Rd.Ao,Rd.wp_seq,Rd.wp_ret,Rd.AO] at h
 all_goals (repeat' ((conv=>whnf);(first|exact C1|refine AV ?_|(refine C2 ?_ ?_ ?_;rotate_left)|refine Ej ?_ ?_|refine UY ?_|refine NF ?_|refine Mt ?_ ?_|exact Ge|refine K9 ?_|refine MA ?_|refine AA ?_|refine Bi.Tr ha hF ‹_› ‹_› ?_ ?_|fail)<;>intros))
end
end Go.Proofs.Z
namespace Go.Aw
open Go
def St.Ks (st:St) (b:Nat):St:={st with box:=λx=>if x=b then none else st.box x}
theorem St.bG {st:St} (h:st.box b=none):st.le ((st.Ab b cs).Ks b):=
 ⟨λx c e=>by
   simp only [St.Ks,St.Ab]
   grind,λ_ _ e=>e⟩
theorem CO.of_flat {I:Mem} {sz:Nat}:∀{es:List (List V)} {vs:List Value},(∀e ∈ es,e.length=sz)->Ar I es.flatten vs->CO I sz es vs
 |[],vs,_,h=>by simpa only [List.flatten_nil,Ar,CO] using h
 |e::r,vs,hl,h=>by
  rw [List.flatten_cons] at h
  have U:=Ar.take e.length h
  have h2:=Ar.drop e.length h
  rw [List.take_left' rfl] at U
  rw [List.drop_left' rfl] at h2
  simp only [CO]
  exact ⟨_,_,(List.take_append_drop e.length vs).symm,hl e List.mem_cons_self,U,CO.of_flat (λx hx=>hl x (List.mem_cons_of_mem _ hx)) h2⟩
section
variable {P:Program} {D:List Deferred} {I0 I:Mem} {st0 st:St} {w0 w:World} {β:Nat->Option Nat} {env:Env} {a:Act}
theorem Rel.freeze (h:Rel D I0 st0 w0 I β env st a w) (hb:st.box b=some cs):
 ∃vs:List Value,Ar I cs vs/\I.le (I.add b 0 vs vs.length)/\Rel D I0 st0 w0 (I.add b 0 vs vs.length) β env (st.Ks b) a w:=by
 obtain ⟨vs,ty,hw,hv⟩:=h.s.box b cs hb
 obtain ⟨i1,i2,i3⟩:=h.s.Jh b lm
 have hl:I.le (I.add b 0 vs vs.length):=Mem.Sp (λo _=>i1 o) (.inl i3)
 have hd:=h.fr.Mv b (.inl lm)
 have nb:∀x,(st.Ks b).box x≠none->x≠b/\st.box x≠none:=λx e=>by
  by_cases U:x=b
  .subst U;exact absurd (if_pos rfl) e
  .refine ⟨U,?_⟩
   have e':(if x=b then none else st.box x)≠none:=e
   simp_all
 refine ⟨vs,hv,hl,⟨⟨h.fr.os,h.fr.tape,h.fr.output,h.fr.size,h.fr.NB,Mem.le_trans h.fr.le hl,?_,?_,λx e=>h.fr.Mv x (e.imp (λe=>(nb x e).2) id)⟩,⟨?_,?_,?_,?_,?_,Vv hl.1 hl.2 h.s.UE⟩,Je.mem h.f hl ?_⟩⟩
 .intro x o h1 h2
  by_cases e:x=b
  .simp_all
  .exact h.fr.new x o h1 (by simpa [Mem.add,e] using h2)
 .intro x h1 h2
  by_cases e:x=b
  .simp_all
  .exact h.fr.My x h1 (by simpa [Mem.add,e] using h2)
 .intro x o v e
  simp only [Mem.add] at e
  split at e
  .rename_i U
   obtain ⟨rfl,h1,h2⟩:=U
   simp only [World.cell?,hw,Option.isSome_none,Bool.false_eq_true,if_false,List.getElem?_toArray]
   exact e
  .exact h.s.cell x o v e
 .intro x n e
  simp only [Mem.add] at e
  split at e
  .simp_all
  .exact h.s.shape x n e
 .intro x c e
  have U:=(nb x lm).1
  have e':st.box x=some c:=by
   have:(if x=b then none else st.box x)=some c:=e
   rwa [if_neg U] at this
  obtain ⟨us,ty',h1,h2⟩:=h.s.box x c e'
  exact ⟨us,ty',h1,Ar.mono hl _ _ h2⟩
 .intro x e
  obtain ⟨U,e'⟩:=nb x e
  obtain ⟨h1,h2,h3⟩:=h.s.Jh x e'
  exact ⟨λo=>by simp [Mem.add,U,h1 o],h2,by simp [Mem.add,U,h3]⟩
 .intro x n e
  have U:x≠b:=λU=>by subst U;rw [show (st.Ks x).hw x=st.hw x from rfl,i2] at e;cases e
  exact ⟨(h.s.hw x n e).1,λo ho=>by simp only [Mem.add];rw [if_neg (by simp [U])];exact (h.s.hw x n e).2 o ho⟩
 .intro id x e
  obtain ⟨h1,h2,h3,h4,h5,h6⟩:=h.f.sep id x e
  have U:x≠b:=λU=>by simp_all
  exact ⟨λo=>by simp [Mem.add,U,h3 o],by simp [Mem.add,U,h4],GT,h6⟩
theorem ct {sz n cap:Nat} {es:List (List V)} {rest:List V} {vs:List Value} (hv:Ar I (es.flatten++rest) vs) (hl:I.le (I.add b 0 vs vs.length)) (hz:∀e ∈ es,e.length=sz) (hn:es.length=n) {c:Value} (h:A0 I (.Eg sz b n cap) c):
 A0 (I.add b 0 vs vs.length) (.slice sz es .any) c:=by
 simp only [A0] at h |-
 obtain ⟨rfl,h1,h2,h3⟩:=h
 subst hn
 refine ⟨_,cap,rfl,h1,h2,h3,trivial,.inr rfl,?_⟩
 have U:=Ar.take es.flatten.length hv
 rw [List.take_left' rfl] at U
 refine CQ.add es _ 0 (CO.of_flat hz U) hl λj c e=>?_
 rw [Nat.zero_add]
 have e':vs[j]? =some c:=by
  rw [List.getElem?_take] at e
  split at e
  .exact e
  .cases e
 have:=Mem.Rk (I:=I) (b:=b) (h:=0) (n:=vs.length) e'
 simp_all
inductive uM (o n:V):V->V->Prop
 |same (v:V):uM o n v v
 |here:uM o n o n
inductive ar (o n:V):List V->List V->Prop
 |nil:ar o n [] []
 |cons {v v':V} {l l':List V}:uM o n v v'->ar o n l l'->ar o n (v::l) (v'::l')
theorem uM.rep {J:Mem} {o n v U:V} (h:uM o n v U) (hl:I.le J) (k:∀c,A0 I o c->A0 J n c) {c:Value} (r:A0 I v c):A0 J U c:=by
 cases h with
 |same=>exact A0.mono hl _ _ r
 |here=>grind
theorem ar.rep {J:Mem} {o n:V}:∀{l l':List V} {vs:List Value},ar o n l l'->I.le J->(∀c,A0 I o c->A0 J n c)->Ar I l vs->Ar J l' vs
 |_,_,vs,.nil,U,k,r=>by simpa only [Ar] using r
 |_,_,vs,.cons h1 h2,U,k,r=>by
  simp only [Ar] at r |-
  obtain ⟨c,s,rfl,r1,r2⟩:=r
  exact ⟨c,s,rfl,h1.rep U k r1,h2.rep U k r2⟩
inductive fM (o n:V):AD->AD->Prop
 |val {v v':V}:uM o n v v'->fM o n (.ret v) (.ret v')
 |agg {l l':List V}:ar o n l l'->fM o n (.ret (.agg l)) (.ret (.agg l'))
 |Bl {l l':List V}:ar o n l l'->fM o n (.ret (.Bl l)) (.ret (.Bl l'))
theorem fM.rep {J:Mem} {o n:V} {r r':AD} (h:fM o n r r') (hl:I.le J) (k:∀c,A0 I o c->A0 J n c) {e:Ending} (m:Y3 I e r):Y3 J e r':=by
 cases e with
 |returned c=>
  cases h with
  |val h=>exact uM.rep h hl k m
  |agg h=>have U:A0 I _ c:=m;simp only [A0] at U;obtain ⟨vs,e,m3⟩:=U;show A0 J _ _;simp only [A0];exact ⟨vs,e,h.rep hl k m3⟩
  |Bl h=>have U:A0 I _ c:=m;simp only [A0] at U;obtain ⟨vs,e,m3⟩:=U;show A0 J _ _;simp only [A0];exact ⟨vs,e,h.rep hl k m3⟩
 |panicked chain=>cases h<;>exact m.elim
 |outgrown=>cases h<;>exact m.elim
theorem Bp.freeze {f:FuncId} {args:List V} {R R':AD->St->Prop} (h:Bp P f args st R')
 (k:∀r s,R' r s->R r s\/∃b sz n cap es rest r',s.box b=some (es.flatten++rest)/\(∀e ∈ es,e.length=sz)/\es.length=n/\fM (.Eg sz b n cap) (.slice sz es .any) r r'/\R r' (s.Ks b)):Bp P f args st R:=by
 refine ⟨λI w U hs ha=>(h.a I w U hs ha).mono ?_,h.b⟩
 rintro e w' ⟨I',st',r,k1,k2,k3,k4⟩
 rcases k r st' k4 with k4|⟨b,sz,n,cap,es,rest,r',g1,g2,g3,g4,g5⟩
 .grind
 have hr:Rel [] I st w I' (λ_=>none) {tmps:=[],boxes:=[],BS:=0,sz:=0,gl:=[]} st' {tmps:=#[],defers:=[]} w':=
  ⟨k1,k2,⟨rfl,λt v e=>(by cases e),λid cs e=>(by cases e),λid b e=>(by cases e),λi j b e=>(by cases e),λid b e=>(by cases e),rfl⟩⟩
 obtain ⟨vs,hv,hl,hr'⟩:=hr.freeze g1
 exact ⟨_,_,r',hr'.fr,hr'.s,g4.rep hl (λc hc=>ct hv hl g2 g3 hc) k3,g5⟩
theorem di {c:Code} {env':Env} {st st':St} (h:AW P c Q env' st') (U:env'.C3 env) (hs:St.le st' st):AW P c Q env st:=
 λD I0 st0 w0 I β a w hr=>h D I0 st0 w0 I _ a w ((hr.JF (Env.JS U)).Iw hs)
theorem dh {c:Code} {st st':St} (e:st'=st) (h:AW P c Q env st'):AW P c Q env st:=e ▸ h
theorem NC {x y:Code} {st:St} (E:α->Env) (S:α->St) (J:α->Prop) (hy:∀p,J p->AW P y Q (E p) (S p))
 (hx:AW P x (Bz (λenv' st'=>∃p,J p/\(E p).C3 env'/\St.le (S p) st') Q) env st):AW P (.seq x y) Q env st:=
 Ah (dg hx λe env st h=>by
  cases e with
  |normal=>obtain ⟨p,U,h2,h3⟩:=h;exact di (hy p U) h2 h3
  |exit i=>exact h
  |goto i=>exact h
  |ret=>exact h
  |Ci v=>exact h)
theorem AQ {T : List (Nat × Ty)} (hP : TK P T) {fn : Func} (gl : List Nat) (hf : P.funcs[f]? = some fn) {c : Code} (hb : fn.body = some c) (hn : (fn.name == "runtime.NumGoroutine") = false) (hle : Nat.ble args.length fn.ntmps = true)
 (h:AW P c (eT T fn (Ends R)) {tmps:=KR 0 args,boxes:=[],BS:=0,sz:=fn.ntmps,gl} st):Bp P f args st R:=by
 refine ⟨?_,fn,hf,lm,hn⟩
 intro I w cargs hs hargs
 refine calls_of_wp hf hb ?_
 refine wp_mono (h [] I st w I _ _ w (H3 gl hs hargs hle)) ?_
 rintro e a w' ⟨I1,β1,env1,st1,ae,h1,h2,h3⟩
 have hret:(Gm T env1 st1 fn.results.toList λvs=>match vs with
  |[v]=>Ends R (.ret v) st1
  |vs=>Ends R (.ret (.Bl vs)) st1)->
  a.defers=[]/\∃v,(results fn a.tmps).run P w'=.ok v w'/\∃I' st' r,Fr I st w I' st' w'/\Db I' st' w'/\Y3 I' (.returned v) r/\R r st':=by
  intro h3
  obtain ⟨v,c,g1,g2,r2,st2,g3,g4,g5⟩:=Dz (P:=P) (R:=Ends R) hP.t h1 h3
  have U:=h1.Iw g4
  refine ⟨h1.f.defers,c,g1,I1,st2,r2,U.fr,U.s,?_,g5⟩
  rcases g3 with rfl|rfl
  .exact g2
  .exact g2.wk
 cases ae with
 |normal=>cases e<;>first|exact hret h3|exact h2.elim
 |exit i=>exact h3.elim
 |goto i=>exact h3.elim
 |ret=>cases e<;>first|exact hret h3|exact h2.elim
 |Ci v=>
  cases e<;>try exact h2.elim
  obtain ⟨r2,st2,g3,g4,g5⟩:=h3
  obtain ⟨c',rfl,h2⟩:=h2
  have U:=h1.Iw g4
  refine ⟨h1.f.defers,I1,st2,r2,U.fr,U.s,?_,g5⟩
  rcases g3 with rfl|rfl
  .exact ⟨c',rfl,h2⟩
  .exact ⟨c',rfl,h2.wk⟩
end
def V.mS (id:Nat):V->V
 | .Cd i o=>bif Nat.beq i id then .Cc else .Cd i o
 |v=>v
noncomputable def Ku (id:Nat) (l:List (Nat×V)):List (Nat×V):=List.rec (motive:=λ_=>List (Nat×V)) [] (λp _ ih=>(p.1,p.2.mS id)::ih) l
noncomputable def IK (id:Nat) (l:List (Nat×List V)):List (Nat×List V):=List.rec (motive:=λ_=>List (Nat×List V)) [] (λp _ ih=>bif Nat.beq p.1 id then ih else p::ih) l
theorem Vf (id:Nat) (p:Nat×V) (r:List (Nat×V)):Ku id (p::r)=(p.1,p.2.mS id)::Ku id r:=rfl
theorem Ve (id:Nat) (p:Nat×List V) (r:List (Nat×List V)):IK id (p::r)=bif Nat.beq p.1 id then IK id r else p::IK id r:=rfl
theorem MC {id t:Nat}:∀{l:List (Nat×V)} {v:V},assoc (Ku id l) t=some v->∃u,assoc l t=some u/\v=u.mS id
 |[],v,h=>by cases h
 |p::r,v,h=>by
  rw [Vf,BF] at h
  rw [BF]
  cases hb:Nat.beq p.1 t with
  |true=>simp_all
  |false=>rw [hb] at h;simp only [cond_false] at h |-;exact MC h
theorem Jg {id i:Nat}:∀{l:List (Nat×List V)} {cs:List V},assoc (IK id l) i=some cs->i≠id/\assoc l i=some cs
 |[],cs,h=>by cases h
 |p::r,cs,h=>by
  rw [Ve] at h
  cases hb:Nat.beq p.1 id with
  |true=>
   rw [hb] at h
   simp only [cond_true] at h
   have hp:=Nat.eq_of_beq_eq_true hb
   obtain ⟨U,h2⟩:=Jg h
   refine ⟨U,?_⟩
   rw [BF]
   have:Nat.beq p.1 i=false:=by
    rw [hp]
    cases e:Nat.beq id i with
    |true=>simp_all
    |false=>rfl
   simp_all
  |false=>
   rw [hb] at h
   simp only [cond_false] at h
   rw [BF] at h |-
   cases e:Nat.beq p.1 i with
   |true=>
    grind
   |false=>rw [e] at h;exact Jg h
theorem eO {X:List Deferred->Mem->St->World->Act->World->Prop} {st:St} (t id:Nat) (ht:env.get t=.Cd id 0) (hb:assoc env.boxes id=some cs) (hn:Qn cs=true)
 (h:∀b,st.fresh b->∀D I0 st0 w0 I β a w,Rel D I0 st0 w0 I β {env with tmps:=(t,.ptr b 0)::Ku id env.tmps,boxes:=IK id env.boxes} (st.Ab b cs) a w->X D I0 st0 w0 a w):
 ∀D I0 st0 w0 I β a w,Rel D I0 st0 w0 I β env st a w->X D I0 st0 w0 a w:=λD I0 st0 w0 I β a w U=>by
 obtain ⟨b,hβ,hl⟩:=U.f.box id cs hb
 obtain ⟨s1,s2,s3,s4,s5,s6⟩:=U.f.sep id b hβ
 have h1:=U.f.get t
 rw [ht] at h1
 obtain ⟨b',hβ',h1⟩:∃b,β id=some b/\_:=h1
 obtain rfl:b'=b:=Option.some.inj (hβ'.symm.trans hβ)
 refine h b' ⟨s5,s6⟩ D I0 st0 w0 I (λi=>if i=id then none else β i) a w ⟨⟨U.fr.os,U.fr.tape,U.fr.output,U.fr.size,U.fr.NB,U.fr.le,U.fr.new,U.fr.My,λx hx=>?_⟩,⟨U.s.cell,U.s.shape,?_,?_,?_,U.s.UE⟩,⟨U.f.size,?_,?_,?_,?_,?_,U.f.defers⟩⟩
 .by_cases e:x=b'
  .omega
  .refine U.fr.Mv x (hx.imp (λhx=>?_) (λhx=>hx))
   simp only [St.Ab] at hx
   simp_all
 .intro x us hx
  by_cases e:x=b'
  .subst e
   simp only [St.Ab,if_true,Option.some.injEq] at hx
   subst hx
   exact hl.cells hn
  .simp only [St.Ab] at hx
   rw [if_neg e] at hx
   exact U.s.box x us hx
 .intro x hx
  by_cases e:x=b'
  .subst e;exact ⟨s3,s6,s4⟩
  .simp only [St.Ab] at hx
   rw [if_neg e] at hx
   exact U.s.Jh x hx
 .exact U.s.hw
 .intro t' v e
  rw [BF] at e
  cases hbq:Nat.beq t t' with
  |true=>
   rw [hbq] at e
   have:=Nat.eq_of_beq_eq_true hbq
   subst this
   simp only [cond_true,Option.some.injEq] at e
   subst e
   refine Bg.of ?_
   simp only [A0]
   exact h1
  |false=>
   rw [hbq] at e
   simp only [cond_false] at e
   obtain ⟨u,hu,rfl⟩:=MC e
   have hk:=U.f.tmps t' u hu
   cases u with
   |Cd i o=>
    show Bg I _ (bif Nat.beq i id then .Cc else .Cd i o) _
    cases hi:Nat.beq i id with
    |true=>exact Bg.of (I:=I) (β:=_) (v:=.Cc) trivial
    |false=>
     obtain ⟨b2,g1,g2⟩:∃b,β i=some b/\_:=hk
     refine ⟨b2,?_,g2⟩
     have:i≠id:=λx=>by simp_all
     simp_all
   |_=>exact hk
 .intro i us e
  obtain ⟨h2,h3⟩:=Jg e
  obtain ⟨b2,g1,g2⟩:=U.f.box i us h3
  simp_all
 .intro i x e
  split at e
  .cases e
  .exact U.f.BS i x e
 .intro i j x e1 e2
  split at e1
  .cases e1
  .split at e2
   .cases e2
   .exact U.f.inj i j x e1 e2
 .intro i x e
  split at e
  .cases e
  .rename_i hi
   obtain ⟨g1,g2,g3,g4,g5,g6⟩:=U.f.sep i x e
   have hx:x≠b':=λhx=>by subst hx;exact hi (U.f.inj i id x e hβ)
   exact ⟨g1,g2,g3,g4,by simp only [St.Ab];simp_all,g6⟩
theorem MP {P:Program} {c:Code} {st:St} (t id:Nat) (U:env.get t=.Cd id 0) (hb:assoc env.boxes id=some cs) (hn:Qn cs=true)
 (h:∀b,st.fresh b->AW P c Q {env with tmps:=(t,.ptr b 0)::Ku id env.tmps,boxes:=IK id env.boxes} (st.Ab b cs)):AW P c Q env st:=
 eO (X:=λD I0 st0 w0 a w=>c.wp P (DH D I0 st0 w0 Q) a w) t id U hb hn h
def pX (Q:Env->St->Prop) (env:Env) (st:St):Prop:=∀D I0 st0 w0 I β a w,Rel D I0 st0 w0 I β env st a w->∃I β env' st',Rel D I0 st0 w0 I β env' st' a w/\Q env' st'
theorem pX.here {Q:Env->St->Prop} {st:St} (h:Q env st):pX Q env st:=λD I0 st0 w0 I β a w U=>⟨I,β,env,st,U,h⟩
theorem pX.zn {Q:Env->St->Prop} {st:St} (t id:Nat) (U:env.get t=.Cd id 0) (hb:assoc env.boxes id=some cs) (hn:Qn cs=true)
 (h:∀b,st.fresh b->pX Q {env with tmps:=(t,.ptr b 0)::Ku id env.tmps,boxes:=IK id env.boxes} (st.Ab b cs)):pX Q env st:=
 eO (X:=λD I0 st0 w0 a w=>∃I β env' st',Rel D I0 st0 w0 I β env' st' a w/\Q env' st') t id U hb hn h
end Go.Aw
namespace Go.Proofs.Z
open Go Go.Aw
section
variable {st0 st:St} {b d:Nat} {s:Af} {rows:List (Ay×List Nd)} {K:AD->St->Prop} {L:DL} {atom:Rd Nd}
attribute [local irreducible] Go.Aw.Ai
theorem vQ {o:Nd} {Q:Nd->Af->Prop} {E:Er->Af->Prop} (hc:Cx st0 b s st rows)
 (h:if HD (Aa s).1=true then (if AP (Aa s).2.1 15 [41]=true then Rd.wp AB s (λp s'=>Rd.wp AB s' (λc s'=>Q (Al 3 [o,p,c]) s') E) E else P) else P)
 (k1:∀n s' st',mu s'<=mu s->Cx st0 b s' st' rows->Q n s'->K (.ret (.Bl [enc n,.bool true])) st') (k2:∀st',Cx st0 b s st' rows->P->K (.ret (.Bl [enc BC,.bool false])) st'):
 PC 417 [pv b d,enc o] st K:=by
 refine pB Tryz.func417 ?_
 have hmu:=hc.mu
 have hc1:=hc.look
 cases hy:HD (Aa s).1 with
 |false=>
  rw [if_neg (by rw [hy];decide)] at h
  repeat' ((conv=>whnf);first|exact C1|(refine AV ?_;intros)|(refine C2 ?_ ?_ ?_;rotate_left)|refine SH hc (λU hc=>?_)|refine J6 ?_|fail)
  all_goals exact AU rfl (k2 U hc h)
 |true=>
  rw [if_pos hy] at h
  have hkd:=Ns hy
  cases hi:AP (Aa s).2.1 15 [41] with
  |true=>
   rw [if_pos hi] at h
   repeat' ((conv=>whnf);first|exact C1|(refine AV ?_;intros)|(refine C2 ?_ ?_ ?_;rotate_left)|refine AK (St.As ..) ?_|refine HB hc.has hc.hb ?_|refine J6 ?_|refine Q6 hc1 h hkd (λs1 U hz hm hc h=>?_)|refine V2 hc (hz ▸ hi) (λU hc=>?_)|refine W6 hc h (hz ▸ hi) IR (λs2 st2 hz2 hm2 hc h=>?_)|refine VQ ?_|refine Ad 9 [4,6,7] [2] ?_|fail)
   all_goals exact AU rfl (k1 _ s2 st2 H1 hc h)
  |false=>
   rw [if_neg (by rw [hi];decide)] at h
   repeat' ((conv=>whnf);first|exact C1|(refine AV ?_;intros)|(refine C2 ?_ ?_ ?_;rotate_left)|refine AK (St.As ..) ?_|refine HB hc.has hc.hb ?_|refine J6 ?_|refine wT hc1 hkd (λs1 U hz hm hc=>?_)|refine cn hc (hz ▸ hi) (λU hc=>?_)|refine He hc hmu (λst2 hc=>?_)|fail)
   all_goals exact AU rfl (k2 st2 hc h)
theorem nR (hL:MQ d L):Bi enc 394 (λb=>[pv b d]) (Po L):=by
 refine ⟨λ{st0 b s st rows K} hc h=>?_⟩
 simp only [Po,N1,Pn,KM,Rd.Ag,Rd.Ao,Rd.wp_seq,Rd.wp_ret] at h
 refine AQ Ac [] Tryz.func394 rfl IR rfl ?_
 have hmu:=hc.mu
 refine Ah (Aj Ac ?_)
 repeat' ((conv=>whnf);(first|exact C1|refine AV ?_|(refine C2 ?_ ?_ ?_;rotate_left)|refine Ej ?_ ?_|fail)<;>intros)
 refine Ah (Aj Ac ?_)
 repeat' ((conv=>whnf);(first|exact C1|refine AV ?_|(refine C2 ?_ ?_ ?_;rotate_left)|refine Ej ?_ ?_|refine HS.go ‹_› ‹_› ?_ ?_|exact Ch ‹_› ‹_›|fail)<;>intros)
 refine Ah (Aj Ac ?_)
 repeat' ((conv=>whnf);first|exact C1|(refine AV ?_;intros)|(refine C2 ?_ ?_ ?_;rotate_left)|(refine Ej ?_ ?_<;>intro e h)|(refine UY ?_;intro U hc)|(refine MR ?_ ?_<;>intro U hc e h)|(refine NF ?_;intro s1 U hz hm hc h)|(refine Mt ?_ ?_<;>(first|intro n s1 U hr hm hc h|intro e s1 U hc h))|exact Ge|refine K9 ?_|(refine MA ?_;intro own1 U hc)|refine AA (λe1=>?_)|fail)
 all_goals first
  |(refine CZ (λl own=>[(4,.slice 6 (l.map Ap) own)]) (λ_ _=>[]) [1,2] [0,1] (λl own=>(own,l)::rows) (λl=>l.length) .full (hc.push _) h (by show 1+_<=_;omega) Yl ?_
    intro l s1 U own1 hc h hl hm1
    simp only [NP,Rd.Ag,Rd.Ao,Rd.wp_seq,Rd.wp_ret,Rd.AO] at h
    repeat' ((conv=>whnf);(first|exact C1|refine AV ?_|(refine C2 ?_ ?_ ?_;rotate_left)|refine Ej ?_ ?_|refine UY ?_|refine MR ?_ ?_|refine NF ?_|refine Mt ?_ ?_|exact Ge|refine K9 ?_|refine MA ?_|refine AA ?_|fail)<;>intros))
  |skip
 refine Ah (Aj Ac ?_)
 repeat' ((conv=>whnf);(first|exact C1|refine AV ?_|(refine C2 ?_ ?_ ?_;rotate_left)|refine Ej ?_ ?_|refine vQ (Q:=λn s'=>∀st',Cx st0 b s' st' rows->K (.ret (enc n)) st') ‹_› ‹_› ?_ ?_|refine UY ?_|refine MR ?_ ?_|refine NF ?_|refine Mt ?_ ?_|exact Ge|refine K9 ?_|refine MA ?_|refine AA ?_|fail)<;>intros)
 refine Ah (Aj Ac ?_)
 repeat' ((conv=>whnf);first|exact C1|(refine AV ?_;intros)|(refine C2 ?_ ?_ ?_;rotate_left)|(refine Ej ?_ ?_<;>intro e h)|(refine UY ?_;intro U hc)|(refine MR ?_ ?_<;>intro U hc e h)|(refine NF ?_;intro s1 U hz hm hc h)|(refine Mt ?_ ?_<;>(first|intro n s1 U hr hm hc h|intro e s1 U hc h))|exact Ge|refine K9 ?_|(refine MA ?_;intro own1 U hc)|refine AA (λe1=>?_)|refine QT.go hc h (λn s1 U hr hm hc h=>?_) (λe s1 U hc h=>?_)|refine Bi.go hL.ops hc h (λn s1 U hr hm hc h=>?_) (λe s1 U hc h=>?_)|refine Az [1,3,5,9,11,6,12,15,16,18] [1] ?_|fail)
 all_goals refine MP 3 2 rfl rfl rfl (λc fc=>?_)
 all_goals have hne:=hc.Vt fc
 all_goals refine Aj Ac ?_
 all_goals (repeat' ((conv=>whnf);first|exact C1|(refine AV ?_;intros)|(refine C2 ?_ ?_ ?_;rotate_left)|(refine Ej ?_ ?_<;>intro e h)|refine hL.F1 (St.As ..) (hc.V5 fc) (Rd.wp_mono h (λv s1 hr h U hc=>?_) (λe s1 hr h U hc=>?_))|exact DR (hc.unbox hne) h rfl|exact Ch (hc.unbox hne) h|fail))
end
section
variable {st0 st:St} {b d:Nat} {s:Af} {rows:List (Ay×List Nd)} {K:AD->St->Prop} {L:DL} {atom:Rd Nd}
attribute [local irreducible] Go.Aw.Ai
theorem jb (hL:MQ d L):Bi enc 395 (λb=>[pv b d]) (Mn L):=by
 refine ⟨λ{st0 b s st rows K} hc h=>?_⟩
 simp only [Mn,Rd.Ag,Rd.Ao,Rd.wp_seq,Rd.wp_ret] at h
 refine AQ Ac [] Tryz.func395 rfl IR rfl ?_
 refine Ah (Aj Ac ?_)
 repeat' ((conv=>whnf);(first|exact C1|refine AV ?_|(refine C2 ?_ ?_ ?_;rotate_left)|fail)<;>intros)
 refine Ah (Aj Ac ?_)
 repeat' ((conv=>whnf);(first|exact C1|refine AV ?_|(refine C2 ?_ ?_ ?_;rotate_left)|refine HS.go ‹_› ‹_› ?_ ?_|exact Ch ‹_› ‹_›|fail)<;>intros)
 refine Ah (Aj Ac ?_)
 repeat' ((conv=>whnf);first|exact C1|(refine AV ?_;intros)|(refine C2 ?_ ?_ ?_;rotate_left)|(refine MR ?_ ?_<;>intro U hc e h)|(refine NF ?_;intro s1 U hz hm hc h)|exact Ge|refine K9 ?_|refine Ad 7 [3,5,6] [1] ?_|fail)
 all_goals refine MP 3 2 rfl rfl rfl (λc fc=>?_)
 all_goals have hne:=hc.Vt fc
 all_goals refine Aj Ac ?_
 all_goals (repeat' ((conv=>whnf);first|exact C1|(refine AV ?_;intros)|(refine C2 ?_ ?_ ?_;rotate_left)|refine hL.list (St.As ..) (hc.V5 fc) (Rd.wp_mono h (λv s1 hr h U hc=>?_) (λe s1 hr h U hc=>?_))|exact DR (hc.unbox hne) h rfl|exact Ch (hc.unbox hne) h|fail))
theorem qg (U:MQ d L):Bi enc 345 (λb=>[pv b d]) (KT L):=by
 refine ⟨λ{st0 b s st rows K} hc h=>?_⟩
 simp only [KT,Rd.Ag,Rd.Ao,Rd.wp_seq,Rd.wp_ret] at h
 refine pB Tryz.func345 ?_
 repeat' ((conv=>whnf);(first|exact C1|refine AV ?_|(refine C2 ?_ ?_ ?_;rotate_left)|refine Ej ?_ ?_|refine UY ?_|refine MR ?_ ?_|refine NF ?_|refine xd ?_|exact Ge|refine K9 ?_|refine AA ?_|refine GJ.go (by first|  exact (nR U).a|exact (jb U).a|exact (U.atom).a) ?_ ?_|refine Az [1,3,7,4,8,11,12,14] [1] ?_|refine Az [1,3,5,9,6,10,13,14,16] [1] ?_|fail)<;>intros)
theorem me:Bi enc 157 (λb=>[.ptr b 0,.slice 1 [[.int .i64 1],[.int .i64 3]] .full]) (Cm [1,3]):=E8 (ks:=[1,3]) IR
theorem iD (hL:MQ d L):Bi enc 346 (λb=>[pv b d,enc n]) (HQ L n):=by
 refine ⟨λ{st0 b s st rows K} hc h=>?_⟩
 simp only [HQ,Rd.Ag,Rd.Ao,Rd.wp_seq,Rd.wp_ret] at h
 refine pB Tryz.func346 ?_
 have hmu:=hc.mu
 repeat' ((conv=>whnf);(first|exact C1|refine AV ?_|(refine C2 ?_ ?_ ?_;rotate_left)|refine Ej ?_ ?_|refine MR ?_ ?_|refine NF ?_|refine Mt ?_ ?_|exact Ge|refine K9 ?_|refine MA ?_|refine BH ?_|refine AA ?_|refine Ad 6 [3] [] ?_|refine Az [1,3,5,7,11,8,12,15,16,19,20,23] [] ?_|fail)<;>intros)
 refine CZ (λl own=>[(5,.slice 6 (l.map Ap) own)]) (λ_ _=>[]) [2,4] [0,2] (λl own=>(own,l)::rows) (λl=>l.length) .full (Cx.push ‹_› _) ‹_› (by show 2+_<=_;omega) Yl ?_
 intro l s1 st1 U hc h hl hm1
 simp only [Oj,O6,Rd.Ag,Rd.Ao,Rd.wp_seq,Rd.wp_ret,Rd.AO] at h
 repeat' ((conv=>whnf);(first|exact C1|refine AV ?_|(refine C2 ?_ ?_ ?_;rotate_left)|refine Ej ?_ ?_|refine MR ?_ ?_|refine NF ?_|refine Mt ?_ ?_|exact Ge|refine K9 ?_|refine MA ?_|refine BH ?_|refine AA ?_|refine Bi.Tr me (RZ rfl) ‹_› ‹_› ?_ ?_|refine GJ.go (by first|  exact (hL.exp).a) ?_ ?_|refine Ad 6 [3] [] ?_|refine Az [1,3,5,7,11,8,12,15,16,19,20,23] [] ?_|fail)<;>intros)
 all_goals conv=>whnf
end
theorem bf {L:DL}:Rd.AZ (KT L):=Rd.AZ.look λs v s' h=>by
 split at h
 .rename_i ha
  have hk:=(LQ ha).2
  have U:∀{v:Nd} {s':Af},AB.run s=.inr (v,s')->mu s'<mu s:=λe=>Ix e hk
  split at h
  .split at h
   .exact Rd.AZ.at (λ_ _ e=>U e) h
   .exact Rd.AZ.at (λ_ _ e=>U e) h
  .split at h
   .exact Rd.AZ.at (λ_ _ e=>U e) h
   .split at h
    .exact Rd.AZ.at (λ_ _ e=>U e) h
    .exact Rd.AZ.at (λ_ _ e=>U e) h
 .cases h
theorem PO {L:DL}:Rd.AZ (KS L):=Rd.AZ.seq bf
theorem NV {L:DL} {s':Af} {v:Nd} (h:(HQ L n).run s=.inr (v,s')) (e:AP s 15 [123]=true):mu s'<mu s:=by
 refine Rd.AZ.at (λv s' U=>Ix U λz=>?_) h
 unfold AP at e
 simp only [Bool.and_eq_true,beq_iff_eq] at e
 rw [z] at e;exact absurd e.1 IR
theorem Me {U:List Nd} {s':Af} (h:(Es stmt l).run s=.inr (U,s')):U.length+4*mu s'<=l.length+2+4*mu s:=by
 unfold Es at h
 obtain ⟨b,s1,h1,h⟩:=Bn h
 obtain ⟨t,s2,h2,h⟩:=Bn h
 have e1:=(Bo 10 [124]).le _ _ _ h1
 have e2:=stmt.le _ _ _ h2
 have:=Rd.mE (body:=LA stmt) (w:=List.length) (w':=List.length) (c:=0) (λx s x' s' h=>by
  unfold LA at h
  replace h:(if AP s 15 [44]=true then Rd.seq AB λc=>Rd.seq stmt λt=>.ret (.inl (x++[c]++[t])) else .ret (.inr x):Rd (Sum (List Nd) (List Nd))).run s=.inr (.inl x',s'):=h
  split at h
  .obtain ⟨_,_,_,h⟩:=Bn h
   obtain ⟨_,_,_,h⟩:=Bn h
   cases h
   simp
  .cases h) (λx s y s' h=>by
  unfold LA at h
  replace h:(if AP s 15 [44]=true then Rd.seq AB λc=>Rd.seq stmt λt=>.ret (.inl (x++[c]++[t])) else .ret (.inr x):Rd (Sum (List Nd) (List Nd))).run s=.inr (.inr y,s'):=h
  split at h
  .obtain ⟨_,_,_,h⟩:=Bn h
   obtain ⟨_,_,_,h⟩:=Bn h
   cases h
  .cases h;exact Nat.le_refl _) _ _ _ _ h
 simp only [List.length_append,List.length_cons,List.length_nil] at this
 omega
theorem xx {c x y:Nat} (h:l.length+4*y<=c+2+4*x) (hc:c<=500000000) (U:x<=100000000):l.length+1<=1000000000:=H1
section
variable {st0 st:St} {b d:Nat} {s:Af} {rows:List (Ay×List Nd)} {K:AD->St->Prop} {L:DL}
attribute [local irreducible] Go.Aw.Ai
theorem qd (hL:MQ d L):Bi enc 288 (λb=>[pv b d]) (KS L):=by
 refine ⟨λ{st0 b s st rows K} hc h=>?_⟩
 simp only [KS,Rd.wp_seq] at h
 refine pB Tryz.func288 ?_
 have hmu:=hc.mu
 repeat' ((conv=>whnf);first|(refine AV ?_;intros)|refine Bi.go (qg hL) hc h (λn s1 U hr hm hc h=>?_) (λe s1 U hc h=>?_)|exact Ch hc h)
 refine CZ (λn own=>[]) (λn own=>[(2,Ap n)]) [1,2,3] [0,1] (λl own=>rows) (λ_=>0) .full ‹_› ‹_› li Yl ?_
 intro n s1 U own1 hc h hl hm1
 simp only [Xw,Rd.Ag,Rd.Ao,Rd.wp_seq,Rd.wp_ret,Rd.AO] at h
 repeat' ((conv=>whnf);first|(refine AV ?_;intros)|(refine MR ?_ ?_<;>intro U hc e h)|exact Ge|refine Bi.go (iD hL) hc h (λn s1 U hr hm hc h=>?_) (λe s1 U hc h=>?_))
 all_goals have hlt:=NV ‹_› ‹_›
 all_goals conv=>whnf
 all_goals exact ⟨⟨_,_,_,.full⟩,⟨hc,Rd.Bh h hlt,f9,f9⟩,hlt,Yl,St.le_refl _⟩
theorem YT (hs:Bi enc 360 (λb=>[pv b d]) stmt):tI 293 (λb v=>[pv b d,v]) (λl=>Es stmt l):=by
 refine ⟨λ{st0 b s st rows K own l} hl hc h=>?_⟩
 simp only [Es,Rd.wp_seq] at h
 refine pB Tryz.func293 ?_
 have hmu:=hc.mu
 repeat' ((conv=>whnf);(first|refine AV ?_|refine MR ?_ ?_|refine NF ?_|refine Mt ?_ ?_|exact Ge|refine MA ?_|refine GJ.go (by first|exact Bi.q) ?_ ?_)<;>intros)
 refine CZ (λl own=>[(1,.slice 6 (l.map Ap) own)]) (λ_ _=>[]) [2] [0] (λl own=>(own,l)::rows) (λl=>l.length) _ ‹_› ‹_› f7 Yl ?_
 intro l s1 st1 U hc h hl hm1
 simp only [LA,Rd.Ag,Rd.Ao,Rd.wp_seq,Rd.wp_ret,Rd.AO] at h
 repeat' ((conv=>whnf);(first|refine AV ?_|refine MR ?_ ?_|refine NF ?_|refine Mt ?_ ?_|exact Ge|refine MA ?_|refine GJ.go (by first|exact Bi.q) ?_ ?_)<;>intros)
theorem rG {exp:Rd Nd} {o:Nd} (he:Bi enc 292 (λb=>[pv b d]) exp) (hs:Bi enc 360 (λb=>[pv b d]) stmt):Bi enc 421 (λb=>[pv b d,enc o]) (PW exp stmt o):=by
 refine ⟨λ{st0 b s st rows K} hc h=>?_⟩
 simp only [PW,Rd.Ag,Rd.Ao,Rd.wp_seq,Rd.wp_ret] at h
 refine pB Tryz.func421 ?_
 have hmu:=hc.mu
 repeat' ((conv=>whnf);(first|exact C1|refine AV ?_|(refine C2 ?_ ?_ ?_;rotate_left)|refine Ej ?_ ?_|refine MR ?_ ?_|refine NF ?_|refine Mt ?_ ?_|exact Ge|refine K9 ?_|refine MA ?_|refine BH ?_|refine AA ?_|refine GJ.go (by first|exact Bi.q) ?_ ?_|refine Cx.BE ‹_› (xx (Me ‹_›) (Nat.le_of_ble_eq_true rfl) H1) ?_|refine tI.go (l:=[_,_]) (YT hs) (Nat.le_of_ble_eq_true rfl) (Cx.push ‹_› _) ‹_› ?_ ?_|refine Ad 5 [2] [] ?_|refine Az [1,3,7,9,4,10,13,14,16,18] [2] ?_|fail)<;>intros)
 refine CZ (λl own=>[(5,.slice 6 (l.map Ap) own)]) (λ_ _=>[]) [2,4,6] [0,2] (λl own=>(own,l)::rows) (λl=>l.length) .full (Cx.push ‹_› _) ‹_› (by show 2+_<=_;omega) Yl ?_
 intro l s1 st1 U hc h hl hm1
 simp only [Yj,Yk,Rd.Ag,Rd.Ao,Rd.wp_seq,Rd.wp_ret,Rd.AO] at h
 repeat' ((conv=>whnf);(first|exact C1|refine AV ?_|(refine C2 ?_ ?_ ?_;rotate_left)|refine Ej ?_ ?_|refine MR ?_ ?_|refine NF ?_|refine Mt ?_ ?_|exact Ge|refine K9 ?_|refine MA ?_|refine BH ?_|refine AA ?_|refine GJ.go (by first|exact Bi.q) ?_ ?_|fail)<;>intros)
end
section
variable {st0 st:St} {b d:Nat} {s:Af} {rows:List (Ay×List Nd)} {K:AD->St->Prop} {L:DL}
attribute [local irreducible] Go.Aw.Ai
theorem VM (k:K (.Ci (fault Fj.1)) st):PC 216 [pv b d,.bool false] st K:=by
 refine pB Tryz.func216 ?_
 repeat' ((conv=>whnf);(first|  refine CL ?_)<;>intros)
 all_goals exact ⟨_,_,.inl rfl,St.le_refl _,k⟩
theorem VN (k:K (.ret (.Bl [])) st):PC 216 [pv b d,.bool true] st K:=by
 refine pB Tryz.func216 ?_
 repeat' ((conv=>whnf);(first|  refine CL ?_)<;>intros)
 all_goals exact ⟨_,_,.inl rfl,St.le_refl _,k⟩
theorem sS (U:MQ d L) {exp:Rd Nd} (he:Bi enc 292 (λb=>[pv b d]) exp):Bi enc 360 (λb=>[pv b d]) (Ta L exp):=by
 refine ⟨λ{st0 b s st rows K} hc h=>?_⟩
 simp only [Ta,TP,Rd.Ag,Rd.Ao,Rd.wp_seq,Rd.wp_ret,Rd.BD] at h
 refine pB Tryz.func360 ?_
 repeat' ((conv=>whnf);(first|exact C1|refine AV ?_|(refine C2 ?_ ?_ ?_;rotate_left)|refine Ej ?_ ?_|refine MR ?_ ?_|refine NF ?_|exact Ge|refine K9 ?_|refine AA ?_|refine GJ.go (by first|exact Bi.q|exact (U.decls).a|exact (Yp U.exp).a) ?_ ?_|refine Vy ?_|refine VN ?_|refine VM ?_|refine Ad 4 [2,3] [] ?_|refine Az [1,3,5,9,6,10,13,14,16] [1] ?_|fail)<;>intros)
 all_goals conv=>whnf
 all_goals exact Ch hc.y h
end
theorem PQ:Rd.AZ (Es stmt l):=Rd.AZ.seq (GR IR)
theorem MT {x:Nd} (h:l[i.toNat]? =some x) (U:0<=i) (k:K (Ap x)):0<=i/\∃e,(l.map Ap)[i.toNat]? =some e/\K e:=⟨U,Ap x,by rw [List.getElem?_map,h];rfl,k⟩
section
variable {st0 st:St} {b d:Nat} {s:Af} {rows:List (Ay×List Nd)} {K:AD->St->Prop} {L:DL}
attribute [local irreducible] Go.Aw.Ai
theorem Mf (hs:Bi enc 360 (λb=>[pv b d]) stmt) {Q:List Nd->Af->Prop} {E:Er->Af->Prop} (hc:Cx st0 b s st rows) (h:Rd.wp (Es stmt []) s Q E)
 (k:∀l' U s' st',l'.length<=400000002->mu s'<mu s->Cx st0 b s' st' ((U,l')::rows)->Q l' s'->K (.ret (.slice 6 (l'.map Ap) U)) st') (kb:∀e s' st',Cy st0 b s' st' rows->E e s'->K (.Ci (fault e.1)) st'):PC 293 [pv b d,.slice 6 [] .full] st K:=
 tI.go (l:=[]) (own:=.full) (YT hs) (Nat.le_of_ble_eq_true rfl) (hc.push _) h (λl' U s' st' hr hm hc' q=>k l' U s' st' (by have:=Me hr;have:=hc.mu;simp only [List.length_nil] at *;omega) (PQ _ _ _ hr) hc' q) kb
theorem nH (hL:MQ d L) {exp:Rd Nd} {m:List UInt8} (he:Bi enc 292 (λb=>[pv b d]) exp) (hs:Bi enc 360 (λb=>[pv b d]) stmt):Bi enc 218 (λb=>[pv b d,.str m]) (Y6 L exp stmt m):=by
 refine ⟨λ{st0 b s st rows K} hc h=>?_⟩
 simp only [Y6,Pm,Rd.Ag,Rd.Ao,Rd.wp_seq,Rd.wp_ret] at h
 have hmu:=hc.mu
 refine pB Tryz.func218 ?_
 repeat' ((conv=>whnf);first|exact C1|(refine AV ?_;intros)|(refine C2 ?_ ?_ ?_;rotate_left)|(refine Ej ?_ ?_<;>intro e h)|(refine BU ?_ ?_<;>intro _)|(refine MR ?_ ?_<;>intro U hc e h)|(refine NF ?_;intro s1 U hz hm hc h)|(refine Mt ?_ ?_<;>(first|intro n s1 U hr hm hc h|intro e s1 U hc h))|(refine xd ?_;intro e s1 U hc h)|exact Ge|refine K9 ?_|(refine MA ?_;intro own1 U hc)|refine BH (λ_=>?_)|refine AA (λe1=>?_)|refine Bi.go he hc h (λn s1 U hr hm hc h=>?_) (λe s1 U hc h=>?_)|refine Cx.uU (l:=[]) (hc.push []) (Nat.le_of_ble_eq_true rfl) (λown1 U hc=>?_)|refine Az [1,3,5,9,6,10,13,14,17] [] ?_|refine Az [1,3,5,9,6,10,13,14,17,18,21] [] ?_|fail)
 .refine CZ (λl own=>[(5,.slice 6 (l.map Ap) own)]) (λ_ _=>[]) [1,2,4] [0,1] (λl own=>(own,l)::rows) (λl=>l.length) _ hc h f7 Yl ?_
  intro l s1 U own1 hc h hl hm1
  have hl2:l.length+1<=1000000000:=H1
  simp only [Ib,Nc,Rd.Ag,Rd.Ao,Rd.wp_seq,Rd.wp_ret,Rd.AO] at h
  clear hmu
  have hmu:=hc.mu
  by_cases hn:l=[]
  .subst hn
   rw [if_pos (show ((([]:List Nd).length:Int)==0)=true from rfl)] at h
   repeat' ((conv=>whnf);(first|exact C1|refine AV ?_|(refine C2 ?_ ?_ ?_;rotate_left)|refine Ej ?_ ?_|refine BU ?_ ?_|refine MR ?_ ?_|refine NF ?_|refine Mt ?_ ?_|refine xd ?_|exact Ge|refine K9 ?_|refine MA ?_|refine BH ?_|refine AA ?_|refine Mf hs ‹_› ‹_› ?_ ?_|refine GJ.go (by first|exact Bi.q|exact (hL.decls).a) ?_ ?_|exact absurd rfl ‹_›|refine MT hx H1 ?_|refine Cx.BE ‹_› f8 ?_|refine Cx.BE (x:=Al 30 _) (Cx.drop ‹_›) hl2 ?_|refine Az [1,3,5,9,6,10,13,14,17] [] ?_|refine Az [1,3,5,9,6,10,13,14,17,18,21] [] ?_|fail)<;>intros)
   all_goals conv=>whnf
  .obtain ⟨x,hx⟩:∃x,l[((0:Int)).toNat]? =some x:=by
    cases l with
    |nil=>exact absurd rfl hn
    |cons x l=>exact ⟨x,rfl⟩
   have hz:((l.length:Int)==0)=false:=beq_eq_false_iff_ne.2 λe=>hn (List.length_eq_zero_iff.1 H1)
   have hd:l.headD BC=x:=by
    cases l with
    |nil=>exact absurd rfl hn
    |cons y l=>cases hx;rfl
   rw [if_neg (by rw [hz];decide),hd] at h
   repeat' ((conv=>whnf);(first|exact C1|refine AV ?_|(refine C2 ?_ ?_ ?_;rotate_left)|refine Ej ?_ ?_|refine BU ?_ ?_|refine MR ?_ ?_|refine NF ?_|refine Mt ?_ ?_|refine xd ?_|exact Ge|refine K9 ?_|refine MA ?_|refine BH ?_|refine AA ?_|refine Mf hs ‹_› ‹_› ?_ ?_|refine GJ.go (by first|exact Bi.q|exact (hL.decls).a) ?_ ?_|exact absurd rfl ‹_›|refine MT hx H1 ?_|refine Cx.BE ‹_› f8 ?_|refine Cx.BE (x:=Al 30 _) (Cx.drop ‹_›) hl2 ?_|refine Az [1,3,5,9,6,10,13,14,17] [] ?_|refine Az [1,3,5,9,6,10,13,14,17,18,21] [] ?_|fail)<;>intros)
   all_goals conv=>whnf
 .refine CZ (λl own=>[(5,.slice 6 (l.map Ap) own)]) (λ_ _=>[]) [1,2,4] [0,1] (λl own=>(own,l)::rows) (λl=>l.length) .full (hc.push []) h f7 Yl ?_
  intro l s1 U own1 hc h hl hm1
  have hl2:l.length+1<=1000000000:=H1
  simp only [Ib,Nc,Rd.Ag,Rd.Ao,Rd.wp_seq,Rd.wp_ret,Rd.AO] at h
  clear hmu
  have hmu:=hc.mu
  by_cases hn:l=[]
  .subst hn
   rw [if_pos (show ((([]:List Nd).length:Int)==0)=true from rfl)] at h
   repeat' ((conv=>whnf);(first|exact C1|refine AV ?_|(refine C2 ?_ ?_ ?_;rotate_left)|refine Ej ?_ ?_|refine BU ?_ ?_|refine MR ?_ ?_|refine NF ?_|refine Mt ?_ ?_|refine xd ?_|exact Ge|refine K9 ?_|refine MA ?_|refine BH ?_|refine AA ?_|refine Mf hs ‹_› ‹_› ?_ ?_|refine GJ.go (by first|exact Bi.q|exact (hL.decls).a) ?_ ?_|exact absurd rfl ‹_›|refine MT hx H1 ?_|refine Cx.BE ‹_› f8 ?_|refine Cx.BE (x:=Al 30 _) (Cx.drop ‹_›) hl2 ?_|refine Az [1,3,5,9,6,10,13,14,17] [] ?_|refine Az [1,3,5,9,6,10,13,14,17,18,21] [] ?_|fail)<;>intros)
   all_goals conv=>whnf
  .obtain ⟨x,hx⟩:∃x,l[((0:Int)).toNat]? =some x:=by
    cases l with
    |nil=>exact absurd rfl hn
    |cons x l=>exact ⟨x,rfl⟩
   have hz:((l.length:Int)==0)=false:=beq_eq_false_iff_ne.2 λe=>hn (List.length_eq_zero_iff.1 H1)
   have hd:l.headD BC=x:=by
    cases l with
    |nil=>exact absurd rfl hn
    |cons y l=>cases hx;rfl
   rw [if_neg (by rw [hz];decide),hd] at h
   repeat' ((conv=>whnf);(first|exact C1|refine AV ?_|(refine C2 ?_ ?_ ?_;rotate_left)|refine Ej ?_ ?_|refine BU ?_ ?_|refine MR ?_ ?_|refine NF ?_|refine Mt ?_ ?_|refine xd ?_|exact Ge|refine K9 ?_|refine MA ?_|refine BH ?_|refine AA ?_|refine Mf hs ‹_› ‹_› ?_ ?_|refine GJ.go (by first|exact Bi.q|exact (hL.decls).a) ?_ ?_|exact absurd rfl ‹_›|refine MT hx H1 ?_|refine Cx.BE ‹_› f8 ?_|refine Cx.BE (x:=Al 30 _) (Cx.drop ‹_›) hl2 ?_|refine Az [1,3,5,9,6,10,13,14,17] [] ?_|refine Az [1,3,5,9,6,10,13,14,17,18,21] [] ?_|fail)<;>intros)
   all_goals conv=>whnf
end
namespace Rd
variable {α β γ σ:Type}
theorem mD {body:σ->Rd (Sum σ β)} {P:β->Af->Prop} (h1:∀x s y s',(body x).run s=.inr (.inr y,s')->P y s') (x:σ) (s:Af):∀y s',(loop body x).run s=.inr (y,s')->P y s':=by
 show ∀y s',iter body x s=.inr (y,s')->P y s'
 fun_induction iter body x s with
 |case1 x s e h=>intro y s' U;cases U
 |case2 x s y s1 h=>intro y s' U;cases U;exact h1 _ _ _ _ h
 |case3 x s x' s1 h hlt ih=>exact ih
 |case4 x s x' s1 h hlt=>intro y s' U;cases U
end Rd
theorem fe {U:Bool} {opd:Rd Nd} {s':Af} {p:List Nd×Bool} (h:(H8 opd U).run s=.inr (p,s')):p.2=true->U=true/\AP s' 15 [41]=true/\2<=p.1.length:=
 Rd.mD (body:=Zb opd U) (P:=λp s'=>p.2=true->U=true/\AP s' 15 [41]=true/\2<=p.1.length) (λl s y s' h=>by
  unfold Zb at h
  obtain ⟨l2,s2,_,h⟩:=Bn h
  obtain ⟨n,s3,_,h⟩:=Bn h
  replace h:(if Gp (Aa s3).1=true then Rd.seq EB λo=>(if U=true then Rd.look λs=>if AP s 15 [41]=true then Rd.ret (.inr (l2++[n]++[o],true)) else Rd.ret (.inl (l2++[n]++[o])) else Rd.ret (.inl (l2++[n]++[o]))) else Rd.ret (.inr (l2++[n],false)):Rd (Sum (List Nd) (List Nd×Bool))).run s3=.inr (.inr y,s'):=h
  split at h
  .obtain ⟨o,s4,_,h⟩:=Bn h
   split at h
   .rename_i hb
    replace h:(if AP s4 15 [41]=true then Rd.ret (.inr (l2++[n]++[o],true)) else Rd.ret (.inl (l2++[n]++[o])):Rd (Sum (List Nd) (List Nd×Bool))).run s4=.inr (.inr y,s'):=h
    split at h
    .rename_i hi;cases h;exact λ_=>⟨hb,hi,Pi⟩
    .cases h
   .cases h
  .cases h;exact λe=>Bool.noConfusion (show false=true from e)) _ _ _ _ h
end Go.Proofs.Z
