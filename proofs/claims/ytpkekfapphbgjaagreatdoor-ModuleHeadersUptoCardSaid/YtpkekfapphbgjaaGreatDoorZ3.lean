/-
  Parts of a proof: lemmas that the last text uses.
-/
import Derived.Test.YtpkekfapphbgjaaGreatDoorZ2
set_option linter.unusedVariables false
set_option linter.unusedSimpArgs false
set_option maxHeartbeats 16000000
variable {b d id pos:Nat} {s x w t m:List UInt8} {k v i:Int} {l:List Go.Aw.Nd} {n o:Go.Aw.Nd} {s':Go.Proofs.Z.Ae} {g f:Go.FuncId} {c:Go.Code} {p:Go.Aw.Nd->Bool} {α β σ X:Type} {cs args:List Go.Aw.V} {J:Go.Aw.Mem} {R:Go.Aw.AB->Go.Aw.St->Prop} {Q:Go.Aw.AF->Go.Aw.Env->Go.Aw.St->Prop} {env:Go.Aw.Env} {st':Go.Aw.St} {fn:Go.Func} {P:Prop} {E:Go.Proofs.Z.Er->Go.Proofs.Z.Ae->Prop} {stmt:Go.Proofs.Z.Rd Go.Aw.Nd} {ks:List Int} {mk:Nat->List Go.Aw.V}
namespace Go.Proofs.Z
open Go Go.Aw
section
variable {st:St} {R:AB->St->Prop}
attribute [local irreducible] Go.Aw.Am
theorem xu {s:Ae} (e:AZ s k x=true) (U:Has st b s) (hb:s.DE.length<=500000000) (h:R (.ret (.bool true)) (st.Aa b (Dg s))):PC 149 [.ptr b 0,.int .i64 k,.str x] st R:=bW U hb ke
theorem ix {s:Ae} (e:AZ s k x=false) (U:Has st b s) (hb:s.DE.length<=500000000) (h:R (.ret (.bool false)) (st.Aa b (Dg s))):PC 149 [.ptr b 0,.int .i64 k,.str x] st R:=bW U hb ke
theorem Ft {st:St} {s:Ae}:Has (st.Aa b (Dg s)) b s:=.inl (St.Aj ..)
theorem gV {s:Ae} (h:AZ s 15 [44]=true):Cs l s=Cs (l++[Be (Ab s).1]) (Ab s).2.1:=by
 rw [Cs,if_pos h,if_pos (C8 h Do Do)]
theorem bj {s:Ae} (h:AZ s 15 [44]=false):Cs l s=(l,s):=by
 rw [Cs,if_neg ke]
theorem dA {Y:Ae->Rs} (l:List Nd) (s:Ae):∀q s',CE Y l s=.inr (q,s')->q.length+2*mu s'<=l.length+2*mu s:=by
 fun_induction CE Y l s with
 |case1 l s U e1 h2=>simp_all
 |case2 l s U p h2 h3 ih=>
  grind
 |case3 l s U p h2 h3=>simp_all
 |case4 l s U=>simp_all
theorem kI {Y:Ae->Rs} (hF:A4 Y) {s:Ae} (h:M1 Y n s=.inr (l,s')):mu s'<=mu s/\l.length<=2+2*mu s:=by
 unfold M1 at h
 split at h
 .cases h
 .rename_i U
  have h2:=hF _ _ _ U
  have h3:=JL _ _ _ _ h
  have h4:=dA _ _ _ _ h
  grind
theorem kq {st:St} {K:AB->St->Prop} {q:Ls} (h:∀l s',q=.inr (l,s')->∀st' U,Io st st' b s'->U.BS st'->K (.ret (.slice 6 (l.map AP) U)) (U.st st' (l.length*6)))
 (k:∀e s',q=.inl (e,s')->∀st',Io st st' b s'->K (.Cd (fault e)) st'):k8 st b K q:=by
 match q with
 | .inr (l,s')=>exact h l s' rfl
 | .inl (e,s')=>exact k e s' rfl
theorem uC {x:Int} (hx:x=((d+1:Nat):Int)) (hd:d<=1000000) {Y:Ae->Rs} (hY:DQ 318 d Y) (h0:d=0->∀s,Y s=.inl (2,s)) (hB:Fh Y) (hF:A4 Y):DR 410 x (Fg Y):=by
 intro s hm b st R hs h
 refine pB Tryz.func410 ?_
 have hb:=FH hm
 unfold Fg at h
 cases hq1:Db s with
 |inl q=>
  rw [hq1] at h
  obtain ⟨e,s'⟩:=q
  repeat' ((conv=>whnf);first|(refine Br ?_;intros)|(refine Bs ?_ ?_<;>intro _)|refine Gi hs hb (XD hq1 (λst1 h1=>?_)))
  all_goals exact fin (h st1 h1) rfl
 |inr q=>
  obtain ⟨n1,s1⟩:=q
  rw [hq1] at h
  have hm1:mu s1<=100000000:=by have:=(QS hq1).1;omega
  have hb1:=FH hm1
  have hn1:[n1].length+1<=1000000000:=by show 1+1<=1000000000;decide
  dsimp only at h
  cases hA:AZ s1 10 [45,62] with
  |true=>
   rw [if_pos hA] at h
   have hb2:(Ab s1).2.1.DE.length<=500000000:=FH (by have:=C8 hA Do Do;omega)
   have hn2:∀n2:Nd,([n1]++[n2]).length+1<=1000000000:=λ_=>by simp_all
   repeat' ((conv=>whnf);first|(refine Br ?_;intros)|(refine Bs ?_ ?_<;>intro _)|refine Gi hs hb (HH hq1 (λst1 h1=>?_))|refine xu hA h1.1 hb1 ?_|refine Gi Ft hb1 (HH (HD hA Do) (λst2 h2=>?_))|refine Pp (l:=[n1]) (x:=Be (Ab s1).1) (own:=.full) trivial hn1 (λown1 ho1=>?_)|refine Tv (h2.1.hw own1 _) hb2 (FW ho1 h2.1 (GP (λn3 s3 hq3 U h3 hg3=>?_) (λe3 s3 hq3 U h3 hg3=>?_)))|refine Pp (l:=[n1]++[Be (Ab s1).1]) (x:=n3) hg3 (hn2 _) (λown2 ho2=>?_))
   all_goals unfold Hv at h
   all_goals rw [hq3] at h
   .exact EV (AH.BZ ho2) Cn (h U ((h1.trans A3).trans (h2.trans h3)))
   .exact EV (AH.BZ hg3) rfl (h U ((h1.trans A3).trans (h2.trans h3)))
  |false=>
  rw [if_neg ke] at h
  cases hC:AZ s1 15 [41] with
  |true=>
   rw [if_pos hC] at h
   repeat' ((conv=>whnf);first|(refine Br ?_;intros)|(refine Bs ?_ ?_<;>intro _)|refine Gi hs hb (HH hq1 (λst1 h1=>?_))|refine ix hA h1.1 hb1 ?_|refine xu hC Ft hb1 ?_|refine Tv Ft hb1 (Eo (λn3 s3 hq3 U h3=>?_) (λe3 s3 hq3 U h3=>?_))|refine Pp (l:=[n1]) (x:=n3) (own:=.full) trivial hn1 (λown2 ho2=>?_))
   all_goals unfold Hv at h
   all_goals rw [hq3] at h
   .exact EV (AH.BZ ho2) Cn (h U (((h1.trans A3).trans A3).trans h3))
   .exact fin (h U (((h1.trans A3).trans A3).trans h3)) rfl
  |false=>
  rw [if_neg ke] at h
  cases hE:AZ s1 15 [44] with
  |true=>
   rw [if_pos hE] at h
   repeat' ((conv=>whnf);first|(refine Br ?_;intros)|(refine Bs ?_ ?_<;>intro _)|refine Gi hs hb (HH hq1 (λst1 h1=>?_))|refine ix hA h1.1 hb1 ?_|refine ix hC Ft hb1 ?_|refine xu hE Ft hb1 ?_)
   refine J6 (α:=List Nd×Ae×St×AH) (λx=>[(5,.slice 6 (x.1.map AP) x.2.2.2)]) [0,1,4,6] (λx=>[]) [0] (λx=>x.2.2.2.st x.2.2.1 (x.1.length*6))
    (λx=>x.2.2.2.BS x.2.2.1/\Io st x.2.2.1 b x.2.1/\x.1.length+mu x.2.1<=200000000/\mu x.2.1<=mu s1/\Cs x.1 x.2.1=Cs [n1] s1) (λx=>mu x.2.1) ([n1],s1,_,.full)
    ⟨trivial,((h1.trans A3).trans A3).trans A3,by grind,Nat.le_refl _,rfl⟩ Yl (St.le_refl _) ?_
   rintro ⟨l,s3,U,own⟩ ⟨j1,j2,j5,j6,j7⟩
   dsimp only at j1 j2 j5 j6 j7
   have hm3:mu s3<=100000000:=AC
   have hb3:=FH hm3
   have hl3:Has (U.Aa b (Dg s3)) b s3:=.inl (St.Aj ..)
   have g3:own.BS (U.Aa b (Dg s3)):=Jo j1 j2.1
   have hn:l.length+1<=1000000000:=AC
   repeat' ((conv=>whnf);first|(refine Br ?_;intros)|(refine Bs ?_ ?_<;>intro _)|refine xt j2.1 hb3 ?_|refine Gi (hl3.hw own _) hb3 (S8 g3 hl3 (HD ‹_› Do) (λst4 h4 g4=>?_))|refine Pp (l:=l) (x:=Be (Ab s3).1) g4 hn (λown' ho'=>?_)|refine Tv (hl3.hw own _) hb3 (FW g3 hl3 (GP (λn5 s5 hq5 st5 h5 g5=>?_) (λe5 s5 hq5 st5 h5 g5=>?_)))|refine Pp (l:=l) (x:=n5) g5 hn (λown' ho'=>?_))
   all_goals conv=>whnf
   .have hp:AZ s3 15 [44]=true:=FS
    have hd3:=C8 hp Do Do
    refine ⟨(l++[Be (Ab s3).1],(Ab s3).2.1,st4,own'),⟨ho',j2.trans (A3.trans h4),?_,by grind,?_⟩,hd3,Yl,St.le_refl _⟩
    .grind
    .show Cs (l++[Be (Ab s3).1]) (Ab s3).2.1=_
     rw [<-j7,gV (l:=l) hp]
   all_goals rw [<-j7,bj ‹_›] at h
   all_goals unfold Hv at h
   all_goals dsimp only at h
   all_goals rw [hq5] at h
   .exact EV (AH.BZ ho') Cn (h st5 (j2.trans (A3.trans h5)))
   .exact EV (AH.BZ g5) rfl (h st5 (j2.trans (A3.trans h5)))
  |false=>
   rw [if_neg ke] at h
   replace h:Fj st b R (match M1 Y n1 s1 with
    | .inl e=>(.inl e:Rs)
    | .inr r=>Hv (if 2<r.1.length then 5 else 4) r.1 r.2 [41]):=by
    unfold M1
    cases hy:Y s1 with
    |inl e=>simp_all
    |inr q=>grind
   have hbl:∀{l s2},M1 Y n1 s1=.inr (l,s2)->s2.DE.length<=500000000/\l.length+1<=1000000000:=λe=>by
    have:=kI hF e
    exact ⟨FH AC,AC⟩
   repeat' ((conv=>whnf);first|(refine Br ?_;intros)|(refine Bs ?_ ?_<;>intro _)|refine Gi hs hb (HH hq1 (λst1 h1=>?_))|refine ix hA h1.1 hb1 ?_|refine ix hC Ft hb1 ?_|refine ix hE Ft hb1 ?_|refine vo hY h0 hB hF (n1:=n1) AC hm1 Ft (kq (λl s2 hq2 st2 own1 h2 g2=>?_) (λe2 s2 hq2 st2 h2=>?_))|refine Ci (λ_=>?_)|refine Tv (h2.1.hw own1 _) (hbl hq2).1 (FW g2 h2.1 (GP (λn3 s3 hq3 U h3 hg3=>?_) (λe3 s3 hq3 U h3 hg3=>?_)))|refine Pp (l:=l) (x:=n3) hg3 (hbl hq2).2 (λown2 ho2=>?_))
   all_goals rw [hq2] at h
   all_goals dsimp only at h
   all_goals try unfold Hv at h
   all_goals try rw [hq3] at h
   all_goals have hu:=(((h1.trans A3).trans A3).trans A3).trans h2
   .rw [if_pos AC] at h
    exact EV (AH.BZ ho2) Cn (h U (hu.trans h3))
   .exact EV (AH.BZ hg3) rfl (h U (hu.trans h3))
   .rw [if_neg AC] at h
    exact EV (AH.BZ ho2) Cn (h U (hu.trans h3))
   .exact EV (AH.BZ hg3) rfl (h U (hu.trans h3))
   .exact fin (h st2 hu) rfl
end
theorem U0 (h:d=0) (s:Ae):DU d s=.inl (2,s):=by subst h;rfl
theorem XT (hd:d+1<=1000000) (h:DQ 318 (d:Int) (DU d)):DR 390 ((d+1:Nat):Int) (Dl (DU d)):=
 wP (uC rfl AC h (λe s=>U0 e s) (FK d) (Bo d)) (p4 AC h (λe s=>U0 e s) (FK d) (Bo d))
theorem N3 (hd:d+1<=1000000) (h:DQ 318 (d:Int) (DU d)):DR 357 ((d+1:Nat):Int) (Gd (Dl (DU d))):=
 yi (XT hd h) (BK (Bo d))
theorem Pm (hd:d+1<=1000000) (h:DQ 318 (d:Int) (DU d)):DR 358 ((d+1:Nat):Int) (DC (Dl (DU d))):=
 vw (N3 hd h) (XS (N3 hd h) (BK (Bo d))) (BK (Bo d))
theorem Ld:∀d:Nat,d<=100->DQ 318 (d:Int) (DU d)
 |0,_=>dx λh=>absurd Do h
 |d+1,hd=>dx λ_=>by
  rw [if_neg AC]
  exact Pm AC (Ld d AC)
def Ed (deep:Int):Nat:=(if 100<deep then 100 else deep).toNat
theorem Vz (deep:Int):Ed deep<=100:=by unfold Ed;split<;>omega
theorem Vy {deep:Int} (h:¬deep<1):(if 100<deep then 100 else deep)=((Ed deep - 1+1:Nat):Int):=by unfold Ed;split<;>omega
theorem zM {deep:Int}:DQ 318 deep (DC (Dl (DU (Ed deep - 1)))):=dx λh=>by
 rw [Vy h]
 have:=Vz deep
 exact Pm AC (Ld _ AC)
theorem yT {deep:Int}:DQ 412 deep (Dl (DU (Ed deep - 1))):=rJ λh=>by
 rw [Vy h]
 have:=Vz deep
 exact XT AC (Ld _ AC)
theorem Xak {deep:Int}:DQ 317 deep (Gd (Dl (DU (Ed deep - 1)))):=yh λh=>by
 rw [Vy h]
 have:=Vz deep
 exact N3 AC (Ld _ AC)
section
variable {st:St} {R:AB->St->Prop}
attribute [local irreducible] Go.Aw.Am
theorem xi {d:Int} {A:Ae->Rs} (hr:DR 357 d (Gd A)) (ha:aN 392 d (Dt A)) (hw:DR 358 d (DC A)) (hF:A4 A):DR 366 d (F5 A):=by
 intro s hm b st R hs h
 refine pB Tryz.func366 ?_
 unfold F5 at h
 have hm1:∀{n1 s1},Gd A s=.inr (n1,s1)->mu s1<=100000000:=λe=>by have:=FN hF _ _ _ e;omega
 have hm2:∀{n1 s1},Gd A s=.inr (n1,s1)->AZ s1 10 [61,62]=true->mu (Ab s1).2.1<=100000000:=λe i=>by have:=hm1 e;have:=C8 i Do Do;omega
 repeat' ((conv=>whnf);first|exact CH|(refine Br ?_;intros)|(refine CI ?_ ?_ ?_;rotate_left)|(refine Bs ?_ ?_<;>intro _)|refine hr s hm b _ _ hs (Eo (λn1 s1 U st1 h1=>?_) (λe1 s1 U st1 h1=>?_))|refine bW h1.1 (FH (hm1 U)) ?_|refine ha n1 s1 (hm1 U) b _ _ Ft (Eo (λn2 s2 hq2 st2 h2=>?_) (λe2 s2 hq2 st2 h2=>?_))|refine Af [(0,true),(1,true),(3,true),(4,true),(2,false),(5,false),(6,true),(7,true),(8,false)] [0] EQ ?_|refine Gi Ft (FH (hm1 U)) (HH (HD ‹_› Do) (λst2 h2=>?_))|refine hw (Ab s1).2.1 (hm2 U ‹_›) b _ _ h2.1 (Eo (λn3 s3 hq3 st3 h3=>?_) (λe3 s3 hq3 st3 h3=>?_))|with_reducible refine WF ?_)
 all_goals rw [U] at h
 all_goals dsimp only at h
 .rw [if_pos ‹_›,hq3] at h
  exact EV (St.le_refl _) (Cn (l:=[n1,Be (Ab s1).1,n3])) (h st3 ((h1.trans A3).trans (h2.trans h3)))
 .rw [if_pos ‹_›,hq3] at h
  intro e'
  exact fin (h st3 ((h1.trans A3).trans (h2.trans h3))) rfl
 .rw [if_neg (Bool.eq_false_iff.1 ‹_›),hq2] at h
  exact BR rfl (h st2 ((h1.trans A3).trans h2))
 .rw [if_neg (Bool.eq_false_iff.1 ‹_›),hq2] at h
  exact fin (h st2 ((h1.trans A3).trans h2)) rfl
 .exact fin (h st1 h1) rfl
theorem mU (hd:d+1<=1000000) (h:DQ 318 (d:Int) (DU d)):DR 366 ((d+1:Nat):Int) (F5 (Dl (DU d))):=
 xi (N3 hd h) (XS (N3 hd h) (BK (Bo d))) (Pm hd h) (BK (Bo d))
theorem vO {deep:Int}:DQ 329 deep (F5 (Dl (DU (Ed deep - 1)))):=sP λh=>by
 rw [Vy h]
 have:=Vz deep
 exact mU AC (Ld _ AC)
end
section
variable {st0 st:St} {b d:Nat} {s:Ae} {rows:List (AH×List Nd)} {K:AB->St->Prop}
attribute [local irreducible] Go.Aw.Am
theorem oX {U:Rd Nd} (ho:AX enc 370 (λb=>[pv b d]) U):AX enc 310 (λb=>[pv b d]) (Zl U):=by
 refine ⟨λ{st0 b s st rows K} hc h=>?_⟩
 simp only [Zl,Rd.wp_seq,Rd.wp_ret] at h
 refine pB Tryz.func310 ?_
 repeat' ((conv=>whnf);(first|refine Ba ?_|refine Bb ?_ ?_|refine Bc ?_ ?_|exact FY|refine KE ?_|refine Ad ?_|refine rl.go (pK ho) ‹_› ‹_› ?_ ?_)<;>intros)
theorem S9 {A:Ae->Rs} {hle:∀s v s',A s=.inr (v,s')->mu s'<=mu s} (hB:Fh A) (hc:Cx st0 b s st rows) (h:Rd.wp (Ia A hle) s (λv s'=>∀st',Cx st0 b s' st' rows->K (.ret (enc v)) st') (λe s'=>∀st',Cy st0 b s' st' rows->K (.Cd (fault e.1)) st')):Fj st b K (A s):=by
 cases U:A s with
 |inl p=>
  obtain ⟨e,s'⟩:=p
  unfold Rd.wp at h
  rw [Zj hB U] at h
  exact λst' hu=>h st' (hc.Xan hu)
 |inr p=>
  obtain ⟨n,s'⟩:=p
  unfold Rd.wp at h
  rw [NU U] at h
  exact λst' hu=>h st' (hc.Pg hu (hle _ _ _ U))
theorem ta {A:Rd Nd} (hd:d<=1000000) (h0:d=0->A=.fail It) (hc:Cx st0 b s st rows)
 (h:Rd.wp A s (λv s'=>∀st',Cx st0 b s' st' rows->K (.ret (enc v)) st') (λe s'=>∀st',Cy st0 b s' st' rows->K (.Cd (fault e.1)) st'))
 (hg:d≠0->∀K:AB->St->Prop,Rd.wp A s (λv s'=>∀st',Cx st0 b s' st' rows->K (.ret (enc v)) st') (λe s'=>∀st',Cy st0 b s' st' rows->K (.Cd (fault e.1)) st')->PC g [pv b d] st K):
 PC 355 [pv b (d+1),.func g [] []] st K:=by
 refine pB Tryz.func355 ?_
 by_cases hz:d=0
 .have U:((d+1:Nat):Int)<2:=AC
  rw [h0 hz,Rd.ED] at h
  repeat' ((conv=>whnf);(first|refine Ba ?_|refine Bb ?_ ?_|refine Bc ?_ ?_|refine CD ?_|exact B5 (Cx.y ‹_›) ‹_›)<;>intros)
 .have U:¬((d+1:Nat):Int)<2:=AC
  repeat' ((conv=>whnf);(first|refine UE hd ?_|refine Ba ?_|refine Bb ?_ ?_|refine Bc ?_ ?_|refine hg hz _ (Rd.wp_mono ‹_› ?_ ?_)|refine CD ?_|exact FY|refine Ad ?_)<;>intros)
theorem Qw {c:Nat} {A:Rd Nd} (hd:d<=1000000) (h0:d=0->A=.fail It) (hc:Cx st0 b s st rows)
 (h:Rd.wp A s (λv s'=>∀st',Cx st0 b s' st' rows->K (.ret (enc v)) st') (λe s'=>∀st',Cy st0 b s' st' rows->K (.Cd (fault e.1)) st'))
 (hg:d≠0->∀K:AB->St->Prop,Rd.wp A s (λv s'=>∀st',Cx st0 b s' st' rows->K (.ret (enc v)) st') (λe s'=>∀st',Cy st0 b s' st' rows->K (.Cd (fault e.1)) st')->PC g [pv b d,.ptr c 0] st K):
 PC 355 [pv b (d+1),.func g [] [.ptr c 0]] st K:=by
 refine pB Tryz.func355 ?_
 by_cases hz:d=0
 .have U:((d+1:Nat):Int)<2:=AC
  rw [h0 hz,Rd.ED] at h
  repeat' ((conv=>whnf);(first|refine Ba ?_|refine Bb ?_ ?_|refine Bc ?_ ?_|refine CD ?_|exact B5 (Cx.y ‹_›) ‹_›)<;>intros)
 .have U:¬((d+1:Nat):Int)<2:=AC
  repeat' ((conv=>whnf);(first|refine UE hd ?_|refine Ba ?_|refine Bb ?_ ?_|refine Bc ?_ ?_|refine hg hz _ (Rd.wp_mono ‹_› ?_ ?_)|refine CD ?_|exact FY|refine Ad ?_)<;>intros)
theorem El {A:Rd Nd} (hd:d<=1000000) (h0:d=0->A=.fail It) (hg:d≠0->AX enc g (λb=>[pv b d]) A):AX enc 355 (λb=>[pv b (d+1),.func g [] []]) A:=by
 refine ⟨λ{st0 b s st rows K} U h=>?_⟩
 exact ta hd h0 U h λhz K h=>(hg hz).ap U h
end
section
variable {st0 st:St} {b d:Nat} {s:Ae} {rows:List (AH×List Nd)} {K:AB->St->Prop}
attribute [local irreducible] Go.Aw.Am
theorem bR (hd:d+1<=100):DQ 329 ((d+1:Nat):Int) (F5 (Dl (DU (d+1 - 1)))):=by
 have:=vO (deep:=((d+1:Nat):Int))
 have e:Ed ((d+1:Nat):Int) - 1=d+1 - 1:=by unfold Ed;split<;>omega
 rw [e] at this;exact this
theorem eH (hd:d+1<=100):AX enc 350 (λb=>[pv b (d+1)]) (Kv (d+1)):=by
 refine ⟨λ{st0 b s st rows K} U h=>?_⟩
 have hB:Fh (F5 (Dl (DU (d+1 - 1)))):=T3 (HL (FK _))
 have hi:∀{K:AB->St->Prop},Rd.wp (Kv (d+1)) s (λv s'=>∀st',Cx st0 b s' st' rows->K (.ret (enc v)) st') (λe s'=>∀st',Cy st0 b s' st' rows->K (.Cd (fault e.1)) st')->
  PC 110 [.ptr b 0,.func 329 [] [],.int .i64 ((d+1:Nat):Int)] st K:=λh=>
  RX (d:=d+1) rfl (bR hd) (λe=>by omega) hB U.mu U.has (S9 hB U h)
 refine pB Tryz.func350 ?_
 repeat' ((conv=>whnf);(first|refine Ba ?_|refine Bb ?_ ?_|refine Bc ?_ ?_|refine hi (Rd.wp_mono ‹_› ?_ ?_)|exact FY|refine Ad ?_)<;>intros)
theorem ar {full:Rd Nd} (hf:AX enc 350 (λb=>[pv b d]) full):AX enc 387 (λb=>[pv b d,enc n]) (Le full n):=by
 refine ⟨λ{st0 b s st rows K} U h=>?_⟩
 simp only [Le,Rd.Ag,Rd.Ax,Rd.wp_seq,Rd.wp_ret] at h
 refine pB Tryz.func387 ?_
 repeat' ((conv=>whnf);(first|exact Dr|refine Ba ?_|(refine Ds ?_ ?_ ?_;rotate_left)|refine Bb ?_ ?_|refine Bc ?_ ?_|refine IQ ?_|refine Mw ?_ ?_|refine Lm ?_|refine JP ?_ ?_|exact FY|refine KE ?_|refine Ad ?_|refine Gl.go (by first|exact AX.q) ?_ ?_|refine Af [(0,true),(1,true),(2,true),(4,true),(3,false),(5,false),(6,true),(7,false),(8,false)] [2] GE ?_|with_reducible refine WF ?_)<;>intros)
theorem xe {U full:Rd Nd} (ho:AX enc 370 (λb=>[pv b d]) U) (hf:AX enc 350 (λb=>[pv b d]) full):AX enc 353 (λb=>[pv b d]) (bC U full):=by
 refine ⟨λ{st0 b s st rows K} hc h=>?_⟩
 simp only [bC,Rd.wp_seq] at h
 refine pB Tryz.func353 ?_
 repeat' ((conv=>whnf);(first|exact Dr|refine Ba ?_|(refine Ds ?_ ?_ ?_;rotate_left)|refine Bb ?_ ?_|refine Bc ?_ ?_|exact FY|refine Ad ?_|refine Gl.go (by first|exact AX.q|exact (oX ho).a|exact (ar hf).a) ?_ ?_|refine Af [(0,true),(1,true),(2,false),(3,false),(4,false)] [1] GE ?_|with_reducible refine WF ?_)<;>intros)
theorem YX {L:Fi} {lt U:Nd} (he:AX enc 355 (λb=>[pv b d,.func 353 [] []]) L.exp):AX enc 395 (λb=>[pv b d,enc lt,enc U]) (KW L lt U):=by
 refine ⟨λ{st0 b s st rows K} hc h=>?_⟩
 simp only [KW,Rd.wp_seq,Rd.wp_ret] at h
 refine pB Tryz.func395 ?_
 repeat' ((conv=>whnf);(first|exact Dr|refine Ba ?_|(refine Ds ?_ ?_ ?_;rotate_left)|refine Bb ?_ ?_|refine Bc ?_ ?_|refine JP ?_ ?_|exact FY|refine KE ?_|refine Ad ?_|refine Gl.go (by first|exact AX.q) ?_ ?_|refine Af [(0,true),(1,true),(2,true),(3,true),(4,false),(5,true),(6,false),(7,false)] [3] GE ?_|with_reducible refine WF ?_)<;>intros)
theorem fC {L:Fi} (he:AX enc 355 (λb=>[pv b d,.func 353 [] []]) L.exp):vF 413 (λb v=>[pv b d,v,.str w]) (λl=>Mo L l w):=by
 refine ⟨λ{st0 b s st rows K own l} hl hc h=>?_⟩
 simp only [Mo,UI,Rd.Ag,Rd.Ax,Rd.wp_seq,Rd.wp_ret] at h
 refine pB Tryz.func413 ?_
 have U:=hc.mu
 rcases hc.has with hs|⟨t,u,o1,o2,e0,hs⟩
 .skip
  repeat' ((conv=>whnf);(first|refine Ba ?_|refine Bb ?_ ?_|refine Bc ?_ ?_|refine XO ?_ ?_|refine Ah hs ?_|refine IQ ?_|refine Mw ?_ ?_|refine JP ?_ ?_|exact FY|refine Mg ?_|refine Ad ?_|refine Xh ?_|refine fT ‹_› ‹_› (N5 ‹_›) ?_|refine GW ‹_› U ?_|refine Gl.go (by first|exact AX.q) ?_ ?_)<;>intros)
 .skip
  repeat' ((conv=>whnf);(first|refine Ba ?_|refine Bb ?_ ?_|refine Bc ?_ ?_|refine XO ?_ ?_|refine Ah hs ?_|refine IQ ?_|refine Mw ?_ ?_|refine JP ?_ ?_|exact FY|refine Mg ?_|refine Ad ?_|refine Xh ?_|refine fT ‹_› ‹_› (N5 ‹_›) ?_|refine GW ‹_› U ?_|refine Gl.go (by first|exact AX.q) ?_ ?_)<;>intros)
theorem Ly {p:FuncId} {A:Rd Nd} {may:Nd->Bool} (hg:AX enc g (λb=>[pv b d]) A) (hp:∀{s s' n} {st:St} {K:AB->St->Prop},A.run s=.inr (n,s')->mu s<=100000000->K (.ret (.bool (may n))) st->PC p [enc n] st K):
 AX enc 341 (λb=>[pv b d,.func g [] [],.func p [] []]) (Du A may):=by
 refine ⟨λ{st0 b s st rows K} hc h=>?_⟩
 simp only [Du,Rd.Ag,Rd.Ax,Rd.wp_seq,Rd.wp_ret,Rd.Fb] at h
 refine pB Tryz.func341 ?_
 have U:=hc.mu
 rcases hc.has with hs|⟨t,u,o1,o2,e0,hs⟩
 .skip
  repeat' ((conv=>whnf);(first|refine Ba ?_|refine Bb ?_ ?_|refine Bc ?_ ?_|refine Ah hs ?_|refine CD ?_|exact FY|refine Ad ?_|refine GW ‹_› U ?_|refine Gl.go (by first|exact AX.q) ?_ ?_|refine hp ‹_› U ?_)<;>intros)
 .skip
  repeat' ((conv=>whnf);(first|refine Ba ?_|refine Bb ?_ ?_|refine Bc ?_ ?_|refine Ah hs ?_|refine CD ?_|exact FY|refine Ad ?_|refine GW ‹_› U ?_|refine Gl.go (by first|exact AX.q) ?_ ?_|refine hp ‹_› U ?_)<;>intros)
end
structure Mt (D:Nat) (L:Fi):Prop where
 atom:AX enc 355 (λb=>[pv b D,.func 349 [] []]) L.atom
 exp:AX enc 355 (λb=>[pv b D,.func 353 [] []]) L.exp
 ops:AX enc 355 (λb=>[pv b D,.func 310 [] []]) L.ops
 decls:AX enc 355 (λb=>[pv b D,.func 356 [] []]) L.decls
 stmts:AX enc 355 (λb=>[pv b D,.func 415 [] []]) L.stmts
 alts:AX enc 355 (λb=>[pv b D,.func 397 [] []]) L.alts
 Ez:∀{o:Nd} {c:Nat} {st0:St} {b:Nat} {s:Ae} {st:St} {rows:List (AH×List Nd)} {K:AB->St->Prop},st.box c=some (AP o)->Cx st0 b s st rows->
  Rd.wp (L.Ez o) s (λv s'=>∀st',Cx st0 b s' st' rows->K (.ret (enc v)) st') (λe s'=>∀st',Cy st0 b s' st' rows->K (.Cd (fault e.1)) st')->PC 355 [pv b D,.func 417 [] [.ptr c 0]] st K
 list:∀{o:Nd} {c:Nat} {st0:St} {b:Nat} {s:Ae} {st:St} {rows:List (AH×List Nd)} {K:AB->St->Prop},st.box c=some (AP o)->Cx st0 b s st rows->
  Rd.wp (L.list o) s (λv s'=>∀st',Cx st0 b s' st' rows->K (.ret (enc v)) st') (λe s'=>∀st',Cy st0 b s' st' rows->K (.Cd (fault e.1)) st')->PC 355 [pv b D,.func 419 [] [.ptr c 0]] st K
theorem zj (h:n.kids.length=0):Fz n=true:=by
 unfold Fz;rw [List.length_eq_zero_iff.1 h];rfl
theorem eU {x:Nd} (h:n.kids[((n.kids.length:Nat) - 1:Int).toNat]? =some x):n.kids.getLast? =some x:=by
 rw [List.getLast?_eq_getElem?,<-h];congr 1;omega
theorem zk {x:Nd} (h:n.kids[((n.kids.length:Nat) - 1:Int).toNat]? =some x) (k:x.kind=32\/x.kind=33):Fz n=true:=by
 unfold Fz;rw [eU h];simpa using k
theorem zl {x:Nd} (h:n.kids[((n.kids.length:Nat) - 1:Int).toNat]? =some x) (k:¬x.kind=32) (U:¬x.kind=33):¬Fz n=true:=by
 unfold Fz;rw [eU h];simp [k,U]
theorem AU {m:Rd α} {k:α->Rd β} {s:Ae} {v:β} (h:(Rd.seq m k).run s=.inr (v,s')):∃a s1,m.run s=.inr (a,s1)/\(k a).run s1=.inr (v,s'):=by
 unfold Rd.seq at h
 dsimp only at h
 split at h
 .cases h
 .exact ⟨_,_,‹_›,h⟩
theorem oZ {L:Fi} {a b:Nd} {s:Ae} {n:Nat} (h:(Mo L [a,b] w).run s=.inr (l,s')) (U:n<=100000000):l.length<=90000000:=by
 unfold Mo at h
 obtain ⟨_,_,_,h⟩:=AU h
 obtain ⟨_,_,_,h⟩:=AU h
 obtain ⟨_,_,_,h⟩:=AU h
 cases h
 exact Nat.le_of_ble_eq_true rfl
section
variable {st0 st:St} {b d:Nat} {s:Ae} {rows:List (AH×List Nd)} {K:AB->St->Prop} {L:Fi} {atom:Rd Nd}
attribute [local irreducible] Go.Aw.Am
theorem gS (U:Mt d L):AX enc 396 (λb=>[pv b d]) (JT L):=by
 refine ⟨λ{st0 b s st rows K} hc h=>?_⟩
 simp only [JT,Rd.wp_seq,Rd.wp_ret] at h
 have hmu:=hc.mu
 refine pB Tryz.func396 ?_
 repeat' ((conv=>whnf);(first|exact Dr|refine Ba ?_|(refine Ds ?_ ?_ ?_;rotate_left)|refine Bb ?_ ?_|refine Bc ?_ ?_|refine Lm ?_|refine JP ?_ ?_|exact FY|refine KE ?_|refine Ad ?_|refine Gl.go (by first|exact AX.q|exact (U.exp).a) ?_ ?_|refine vF.go (l:=[_,_]) (fC U.exp) (Nat.le_of_ble_eq_true rfl) (Cx.push ‹_› _) ‹_› ?_ ?_|refine vF.go (fC U.exp) (oZ ‹_› hmu) ‹_› ‹_› ?_ ?_|refine Af [(0,true),(1,true),(3,true),(2,false),(4,false),(5,true),(6,true)] [] GE ?_|refine Af [(0,true),(1,true),(2,true),(3,false),(4,false),(5,false),(6,false)] [1] GE ?_|with_reducible refine WF ?_)<;>intros)
theorem qk (hL:Mt d L):AX enc 398 (λb=>[pv b d]) (MX L):=by
 refine ⟨λ{st0 b s st rows K} U h=>?_⟩
 simp only [MX,Rd.wp_seq,Rd.wp_ret,Rd.Ax,Rd.ED] at h
 refine pB Tryz.func398 ?_
 repeat' ((conv=>whnf);first|(refine Ba ?_;intros)|(refine Bb ?_ ?_<;>intro e h)|(refine Bc ?_ ?_<;>intro _)|(refine Lm ?_;intro s1 st1 hz hm U h)|(refine JP ?_ ?_<;>(first|intro n s1 st1 hr hm U h|intro e s1 st1 U h))|refine CD ?_|exact FY|refine KE ?_|refine Ci (λ_=>?_)|refine Ad (λe1=>?_)|refine AX.go hL.stmts U h (λn s1 st1 hr hm U h=>?_) (λe s1 st1 U h=>?_))
 all_goals conv=>whnf
 all_goals first
  |(rw [if_pos (zj AC)] at h;exact B5 U.y h)
  |(rw [if_pos (zk ‹_› AC)] at h;exact B5 U.y h)
  |(rw [if_neg (zl ‹_› AC AC)] at h;exact Dn U h rfl)
end
section
variable {st0 st:St} {b d:Nat} {s:Ae} {rows:List (AH×List Nd)} {K:AB->St->Prop} {L:Fi} {atom:Rd Nd}
attribute [local irreducible] Go.Aw.Am
theorem mM (U:AX enc 349 (λb=>[pv b d]) atom):AX enc 341 (λb=>[pv b d,.func 349 [] [],.func 409 [] []]) (Du atom H5):=
 Ly U λ_ _ k=>VV k
theorem VG {A:Rd Nd} (h:Rd.A4 A):Rd.A4 (Du A p):=Rd.A4.look λs v s' e=>Rd.A4.at (h _) e
theorem iE (hL:Mt d L) (ha:AX enc 349 (λb=>[pv b d]) atom) (hF:Rd.A4 atom):AX enc 394 (λb=>[pv b d]) (J4 L atom):=by
 refine ⟨λ{st0 b s st rows K} U h=>?_⟩
 simp only [J4,Rd.wp_seq,Rd.wp_ret] at h
 refine pB Tryz.func394 ?_
 have hmu:=U.mu
 repeat' ((conv=>whnf);(first|refine Ba ?_|refine Bb ?_ ?_|refine Bc ?_ ?_|refine IQ ?_|refine Lm ?_|refine JP ?_ ?_|exact FY|refine KE ?_|refine Mg ?_|refine Ci ?_|refine Ad ?_)<;>intros)
 refine CS (λl own=>[(3,.slice 6 (l.map AP) own)]) (λ_ _=>[]) [1,2] [0,1] (λl own=>(own,l)::rows) (λl=>l.length) .full (Cx.push ‹_› _) ‹_› (by show 1+_<=_;omega) Yl ?_
 intro l s1 st1 own1 U h hl hm1
 simp only [VX,LG,Rd.Ag,Rd.Ax,Rd.wp_seq,Rd.wp_ret,Rd.BJ] at h
 repeat' ((conv=>whnf);(first|refine Ba ?_|refine Bb ?_ ?_|refine Bc ?_ ?_|refine IQ ?_|refine Lm ?_|refine JP ?_ ?_|exact FY|refine KE ?_|refine Mg ?_|refine Ci ?_|refine Ad ?_|refine AX.vP (mM ha) (VG hF) ‹_› ‹_› ?_ ?_|refine Gl.go (by first|exact AX.q|exact (hL.exp).a) ?_ ?_)<;>intros)
theorem cQ (U:Mt d L) (ha:AX enc 349 (λb=>[pv b d]) atom) (hF:Rd.A4 atom):AX enc 370 (λb=>[pv b d]) (Ib L atom):=by
 refine ⟨λ{st0 b s st rows K} hc h=>?_⟩
 simp only [Ib,Mz,iI,T6,Rd.Ag,Rd.Ax,Rd.wp_seq,Rd.wp_ret] at h
 refine pB Tryz.func370 ?_
 have hmu:=hc.mu
 repeat' ((conv=>whnf);(first|exact Dr|refine Ba ?_|(refine Ds ?_ ?_ ?_;rotate_left)|refine Bb ?_ ?_|refine Bc ?_ ?_|refine IQ ?_|refine Lm ?_|refine JP ?_ ?_|exact FY|refine KE ?_|refine Mg ?_|refine Ad ?_|refine Gl.go (by first|exact AX.q|exact (iE U ha hF).a|exact (gS U).a|exact (qk U).a|exact (U.decls).a|exact (YX U.exp).a|exact (U.exp).a|exact (U.alts).a) ?_ ?_|refine Cx.Hp (l:=[_,_,_]) (Cx.push ‹_› _) (Nat.le_of_ble_eq_true rfl) ?_|refine Af [(0,true),(1,true),(2,true),(4,true),(3,false),(5,false),(6,false),(7,false)] [1] GE ?_|refine Af [(0,true),(1,true),(3,true),(5,true),(6,true),(2,false),(4,false),(7,false),(8,true),(9,true)] [] GE ?_|with_reducible refine WF ?_)<;>intros)
 all_goals refine CS (λl own=>[(5,.slice 6 (l.map AP) own)]) (λ_ _=>[]) [1,2] [0,1] (λl own=>(own,l)::rows) (λl=>l.length) .full (Cx.push ‹_› _) ‹_› (by show 1+_<=_;omega) Yl ?_
 all_goals intro l s1 st1 own1 hc h hl hm1
 all_goals simp only [aY,Rd.Ag,Rd.Ax,Rd.wp_seq,Rd.wp_ret,Rd.BJ] at h
 all_goals (repeat' ((conv=>whnf);(first|exact Dr|refine Ba ?_|(refine Ds ?_ ?_ ?_;rotate_left)|refine Bb ?_ ?_|refine Bc ?_ ?_|refine IQ ?_|refine Lm ?_|refine JP ?_ ?_|exact FY|refine KE ?_|refine Mg ?_|refine Ad ?_|refine AX.vP ha hF ‹_› ‹_› ?_ ?_|with_reducible refine WF ?_)<;>intros))
end
end Go.Proofs.Z
namespace Go.Aw
open Go
def St.Lt (st:St) (b:Nat):St:={st with box:=λx=>if x=b then none else st.box x}
theorem St.cg {st:St} (h:st.box b=none):st.le ((st.Aa b cs).Lt b):=
 ⟨λx c e=>by
   simp only [St.Lt,St.Aa]
   grind,λ_ _ e=>e⟩
theorem Cm.of_flat {I:Mem} {sz:Nat}:∀{es:List (List V)} {vs:List Value},(∀e ∈ es,e.length=sz)->Aq I es.flatten vs->Cm I sz es vs
 |[],vs,_,h=>by simpa only [List.flatten_nil,Aq,Cm] using h
 |e::r,vs,hl,h=>by
  rw [List.flatten_cons] at h
  have U:=Aq.take e.length h
  have h2:=Aq.drop e.length h
  rw [List.take_left' rfl] at U
  rw [List.drop_left' rfl] at h2
  simp only [Cm]
  exact ⟨_,_,(List.take_append_drop e.length vs).symm,hl e List.mem_cons_self,U,Cm.of_flat (λx hx=>hl x (List.mem_cons_of_mem _ hx)) h2⟩
section
variable {P:Program} {D:List Deferred} {I0 I:Mem} {st0 st:St} {w0 w:World} {β:Nat->Option Nat} {env:Env} {a:Act}
theorem Rel.freeze (h:Rel D I0 st0 w0 I β env st a w) (hb:st.box b=some cs):
 ∃vs:List Value,Aq I cs vs/\I.le (I.add b 0 vs vs.length)/\Rel D I0 st0 w0 (I.add b 0 vs vs.length) β env (st.Lt b) a w:=by
 obtain ⟨vs,ty,hw,hv⟩:=h.s.box b cs hb
 obtain ⟨i1,i2,i3⟩:=h.s.IV b ke
 have hl:I.le (I.add b 0 vs vs.length):=Mem.R4 (λo _=>i1 o) (.inl i3)
 have hd:=h.fr.L9 b (.inl ke)
 have nb:∀x,(st.Lt b).box x≠none->x≠b/\st.box x≠none:=λx e=>by
  by_cases U:x=b
  .subst U;exact absurd (if_pos rfl) e
  .refine ⟨U,?_⟩
   have e':(if x=b then none else st.box x)≠none:=e
   simp_all
 refine ⟨vs,hv,hl,⟨⟨h.fr.os,h.fr.tape,h.fr.output,h.fr.size,h.fr.Mn,Mem.le_trans h.fr.le hl,?_,?_,λx e=>h.fr.L9 x (e.imp (λe=>(nb x e).2) id)⟩,⟨?_,?_,?_,?_,?_,VQ hl.1 hl.2 h.s.UU⟩,IP.mem h.f hl ?_⟩⟩
 .intro x o h1 h2
  by_cases e:x=b
  .simp_all
  .exact h.fr.new x o h1 (by simpa [Mem.add,e] using h2)
 .intro x h1 h2
  by_cases e:x=b
  .simp_all
  .exact h.fr.Mb x h1 (by simpa [Mem.add,e] using h2)
 .intro x o v e
  simp only [Mem.add] at e
  split at e
  .rename_i U
   obtain ⟨rfl,h1,h2⟩:=U
   simp only [World.cell?,hw,Option.isSome_none,Bool.false_eq_true,if_false,List.getElem?_toArray]
   exact e
  .exact h.s.cell x o v e
 .intro x n e
  simp only [Mem.add] at e
  split at e
  .simp_all
  .exact h.s.shape x n e
 .intro x c e
  have U:=(nb x ke).1
  have e':st.box x=some c:=by
   have:(if x=b then none else st.box x)=some c:=e
   rwa [if_neg U] at this
  obtain ⟨us,ty',h1,h2⟩:=h.s.box x c e'
  exact ⟨us,ty',h1,Aq.mono hl _ _ h2⟩
 .intro x e
  obtain ⟨U,e'⟩:=nb x e
  obtain ⟨h1,h2,h3⟩:=h.s.IV x e'
  exact ⟨λo=>by simp [Mem.add,U,h1 o],h2,by simp [Mem.add,U,h3]⟩
 .intro x n e
  have U:x≠b:=λU=>by subst U;rw [show (st.Lt x).hw x=st.hw x from rfl,i2] at e;cases e
  exact ⟨(h.s.hw x n e).1,λo ho=>by simp only [Mem.add];rw [if_neg (by simp [U])];exact (h.s.hw x n e).2 o ho⟩
 .intro id x e
  obtain ⟨h1,h2,h3,h4,h5,h6⟩:=h.f.sep id x e
  have U:x≠b:=λU=>by simp_all
  exact ⟨λo=>by simp [Mem.add,U,h3 o],by simp [Mem.add,U,h4],by grind,h6⟩
theorem cZ {sz n cap:Nat} {es:List (List V)} {rest:List V} {vs:List Value} (hv:Aq I (es.flatten++rest) vs) (hl:I.le (I.add b 0 vs vs.length)) (hz:∀e ∈ es,e.length=sz) (hn:es.length=n) {c:Value} (h:AL I (.GG sz b n cap) c):
 AL (I.add b 0 vs vs.length) (.slice sz es .any) c:=by
 simp only [AL] at h |-
 obtain ⟨rfl,h1,h2,h3⟩:=h
 subst hn
 refine ⟨_,cap,rfl,h1,h2,h3,trivial,.inr rfl,?_⟩
 have U:=Aq.take es.flatten.length hv
 rw [List.take_left' rfl] at U
 refine CK.add es _ 0 (Cm.of_flat hz U) hl λj c e=>?_
 rw [Nat.zero_add]
 have e':vs[j]? =some c:=by
  rw [List.getElem?_take] at e
  split at e
  .exact e
  .cases e
 have:=Mem.QZ (I:=I) (b:=b) (h:=0) (n:=vs.length) e'
 simp_all
inductive wC (o n:V):V->V->Prop
 |same (v:V):wC o n v v
 |here:wC o n o n
inductive aL (o n:V):List V->List V->Prop
 |nil:aL o n [] []
 |cons {v v':V} {l l':List V}:wC o n v v'->aL o n l l'->aL o n (v::l) (v'::l')
theorem wC.rep {o n v U:V} (h:wC o n v U) (hl:I.le J) (k:∀c,AL I o c->AL J n c) {c:Value} (r:AL I v c):AL J U c:=by
 cases h with
 |same=>exact AL.mono hl _ _ r
 |here=>grind
theorem aL.rep {J:Mem} {o n:V}:∀{l l':List V} {vs:List Value},aL o n l l'->I.le J->(∀c,AL I o c->AL J n c)->Aq I l vs->Aq J l' vs
 |_,_,vs,.nil,U,k,r=>by simpa only [Aq] using r
 |_,_,vs,.cons h1 h2,U,k,r=>by
  simp only [Aq] at r |-
  obtain ⟨c,s,rfl,r1,r2⟩:=r
  exact ⟨c,s,rfl,h1.rep U k r1,h2.rep U k r2⟩
inductive gD (o n:V):AB->AB->Prop
 |val {v v':V}:wC o n v v'->gD o n (.ret v) (.ret v')
 |agg {l l':List V}:aL o n l l'->gD o n (.ret (.agg l)) (.ret (.agg l'))
 |BM {l l':List V}:aL o n l l'->gD o n (.ret (.BM l)) (.ret (.BM l'))
theorem gD.rep {J:Mem} {o n:V} {r r':AB} (h:gD o n r r') (hl:I.le J) (k:∀c,AL I o c->AL J n c) {e:Ending} (m:Zt I e r):Zt J e r':=by
 cases e with
 |returned c=>
  cases h with
  |val h=>exact wC.rep h hl k m
  |agg h=>have U:AL I _ c:=m;simp only [AL] at U;obtain ⟨vs,e,m3⟩:=U;show AL J _ _;simp only [AL];exact ⟨vs,e,h.rep hl k m3⟩
  |BM h=>have U:AL I _ c:=m;simp only [AL] at U;obtain ⟨vs,e,m3⟩:=U;show AL J _ _;simp only [AL];exact ⟨vs,e,h.rep hl k m3⟩
 |panicked chain=>cases h<;>exact m.elim
 |outgrown=>cases h<;>exact m.elim
theorem A9.freeze {f:FuncId} {args:List V} {R R':AB->St->Prop} (h:A9 P f args st R')
 (k:∀r s,R' r s->R r s\/∃b sz n cap es rest r',s.box b=some (es.flatten++rest)/\(∀e ∈ es,e.length=sz)/\es.length=n/\gD (.GG sz b n cap) (.slice sz es .any) r r'/\R r' (s.Lt b)):A9 P f args st R:=by
 refine ⟨λI w U hs ha=>(h.a I w U hs ha).mono ?_,h.b⟩
 rintro e w' ⟨I',st',r,k1,k2,k3,k4⟩
 rcases k r st' k4 with k4|⟨b,sz,n,cap,es,rest,r',g1,g2,g3,g4,g5⟩
 .grind
 have hr:Rel [] I st w I' (λ_=>none) {tmps:=[],boxes:=[],Bw:=0,sz:=0,gl:=[]} st' {tmps:=#[],defers:=[]} w':=
  ⟨k1,k2,⟨rfl,λt v e=>(by cases e),λid cs e=>(by cases e),λid b e=>(by cases e),λi j b e=>(by cases e),λid b e=>(by cases e),rfl⟩⟩
 obtain ⟨vs,hv,hl,hr'⟩:=hr.freeze g1
 exact ⟨_,_,r',hr'.fr,hr'.s,g4.rep hl (λc hc=>cZ hv hl g2 g3 hc) k3,g5⟩
theorem dH {env':Env} {st:St} (h:AW P c Q env' st') (U:env'.FF env) (hs:St.le st' st):AW P c Q env st:=
 λD I0 st0 w0 I β a w hr=>h D I0 st0 w0 I _ a w ((hr.Ku (Env.Kw U)).Il hs)
theorem dG {st:St} (e:st'=st) (h:AW P c Q env st'):AW P c Q env st:=e ▸ h
theorem rz {x y:Code} {st:St} (E:α->Env) (S:α->St) (J:α->Prop) (hy:∀p,J p->AW P y Q (E p) (S p))
 (hx:AW P x (Ca (λenv' st'=>∃p,J p/\(E p).FF env'/\St.le (S p) st') Q) env st):AW P (.seq x y) Q env st:=
 Al (rA hx λe env st h=>by
  cases e with
  |normal=>obtain ⟨p,U,h2,h3⟩:=h;exact dH (hy p U) h2 h3
  |exit i=>exact h
  |goto i=>exact h
  |ret=>exact h
  |Cd v=>exact h)
theorem A6 {T : List (Nat × Ty)} (hP : TZ P T) (gl : List Nat) (hf : P.funcs[f]? = some fn) (hb : fn.body = some c) (hn : (fn.name == "runtime.NumGoroutine") = false) (hle : Nat.ble args.length fn.ntmps = true)
 (h:AW P c (fN T fn (Ends R)) {tmps:=Jg 0 args,boxes:=[],Bw:=0,sz:=fn.ntmps,gl} st):A9 P f args st R:=by
 refine ⟨?_,fn,hf,ke,hn⟩
 intro I w cargs hs hargs
 refine calls_of_wp hf hb ?_
 refine wp_mono (h [] I st w I _ _ w (GN gl hs hargs hle)) ?_
 rintro e a w' ⟨I1,β1,env1,st1,ae,h1,h2,h3⟩
 have hret:(Fo T env1 st1 fn.results.toList λvs=>match vs with
  |[v]=>Ends R (.ret v) st1
  |vs=>Ends R (.ret (.BM vs)) st1)->
  a.defers=[]/\∃v,(results fn a.tmps).run P w'=.ok v w'/\∃I' st' r,Fr I st w I' st' w'/\CU I' st' w'/\Zt I' (.returned v) r/\R r st':=by
  intro h3
  obtain ⟨v,c,g1,g2,r2,st2,g3,g4,g5⟩:=CT (P:=P) (R:=Ends R) hP.t h1 h3
  have U:=h1.Il g4
  refine ⟨h1.f.defers,c,g1,I1,st2,r2,U.fr,U.s,?_,g5⟩
  rcases g3 with rfl|rfl
  .exact g2
  .exact g2.wk
 cases ae with
 |normal=>cases e<;>first|exact hret h3|exact h2.elim
 |exit i=>exact h3.elim
 |goto i=>exact h3.elim
 |ret=>cases e<;>first|exact hret h3|exact h2.elim
 |Cd v=>
  cases e<;>try exact h2.elim
  obtain ⟨r2,st2,g3,g4,g5⟩:=h3
  obtain ⟨c',rfl,h2⟩:=h2
  have U:=h1.Il g4
  refine ⟨h1.f.defers,I1,st2,r2,U.fr,U.s,?_,g5⟩
  rcases g3 with rfl|rfl
  .exact ⟨c',rfl,h2⟩
  .exact ⟨c',rfl,h2.wk⟩
end
def V.oJ (id:Nat):V->V
 | .B6 i o=>bif Nat.beq i id then .BN else .B6 i o
 |v=>v
noncomputable def JW (id:Nat) (l:List (Nat×V)):List (Nat×V):=List.rec (motive:=λ_=>List (Nat×V)) [] (λp _ U=>(p.1,p.2.oJ id)::U) l
noncomputable def Is (id:Nat) (l:List (Nat×List V)):List (Nat×List V):=List.rec (motive:=λ_=>List (Nat×List V)) [] (λp _ U=>bif Nat.beq p.1 id then U else p::U) l
theorem VB (id:Nat) (p:Nat×V) (r:List (Nat×V)):JW id (p::r)=(p.1,p.2.oJ id)::JW id r:=rfl
theorem VA (id:Nat) (p:Nat×List V) (r:List (Nat×List V)):Is id (p::r)=bif Nat.beq p.1 id then Is id r else p::Is id r:=rfl
theorem Mi {id t:Nat}:∀{l:List (Nat×V)} {v:V},assoc (JW id l) t=some v->∃u,assoc l t=some u/\v=u.oJ id
 |[],v,h=>by cases h
 |p::r,v,h=>by
  rw [VB,Bu] at h
  rw [Bu]
  cases hb:Nat.beq p.1 t with
  |true=>simp_all
  |false=>rw [hb] at h;simp only [cond_false] at h |-;exact Mi h
theorem IU {id i:Nat}:∀{l:List (Nat×List V)} {cs:List V},assoc (Is id l) i=some cs->i≠id/\assoc l i=some cs
 |[],cs,h=>by cases h
 |p::r,cs,h=>by
  rw [VA] at h
  cases hb:Nat.beq p.1 id with
  |true=>
   rw [hb] at h
   simp only [cond_true] at h
   have hp:=Nat.eq_of_beq_eq_true hb
   obtain ⟨U,h2⟩:=IU h
   refine ⟨U,?_⟩
   rw [Bu]
   have:Nat.beq p.1 i=false:=by
    rw [hp]
    cases e:Nat.beq id i with
    |true=>simp_all
    |false=>rfl
   simp_all
  |false=>
   rw [hb] at h
   simp only [cond_false] at h
   rw [Bu] at h |-
   cases e:Nat.beq p.1 i with
   |true=>
    grind
   |false=>rw [e] at h;exact IU h
theorem fJ {X:List Deferred->Mem->St->World->Act->World->Prop} {st:St} (t id:Nat) (ht:env.get t=.B6 id 0) (hb:assoc env.boxes id=some cs) (hn:OV cs=true)
 (h:∀b,st.fresh b->∀D I0 st0 w0 I β a w,Rel D I0 st0 w0 I β {env with tmps:=(t,.ptr b 0)::JW id env.tmps,boxes:=Is id env.boxes} (st.Aa b cs) a w->X D I0 st0 w0 a w):
 ∀D I0 st0 w0 I β a w,Rel D I0 st0 w0 I β env st a w->X D I0 st0 w0 a w:=λD I0 st0 w0 I β a w U=>by
 obtain ⟨b,hβ,hl⟩:=U.f.box id cs hb
 obtain ⟨s1,s2,s3,s4,s5,s6⟩:=U.f.sep id b hβ
 have h1:=U.f.get t
 rw [ht] at h1
 obtain ⟨b',hβ',h1⟩:∃b,β id=some b/\_:=h1
 obtain rfl:b'=b:=Option.some.inj (hβ'.symm.trans hβ)
 refine h b' ⟨s5,s6⟩ D I0 st0 w0 I (λi=>if i=id then none else β i) a w ⟨⟨U.fr.os,U.fr.tape,U.fr.output,U.fr.size,U.fr.Mn,U.fr.le,U.fr.new,U.fr.Mb,λx hx=>?_⟩,⟨U.s.cell,U.s.shape,?_,?_,?_,U.s.UU⟩,⟨U.f.size,?_,?_,?_,?_,?_,U.f.defers⟩⟩
 .by_cases e:x=b'
  .omega
  .refine U.fr.L9 x (hx.imp (λhx=>?_) (λhx=>hx))
   simp only [St.Aa] at hx
   simp_all
 .intro x us hx
  by_cases e:x=b'
  .subst e
   simp only [St.Aa,if_true,Option.some.injEq] at hx
   subst hx
   exact hl.cells hn
  .simp only [St.Aa] at hx
   rw [if_neg e] at hx
   exact U.s.box x us hx
 .intro x hx
  by_cases e:x=b'
  .subst e;exact ⟨s3,s6,s4⟩
  .simp only [St.Aa] at hx
   rw [if_neg e] at hx
   exact U.s.IV x hx
 .exact U.s.hw
 .intro t' v e
  rw [Bu] at e
  cases hbq:Nat.beq t t' with
  |true=>
   rw [hbq] at e
   have:=Nat.eq_of_beq_eq_true hbq
   subst this
   simp only [cond_true,Option.some.injEq] at e
   subst e
   refine A1.of ?_
   simp only [AL]
   exact h1
  |false=>
   rw [hbq] at e
   simp only [cond_false] at e
   obtain ⟨u,hu,rfl⟩:=Mi e
   have hk:=U.f.tmps t' u hu
   cases u with
   |B6 i o=>
    show A1 I _ (bif Nat.beq i id then .BN else .B6 i o) _
    cases hi:Nat.beq i id with
    |true=>exact A1.of (I:=I) (β:=_) (v:=.BN) trivial
    |false=>
     obtain ⟨b2,g1,g2⟩:∃b,β i=some b/\_:=hk
     refine ⟨b2,?_,g2⟩
     have:i≠id:=λx=>by simp_all
     simp_all
   |_=>exact hk
 .intro i us e
  obtain ⟨h2,h3⟩:=IU e
  obtain ⟨b2,g1,g2⟩:=U.f.box i us h3
  simp_all
 .intro i x e
  split at e
  .cases e
  .exact U.f.Bw i x e
 .intro i j x e1 e2
  split at e1
  .cases e1
  .split at e2
   .cases e2
   .exact U.f.inj i j x e1 e2
 .intro i x e
  split at e
  .cases e
  .rename_i hi
   obtain ⟨g1,g2,g3,g4,g5,g6⟩:=U.f.sep i x e
   have hx:x≠b':=λhx=>by subst hx;exact hi (U.f.inj i id x e hβ)
   exact ⟨g1,g2,g3,g4,by simp only [St.Aa];simp_all,g6⟩
theorem Ms {P:Program} {st:St} (t id:Nat) (U:env.get t=.B6 id 0) (hb:assoc env.boxes id=some cs) (hn:OV cs=true)
 (h:∀b,st.fresh b->AW P c Q {env with tmps:=(t,.ptr b 0)::JW id env.tmps,boxes:=Is id env.boxes} (st.Aa b cs)):AW P c Q env st:=
 fJ (X:=λD I0 st0 w0 a w=>c.wp P (Ct D I0 st0 w0 Q) a w) t id U hb hn h
def kS (Q:Env->St->Prop) (env:Env) (st:St):Prop:=∀D I0 st0 w0 I β a w,Rel D I0 st0 w0 I β env st a w->∃I β env' st',Rel D I0 st0 w0 I β env' st' a w/\Q env' st'
theorem kS.here {Q:Env->St->Prop} {st:St} (h:Q env st):kS Q env st:=λD I0 st0 w0 I β a w U=>⟨I,β,env,st,U,h⟩
theorem kS.pub {Q:Env->St->Prop} {st:St} (t id:Nat) (U:env.get t=.B6 id 0) (hb:assoc env.boxes id=some cs) (hn:OV cs=true)
 (h:∀b,st.fresh b->kS Q {env with tmps:=(t,.ptr b 0)::JW id env.tmps,boxes:=Is id env.boxes} (st.Aa b cs)):kS Q env st:=
 fJ (X:=λD I0 st0 w0 a w=>∃I β env' st',Rel D I0 st0 w0 I β env' st' a w/\Q env' st') t id U hb hn h
theorem kS.le {Q:Env->St->Prop} {env env':Env} {st st':St} (U:env'.FF env) (hs:St.le st' st) (h:kS Q env' st'):kS Q env st:=λD I0 st0 w0 I β a w hr=>h _ _ _ _ _ _ _ _ ((hr.Il hs).Ku (Env.Kw U))
end Go.Aw
namespace Go.Proofs.Z
open Go Go.Aw
section
variable {st0 st:St} {b d:Nat} {s:Ae} {rows:List (AH×List Nd)} {K:AB->St->Prop} {L:Fi} {atom:Rd Nd}
attribute [local irreducible] Go.Aw.Am
theorem xG {Q:Nd->Ae->Prop} (U:Cx st0 b s st rows)
 (h:if JH (Ab s).1=true then (if AZ (Ab s).2.1 15 [41]=true then Rd.wp Az s (λp s'=>Rd.wp Az s' (λc s'=>Q (As 3 [o,p,c]) s') E) E else P) else P)
 (k1:∀n s' st',mu s'<=mu s->Cx st0 b s' st' rows->Q n s'->K (.ret (.BM [enc n,.bool true])) st') (k2:∀st',Cx st0 b s st' rows->P->K (.ret (.BM [enc Gj,.bool false])) st'):
 PC 416 [pv b d,enc o] st K:=by
 refine pB Tryz.func416 ?_
 have hmu:=U.mu
 have hc1:=U.look
 cases hy:JH (Ab s).1 with
 |false=>
  rw [if_neg (by rw [hy];decide)] at h
  repeat' ((conv=>whnf);first|exact Dr|(refine Ba ?_;intros)|(refine Ds ?_ ?_ ?_;rotate_left)|(refine Bb ?_ ?_<;>intro e h)|(refine Bc ?_ ?_<;>intro _)|refine Sz U (λst1 U=>?_)|refine JI ?_|with_reducible refine WF ?_)
  all_goals exact BR rfl (k2 st1 U h)
 |true=>
  rw [if_pos hy] at h
  have hkd:=Pb hy
  cases hi:AZ (Ab s).2.1 15 [41] with
  |true=>
   rw [if_pos hi] at h
   repeat' ((conv=>whnf);first|exact Dr|(refine Ba ?_;intros)|(refine Ds ?_ ?_ ?_;rotate_left)|(refine Bb ?_ ?_<;>intro e h)|(refine Bc ?_ ?_<;>intro _)|refine Ah (St.Aj ..) ?_|refine Hk U.has U.hb ?_|refine JI ?_|refine Oe hc1 h hkd (λs1 st1 hz hm U h=>?_)|refine Xb U (hz ▸ hi) (λst1 U=>?_)|refine Od U h (hz ▸ hi) Do (λs2 st2 hz2 hm2 U h=>?_)|refine WS ?_|refine Af [(0,true),(1,true),(2,true),(3,true),(4,false),(5,true),(6,false),(7,false),(8,true)] [2] GE ?_|with_reducible refine WF ?_)
   all_goals exact BR rfl (k1 _ s2 st2 AC U h)
  |false=>
   rw [if_neg (by rw [hi];decide)] at h
   repeat' ((conv=>whnf);first|exact Dr|(refine Ba ?_;intros)|(refine Ds ?_ ?_ ?_;rotate_left)|(refine Bb ?_ ?_<;>intro e h)|(refine Bc ?_ ?_<;>intro _)|refine Ah (St.Aj ..) ?_|refine Hk U.has U.hb ?_|refine JI ?_|refine yy hc1 hkd (λs1 st1 hz hm U=>?_)|refine cV U (hz ▸ hi) (λst1 U=>?_)|refine GW U hmu (λst2 U=>?_)|with_reducible refine WF ?_)
   all_goals exact BR rfl (k2 st2 U h)
theorem pA (hL:Mt d L):AX enc 400 (λb=>[pv b d]) (MT L):=by
 refine ⟨λ{st0 b s st rows K} hc h=>?_⟩
 simp only [MT,RT,O1,MS,Rd.Ag,Rd.Ax,Rd.wp_seq,Rd.wp_ret] at h
 refine A6 Ac [] Tryz.func400 rfl Do rfl ?_
 have hmu:=hc.mu
 refine Al (An Ac ?_)
 repeat' ((conv=>whnf);(first|exact Dr|refine Ba ?_|(refine Ds ?_ ?_ ?_;rotate_left)|refine Bb ?_ ?_|refine Bc ?_ ?_|with_reducible refine WF ?_)<;>intros)
 refine Al (An Ac ?_)
 repeat' ((conv=>whnf);(first|exact Dr|refine Ba ?_|(refine Ds ?_ ?_ ?_;rotate_left)|refine Bb ?_ ?_|refine Bc ?_ ?_|refine HE.go ‹_› ‹_› ?_ ?_|exact B5 ‹_› ‹_›|with_reducible refine WF ?_)<;>intros)
 refine Al (An Ac ?_)
 repeat' ((conv=>whnf);first|exact Dr|(refine Ba ?_;intros)|(refine Ds ?_ ?_ ?_;rotate_left)|(refine Bb ?_ ?_<;>intro e h)|(refine Bc ?_ ?_<;>intro _)|(refine IQ ?_;intro U hc)|(refine Mw ?_ ?_<;>intro U hc e h)|(refine Lm ?_;intro s1 U hz hm hc h)|(refine JP ?_ ?_<;>(first|intro n s1 U hr hm hc h|intro e s1 U hc h))|exact FY|refine KE ?_|(refine Mg ?_;intro own1 U hc)|refine Ad (λe1=>?_)|with_reducible refine WF ?_)
 all_goals first
  |(refine CS (λl own=>[(4,.slice 6 (l.map AP) own)]) (λ_ _=>[]) [1,2] [0,1] (λl own=>(own,l)::rows) (λl=>l.length) .full (hc.push _) h (by show 1+_<=_;omega) Yl ?_
    intro l s1 U own1 hc h hl hm1
    simp only [Vt,Rd.Ag,Rd.Ax,Rd.wp_seq,Rd.wp_ret,Rd.BJ] at h
    repeat' ((conv=>whnf);(first|exact Dr|refine Ba ?_|(refine Ds ?_ ?_ ?_;rotate_left)|refine Bb ?_ ?_|refine Bc ?_ ?_|refine IQ ?_|refine Mw ?_ ?_|refine Lm ?_|refine JP ?_ ?_|exact FY|refine KE ?_|refine Mg ?_|refine Ad ?_|with_reducible refine WF ?_)<;>intros))
  |skip
 refine Al (An Ac ?_)
 repeat' ((conv=>whnf);(first|exact Dr|refine Ba ?_|(refine Ds ?_ ?_ ?_;rotate_left)|refine Bb ?_ ?_|refine Bc ?_ ?_|refine xG (Q:=λn s'=>∀st',Cx st0 b s' st' rows->K (.ret (enc n)) st') ‹_› ‹_› ?_ ?_|refine IQ ?_|refine Mw ?_ ?_|refine Lm ?_|refine JP ?_ ?_|exact FY|refine KE ?_|refine Mg ?_|refine Ad ?_|with_reducible refine WF ?_)<;>intros)
 refine Al (An Ac ?_)
 repeat' ((conv=>whnf);first|exact Dr|(refine Ba ?_;intros)|(refine Ds ?_ ?_ ?_;rotate_left)|(refine Bb ?_ ?_<;>intro e h)|(refine Bc ?_ ?_<;>intro _)|(refine IQ ?_;intro U hc)|(refine Mw ?_ ?_<;>intro U hc e h)|(refine Lm ?_;intro s1 U hz hm hc h)|(refine JP ?_ ?_<;>(first|intro n s1 U hr hm hc h|intro e s1 U hc h))|exact FY|refine KE ?_|(refine Mg ?_;intro own1 U hc)|refine Ad (λe1=>?_)|refine QI.go hc h (λn s1 U hr hm hc h=>?_) (λe s1 U hc h=>?_)|refine AX.go hL.ops hc h (λn s1 U hr hm hc h=>?_) (λe s1 U hc h=>?_)|refine Af [(0,true),(1,true),(2,true),(4,true),(5,true),(3,false),(6,false),(7,true),(8,false),(9,false)] [1] GE ?_|with_reducible refine WF ?_)
 all_goals refine Ms 3 2 rfl rfl rfl (λc fc=>?_)
 all_goals have hne:=hc.VP fc
 all_goals refine An Ac ?_
 all_goals (repeat' ((conv=>whnf);first|exact Dr|(refine Ba ?_;intros)|(refine Ds ?_ ?_ ?_;rotate_left)|(refine Bb ?_ ?_<;>intro e h)|(refine Bc ?_ ?_<;>intro _)|refine hL.Ez (St.Aj ..) (hc.Xc fc) (Rd.wp_mono h (λv s1 hr h U hc=>?_) (λe s1 hr h U hc=>?_))|exact Dn (hc.unbox hne) h rfl|exact B5 (hc.unbox hne) h|with_reducible refine WF ?_))
end
section
variable {st0 st:St} {b d:Nat} {s:Ae} {rows:List (AH×List Nd)} {K:AB->St->Prop} {L:Fi} {atom:Rd Nd}
attribute [local irreducible] Go.Aw.Am
theorem jM (hL:Mt d L):AX enc 401 (λb=>[pv b d]) (Km L):=by
 refine ⟨λ{st0 b s st rows K} hc h=>?_⟩
 simp only [Km,Rd.Ag,Rd.Ax,Rd.wp_seq,Rd.wp_ret] at h
 refine A6 Ac [] Tryz.func401 rfl Do rfl ?_
 refine Al (An Ac ?_)
 repeat' ((conv=>whnf);(first|exact Dr|refine Ba ?_|(refine Ds ?_ ?_ ?_;rotate_left)|refine Bb ?_ ?_|refine Bc ?_ ?_|with_reducible refine WF ?_)<;>intros)
 refine Al (An Ac ?_)
 repeat' ((conv=>whnf);(first|exact Dr|refine Ba ?_|(refine Ds ?_ ?_ ?_;rotate_left)|refine Bb ?_ ?_|refine Bc ?_ ?_|refine HE.go ‹_› ‹_› ?_ ?_|exact B5 ‹_› ‹_›|with_reducible refine WF ?_)<;>intros)
 refine Al (An Ac ?_)
 repeat' ((conv=>whnf);first|exact Dr|(refine Ba ?_;intros)|(refine Ds ?_ ?_ ?_;rotate_left)|(refine Bb ?_ ?_<;>intro e h)|(refine Bc ?_ ?_<;>intro _)|(refine IQ ?_;intro U hc)|(refine Mw ?_ ?_<;>intro U hc e h)|(refine Lm ?_;intro s1 U hz hm hc h)|(refine JP ?_ ?_<;>(first|intro n s1 U hr hm hc h|intro e s1 U hc h))|exact FY|refine KE ?_|refine Ad (λe1=>?_)|refine Af [(0,true),(1,true),(2,true),(3,false),(4,true),(5,false),(6,false)] [1] GE ?_|with_reducible refine WF ?_)
 all_goals refine Ms 3 2 rfl rfl rfl (λc fc=>?_)
 all_goals have hne:=hc.VP fc
 all_goals refine An Ac ?_
 all_goals (repeat' ((conv=>whnf);first|exact Dr|(refine Ba ?_;intros)|(refine Ds ?_ ?_ ?_;rotate_left)|(refine Bb ?_ ?_<;>intro e h)|(refine Bc ?_ ?_<;>intro _)|refine hL.list (St.Aj ..) (hc.Xc fc) (Rd.wp_mono h (λv s1 hr h U hc=>?_) (λe s1 hr h U hc=>?_))|exact Dn (hc.unbox hne) h rfl|exact B5 (hc.unbox hne) h|with_reducible refine WF ?_))
theorem rM (U:Mt d L):AX enc 373 (λb=>[pv b d]) (Q8 L):=by
 refine ⟨λ{st0 b s st rows K} hc h=>?_⟩
 simp only [Q8,Rd.Ag,Rd.Ax,Rd.wp_seq,Rd.wp_ret] at h
 refine pB Tryz.func373 ?_
 repeat' ((conv=>whnf);(first|exact Dr|refine Ba ?_|(refine Ds ?_ ?_ ?_;rotate_left)|refine Bb ?_ ?_|refine Bc ?_ ?_|refine IQ ?_|refine Mw ?_ ?_|refine Lm ?_|refine JP ?_ ?_|refine lg ?_|exact FY|refine KE ?_|refine Ad ?_|refine Gl.go (by first|exact AX.q|exact (pA U).a|exact (jM U).a|exact (U.atom).a) ?_ ?_|refine Af [(0,true),(1,true),(3,true),(2,false),(4,false),(5,true),(6,false),(7,false)] [1] GE ?_|refine Af [(0,true),(1,true),(2,true),(4,true),(3,false),(5,false),(6,true),(7,false),(8,false)] [1] GE ?_|with_reducible refine WF ?_)<;>intros)
theorem nq:AX enc 151 (λb=>[.ptr b 0,.slice 1 [[.int .i64 1],[.int .i64 3]] .full]) (CX [1,3]):=EB (ks:=[1,3]) Do
theorem jx (hL:Mt d L):AX enc 374 (λb=>[pv b d,enc n]) (IH L n):=by
 refine ⟨λ{st0 b s st rows K} U h=>?_⟩
 simp only [IH,Rd.Ag,Rd.Ax,Rd.wp_seq,Rd.wp_ret] at h
 refine pB Tryz.func374 ?_
 have hmu:=U.mu
 repeat' ((conv=>whnf);(first|exact Dr|refine Ba ?_|(refine Ds ?_ ?_ ?_;rotate_left)|refine Bb ?_ ?_|refine Bc ?_ ?_|refine IQ ?_|refine Mw ?_ ?_|refine Lm ?_|refine JP ?_ ?_|exact FY|refine KE ?_|refine Mg ?_|refine Ci ?_|refine Ad ?_|refine Af [(0,true),(1,true),(2,true),(3,false),(4,true),(5,true)] [] GE ?_|refine Af [(0,true),(1,true),(2,true),(3,true),(5,true),(4,false),(6,false),(7,true),(8,false),(9,true),(10,false),(11,true)] [] GE ?_|with_reducible refine WF ?_)<;>intros)
 refine CS (λl own=>[(5,.slice 6 (l.map AP) own)]) (λ_ _=>[]) [2,4] [0,2] (λl own=>(own,l)::rows) (λl=>l.length) .full (Cx.push ‹_› _) ‹_› (by show 2+_<=_;omega) Yl ?_
 intro l s1 st1 own1 U h hl hm1
 simp only [Xd,OK,Rd.Ag,Rd.Ax,Rd.wp_seq,Rd.wp_ret,Rd.BJ] at h
 repeat' ((conv=>whnf);(first|exact Dr|refine Ba ?_|(refine Ds ?_ ?_ ?_;rotate_left)|refine Bb ?_ ?_|refine Bc ?_ ?_|refine IQ ?_|refine Mw ?_ ?_|refine Lm ?_|refine JP ?_ ?_|exact FY|refine KE ?_|refine Mg ?_|refine Ci ?_|refine Ad ?_|refine AX.vP nq (bG rfl) ‹_› ‹_› ?_ ?_|refine Gl.go (by first|exact AX.q|exact (hL.exp).a) ?_ ?_|refine Af [(0,true),(1,true),(2,true),(3,false),(4,true),(5,true)] [] GE ?_|refine Af [(0,true),(1,true),(2,true),(3,true),(5,true),(4,false),(6,false),(7,true),(8,false),(9,true),(10,false),(11,true)] [] GE ?_|with_reducible refine WF ?_)<;>intros)
 all_goals conv=>whnf
end
theorem bF {L:Fi}:Rd.A4 (Q8 L):=Rd.A4.look λs v s' h=>by
 split at h
 .rename_i ha
  have hk:=(Lo ha).2
  have U:∀{v:Nd} {s':Ae},Az.run s=.inr (v,s')->mu s'<mu s:=λe=>Ig e hk
  split at h
  .split at h
   .exact Rd.A4.at (λ_ _ e=>U e) h
   .exact Rd.A4.at (λ_ _ e=>U e) h
  .split at h
   .exact Rd.A4.at (λ_ _ e=>U e) h
   .split at h
    .exact Rd.A4.at (λ_ _ e=>U e) h
    .exact Rd.A4.at (λ_ _ e=>U e) h
 .cases h
theorem Yj {L:Fi}:Rd.A4 (Mj L):=Rd.A4.seq bF
theorem VH {L:Fi} {s:Ae} {v:Nd} (h:(IH L n).run s=.inr (v,s')) (e:AZ s 15 [123]=true):mu s'<mu s:=by
 refine Rd.A4.at (λv s' U=>Ig U λz=>?_) h
 unfold AZ at e
 simp only [Bool.and_eq_true,beq_iff_eq] at e
 rw [z] at e;exact absurd e.1 Do
theorem UG {l':List Nd} {s:Ae} (h:(FI stmt l).run s=.inr (l',s')):l'.length+4*mu s'<=l.length+2+4*mu s:=by
 unfold FI at h
 obtain ⟨b,s1,U,h⟩:=AU h
 obtain ⟨t,s2,h2,h⟩:=AU h
 have e1:=(A0 10 [124]).le _ _ _ U
 have e2:=stmt.le _ _ _ h2
 have:=Rd.nW (body:=OZ stmt) (w:=List.length) (w':=List.length) (c:=0) (λx s x' s' h=>by
  unfold OZ at h
  replace h:(if AZ s 15 [44]=true then Rd.seq Az λc=>Rd.seq stmt λt=>.ret (.inl (x++[c]++[t])) else .ret (.inr x):Rd (Sum (List Nd) (List Nd))).run s=.inr (.inl x',s'):=h
  split at h
  .obtain ⟨_,_,_,h⟩:=AU h
   obtain ⟨_,_,_,h⟩:=AU h
   cases h
   simp
  .cases h) (λx s y s' h=>by
  unfold OZ at h
  replace h:(if AZ s 15 [44]=true then Rd.seq Az λc=>Rd.seq stmt λt=>.ret (.inl (x++[c]++[t])) else .ret (.inr x):Rd (Sum (List Nd) (List Nd))).run s=.inr (.inr y,s'):=h
  split at h
  .obtain ⟨_,_,_,h⟩:=AU h
   obtain ⟨_,_,_,h⟩:=AU h
   cases h
  .cases h;exact Nat.le_refl _) _ _ _ _ h
 simp only [List.length_append,List.length_cons,List.length_nil] at this
 omega
theorem yS {c x y:Nat} (h:l.length+4*y<=c+2+4*x) (U:c<=500000000) (hx:x<=100000000):l.length+1<=1000000000:=AC
section
variable {st0 st:St} {b d:Nat} {s:Ae} {rows:List (AH×List Nd)} {K:AB->St->Prop} {L:Fi}
attribute [local irreducible] Go.Aw.Am
theorem rK (hL:Mt d L):AX enc 349 (λb=>[pv b d]) (Mj L):=by
 refine ⟨λ{st0 b s st rows K} hc h=>?_⟩
 simp only [Mj,Rd.wp_seq] at h
 refine pB Tryz.func349 ?_
 have hmu:=hc.mu
 repeat' ((conv=>whnf);first|(refine Ba ?_;intros)|(refine Bb ?_ ?_<;>intro e h)|(refine Bc ?_ ?_<;>intro _)|refine AX.go (rM hL) hc h (λn s1 U hr hm hc h=>?_) (λe s1 U hc h=>?_)|exact B5 hc h)
 refine CS (λn own=>[]) (λn own=>[(2,AP n)]) [1,2,3] [0,1] (λl own=>rows) (λ_=>0) .full ‹_› ‹_› i7 Yl ?_
 intro n s1 U own1 hc h hl hm1
 simp only [lu,Rd.Ag,Rd.Ax,Rd.wp_seq,Rd.wp_ret,Rd.BJ] at h
 repeat' ((conv=>whnf);first|(refine Ba ?_;intros)|(refine Bb ?_ ?_<;>intro e h)|(refine Bc ?_ ?_<;>intro _)|(refine IQ ?_;intro U hc)|(refine Mw ?_ ?_<;>intro U hc e h)|exact FY|refine Ad (λe1=>?_)|refine AX.go (jx hL) hc h (λn s1 U hr hm hc h=>?_) (λe s1 U hc h=>?_))
 all_goals have hlt:=VH ‹_› ‹_›
 all_goals conv=>whnf
 all_goals exact ⟨⟨_,_,_,.full⟩,⟨hc,Rd.Fk h hlt,UV,UV⟩,hlt,Yl,St.le_refl _⟩
theorem Zq (hs:AX enc 388 (λb=>[pv b d]) stmt):vF 354 (λb v=>[pv b d,v]) (λl=>FI stmt l):=by
 refine ⟨λ{st0 b s st rows K own l} hl U h=>?_⟩
 simp only [FI,Rd.wp_seq] at h
 refine pB Tryz.func354 ?_
 have hmu:=U.mu
 repeat' ((conv=>whnf);(first|refine Ba ?_|refine Bb ?_ ?_|refine Bc ?_ ?_|refine XO ?_ ?_|refine IQ ?_|refine Mw ?_ ?_|refine Lm ?_|refine JP ?_ ?_|exact FY|refine Mg ?_|refine Ad ?_|refine Gl.go (by first|exact AX.q) ?_ ?_)<;>intros)
 refine CS (λl own=>[(1,.slice 6 (l.map AP) own)]) (λ_ _=>[]) [2] [0] (λl own=>(own,l)::rows) (λl=>l.length) _ ‹_› ‹_› RK Yl ?_
 intro l s1 st1 own1 U h hl hm1
 simp only [OZ,Rd.Ag,Rd.Ax,Rd.wp_seq,Rd.wp_ret,Rd.BJ] at h
 repeat' ((conv=>whnf);(first|refine Ba ?_|refine Bb ?_ ?_|refine Bc ?_ ?_|refine XO ?_ ?_|refine IQ ?_|refine Mw ?_ ?_|refine Lm ?_|refine JP ?_ ?_|exact FY|refine Mg ?_|refine Ad ?_|refine Gl.go (by first|exact AX.q) ?_ ?_)<;>intros)
theorem tP {exp:Rd Nd} (he:AX enc 353 (λb=>[pv b d]) exp) (hs:AX enc 388 (λb=>[pv b d]) stmt):AX enc 420 (λb=>[pv b d,enc o]) (NL exp stmt o):=by
 refine ⟨λ{st0 b s st rows K} U h=>?_⟩
 simp only [NL,Rd.Ag,Rd.Ax,Rd.wp_seq,Rd.wp_ret] at h
 refine pB Tryz.func420 ?_
 have hmu:=U.mu
 repeat' ((conv=>whnf);(first|exact Dr|refine Ba ?_|(refine Ds ?_ ?_ ?_;rotate_left)|refine Bb ?_ ?_|refine Bc ?_ ?_|refine IQ ?_|refine Mw ?_ ?_|refine Lm ?_|refine JP ?_ ?_|exact FY|refine KE ?_|refine Mg ?_|refine Ci ?_|refine Ad ?_|refine Gl.go (by first|exact AX.q) ?_ ?_|refine Cx.Hp ‹_› (yS (UG ‹_›) (Nat.le_of_ble_eq_true rfl) AC) ?_|refine vF.go (l:=[_,_]) (Zq hs) (Nat.le_of_ble_eq_true rfl) (Cx.push ‹_› _) ‹_› ?_ ?_|refine Af [(0,true),(1,true),(2,false),(3,true),(4,true)] [] GE ?_|refine Af [(0,true),(1,true),(3,true),(4,true),(2,false),(5,false),(6,true),(7,false),(8,false),(9,false)] [2] GE ?_|with_reducible refine WF ?_)<;>intros)
 refine CS (λl own=>[(5,.slice 6 (l.map AP) own)]) (λ_ _=>[]) [2,4,6] [0,2] (λl own=>(own,l)::rows) (λl=>l.length) .full (Cx.push ‹_› _) ‹_› (by show 2+_<=_;omega) Yl ?_
 intro l s1 st1 own1 U h hl hm1
 simp only [nT,Un,Rd.Ag,Rd.Ax,Rd.wp_seq,Rd.wp_ret,Rd.BJ] at h
 repeat' ((conv=>whnf);(first|exact Dr|refine Ba ?_|(refine Ds ?_ ?_ ?_;rotate_left)|refine Bb ?_ ?_|refine Bc ?_ ?_|refine IQ ?_|refine Mw ?_ ?_|refine Lm ?_|refine JP ?_ ?_|exact FY|refine KE ?_|refine Mg ?_|refine Ci ?_|refine Ad ?_|refine Gl.go (by first|exact AX.q) ?_ ?_|with_reducible refine WF ?_)<;>intros)
end
section
variable {st0 st:St} {b d:Nat} {s:Ae} {rows:List (AH×List Nd)} {K:AB->St->Prop} {L:Fi}
attribute [local irreducible] Go.Aw.Am
theorem V8 (k:K (.Cd (fault Iu.1)) st):PC 314 [pv b d,.bool false] st K:=by
 refine pB Tryz.func314 ?_
 repeat' ((conv=>whnf);(first|refine Ba ?_|refine Bb ?_ ?_|refine Bc ?_ ?_|refine CD ?_)<;>intros)
 all_goals exact ⟨_,_,.inl rfl,St.le_refl _,k⟩
theorem V9 (k:K (.ret (.BM [])) st):PC 314 [pv b d,.bool true] st K:=by
 refine pB Tryz.func314 ?_
 repeat' ((conv=>whnf);(first|refine Ba ?_|refine Bb ?_ ?_|refine Bc ?_ ?_|refine CD ?_)<;>intros)
 all_goals exact ⟨_,_,.inl rfl,St.le_refl _,k⟩
theorem u4 (U:Mt d L) {exp:Rd Nd} (he:AX enc 353 (λb=>[pv b d]) exp):AX enc 388 (λb=>[pv b d]) (S4 L exp):=by
 refine ⟨λ{st0 b s st rows K} hc h=>?_⟩
 simp only [S4,Q9,Rd.Ag,Rd.Ax,Rd.wp_seq,Rd.wp_ret,Rd.ED] at h
 refine pB Tryz.func388 ?_
 repeat' ((conv=>whnf);(first|exact Dr|refine Ba ?_|(refine Ds ?_ ?_ ?_;rotate_left)|refine Bb ?_ ?_|refine Bc ?_ ?_|refine IQ ?_|refine Mw ?_ ?_|refine Lm ?_|refine JP ?_ ?_|exact FY|refine KE ?_|refine Ad ?_|refine Gl.go (by first|exact AX.q|exact (U.decls).a|exact (YX U.exp).a) ?_ ?_|refine VV ?_|refine V9 ?_|refine V8 ?_|refine Af [(0,true),(1,true),(2,false),(3,false)] [] GE ?_|refine Af [(0,true),(1,true),(2,true),(4,true),(3,false),(5,false),(6,true),(7,false),(8,false)] [1] GE ?_|with_reducible refine WF ?_)<;>intros)
 all_goals conv=>whnf
 all_goals exact B5 hc.y h
end
theorem Yk:Rd.A4 (FI stmt l):=Rd.A4.seq (ME Do)
theorem Q6 {x:Nd} {K:List V->Prop} (h:l[i.toNat]? =some x) (U:0<=i) (k:K (AP x)):0<=i/\∃e,(l.map AP)[i.toNat]? =some e/\K e:=⟨U,AP x,by rw [List.getElem?_map,h];rfl,k⟩
section
variable {st0 st:St} {b d:Nat} {s:Ae} {rows:List (AH×List Nd)} {K:AB->St->Prop} {L:Fi}
attribute [local irreducible] Go.Aw.Am
theorem LN (hs:AX enc 388 (λb=>[pv b d]) stmt) {Q:List Nd->Ae->Prop} (hc:Cx st0 b s st rows) (h:Rd.wp (FI stmt []) s Q E)
 (k:∀l' U s' st',l'.length<=400000002->mu s'<mu s->Cx st0 b s' st' ((U,l')::rows)->Q l' s'->K (.ret (.slice 6 (l'.map AP) U)) st') (kb:∀e s' st',Cy st0 b s' st' rows->E e s'->K (.Cd (fault e.1)) st'):PC 354 [pv b d,.slice 6 [] .full] st K:=
 vF.go (l:=[]) (own:=.full) (Zq hs) (Nat.le_of_ble_eq_true rfl) (hc.push _) h (λl' U s' st' hr hm hc' q=>k l' U s' st' (by have:=UG hr;have:=hc.mu;simp only [List.length_nil] at *;omega) (Yk _ _ _ hr) hc' q) kb
theorem pw (hL:Mt d L) {exp:Rd Nd} (he:AX enc 353 (λb=>[pv b d]) exp) (hs:AX enc 388 (λb=>[pv b d]) stmt):AX enc 316 (λb=>[pv b d,.str m]) (Zv L exp stmt m):=by
 refine ⟨λ{st0 b s st rows K} hc h=>?_⟩
 simp only [Zv,c9,Rd.Ag,Rd.Ax,Rd.wp_seq,Rd.wp_ret] at h
 have hmu:=hc.mu
 refine pB Tryz.func316 ?_
 repeat' ((conv=>whnf);first|exact Dr|(refine Ba ?_;intros)|(refine Ds ?_ ?_ ?_;rotate_left)|(refine Bb ?_ ?_<;>intro e h)|(refine Bc ?_ ?_<;>intro _)|refine XO (λ_=>?_) ?_|(refine IQ ?_;intro U hc)|(refine Mw ?_ ?_<;>intro U hc e h)|(refine Lm ?_;intro s1 U hz hm hc h)|(refine JP ?_ ?_<;>(first|intro n s1 U hr hm hc h|intro e s1 U hc h))|(refine lg ?_;intro e s1 U hc h)|exact FY|refine KE ?_|(refine Mg ?_;intro own1 U hc)|refine Ci (λ_=>?_)|refine Ad (λe1=>?_)|refine AX.go he hc h (λn s1 U hr hm hc h=>?_) (λe s1 U hc h=>?_)|refine Cx.wM (l:=[]) (hc.push []) (Nat.le_of_ble_eq_true rfl) (λown1 U hc=>?_)|refine Af [(0,true),(1,true),(2,true),(4,true),(3,false),(5,false),(6,true),(7,false),(8,true)] [] GE ?_|refine Af [(0,true),(1,true),(2,true),(4,true),(3,false),(5,false),(6,true),(7,false),(8,true),(9,false),(10,true)] [] GE ?_|with_reducible refine WF ?_)
 .refine CS (λl own=>[(5,.slice 6 (l.map AP) own)]) (λ_ _=>[]) [1,2,4] [0,1] (λl own=>(own,l)::rows) (λl=>l.length) _ hc h RK Yl ?_
  intro l s1 U own1 hc h hl hm1
  have hl2:l.length+1<=1000000000:=AC
  simp only [VR,MJ,Rd.Ag,Rd.Ax,Rd.wp_seq,Rd.wp_ret,Rd.BJ] at h
  clear hmu
  have hmu:=hc.mu
  by_cases hn:l=[]
  .subst hn
   rw [if_pos (show ((([]:List Nd).length:Int)==0)=true from rfl)] at h
   repeat' ((conv=>whnf);(first|exact Dr|refine Ba ?_|(refine Ds ?_ ?_ ?_;rotate_left)|refine Bb ?_ ?_|refine Bc ?_ ?_|refine XO ?_ ?_|refine IQ ?_|refine Mw ?_ ?_|refine Lm ?_|refine JP ?_ ?_|refine lg ?_|exact FY|refine KE ?_|refine Mg ?_|refine Ci ?_|refine Ad ?_|refine LN hs ‹_› ‹_› ?_ ?_|refine Gl.go (by first|exact AX.q|exact (hL.decls).a) ?_ ?_|exact absurd rfl ‹_›|refine Q6 hx AC ?_|refine Cx.Hp ‹_› So ?_|refine Cx.Hp (x:=As 30 _) (Cx.drop ‹_›) hl2 ?_|refine Af [(0,true),(1,true),(2,true),(4,true),(3,false),(5,false),(6,true),(7,false),(8,true)] [] GE ?_|refine Af [(0,true),(1,true),(2,true),(4,true),(3,false),(5,false),(6,true),(7,false),(8,true),(9,false),(10,true)] [] GE ?_|with_reducible refine WF ?_)<;>intros)
   all_goals conv=>whnf
  .obtain ⟨x,hx⟩:∃x,l[((0:Int)).toNat]? =some x:=by
    cases l with
    |nil=>exact absurd rfl hn
    |cons x l=>exact ⟨x,rfl⟩
   have hz:((l.length:Int)==0)=false:=beq_eq_false_iff_ne.2 λe=>hn (List.length_eq_zero_iff.1 AC)
   have hd:l.headD Gj=x:=by
    cases l with
    |nil=>exact absurd rfl hn
    |cons y l=>cases hx;rfl
   rw [if_neg (by rw [hz];decide),hd] at h
   repeat' ((conv=>whnf);(first|exact Dr|refine Ba ?_|(refine Ds ?_ ?_ ?_;rotate_left)|refine Bb ?_ ?_|refine Bc ?_ ?_|refine XO ?_ ?_|refine IQ ?_|refine Mw ?_ ?_|refine Lm ?_|refine JP ?_ ?_|refine lg ?_|exact FY|refine KE ?_|refine Mg ?_|refine Ci ?_|refine Ad ?_|refine LN hs ‹_› ‹_› ?_ ?_|refine Gl.go (by first|exact AX.q|exact (hL.decls).a) ?_ ?_|exact absurd rfl ‹_›|refine Q6 hx AC ?_|refine Cx.Hp ‹_› So ?_|refine Cx.Hp (x:=As 30 _) (Cx.drop ‹_›) hl2 ?_|refine Af [(0,true),(1,true),(2,true),(4,true),(3,false),(5,false),(6,true),(7,false),(8,true)] [] GE ?_|refine Af [(0,true),(1,true),(2,true),(4,true),(3,false),(5,false),(6,true),(7,false),(8,true),(9,false),(10,true)] [] GE ?_|with_reducible refine WF ?_)<;>intros)
   all_goals conv=>whnf
 .refine CS (λl own=>[(5,.slice 6 (l.map AP) own)]) (λ_ _=>[]) [1,2,4] [0,1] (λl own=>(own,l)::rows) (λl=>l.length) .full (hc.push []) h RK Yl ?_
  intro l s1 U own1 hc h hl hm1
  have hl2:l.length+1<=1000000000:=AC
  simp only [VR,MJ,Rd.Ag,Rd.Ax,Rd.wp_seq,Rd.wp_ret,Rd.BJ] at h
  clear hmu
  have hmu:=hc.mu
  by_cases hn:l=[]
  .subst hn
   rw [if_pos (show ((([]:List Nd).length:Int)==0)=true from rfl)] at h
   repeat' ((conv=>whnf);(first|exact Dr|refine Ba ?_|(refine Ds ?_ ?_ ?_;rotate_left)|refine Bb ?_ ?_|refine Bc ?_ ?_|refine XO ?_ ?_|refine IQ ?_|refine Mw ?_ ?_|refine Lm ?_|refine JP ?_ ?_|refine lg ?_|exact FY|refine KE ?_|refine Mg ?_|refine Ci ?_|refine Ad ?_|refine LN hs ‹_› ‹_› ?_ ?_|refine Gl.go (by first|exact AX.q|exact (hL.decls).a) ?_ ?_|exact absurd rfl ‹_›|refine Q6 hx AC ?_|refine Cx.Hp ‹_› So ?_|refine Cx.Hp (x:=As 30 _) (Cx.drop ‹_›) hl2 ?_|refine Af [(0,true),(1,true),(2,true),(4,true),(3,false),(5,false),(6,true),(7,false),(8,true)] [] GE ?_|refine Af [(0,true),(1,true),(2,true),(4,true),(3,false),(5,false),(6,true),(7,false),(8,true),(9,false),(10,true)] [] GE ?_|with_reducible refine WF ?_)<;>intros)
   all_goals conv=>whnf
  .obtain ⟨x,hx⟩:∃x,l[((0:Int)).toNat]? =some x:=by
    cases l with
    |nil=>exact absurd rfl hn
    |cons x l=>exact ⟨x,rfl⟩
   have hz:((l.length:Int)==0)=false:=beq_eq_false_iff_ne.2 λe=>hn (List.length_eq_zero_iff.1 AC)
   have hd:l.headD Gj=x:=by
    cases l with
    |nil=>exact absurd rfl hn
    |cons y l=>cases hx;rfl
   rw [if_neg (by rw [hz];decide),hd] at h
   repeat' ((conv=>whnf);(first|exact Dr|refine Ba ?_|(refine Ds ?_ ?_ ?_;rotate_left)|refine Bb ?_ ?_|refine Bc ?_ ?_|refine XO ?_ ?_|refine IQ ?_|refine Mw ?_ ?_|refine Lm ?_|refine JP ?_ ?_|refine lg ?_|exact FY|refine KE ?_|refine Mg ?_|refine Ci ?_|refine Ad ?_|refine LN hs ‹_› ‹_› ?_ ?_|refine Gl.go (by first|exact AX.q|exact (hL.decls).a) ?_ ?_|exact absurd rfl ‹_›|refine Q6 hx AC ?_|refine Cx.Hp ‹_› So ?_|refine Cx.Hp (x:=As 30 _) (Cx.drop ‹_›) hl2 ?_|refine Af [(0,true),(1,true),(2,true),(4,true),(3,false),(5,false),(6,true),(7,false),(8,true)] [] GE ?_|refine Af [(0,true),(1,true),(2,true),(4,true),(3,false),(5,false),(6,true),(7,false),(8,true),(9,false),(10,true)] [] GE ?_|with_reducible refine WF ?_)<;>intros)
   all_goals conv=>whnf
end
section
variable {st0 st:St} {b d:Nat} {s:Ae} {rows:List (AH×List Nd)} {K:AB->St->Prop} {L:Fi}
attribute [local irreducible] Go.Aw.Am
theorem wK (U:Mt d L) {ops exp:Rd Nd} (ho:AX enc 310 (λb=>[pv b d]) ops) (he:AX enc 353 (λb=>[pv b d]) exp) (hs:AX enc 388 (λb=>[pv b d]) stmt):
 AX enc 414 (λb=>[pv b d]) (aS L ops exp stmt):=by
 refine ⟨λ{st0 b s st rows K} hc h=>?_⟩
 simp only [aS,Rd.Ax,Rd.wp_seq,Rd.wp_ret,Rd.ED] at h
 refine pB Tryz.func414 ?_
 repeat' ((conv=>whnf);(first|exact Dr|refine Ba ?_|(refine Ds ?_ ?_ ?_;rotate_left)|refine Bb ?_ ?_|refine Bc ?_ ?_|exact FY|refine KE ?_|refine Ad ?_|refine Gl.go (by first|exact AX.q|exact (pw U he hs).a) ?_ ?_|refine VV ?_|refine V9 ?_|refine V8 ?_|refine Af [(0,true),(1,true),(2,false),(3,false)] [] GE ?_|refine Af [(0,true),(1,true),(2,false),(3,true),(4,false),(5,false)] [1] GE ?_|with_reducible refine WF ?_)<;>intros)
end
theorem Rd.nX {body:σ->Rd (Sum σ β)} {P:β->Prop} (h1:∀x s y s',(body x).run s=.inr (.inr y,s')->P y) (x:σ) (s:Ae):∀y s',(Rd.loop body x).run s=.inr (y,s')->P y:=by
 show ∀y s',Rd.iter body x s=.inr (y,s')->_
 fun_induction Rd.iter body x s with
 |case1 x s e h=>intro y s' U;cases U
 |case2 x s y s1 h=>intro y s' U;cases U;exact h1 _ _ _ _ h
 |case3 x s x' s1 h hlt ih=>exact ih
 |case4 x s x' s1 h hlt=>intro y s' U;cases U
theorem pJ {U:Rd Nd} {br:Bool} {s:Ae} {p:List Nd×Bool} (h:(Pw U br).run s=.inr (p,s')):∃x,p.1[((p.1.length:Nat) - 1:Int).toNat]? =some x/\p.1.getLastD Gj=x/\1<=p.1.length:=by
 have:∃l x,p.1=l++[x]:=by
  refine Rd.nX (body:=pC U br) (P:=λp=>∃l x,p.1=l++[x]) (λx s y s' h=>?_) _ _ _ _ h
  unfold pC at h
  obtain ⟨l,s1,_,h⟩:=AU h
  obtain ⟨n,s2,_,h⟩:=AU h
  replace h:(if J3 (Ab s2).1=true then .seq IE λo=>
   if br=true then .look λs=>if AZ s 15 [41]=true then .ret (.inr (l++[n]++[o],true)) else .ret (.inl (l++[n]++[o]))
   else .ret (.inl (l++[n]++[o]))
   else .ret (.inr (l++[n],false)):Rd (Sum (List Nd) (List Nd×Bool))).run s2=.inr (.inr y,s'):=h
  split at h
  .obtain ⟨o,s3,_,h⟩:=AU h
   split at h
   .replace h:(if AZ s3 15 [41]=true then .ret (.inr (l++[n]++[o],true)) else .ret (.inl (l++[n]++[o])):Rd (Sum (List Nd) (List Nd×Bool))).run s3=.inr (.inr y,s'):=h
    split at h
    .cases h;exact ⟨_,_,rfl⟩
    .cases h
   .cases h
  .cases h;exact ⟨_,_,rfl⟩
 obtain ⟨l,x,e⟩:=this
 refine ⟨x,?_,?_,?_⟩
 .rw [e];simp only [List.length_append,List.length_cons,List.length_nil]
  rw [show (((l.length+(0+1):Nat):Int) - 1).toNat=l.length by omega]
  simp
 .rw [e];simp
 .rw [e];simp
theorem dd {K:List (List V)->Prop} (hn:1<=l.length) (k:K ((l.take (l.length - 1)).map AP)):
 ((0:Int)<=0/\(0:Int)<=(l.length:Int) - 1/\(l.length:Int) - 1=(l.length:Int) - 1/\(l.length:Int) - 1<=((l.map AP).length:Int))/\∀U,U=List.drop (Int.toNat 0) (List.take ((l.length:Int) - 1).toNat (l.map AP))->K U:=by
 refine ⟨⟨AC,AC,rfl,by rw [List.length_map];omega⟩,λU e=>?_⟩
 rw [e,show ((l.length:Int) - 1).toNat=l.length - 1 by omega,<-List.map_take]
 exact k
section
variable {st0 st:St} {b d:Nat} {s:Ae} {rows:List (AH×List Nd)} {K:AB->St->Prop} {L:Fi}
attribute [local irreducible] Go.Aw.Am
theorem Vo {opd full exp:Rd Nd} (ho:AX enc 370 (λb=>[pv b d]) opd) (hf:AX enc 350 (λb=>[pv b d]) full) (he:AX enc 353 (λb=>[pv b d]) exp):
 AX enc 418 (λb=>[pv b d,enc o]) (Ec opd full exp o):=by
 refine ⟨λ{st0 b s st rows K} hc h=>?_⟩
 simp only [Ec,Rd.Ax,Rd.wp_seq,Rd.wp_ret,Rd.ED] at h
 have hmu:=hc.mu
 refine A6 Ac [] Tryz.func418 rfl Do rfl ?_
 refine Al (An Ac ?_)
 repeat' ((conv=>whnf);first|exact Dr|(refine Ba ?_;intros)|(refine Ds ?_ ?_ ?_;rotate_left)|(refine Bb ?_ ?_<;>intro e h)|(refine Bc ?_ ?_<;>intro _)|with_reducible refine WF ?_)
 refine Al (An Ac ?_)
 repeat' ((conv=>whnf);first|exact Dr|(refine Ba ?_;intros)|(refine Ds ?_ ?_ ?_;rotate_left)|(refine Bb ?_ ?_<;>intro e h)|(refine Bc ?_ ?_<;>intro _)|refine rl.go (pK ho) hc h (λp own1 s1 U hr hm hc h=>?_) (λe s1 U hc h=>?_)|exact B5 hc h|with_reducible refine WF ?_)
 all_goals obtain ⟨x,hx,hd,hn⟩:=pJ hr
 all_goals try rw [hd] at h
 all_goals refine An Ac ?_
 all_goals (repeat' ((conv=>whnf);first|exact Dr|(refine Ba ?_;intros)|(refine Ds ?_ ?_ ?_;rotate_left)|(refine Bb ?_ ?_<;>intro e h)|(refine Bc ?_ ?_<;>intro _)|(refine IQ ?_;intro U hc)|(refine Mw ?_ ?_<;>intro U hc e h)|(refine Lm ?_;intro s1 U hz hm hc h)|(refine JP ?_ ?_<;>(first|intro n s1 U hr hm hc h|intro e s1 U hc h))|exact FY|refine KE ?_|(refine Mg ?_;intro own1 U hc)|refine Ci (λ_=>?_)|refine Ad (λe1=>?_)|refine dd hn ?_|refine Q6 hx AC ?_|refine AX.go (ar hf) hc h (λn s1 U hr hm hc h=>?_) (λe s1 U hc h=>?_)|refine Af [(0,true),(1,true),(2,true),(3,true),(4,true),(6,true),(7,true),(8,true),(9,true),(10,true),(11,true),(5,false),(12,false),(13,true),(14,false),(15,false)] [2] GE ?_|refine Af [(0,true),(1,true),(2,true),(3,false),(4,false),(5,true),(6,true)] [] GE ?_|with_reducible refine WF ?_))
 all_goals refine CS (λ(q:Int×List Nd) own=>[(9,.int .i64 q.1),(8,.slice 6 (q.2.map AP) own)]) (λ_ _=>[]) [2,4] [0,2] (λq own=>(own,q.2)::rows) (λq=>q.2.length) .full (hc.drop.push _) h (by show 2+_<=_;omega) Yl ?_
 all_goals intro q s1 U own1 hc h hl hm1
 all_goals simp only [dw,Rd.Ag,Rd.Ax,Rd.wp_seq,Rd.wp_ret,Rd.BJ] at h
 all_goals obtain ⟨k,l⟩:=q
 all_goals dsimp only at hc h hl
 all_goals (repeat' ((conv=>whnf);first|exact Dr|(refine Ba ?_;intros)|(refine Ds ?_ ?_ ?_;rotate_left)|(refine Bb ?_ ?_<;>intro e h)|(refine Bc ?_ ?_<;>intro _)|exact ⟨⟨(5,_),_,_,_⟩,⟨hc,Rd.Fk h cb,f8,cb⟩,cb,Yl,St.le_refl _⟩|(refine IQ ?_;intro U hc)|(refine Mw ?_ ?_<;>intro U hc e h)|(refine Lm ?_;intro s1 U hz hm hc h)|(refine JP ?_ ?_<;>(first|intro n s1 U hr hm hc h|intro e s1 U hc h))|exact FY|refine KE ?_|(refine Mg ?_;intro own1 U hc)|refine Ci (λ_=>?_)|refine Ad (λe1=>?_)|refine AX.go he hc h (λn s1 U hr hm hc h=>?_) (λe s1 U hc h=>?_)|refine Af [(0,true),(1,true),(2,true),(3,true),(4,true),(6,true),(7,true),(8,true),(9,true),(10,true),(11,true),(5,false),(12,false),(13,true),(14,false),(15,false)] [2] GE ?_|refine Af [(0,true),(1,true),(2,true),(3,false),(4,false),(5,true),(6,true)] [] GE ?_|with_reducible refine WF ?_))
 all_goals conv=>whnf
end
section
variable {st0 st:St} {b d c:Nat} {s:Ae} {rows:List (AH×List Nd)} {K:AB->St->Prop} {L:Fi} {o:Nd} {A:Rd Nd}
theorem pz (hb:AX enc 418 (λb=>[pv b d,enc o]) A) (U:st.box c=some (AP o)) (hc:Cx st0 b s st rows)
 (h:Rd.wp A s (λv s'=>∀st',Cx st0 b s' st' rows->K (.ret (enc v)) st') (λe s'=>∀st',Cy st0 b s' st' rows->K (.Cd (fault e.1)) st')):PC 417 [pv b d,.ptr c 0] st K:=by
 refine pB Tryz.func417 ?_
 repeat' ((conv=>whnf);(first|refine Ba ?_|refine Bb ?_ ?_|refine Bc ?_ ?_|refine Ah U ?_|refine Gl.go (by first|exact AX.q) ?_ ?_|exact FY|refine Ad ?_)<;>intros)
theorem jK (hb:AX enc 420 (λb=>[pv b d,enc o]) A) (U:st.box c=some (AP o)) (hc:Cx st0 b s st rows)
 (h:Rd.wp A s (λv s'=>∀st',Cx st0 b s' st' rows->K (.ret (enc v)) st') (λe s'=>∀st',Cy st0 b s' st' rows->K (.Cd (fault e.1)) st')):PC 419 [pv b d,.ptr c 0] st K:=by
 refine pB Tryz.func419 ?_
 repeat' ((conv=>whnf);(first|refine Ba ?_|refine Bb ?_ ?_|refine Bc ?_ ?_|refine Ah U ?_|refine Gl.go (by first|exact AX.q) ?_ ?_|exact FY|refine Ad ?_)<;>intros)
end
section
variable {st0 st:St} {b d:Nat} {s:Ae} {rows:List (AH×List Nd)} {K:AB->St->Prop} {L:Fi}
attribute [local irreducible] Go.Aw.Am
theorem bP:AX enc 342 (λb=>[pv b d]) Az:=by
 refine ⟨λ{st0 b s st rows K} U h=>?_⟩
 refine pB Tryz.func342 ?_
 repeat' ((conv=>whnf);(first|refine Ba ?_|refine Bb ?_ ?_|refine Bc ?_ ?_|refine HE.go ‹_› ‹_› ?_ ?_|refine Lm ?_|refine JP ?_ ?_|exact FY|refine Ad ?_)<;>intros)
theorem o4 {x:Nd} (hx:n.kids[(Int.tdiv (n.kids.length:Int) 2).toNat]? =some x) (U:n.kids[n.kids.length / 2]? =some x) (h:K (.ret (.bool (GK n))) st):PC 345 [enc n] st K:=by
 have e:GK n= !(x.form==7||x.form==8||x.form==3||x.form==4):=by unfold GK;rw [U]
 rw [e] at h
 refine pB Tryz.func345 ?_
 have h0:0<=Int.tdiv (n.kids.length:Int) 2:=Int.tdiv_nonneg AC AC
 repeat' ((conv=>whnf);(first|refine Ba ?_|refine Bb ?_ ?_|refine Bc ?_ ?_|refine Wm hx h0 ?_)<;>intros)
 all_goals conv=>whnf
 all_goals (refine Av h ?_;clear h;simp_all)
end
end Go.Proofs.Z
namespace Go.Aw
open Go
theorem cO {l:List UInt8} (h:(BL l).1≠10):CN l=(11,2+Bn (BL l).1 (l.drop 2)):=if_pos h
theorem oM {l:List UInt8} (h:(BL l).1=10) (k:Bn 10 l=0):CN l=(0,0):=by unfold CN;rw [if_neg (λe=>e h),if_pos k]
theorem cP {l:List UInt8} {n f e:Nat} (h:(BL l).1=10) (hn:Bn 10 l=n) (U:n≠0) (hf:EL (l.drop n)=f) (he:G4 (l.drop (n+f))=e):CN l=(if 0<f\/0<e then 12 else 11,n+f+e):=by
 subst hn;subst hf;subst he
 unfold CN;rw [if_neg (λe=>e h),if_neg U]
theorem fG {l:List UInt8} {b:Int} (h:BL l=(b,2)):AE l=48/\2<=l.length:=by
 unfold BL at h
 split at h
 .rename_i U
  refine ⟨U.1,?_⟩
  have:=U.2.2
  have h1:=E5 (DI l) (l.drop 2)
  rw [List.length_drop] at h1
  omega
 .injection h with _ h;cases h
def Gp (s:List UInt8) (pos:Nat):Int×Int:=if (CN (s.drop pos)).1=0 then (0,0) else ((CN (s.drop pos)).1,(pos+(CN (s.drop pos)).2:Nat))
end Go.Aw
namespace Go.Proofs.Z
open Go Go.Aw
section
variable {st:St} {R:AB->St->Prop}
theorem yY {n:Nat} (e:i.toNat=n) (h:R (.ret (.bool (decide (AE (s.drop n)=46)))) st):PC 73 [.str (s.drop i.toNat),.str [46]] st R:=by
 refine Jz ?_
 rw [DB,e]
 exact h
theorem bE {n:Nat} (e:i.toNat=n) (U:s.length<=4611686018427387903) (h:R (.ret (.int .i64 (G4 (s.drop n):Nat))) st):PC 199 [.str (s.drop i.toNat)] st R:=by
 rw [e];exact bD IR h
theorem pH {b:Int} {n:Nat} (e:i.toNat=n) (U:s.length<=4611686018427387903) (h:R (.ret (.int .i64 (Bn b (s.drop n):Nat))) st):PC 198 [.str (s.drop i.toNat),.int .i64 b] st R:=by
 rw [e];exact wg IR h
theorem wi {b:Int} {n v:Nat} (e:i.toNat=n) (hv:Bn b (s.drop n)=v) (U:s.length<=4611686018427387903) (h:R (.ret (.int .i64 v)) st):PC 198 [.str (s.drop i.toNat),.int .i64 b] st R:=
 pH e U (by rw [hv];exact h)
theorem RG {n v:Nat} (e:i.toNat=n) (hv:G4 (s.drop n)=v) (U:s.length<=4611686018427387903) (h:R (.ret (.int .i64 v)) st):PC 199 [.str (s.drop i.toNat)] st R:=
 bE e U (by rw [hv];exact h)
theorem QH {n:Nat} (U:CN s=(k,n)) (e2:i.toNat=n):AB.ret (.BM [.int .i64 (CN s).1,.str (s.take (CN s).2)])=AB.ret (.BM [.int .i64 k,.str (s.take i.toNat)]):=by rw [U,e2]
theorem oN (U:CN s=(0,0)):AB.ret (.BM [.int .i64 (CN s).1,.str (s.take (CN s).2)])=AB.ret (.BM [.int .i64 0,.str []]):=by rw [U];rfl
theorem Ke {b:Int} {n:Nat} (hp:BL s=(b,n)) (U:s.length<=4611686018427387903) (h:R (.ret (.BM [.int .i64 b,.int .i64 n])) st):PC 197 [.str s] st R:=
 cU U (by rw [hp];exact h)
theorem fu (hl:s.length<=4611686018427387903) (h:R (.ret (.BM [.int .i64 (CN s).1,.str (s.take (CN s).2)])) st):PC 165 [.str s] st R:=by
 have hle:=WU s
 refine pB Tryz.func165 ?_
 rcases NY s with hp|⟨hp,_⟩|⟨hp,_⟩
 .have h1:=E5 10 s
  have h2:=Ys (s.drop (Bn 10 s))
  have h3:=eE (s.drop (Bn 10 s+EL (s.drop (Bn 10 s))))
  rw [List.length_drop] at h2 h3
  generalize hr:Bn 10 s=r at h1 h2 h3
  have hr0:Bn 10 (s.drop 0)=r:=hr
  generalize hf:EL (s.drop r)=f at h2 h3
  generalize he:G4 (s.drop (r+f))=e at h3
  have h4:=E5 10 (s.drop (r+1))
  have e0:(BL s).1=10:=by rw [hp]
  have hlt:=l7 s r
  have hfd:(AE (s.drop r)=46/\Bn 10 (s.drop (r+1))≠0/\f=1+Bn 10 (s.drop (r+1)))\/((AE (s.drop r)≠46\/Bn 10 (s.drop (r+1))=0)/\f=0):=by
   rw [<-hf]
   unfold EL
   rw [List.drop_drop]
   split<;>omega
  rw [List.length_drop] at h4
  generalize hd:Bn 10 (s.drop (r+1))=d at h4 hfd
  repeat' ((conv=>whnf);first|exact D2|(refine Cf ?_;intros)|(refine D3 ?_ ?_ ?_;rotate_left)|(refine Cg ?_ ?_<;>intro _)|refine Ke hp hl ?_|refine wi AC hr0 hl ?_|refine wi AC hd hl ?_|refine yY (n:=r) AC ?_|refine RG AC he hl ?_|refine RG AC he' hl ?_|with_reducible refine WF ?_)
  all_goals first
   |(have U:=oM e0 AC;exact fin h (oN U))
   |(have U:=cP e0 hr AC hf he;rw [if_pos AC] at U;exact fin h (QH U AC))
   |(have U:=cP e0 hr AC hf he;rw [if_neg AC] at U;exact fin h (QH U AC))
 .have hr:=E5 8 (s.drop 2)
  have h2:=(fG hp).2
  rw [List.length_drop] at hr
  repeat' ((conv=>whnf);first|exact D2|(refine Cf ?_;intros)|(refine D3 ?_ ?_ ?_;rotate_left)|(refine Cg ?_ ?_<;>intro _)|refine Ke hp hl ?_|refine pH (n:=2) AC hl ?_|with_reducible refine WF ?_)
  all_goals (have U:=cO (l:=s) (by rw [hp];decide);rw [hp] at U;dsimp only at U;exact fin h (QH U AC))
 .have hr:=E5 16 (s.drop 2)
  have h2:=(fG hp).2
  rw [List.length_drop] at hr
  repeat' ((conv=>whnf);first|exact D2|(refine Cf ?_;intros)|(refine D3 ?_ ?_ ?_;rotate_left)|(refine Cg ?_ ?_<;>intro _)|refine Ke hp hl ?_|refine pH (n:=2) AC hl ?_|with_reducible refine WF ?_)
  all_goals (have U:=cO (l:=s) (by rw [hp];decide);rw [hp] at U;dsimp only at U;exact fin h (QH U AC))
theorem oL (hl:s.length<=4611686018427387903) (hp:pos<s.length) (h:R (.ret (.BM [.int .i64 (Gp s pos).1,.int .i64 (Gp s pos).2])) st):PC 122 [.str s,.int .i64 pos] st R:=by
 have hw:=WU (s.drop pos)
 have ht:((s.drop pos).take (CN (s.drop pos)).2).length=(CN (s.drop pos)).2:=NE
 rw [List.length_drop] at hw
 have U:(s.drop pos).length<=4611686018427387903:=IR
 refine pB Tryz.func122 ?_
 repeat' ((conv=>whnf);first|(refine Cf ?_;intros)|(refine Cg ?_ ?_<;>intro _)|refine fu U ?_)
 .exact fin h (by unfold Gp;rw [if_pos ‹_›];simp_all)
 .exact fin h (by unfold Gp;rw [if_neg ‹_›];simp only [];rw [show (pos:Int).toNat=pos by omega] at *;rw [ht];rfl)
end
end Go.Proofs.Z
namespace Go.Aw
open Go
theorem jr {P:Program} {r:List V} {st:St} (hb:Plain P f) (h:s.length<4611686018427387904->A9 P f (.str s::r) st R):A9 P f (.str s::r) st R:=by
 refine ⟨?_,hb⟩
 intro I w cargs hs U
 have hl:s.length<4611686018427387904:=by
  have h2:=U
  simp only [Aq,AL] at h2
  obtain ⟨c,rr,_,h2,_⟩:=h2
  exact h2.2
 exact (h hl).a I w cargs hs U
def KU (s:List UInt8) (k:Int):Bool:=(CN s).1==k&&(s.take (CN s).2==s)
theorem ki {n:Nat} (h:n<=s.length):s.take n=s↔n=s.length:=by
 constructor
 .intro e
  have:=congrArg List.length e
  rw [List.length_take] at this
  omega
 .intro e;rw [e,List.take_length]
theorem OO:KU s k=true↔(CN s).1=k/\(CN s).2=s.length:=by
 unfold KU
 rw [Bool.and_eq_true,beq_iff_eq,beq_iff_eq,ki (WU s)]
theorem kM (h:KU s 11=true):Bn (BL s).1 (s.drop (BL s).2)=s.length - (BL s).2/\(BL s).2<=s.length:=by
 obtain ⟨U,h2⟩:=OO.1 h
 by_cases hb:(BL s).1=10
 .have hp:BL s=(10,0):=by
   rcases NY s with e|⟨e,_⟩|⟨e,_⟩
   .exact e
   .rw [e] at hb;cases hb
   .rw [e] at hb;cases hb
  rw [hp]
  refine ⟨?_,Nat.zero_le _⟩
  show Bn 10 (s.drop 0)=s.length - 0
  rw [List.drop_zero,Nat.sub_zero]
  by_cases h0:Bn 10 s=0
  .rw [oM hb h0] at U;cases U
  .have e:=cP (l:=s) hb rfl h0 rfl rfl
   rw [e] at U h2
   dsimp only at U h2
   split at U
   .cases U
   .omega
 .have e:=cO (l:=s) hb
  have hp2:(BL s).2=2:=by
   rcases NY s with e|⟨e,_⟩|⟨e,_⟩
   .rw [e] at hb;exact absurd rfl hb
   .rw [e]
   .rw [e]
  rw [e] at h2
  dsimp only at h2
  rw [hp2]
  omega
theorem gY {c b:Int} (hb:b<=16) (h:¬BW c b<0):0<=BW c b/\BW c b<b/\BW c b<=15:=by
 unfold BW at h |-
 dsimp only at h |-
 (repeat' split at h)<;>(repeat' split)<;>omega
end Go.Aw
namespace Go.Proofs.Z
open Go Go.Aw
theorem aG {base:Int} {c m:Nat} (h:pos<s.length) (hd:(c,m)=AJ (s.drop pos)) (k:¬BW (c:Int) base<0):
 m=1/\Lj base (s.drop pos) v=if (4611686018427387904 - BW (c:Int) base) / base<v then (0,3) else Lj base (s.drop (pos+1)) (v*base+BW (c:Int) base):=by
 obtain ⟨a,ha⟩:∃a,s[pos]? =some a:=⟨_,List.getElem?_eq_getElem h⟩
 have e:=drop_at ha
 have U:a.toNat<128:=by
  apply Classical.byContradiction
  intro hn
  have:=Qt (r:=s.drop (pos+1)) hn
  rw [e] at hd
  rw [<-hd] at this
  exact k (Jj (by dsimp only at this;omega))
 rw [e,DJ U] at hd
 obtain ⟨rfl,rfl⟩:=Prod.mk.inj hd
 refine ⟨rfl,?_⟩
 rw [e,Lj]
theorem pW {n:Nat} {K:List UInt8->Prop} (ht:s.drop n=t) (U:0<=(n:Int)) (h1:(n:Int)<=s.length) (k:K t):
 (0<=(n:Int)/\(n:Int)<=(s.length:Int)/\(s.length:Int)<=s.length)/\∀s',s'=(s.take (s.length:Int).toNat).drop (n:Int).toNat->K s':=WN U h1 (by subst ht;exact k)
section
variable {st:St} {R:AB->St->Prop}
theorem zB (U:s.length<=4611686018427387903) (h:R (.ret (.bool (KU s k))) st):PC 257 [.str s,.int .i64 k] st R:=by
 refine pB Tryz.func257 ?_
 repeat' ((conv=>whnf);(first|refine Ba ?_|refine Bb ?_ ?_|refine Bc ?_ ?_|refine fu U ?_)<;>intros)
 all_goals conv=>whnf
 all_goals (refine Av h ?_;clear h;simp_all [KU])
theorem vV {b:Bool} (e:KU s k=b) (U:s.length<=4611686018427387903) (h:R (.ret (.bool b)) st):PC 257 [.str s,.int .i64 k] st R:=zB U (by rw [e];exact h)
theorem sl {c m:Nat} {b:Int} (hb:b<=16) (hl:pos<t.length) (hd:(c,m)=AJ (t.drop pos)) (hr:Bn b (t.drop pos)=t.length - pos) (k:∀d,d=BW c b->0<=d->d<b->R (.ret (.int .i64 d)) st):PC 242 [.int .i32 c,.int .i64 b] st R:=by
 have hn:¬BW (c:Int) b<0:=λe=>by
  have:=II hl hd e
  omega
 obtain ⟨U,h2,_⟩:=gY hb hn
 exact Nn (k _ rfl U h2)
theorem zA {b d:Int} {K:Int->Prop} (hb:b=10\/b=8\/b=16) (U:0<=v) (h1:0<=d) (h2:d<b) (h3:¬(4611686018427387904 - d) / b<v) (k:K (v*b)):∃r,r=IntKind.i64.wrap (v*b)/\K r:=by
 refine ⟨_,(L6 ?_ ?_).symm,k⟩<;>(rcases hb with rfl|rfl|rfl<;>omega)
theorem yR {b d:Int} {K:Int->Prop} (hb:b=10\/b=8\/b=16) (U:0<=v) (h1:0<=d) (h2:d<b) (h3:¬(4611686018427387904 - d) / b<v) (k:K (v*b+d)):∃r,r=IntKind.i64.wrap (v*b+d)/\K r:=by
 refine ⟨_,(L6 ?_ ?_).symm,k⟩<;>(rcases hb with rfl|rfl|rfl<;>omega)
theorem zb {b d:Int} (hb:b=10\/b=8\/b=16) (U:0<=v) (h1:0<=d) (h2:d<b) (h3:¬(4611686018427387904 - d) / b<v):0<=v*b+d/\v*b+d<=4611686018427387904:=by
 rcases hb with rfl|rfl|rfl<;>omega
theorem kN {b:Int} {n:Nat} (hn:KU s 11=true) (U:BL s=(b,n)):Li s=Lj b (s.drop n) 0:=by
 unfold Li
 rw [if_pos (OO.1 hn),U]
theorem vB (h:R (.ret (.BM [.int .i64 (Li s).1,.int .i64 (Li s).2])) st):PC 212 [.str s] st R:=by
 refine jr ⟨_,Tryz.func212,Do,Do⟩ λhl0=>?_
 have hl:s.length<=4611686018427387903:=AC
 refine pB Tryz.func212 ?_
 cases hn:KU s 11 with
 |false=>
  have hw:Li s=(0,40):=by
   unfold Li
   rw [if_neg λe=>?_]
   rw [OO.2 e] at hn;cases hn
  rw [hw] at h
  repeat' ((conv=>whnf);first|(refine Ba ?_;intros)|(refine Bb ?_ ?_<;>intro e h)|(refine Bc ?_ ?_<;>intro _)|refine vV hn hl ?_)
  all_goals exact fin h rfl
 |true=>
  obtain ⟨hr,hle⟩:=kM hn
  have key:∀(b:Int) (n:Nat),BL s=(b,n)->b=10\/b=8\/b=16:=λb n e=>by
   rcases NY s with h|⟨h,_⟩|⟨h,_⟩<;>(rw [h] at e;cases e;omega)
  generalize hp:BL s=p at hr hle
  obtain ⟨b,n⟩:=p
  have hp0:BL s=(b,n):=hp
  dsimp only at hr hle
  have hb:=key b n hp
  rw [kN hn hp] at h
  have hlen:(s.drop n).length=s.length - n:=by rw [List.length_drop]
  generalize ht:s.drop n=t at h hr hlen
  have hr:Bn b t=t.length:=AC
  clear hp key hlen
  repeat' ((conv=>whnf);first|(refine Ba ?_;intros)|(refine Bb ?_ ?_<;>intro e h)|(refine Bc ?_ ?_<;>intro _)|refine vV hn hl ?_|refine Ke hp0 hl ?_|refine pW ht AC AC ?_)
  conv=>whnf
  refine cw (α:=Nat) (β:=Int) (λpos v=>[(6,.int .i64 v)]) (λpos v=>[(0,[.Qe t pos])]) [0,4,5,21] [] (λ_ _=>st) (λpos v=>pos<=t.length/\Bn b (t.drop pos)=t.length - pos/\Lj b t 0=Lj b (t.drop pos) v/\0<=v/\v<=4611686018427387904) (λpos v=>t.length - pos) 0 0 ⟨Nat.zero_le _,by rw [List.drop_zero];omega,by rw [List.drop_zero],AC,AC⟩ Yl (St.le_refl _) ?_
  rintro pos v ⟨j1,j2,j3,j4,j5⟩
  rw [j3] at h
  have hb0:0<b:=AC
  repeat' ((conv=>whnf);first|(refine Ba ?_;intros)|(refine Bb ?_ ?_<;>intro e h)|(refine Bc ?_ ?_<;>intro _)|refine WK (λc m hd=>?_)|refine Wr hb0 AC AC ?_|refine sl AC ‹_› ‹_› j2 (λd U hd1 hd2=>?_)|refine zA hb j4 hd1 hd2 ‹_› ?_|refine yR hb j4 hd1 hd2 ‹_› ?_)
  .rename_i hlt hgt
   obtain ⟨e1,e2⟩:=aG (v:=v) (base:=b) hlt hd (by rw [<-U];omega)
   rw [e2,<-U,if_pos hgt] at h
   exact fin h rfl
  .rename_i hlt hgt
   obtain ⟨e1,e2⟩:=aG (v:=v) (base:=b) hlt hd (by rw [<-U];omega)
   have e3:=(N2 (base:=b) hlt hd (by rw [<-U];omega)).2
   rw [<-U,if_neg hgt] at e2
   have hf:=zb hb j4 hd1 hd2 hgt
   subst e1
   conv=>whnf
   exact ⟨(pos+1,v*b+d),⟨UV,UV,by rw [j3,e2],hf.1,hf.2⟩,UV,Yl,St.le_refl _⟩
  .rename_i hlt
   rw [List.drop_eq_nil_iff.2 AC] at h
   exact fin h rfl
end
def sC (n:Nd) (s:Ae) (e:Int):V:=.agg [.int .i64 n.kind,.int .i64 n.form,.str n.text,.int .i64 n.line,.int .i64 n.Ch,.slice 6 (CR n.kids) .any,
 .slice 4 (AQ s.Ar) .any,.int .i64 s.pos,.slice 1 (ints s.DE) .any,.int .i64 s.wait,.int .i64 e]
section
variable {st:St} {R:AB->St->Prop}
attribute [local irreducible] Go.Aw.Am
def mo:Rs->V
 | .inr (n,s)=>sC n s 0
 | .inl (e,s)=>sC Gj s e
end
def rn:Rs->Nd
 | .inr p=>p.1
 | .inl _=>Gj
def rs:Rs->Ae
 | .inr p=>p.2
 | .inl p=>p.2
def re:Rs->Int
 | .inr _=>0
 | .inl p=>p.1
theorem mq (q:Rs):mo q=sC (rn q) (rs q) (re q):=by cases q<;>rfl
def Vb (f:FuncId) (d:Int) (A:Ae->Rs):Prop:=∀s,mu s<=100000000->∀(st:St) (R:AB->St->Prop),R (.ret (mo (A s))) st->PC f [D4 s,.int .i64 d] st R
theorem Vb.e {f:FuncId} {d x:Int} {A:Ae->Rs} (h:Vb f d A) (hx:x=d) {s:Ae} {q:Rs} (e:A s=q) (U:mu s<=100000000) {st:St} {R:AB->St->Prop} (k:R (.ret (mo q)) st):PC f [D4 s,.int .i64 x] st R:=by
 subst hx;subst e;exact h s U st R k
theorem Vb.q {d x:Int} {A:Ae->Rs} (h:Vb f d A) (hx:x=d) {s:Ae} (U:mu s<=100000000) {st:St} (k:R (.ret (sC (rn (A s)) (rs (A s)) (re (A s)))) st):PC f [D4 s,.int .i64 x] st R:=by
 subst hx;exact h s U st R (by rw [mq];exact k)
end Go.Proofs.Z
namespace Go.Aw
theorem rP {b:Bool} {p q:Prop} (h:b=true) (k:p):Bq b p q:=Wk (λ_=>k) (λe=>by rw [h] at e;cases e)
theorem rO {b:Bool} {p q:Prop} (h:b=false) (k:q):Bq b p q:=Wk (λe=>by rw [h] at e;cases e) (λ_=>k)
theorem WG {l c:Int} {p q:Prop} (h:p):Bq (k==k&&(t==t&&(l==l&&(c==c&&true)))) p q:=rP GT h
theorem WH {l c:Int} {p q:Prop} (h:q):Bq (!(k==k&&(t==t&&(l==l&&(c==c&&true))))) p q:=rO GT h
theorem WI {l:List Int} {x:Int} {K:List V->Prop} (h:l[i.toNat]? =some x) (U:0<=i) (k:K [.int .i64 x]):0<=i/\∃e,(ints l)[i.toNat]? =some e/\K e:=⟨U,_,by simp [ints,h],k⟩
end Go.Aw
namespace Go.Proofs.Z
open Go Go.Aw
section
variable {st:St} {R:AB->St->Prop}
attribute [local irreducible] Go.Aw.Am
theorem da {l:List Tk} {o1 o2:AH} (h:R (.ret (.bool true)) st):PC 21 [.slice 4 (AQ l) o1,.slice 4 (AQ l) o2] st R:=by
 refine pB Tryz.func21 ?_
 repeat' ((conv=>whnf);first|(with_reducible first|refine Wt rfl ?_|refine WG ?_|refine WH ?_|refine WI ‹_› AC ?_|exact Wa|exact Wb|exact Wc|refine Wd EQ ?_|refine We ?_ ?_ ?_|refine W8 GE ?_ ?_ ?_|refine W0 GE ?_ ?_ ?_|refine W9 ?_ ?_ ?_|refine Wt H9 ?_|refine Wu H9 ?_|refine Wv AC ?_|refine Ww AC ?_|refine Wf Do (λ_=>?_) (λ_=>?_)|refine Wg (λ_=>?_) (λ_=>?_)|refine Wh (λ_=>?_) (λ_=>?_)|refine Wi ?_|refine Wj ?_|refine Wk (λ_=>?_) (λ_=>?_)|refine Wl (λ_=>?_)|refine Wm ‹_› AC ?_|refine Wn AC AC (λ_ _ _=>?_)|refine Wq AC AC ?_|refine Wz (λ_=>?_)|refine WA (λ_=>?_)|refine WB ‹_› AC ?_|refine WC AC AC (λ_ _=>?_)|refine WD AC AC (λ_ _=>?_))|with_reducible refine WF ?_)
 refine eZ 5 [0,1] [] l.length (λk=>k<=l.length) (Nat.zero_le _) Yl ?_
 intro k hk
 by_cases U:k<l.length
 .obtain ⟨x,hx⟩:∃x,l[(k:Int).toNat]? =some x:=⟨_,List.getElem?_eq_getElem U⟩
  repeat' ((conv=>whnf);first|(with_reducible first|refine Wt rfl ?_|refine WG ?_|refine WH ?_|refine WI ‹_› AC ?_|exact Wa|exact Wb|exact Wc|refine Wd EQ ?_|refine We ?_ ?_ ?_|refine W8 GE ?_ ?_ ?_|refine W0 GE ?_ ?_ ?_|refine W9 ?_ ?_ ?_|refine Wt H9 ?_|refine Wu H9 ?_|refine Wv AC ?_|refine Ww AC ?_|refine Wf Do (λ_=>?_) (λ_=>?_)|refine Wg (λ_=>?_) (λ_=>?_)|refine Wh (λ_=>?_) (λ_=>?_)|refine Wi ?_|refine Wj ?_|refine Wk (λ_=>?_) (λ_=>?_)|refine Wl (λ_=>?_)|refine Wm ‹_› AC ?_|refine Wn AC AC (λ_ _ _=>?_)|refine Wq AC AC ?_|refine Wz (λ_=>?_)|refine WA (λ_=>?_)|refine WB ‹_› AC ?_|refine WC AC AC (λ_ _=>?_)|refine WD AC AC (λ_ _=>?_))|with_reducible refine WF ?_)
  all_goals conv=>whnf
  all_goals exact ⟨k+1,U,Nat.sub_lt_sub_left U (Nat.lt_succ_self k),Yl,St.le_refl _⟩
 .skip
  repeat' ((conv=>whnf);first|(with_reducible first|refine Wt rfl ?_|refine WG ?_|refine WH ?_|refine WI ‹_› AC ?_|exact Wa|exact Wb|exact Wc|refine Wd EQ ?_|refine We ?_ ?_ ?_|refine W8 GE ?_ ?_ ?_|refine W0 GE ?_ ?_ ?_|refine W9 ?_ ?_ ?_|refine Wt H9 ?_|refine Wu H9 ?_|refine Wv AC ?_|refine Ww AC ?_|refine Wf Do (λ_=>?_) (λ_=>?_)|refine Wg (λ_=>?_) (λ_=>?_)|refine Wh (λ_=>?_) (λ_=>?_)|refine Wi ?_|refine Wj ?_|refine Wk (λ_=>?_) (λ_=>?_)|refine Wl (λ_=>?_)|refine Wm ‹_› AC ?_|refine Wn AC AC (λ_ _ _=>?_)|refine Wq AC AC ?_|refine Wz (λ_=>?_)|refine WA (λ_=>?_)|refine WB ‹_› AC ?_|refine WC AC AC (λ_ _=>?_)|refine WD AC AC (λ_ _=>?_))|with_reducible refine WF ?_)
  all_goals exact fin h rfl
end
mutual
def B0:Nd->List Tk
 | .mk k f t l c ks=>if k=1 then [⟨f,t,l,c⟩] else Bj ks
def Bj:List Nd->List Tk
 |[]=>[]
 |n::r=>B0 n++Bj r
end
theorem DD:∀{a b:List Nd},Bj (a++b)=Bj a++Bj b
 |[],b=>rfl
 |n::r,b=>by rw [List.cons_append,Bj,Bj,DD,List.append_assoc]
theorem NJ (t:Tk):B0 (Be t)=[t]:=rfl
theorem J5 (h:¬k=1):B0 (As k l)=Bj l:=by unfold As;rw [B0,if_neg h]
theorem Cc:Bj [n]=B0 n:=by rw [Bj,Bj,List.append_nil]
inductive Path:Ae->List Tk->Ae->Prop where
 |nil (s:Ae):Path s [] s
 |cons {s:Ae} {l:List Tk} {t:Ae}:(Ab s).2.2=0->mu (Ab s).2.1<mu s->Path (Ab s).2.1 l t->Path s ((Ab s).1::l) t
theorem Path.trans {s t u:Ae} {l m:List Tk} (h:Path s l t) (k:Path t m u):Path s (l++m) u:=by
 induction h with
 |nil s=>exact k
 |cons U h2 _ ih=>exact .cons U h2 (ih k)
theorem Path.one {s:Ae} (U:(Ab s).2.2=0) (h2:mu (Ab s).2.1<mu s):Path s [(Ab s).1] (Ab s).2.1:=.cons U h2 (.nil _)
theorem Path.is {s:Ae} (h:AZ s k x=true) (U:k≠0) (h1:k≠21):Path s [(Ab s).1] (Ab s).2.1:=.one (Ev h U) (C8 h U h1)
variable {A:Ae->Rs}
theorem pE (l:List Nd) (s:Ae):∀q s',Gc A l s=.inr (q,s')->∃r,q=l++r:=by
 fun_induction Gc A l s with
 |case1 l s U e1 h2=>simp_all
 |case2 l s U p h2 h3 ih=>grind
 |case3 l s U p h2 h3=>simp_all
 |case4 l s U=>simp_all
section
variable {st:St} {R:AB->St->Prop}
attribute [local irreducible] Go.Aw.Am
theorem Xk {a b:List Nd}:Dh (a++b)=Dh a+Dh b:=by
 induction a with
 |nil=>simp [Dh]
 |cons x r U=>rw [List.cons_append,Dh,Dh,U];omega
end
def ry (k:Int):Nat:=if k=1 then 3 else if k=30 then 2 else 1
def Qf:List Nd->Nat
 |[]=>0
 |n::r=>ry n.kind+Qf r
theorem uK (k:Int):1<=ry k:=by
 unfold ry
 grind
theorem Kl:∀{a b:List Nd},Qf (a++b)=Qf a+Qf b
 |[],b=>by rw [List.nil_append,Qf,Nat.zero_add]
 |n::r,b=>by rw [List.cons_append,Qf,Qf,Kl];omega
theorem QN:∀{l:List Nd},l.length<=Qf l
 |[]=>Nat.le_refl _
 |n::r=>by have:=QN (l:=r);have:=uK n.kind;rw [Qf,List.length_cons];omega
def Fq (t:Tk):Bool:=t.kind==18||t.kind==19||t.kind==20||(t.kind==15&&(t.text==[123]||t.text==[125]||t.text==[59]))
inductive Bh:List Nd->Ae->Ae->Prop where
 |nil (s:Ae):Bh [] s s
 |app {l m:List Nd} {s s1 s2:Ae}:Bh l s s1->Bh m s1 s2->Bh (l++m) s s2
 |tok {s:Ae}:(Ab s).2.2=0->(Ab s).1.kind<18->(Ab s).1.kind≠0->Bh [Be (Ab s).1] s (Ab s).2.1
 |skip {s:Ae}:(Ab s).2.2=0->Fq (Ab s).1=true->Bh [] s (Ab s).2.1
 |close {s:Ae}:(Ck s).2=true->Bh [] s (Ck s).1
 |node {k:Int} {l:List Nd} {s s':Ae}:Bh l s s'->k≠1->1+ry k<=Qf l->Bh [As k l] s s'
 |block {f:Bool} {l:List Nd} {s s':Ae}:(Ab s).2.2=0->Fq (Ab s).1=true->Bh l (Ab s).2.1 s'->Bh [C6 f l] s s'
theorem LA {t:Tk} (h:Fq t=true):t.kind≠0/\t.kind≠21:=by
 unfold Fq at h
 grind
theorem Bh.size {l:List Nd} {s s':Ae} (h:Bh l s s'):Dh l+Qf l+4*mu s'<=4*mu s:=by
 induction h with
 |nil s=>simp only [Dh,Qf];omega
 |app _ _ U h2=>rw [Xk,Kl];omega
 |tok U h2 h3=>
  rename_i s
  have:=(EY U).2 AC
  have e:Dh [Be (Ab s).1]+Qf [Be (Ab s).1]=4:=rfl
  omega
 |skip U h2=>have:=(EY U).1;simp only [Dh,Qf];omega
 |close U=>have:=OB U;simp only [Dh,Qf];omega
 |node U h2 h3 ih=>
  rename_i k l s s'
  have e:Dh [As k l]+Qf [As k l]=(1+Dh l+0)+(ry k+0):=by simp only [As,Dh,Nd.size,Qf];rfl
  omega
 |block U h2 h3 ih=>
  rename_i f l s s'
  have:=(EY U).2 (LA h2).2
  have e:Dh [C6 f l]+Qf [C6 f l]=(1+Dh l+0)+(1+0):=by simp only [C6,Dh,Nd.size,Qf];rfl
  omega
theorem Bh.zI {s:Ae} (h:Bh [n] s s'):n.size+4*mu s'<=4*mu s:=by
 have:=h.size
 simp only [Dh] at this
 omega
theorem Bh.two {s:Ae} (h:Bh l s s') (hk:k≠1) (U:k≠30) (hl:2<=l.length):Bh [As k l] s s':=
 .node h hk (by have:=QN (l:=l);unfold ry;grind)
theorem Bh.is {s:Ae} (h:AZ s k x=true) (U:k≠0) (h1:k<18):Bh [Be (Ab s).1] s (Ab s).2.1:=by
 have e:(Ab s).1.kind=k:=by
  unfold AZ at h
  simp only [Bool.and_eq_true,beq_iff_eq] at h
  exact h.1
 exact .tok (Ev h U) AC AC
theorem Bh.cons {s s1 s2:Ae} (h:Bh [n] s s1) (k:Bh l s1 s2):Bh (n::l) s s2:=.app h k
theorem Bh.snoc {s s1 s2:Ae} (h:Bh l s s1) (k:Bh [n] s1 s2):Bh (l++[n]) s s2:=.app h k
theorem Bh.one {s:Ae} (h:Bh l s s') (hk:k≠1) (U:k≠30) (hl:1<=l.length):Bh [MP k l] s s':=by
 unfold MP
 split
 .match l,‹l.length=1› with
  |[x],_=>exact h
 .exact h.two hk U AC
def DG (A:Ae->Rs):Prop:=∀s n s',A s=.inr (n,s')->Bh [n] s s'
variable {A:Ae->Rs}
theorem LZ {t:Tk} (h:B1 t=true):t.kind≠0/\t.kind<18:=by
 unfold B1 at h
 grind
theorem VE {s:Ae} (hs:B1 (Ab s).1=true) (h:Db s=.inr (n,s')):Bh [n] s s':=by
 have U:=LZ hs
 unfold Db at h
 split at h
 .rename_i e;cases h;exact .tok e U.2 U.1
 grind
theorem ss {s:Ae} (U:k≠0) (h1:k<18) (h:KA s k x=.inr (n,s')):Bh [n] s s':=by
 unfold KA at h
 split at h
 .rename_i e
  rw [HD e U] at h
  cases h
  exact .is e U h1
 .cases h
theorem Rw {s:Ae} {s0:Ae} (hk:k≠1) (U:k≠30) (hl:1<=l.length) (h0:Bh l s0 s) (h:Hv k l s x=.inr (n,s')):Bh [n] s0 s':=by
 unfold Hv at h
 split at h
 .cases h
 .rename_i p hp
  cases h
  exact (h0.snoc (ss Do Do hp)).two hk U ke
theorem sr (hA:DG A) (l:List Nd) (s:Ae):∀s0 q s',Bh l s0 s->Gc A l s=.inr (q,s')->Bh q s0 s':=by
 fun_induction Gc A l s with
 |case1 l s U e1 h2=>simp_all
 |case2 l s U p h2 h3 ih=>intro s0 q s' h0 h;exact ih s0 q s' (h0.snoc (hA s p.1 p.2 h2)) h
 |case3 l s U p h2 h3=>simp_all
 |case4 l s U=>simp_all
theorem VD (U:DG A):DG (Gd A):=λs n s' h=>by
 unfold Gd at h
 split at h
 .cases h
 .rename_i p hp
  have h1:=U s p.1 p.2 hp
  split at h
  .cases h
  .rename_i q hq
   have h2:=sr U _ _ _ _ _ h1 hq
   obtain ⟨r,hr⟩:=pE _ _ _ _ hq
   split at h
   .simp_all
   .rename_i hl
    cases h
    exact h2.two Do Do (by grind)
theorem sn (hA:DG A) (l:List Nd) (s:Ae):∀s0 q s',Bh l s0 s->Gx A l s=.inr (q,s')->Bh q s0 s'/\∃r,q=l++r:=by
 fun_induction Gx A l s with
 |case1 l s U e1 h2=>simp_all
 |case2 l s U p h2 h3 ih=>
  intro s0 q s' h0 h
  obtain ⟨k1,r,k2⟩:=ih s0 q s' (.app h0 (.cons (.is U Do Do) (VD hA _ p.1 p.2 h2))) h
  simp_all
 |case3 l s U p h2 h3=>simp_all
 |case4 l s U=>simp_all
theorem T9 (hA:DG A) {U:Nd} {s0 s:Ae} (h0:Bh [n] s0 s) (h:Dt A n s=.inr (U,s')):Bh [U] s0 s':=by
 unfold Dt at h
 split at h
 .cases h
 .rename_i q hq
  obtain ⟨k1,r,k3⟩:=sn hA _ _ _ _ _ h0 hq
  split at h
  .simp_all
  .rename_i hl
   cases h
   exact k1.two Do Do (by grind)
theorem Ry (U:DG A):DG (DC A):=λs n s' h=>by
 unfold DC at h
 split at h
 .cases h
 .rename_i p hp
  exact T9 U (VD U _ p.1 p.2 hp) h
theorem sq (U:DG A):DG (F5 A):=λs n s' h=>by
 unfold F5 at h
 split at h
 .cases h
 .rename_i p hp
  have h1:=VD U _ p.1 p.2 hp
  split at h
  .rename_i hi
   split at h
   .cases h
   .rename_i q hq
    cases h
    exact (h1.cons (.cons (.is hi Do Do) (Ry U _ q.1 q.2 hq))).two Do Do (Nat.le_of_ble_eq_true rfl)
  .exact T9 U h1 h
theorem hH (hA:DG A) (l:List Nd) (s:Ae):∀s0 q s',Bh l s0 s->1<=l.length->CE A l s=.inr (q,s')->Bh q s0 s'/\1<=q.length:=by
 fun_induction CE A l s with
 |case1 l s U e1 h2=>simp_all
 |case2 l s U p h2 h3 ih=>
  intro s0 q s' h0 hl h
  exact ih s0 q s' (.app h0 (.cons (.is U Do Do) (hA _ p.1 p.2 h2))) ke h
 |case3 l s U p h2 h3=>simp_all
 |case4 l s U=>grind
theorem l9 (l:List Nd) (s:Ae):∀s0,Bh l s0 s->1<=l.length->Bh (Cs l s).1 s0 (Cs l s).2/\1<=(Cs l s).1.length:=by
 fun_induction Cs l s with
 |case1 l s U h2 ih=>intro s0 h0 hl;exact ih s0 (h0.snoc (.is U Do Do)) ke
 |case2 l s U h2=>simp_all
 |case3 l s U=>simp_all
theorem ma (hA:DG A) {s:Ae} (hs:B1 (Ab s).1=true) (h:Fg A s=.inr (n,s')):Bh [n] s s':=by
 unfold Fg at h
 split at h
 .cases h
 .rename_i p hp
  have U:=VE hs (n:=p.1) (s':=p.2) hp
  split at h
  .rename_i hi
   exact Rw Do Do (Nat.le_of_ble_eq_true rfl) (U.cons (.is hi Do Do)) h
  split at h
  .exact Rw Do Do (Nat.le_of_ble_eq_true rfl) U h
  split at h
  .obtain ⟨k1,k2⟩:=l9 [p.1] p.2 s U (Nat.le_of_ble_eq_true rfl)
   exact Rw Do Do k2 k1 h
  split at h
  .cases h
  .rename_i q hq
   have h2:=hA _ q.1 q.2 hq
   split at h
   .cases h
   .rename_i r hr
    obtain ⟨k1,k2⟩:=hH hA _ _ _ _ _ (U.cons h2) (Nat.le_of_ble_eq_true rfl) hr
    exact Rw AC AC k2 k1 h
theorem gZ (hA:DG A) {s:Ae} (hs:B1 (Ab s).1=true) (h:DY A s=.inr (n,s')):Bh [n] s s':=by
 unfold DY at h
 split at h
 .cases h
 .rename_i p hp
  have U:=VE hs (n:=p.1) (s':=p.2) hp
  split at h
  .rename_i hi
   cases h
   exact (U.cons (.is hi Do Do)).two Do Do (Nat.le_of_ble_eq_true rfl)
  split at h
  .cases h
  .rename_i q hq
   exact Rw Do Do (Nat.le_of_ble_eq_true rfl) (U.cons (hA _ q.1 q.2 hq)) h
theorem Nq (hA:DG A):DG (Dl A):=λs n s' h=>by
 unfold Dl at h
 split at h
 .rename_i U
  split at h
  .split at h
   .exact ma hA U h
   .exact gZ hA U h
  .exact VE U h
 .cases h
theorem Nr:∀d,DG (DU d)
 |0=>λs n s' h=>by cases h
 |d+1=>Ry (Nq (Nr d))
namespace Rd
variable {α β γ σ:Type}
def Ap (a b:Rd α):Prop:=∀s,(∃e t,a.run s=.inl (e,t)/\e.1=2)\/b.run s=a.run s
theorem Ap.pt {a:Rd α}:Ap a a:=λ_=>.inr rfl
theorem Ap.trans {a b c:Rd α} (h:Ap a b) (k:Ap b c):Ap a c:=λs=>by
 rcases h s with h|h
 .exact .inl h
 .rcases k s with ⟨e,t,k,U⟩|k
  .exact .inl ⟨e,t,h ▸ k,U⟩
  .exact .inr (k.trans h)
theorem Ap.seq {m m':Rd α} {k U:α->Rd β} (h:Ap m m') (hk:∀v,Ap (k v) (U v)):Ap (seq m k) (seq m' U):=λs=>by
 unfold Rd.seq
 dsimp only
 rcases h s with ⟨e,t,h,he⟩|h
 .left;rw [h];exact ⟨e,t,rfl,he⟩
 .rw [h]
  cases m.run s with
  |inl e=>exact .inr rfl
  |inr p=>exact hk p.1 p.2
theorem Ap.look {f U:Ae->Rd α} (h:∀s,Ap (f s) (U s)):Ap (look f) (look U):=λs=>h s s
theorem Ap.ite {c:Prop} [Decidable c] {a b U b':Rd α} (h1:Ap a U) (h2:Ap b b'):Ap (if c then a else b) (if c then U else b'):=by split<;>assumption
theorem Ap.deep {b:Rd α}:Ap (fail It) b:=λs=>.inl ⟨It,s,rfl,rfl⟩
theorem Ap.loop {body U:σ->Rd (Sum σ β)} (h:∀x,Ap (body x) (U x)) (x:σ):Ap (loop body x) (loop U x):=λs=>by
 show (∃e t,iter body x s=.inl (e,t)/\e.1=2)\/iter U x s=iter body x s
 fun_induction iter body x s with
 |case1 x s e h1=>
  rcases h x s with ⟨e',t,h2,he⟩|h2
  .rw [h1] at h2;cases h2;exact .inl ⟨_,_,rfl,he⟩
  .right;rw [iter,h2,h1]
 |case2 x s y s1 h1=>
  rcases h x s with ⟨e',t,h2,he⟩|h2
  .rw [h1] at h2;cases h2
  .right;rw [iter,h2,h1]
 |case3 x s x' s1 h1 hlt ih=>
  rcases h x s with ⟨e',t,h2,he⟩|h2
  .rw [h1] at h2;cases h2
  .have e:iter U x s=iter U x' s1:=by
    rw [iter,h2,h1];dsimp only;rw [if_pos hlt]
   rw [e];exact ih
 |case4 x s x' s1 h1 hlt=>exact .inl ⟨_,_,rfl,rfl⟩
end Rd
open Rd (Ap)
structure Xat (L L':Fi):Prop where
 atom:Ap L.atom L'.atom
 exp:Ap L.exp L'.exp
 ops:Ap L.ops L'.ops
 decls:Ap L.decls L'.decls
 stmts:Ap L.stmts L'.stmts
 alts:Ap L.alts L'.alts
 Ez:∀o,Ap (L.Ez o) (L'.Ez o)
 list:∀o,Ap (L.list o) (L'.list o)
def DP:Er->Ae->Prop:=λ_ _=>True
def Dv (A:Rd Nd):Prop:=∀s,Rd.wp A s (λn s'=>Bh [n] s s') DP
theorem Dv.at {A:Rd Nd} (h:Dv A) {s s':Ae} {n:Nd} (e:A.run s=.inr (n,s')):Bh [n] s s':=by
 have:=h s
 unfold Rd.wp at this
 simp_all
theorem Dv.of {A:Rd Nd} (h:∀s n s',A.run s=.inr (n,s')->Bh [n] s s'):Dv A:=λs=>Rd.Va (λn s' e=>h s n s' e) (λ_ _ _=>trivial)
theorem Dv.size {A:Rd Nd} (h:Dv A) {s s':Ae} {n:Nd} (e:A.run s=.inr (n,s')):n.size+4*mu s'<=4*mu s:=(h.at e).zI
theorem Bg {c:Prop} [Decidable c] {Q:Prop} (U:c->P) (h2:¬c->Q):if c then P else Q:=ke
structure Real (s:Ae):Prop where
 ok:(Ab s).2.2=0
 lt:(Ab s).1.kind<18
 ne:(Ab s).1.kind≠0
section
variable {A B C:Rd Nd} {s s0 s1 s2 s':Ae} {Q:Nd->Ae->Prop} {L:Fi}
theorem AO (h:AZ s k x=true) (U:k≠0) (h1:k<18):Real s:=by
 have e:(Ab s).1.kind=k:=by
  unfold AZ at h
  simp only [Bool.and_eq_true,beq_iff_eq] at h
  exact h.1
 exact ⟨Ev h U,AC,AC⟩
theorem NZ (h:(Ab s).1.kind≠0) (U:(Ab s).1.kind<18):Real s:=⟨DX h,U,h⟩
theorem Bz (h:((Ab s).1.kind==k)=true) (U:k≠0) (h1:k<18):Real s:=by
 rw [beq_iff_eq] at h;exact NZ AC AC
theorem E1 (h:Cq (Ab s).1=true):Real s:=by
 unfold Cq at h
 simp only [Bool.or_eq_true,Bool.and_eq_true,beq_iff_eq] at h
 exact NZ AC AC
theorem E3 (h:JH (Ab s).1=true):Real s:=by
 unfold JH at h
 simp only [Bool.or_eq_true,Bool.and_eq_true,beq_iff_eq] at h
 exact NZ AC AC
theorem E2 (h:EK (Ab s).1=true):Real s:=by
 unfold EK at h
 simp only [Bool.or_eq_true,Bool.and_eq_true,beq_iff_eq] at h
 exact NZ AC AC
theorem Uj {t:Tk} (h:Hc t=true):Fq t=true:=by
 unfold Hc at h
 unfold Fq
 grind
theorem Jf (U:Dv A) (k:∀n s1,Bh [n] s s1->Q n s1):Rd.wp A s Q DP:=Rd.wp_mono (U s) (λn s1 _ h=>k n s1 h) (λ_ _ _ _=>trivial)
theorem C9 (U:Real s) (k:Bh [Be (Ab s).1] s (Ab s).2.1->Q (Be (Ab s).1) (Ab s).2.1):Rd.wp Az s Q DP:=by
 unfold Rd.wp
 rw [BQ U.ok]
 exact k (.tok U.ok U.lt U.ne)
theorem Tx (U:k≠0) (h1:k<18) (kk:∀n s1,Bh [n] s s1->Q n s1):Rd.wp (A0 k x) s Q DP:=by
 unfold A0
 rw [Rd.Ag,Rd.Ax]
 exact Bg (λe=>C9 (AO e U h1) (kk _ _)) (λ_=>trivial)
theorem eo (U:(ks.all λk=>decide (k≠0)&&decide (k<18))=true) (kk:∀n s1,Bh [n] s s1->Q n s1):Rd.wp (CX ks) s Q DP:=by
 unfold CX
 rw [Rd.Ag,Rd.Ax]
 refine Bg (λe=>?_) (λ_=>trivial)
 have:=List.all_eq_true.1 U _ (List.contains_iff_mem.1 e)
 simp only [Bool.and_eq_true,decide_eq_true_eq] at this
 exact C9 (NZ this.1 this.2) (kk _ _)
theorem yZ {Q:Unit->Ae->Prop} (hi:Fq (Ab s).1=true) (k:Bh [] s (Ab s).2.1->Q () (Ab s).2.1):Rd.wp Hl s Q DP:=by
 have e:=DX (LA hi).1
 unfold Hl
 rw [Rd.wp_seq]
 unfold Rd.wp
 rw [BQ e]
 exact k (.skip e hi)
theorem DS {body:σ->Rd (Sum σ β)} {P:σ->Ae->Prop} {Q:β->Ae->Prop} (hb:∀x s,P x s->Rd.wp (body x) s (λr s'=>match r with| .inl x'=>P x' s'| .inr y=>Q y s') DP) {x:σ} {s:Ae} (h0:P x s):Rd.wp (Rd.loop body x) s Q DP:=by
 have:∀y s',(Rd.loop body x).run s=.inr (y,s')->Q y s':=by
  show ∀y s',Rd.iter body x s=.inr (y,s')->Q y s'
  fun_induction Rd.iter body x s with
  |case1 x s e h=>simp_all
  |case2 x s y s1 h=>
   intro y' s' h';cases h'
   have:=hb x s h0
   unfold Rd.wp at this
   simp_all
  |case3 x s x' s1 h U ih=>
   have:=hb x s h0
   unfold Rd.wp at this
   simp_all
  |case4 x s x' s1 h U=>simp_all
 exact Rd.Va this (λ_ _ _=>trivial)
theorem Bh.nB {t:Tk} (h:Bh [Be t] s s') (hk:k≠1) (U:k≠30):Bh [As k [Be t]] s s':=.node h hk (by
 have:Qf [Be t]=3:=rfl
 unfold ry;simp_all)
theorem Bh.gd (h:Bh l s s') (U:3<=l.length):Bh [As 30 l] s s':=.node h Do (by have:=QN (l:=l);have:ry 30=2:=rfl;omega)
theorem Bh.CP {m:Nd} (h:Bh [n] s s1) (k:Bh (m::l) s1 s2):Bh (n::m::l) s s2:=.app h k
theorem Bh.pass (h:Bh l s s1) (k:Bh [] s1 s2):Bh l s s2:=by
 have:=Bh.app h k
 simp_all
theorem Bh.pre (h:Bh [] s s1) (k:Bh l s1 s2):Bh l s s2:=Bh.app h k
theorem CG {l:List α} {a b:α}:2<=(l++[a]++[b]).length:=ke
structure M5 (L:Fi):Prop where
 atom:Dv L.atom
 exp:Dv L.exp
 ops:Dv L.ops
 decls:Dv L.decls
 stmts:Dv L.stmts
 alts:Dv L.alts
 Ez:∀o s,Rd.wp (L.Ez o) s (λn s'=>∀s0,Bh [o] s0 s->Bh [n] s0 s') DP
 list:∀o s,Rd.wp (L.list o) s (λn s'=>∀s0,Bh [o] s0 s->Bh [n] s0 s') DP
theorem dvO {B:Nd->Rd Nd} (hB:∀o s,Rd.wp (B o) s (λn s'=>∀s0,Bh [o] s0 s->Bh [n] s0 s') DP) (U:Bh [o] s0 s) (k:∀n s1,Bh [n] s0 s1->Q n s1):Rd.wp (B o) s Q DP:=
 Rd.wp_mono (hB o s) (λn s1 _ h=>k n s1 (h s0 U)) (λ_ _ _ _=>trivial)
theorem VF:Dv IE:=λs=>by
 simp only [IE,Rd.Ag,Rd.Ax,Rd.wp_seq,Rd.wp_ret]
 repeat' (first
  |exact trivial
  |assumption
  |refine Bg (λe=>?_) (λe=>?_)
  |refine C9 (AO ‹_› Do Do) (λhn=>?_)
  |refine C9 (Bz ‹_› Do Do) (λhn=>?_)
  |refine C9 (E1 ‹_›) (λhn=>?_)
  |refine C9 (E3 ‹_›) (λhn=>?_)
  |refine C9 (E2 ‹_›) (λhn=>?_)
  |refine C9 ‹_› (λhn=>?_)
  |refine Tx Do Do (λn s1 hn=>?_)
  |refine eo Do (λn s1 hn=>?_)
  |refine Jf ‹_› (λn s1 hn=>?_)
  |exact Bh.nB ‹_› Do Do
  |refine Bh.two ?_ Do Do (by first|exact Nat.le_of_ble_eq_true rfl|exact CG|(simp only [List.length_append,List.length_cons,List.length_nil];omega))
  |apply Bh.CP
  |apply Bh.app)
theorem OD (U:Dv A):Dv (Du A p):=λs=>by
 simp only [Du,Rd.Ag,Rd.Ax,Rd.wp_seq,Rd.wp_ret,Rd.Fb]
 repeat' (first
  |exact trivial
  |assumption
  |refine Bg (λe=>?_) (λe=>?_)
  |refine C9 (AO ‹_› Do Do) (λhn=>?_)
  |refine C9 (Bz ‹_› Do Do) (λhn=>?_)
  |refine C9 (E1 ‹_›) (λhn=>?_)
  |refine C9 (E3 ‹_›) (λhn=>?_)
  |refine C9 (E2 ‹_›) (λhn=>?_)
  |refine C9 ‹_› (λhn=>?_)
  |refine Tx Do Do (λn s1 hn=>?_)
  |refine eo Do (λn s1 hn=>?_)
  |refine Jf ‹_› (λn s1 hn=>?_)
  |refine Bh.two ?_ Do Do (by first|exact Nat.le_of_ble_eq_true rfl|exact CG|(simp only [List.length_append,List.length_cons,List.length_nil];omega))
  |apply Bh.CP
  |apply Bh.app)
theorem me {Q:List Nd->Ae->Prop} (U:Bh l s0 s) (k:∀l s1,Bh l s0 s1->Q l s1):Rd.wp (Se l) s Q DP:=by
 refine DS (P:=λl s=>Bh l s0 s) (λl s U=>?_) U
 simp only [cF,Rd.Ag,Rd.Ax,Rd.wp_seq,Rd.wp_ret]
 repeat' (first
  |exact trivial
  |assumption
  |refine Bg (λe=>?_) (λe=>?_)
  |refine C9 (AO ‹_› Do Do) (λhn=>?_)
  |refine C9 (Bz ‹_› Do Do) (λhn=>?_)
  |refine C9 (E1 ‹_›) (λhn=>?_)
  |refine C9 (E3 ‹_›) (λhn=>?_)
  |refine C9 (E2 ‹_›) (λhn=>?_)
  |refine C9 ‹_› (λhn=>?_)
  |refine Tx Do Do (λn s1 hn=>?_)
  |refine eo Do (λn s1 hn=>?_)
  |refine Jf ‹_› (λn s1 hn=>?_)
  |exact Bh.snoc U (Bh.nB ‹_› Do Do)
  |exact k _ _ U
  |refine Bh.two ?_ Do Do (by first|exact Nat.le_of_ble_eq_true rfl|exact CG|(simp only [List.length_append,List.length_cons,List.length_nil];omega))
  |apply Bh.CP
  |apply Bh.app)
theorem mh {b:Bool} {Q:List Nd×Bool->Ae->Prop} (hA:Dv A) (k:∀l b s1,1<=l.length->(b=true->2<=l.length/\AZ s1 15 [41]=true)->Bh l s s1->Q (l,b) s1):Rd.wp (Pw A b) s Q DP:=by
 refine DS (P:=λl s1=>Bh l s s1) (λl s1 h0=>?_) (Bh.nil s)
 simp only [pC,Rd.Ag,Rd.Ax,Rd.wp_seq,Rd.wp_ret]
 refine me h0 (λl s1 h0=>?_)
 have ho:=VF
 refine Jf hA (λn s2 hn=>?_)
 refine Bg (λe=>?_) (λe=>k _ _ _ ke (λh=>by cases h) (h0.snoc hn))
 refine Jf ho (λo s3 U=>?_)
 exact Bg (λ_=>Bg (λe=>k _ _ _ (Nat.le_trans Do CG) (λ_=>⟨CG,e⟩) ((h0.snoc hn).snoc U)) λe=>(h0.snoc hn).snoc U) λe=>(h0.snoc hn).snoc U
theorem RA (hA:Dv A):Dv (Zl A):=λs=>by
 simp only [Zl,Rd.wp_seq,Rd.wp_ret]
 exact mh hA λl b s1 U _ h=>h.one Do Do U
theorem Yb (hA:Dv A) (U:Bh [n] s0 s) (k:∀n s1,Bh [n] s0 s1->Q n s1):Rd.wp (Le A n) s Q DP:=by
 simp only [Le,Rd.Ag,Rd.Ax,Rd.wp_seq,Rd.wp_ret]
 repeat' (first
  |exact trivial
  |assumption
  |refine Bg (λe=>?_) (λe=>?_)
  |refine C9 (AO ‹_› Do Do) (λhn=>?_)
  |refine C9 (Bz ‹_› Do Do) (λhn=>?_)
  |refine C9 (E1 ‹_›) (λhn=>?_)
  |refine C9 (E3 ‹_›) (λhn=>?_)
  |refine C9 (E2 ‹_›) (λhn=>?_)
  |refine C9 ‹_› (λhn=>?_)
  |refine Tx Do Do (λn s1 hn=>?_)
  |refine eo Do (λn s1 hn=>?_)
  |refine Jf ‹_› (λn s1 hn=>?_)
  |refine k _ _ ?_
  |refine Bh.two ?_ Do Do (by first|exact Nat.le_of_ble_eq_true rfl|exact CG|(simp only [List.length_append,List.length_cons,List.length_nil];omega))
  |apply Bh.CP
  |apply Bh.app)
theorem w4 (U:Dv A) (hB:Dv B):Dv (bC A B):=λs=>by
 simp only [bC,Rd.wp_seq]
 exact Jf (RA U) λn s1 h=>Yb hB h λn s1 h=>h
theorem X8 {a b:Nd} (hL:M5 L) (U:Bh [a,b] s0 s) (k:∀n s1,Bh [n] s0 s1->Q n s1):Rd.wp (KW L a b) s Q DP:=by
 have h1:=hL.exp
 simp only [KW,Rd.wp_seq,Rd.wp_ret]
 repeat' (first
  |exact trivial
  |assumption
  |refine Bg (λe=>?_) (λe=>?_)
  |refine C9 (AO ‹_› Do Do) (λhn=>?_)
  |refine C9 (Bz ‹_› Do Do) (λhn=>?_)
  |refine C9 (E1 ‹_›) (λhn=>?_)
  |refine C9 (E3 ‹_›) (λhn=>?_)
  |refine C9 (E2 ‹_›) (λhn=>?_)
  |refine C9 ‹_› (λhn=>?_)
  |refine Tx Do Do (λn s1 hn=>?_)
  |refine eo Do (λn s1 hn=>?_)
  |refine Jf ‹_› (λn s1 hn=>?_)
  |exact k _ _ (Bh.two (l:=[a,b,_,_]) (Bh.app U (Bh.CP ‹_› ‹_›)) Do Do (Nat.le_of_ble_eq_true rfl))
  |refine Bh.two ?_ Do Do (by first|exact Nat.le_of_ble_eq_true rfl|exact CG|(simp only [List.length_append,List.length_cons,List.length_nil];omega))
  |apply Bh.CP
  |apply Bh.app)
theorem ib (hL:M5 L) (hA:Dv A) (hr:Real s) (k:∀n s1,Bh [n] s s1->Q n s1):Rd.wp (J4 L A) s Q DP:=by
 have h1:=hL.exp
 simp only [J4,Rd.wp_seq]
 refine C9 hr λU=>?_
 refine DS (P:=λl s1=>Bh l s s1) (λl s1 U=>?_) U
 .have h2:=OD (p:=H5) hA
  simp only [VX,LG,Rd.Ag,Rd.Ax,Rd.wp_seq,Rd.wp_ret]
  repeat' (first
   |exact trivial
   |assumption
   |refine Bg (λe=>?_) (λe=>?_)
   |refine C9 (AO ‹_› Do Do) (λhn=>?_)
   |refine C9 (Bz ‹_› Do Do) (λhn=>?_)
   |refine C9 (E1 ‹_›) (λhn=>?_)
   |refine C9 (E3 ‹_›) (λhn=>?_)
   |refine C9 (E2 ‹_›) (λhn=>?_)
   |refine C9 ‹_› (λhn=>?_)
   |refine Tx Do Do (λn s1 hn=>?_)
   |refine eo Do (λn s1 hn=>?_)
   |refine Jf ‹_› (λn s1 hn=>?_)
   |exact k _ _ (Bh.two (Bh.snoc (Bh.snoc U ‹_›) ‹_›) Do Do CG)
   |refine Bh.two ?_ Do Do (by first|exact Nat.le_of_ble_eq_true rfl|exact CG|(simp only [List.length_append,List.length_cons,List.length_nil];omega))
   |apply Bh.CP
   |apply Bh.app)
theorem sy {Q:Unit->Ae->Prop} (k:∀s1,Bh [] s s1->Q () s1):Rd.wp (UI w) s Q DP:=by
 simp only [UI,Rd.Ag,Rd.Ax,Rd.wp_ret]
 exact Bg (λe=>Bg (λ_=>yZ (Uj e) (k _)) λ_=>k _ (.nil _)) λ_=>k _ (.nil _)
theorem ey {Q:List Nd->Ae->Prop} (hL:M5 L) (U:Bh l s0 s) (k:∀a e s1,Bh (l++[a]++[e]) s0 s1->Q (l++[a]++[e]) s1):Rd.wp (Mo L l w) s Q DP:=by
 have h1:=hL.exp
 simp only [Mo,Rd.wp_seq,Rd.wp_ret]
 refine sy λs1 hs=>?_
 have U:=U.pass hs
 repeat' (first
  |exact trivial
  |assumption
  |refine Bg (λe=>?_) (λe=>?_)
  |refine C9 (AO ‹_› Do Do) (λhn=>?_)
  |refine C9 (Bz ‹_› Do Do) (λhn=>?_)
  |refine C9 (E1 ‹_›) (λhn=>?_)
  |refine C9 (E3 ‹_›) (λhn=>?_)
  |refine C9 (E2 ‹_›) (λhn=>?_)
  |refine C9 ‹_› (λhn=>?_)
  |refine Tx Do Do (λn s1 hn=>?_)
  |refine eo Do (λn s1 hn=>?_)
  |refine Jf ‹_› (λn s1 hn=>?_)
  |refine k _ _ _ ?_
  |refine Bh.two ?_ Do Do (by first|exact Nat.le_of_ble_eq_true rfl|exact CG|(simp only [List.length_append,List.length_cons,List.length_nil];omega))
  |apply Bh.CP
  |apply Bh.app)
theorem hZ (U:M5 L) (hr:Real s) (k:∀n s1,Bh [n] s s1->Q n s1):Rd.wp (JT L) s Q DP:=by
 have h1:=U.exp
 simp only [JT,Rd.wp_seq,Rd.wp_ret]
 refine C9 hr λh0=>?_
 refine Jf h1 λc s1 hc=>?_
 exact ey U (h0.cons hc) λa e s2 h2=>ey U h2 λa e s3 h3=>k _ _ (h3.two Do Do CG)
theorem sv (U:M5 L) (hr:Real s) (k:∀n s1,Bh [n] s s1->Q n s1):Rd.wp (T6 L) s Q DP:=by
 have h1:=U.exp
 have h2:=U.alts
 simp only [T6,Rd.wp_seq,Rd.wp_ret]
 refine C9 hr λh0=>?_
 repeat' (first
  |exact trivial
  |assumption
  |refine Bg (λe=>?_) (λe=>?_)
  |refine C9 (AO ‹_› Do Do) (λhn=>?_)
  |refine C9 (Bz ‹_› Do Do) (λhn=>?_)
  |refine C9 (E1 ‹_›) (λhn=>?_)
  |refine C9 (E3 ‹_›) (λhn=>?_)
  |refine C9 (E2 ‹_›) (λhn=>?_)
  |refine C9 ‹_› (λhn=>?_)
  |refine Tx Do Do (λn s1 hn=>?_)
  |refine eo Do (λn s1 hn=>?_)
  |refine Jf ‹_› (λn s1 hn=>?_)
  |refine k _ _ ?_
  |refine Bh.two ?_ Do Do (by first|exact Nat.le_of_ble_eq_true rfl|exact CG|(simp only [List.length_append,List.length_cons,List.length_nil];omega))
  |apply Bh.CP
  |apply Bh.app)
theorem mj (U:M5 L) (hr:Real s) (k:∀n s1,Bh [n] s s1->Q n s1):Rd.wp (MX L) s Q DP:=by
 have h1:=U.stmts
 simp only [MX,Rd.wp_seq,Rd.wp_ret,Rd.Ax,Rd.ED]
 refine C9 hr λh0=>?_
 repeat' (first
  |exact trivial
  |assumption
  |refine Bg (λe=>?_) (λe=>?_)
  |refine C9 (AO ‹_› Do Do) (λhn=>?_)
  |refine C9 (Bz ‹_› Do Do) (λhn=>?_)
  |refine C9 (E1 ‹_›) (λhn=>?_)
  |refine C9 (E3 ‹_›) (λhn=>?_)
  |refine C9 (E2 ‹_›) (λhn=>?_)
  |refine C9 ‹_› (λhn=>?_)
  |refine Tx Do Do (λn s1 hn=>?_)
  |refine eo Do (λn s1 hn=>?_)
  |refine Jf ‹_› (λn s1 hn=>?_)
  |refine k _ _ ?_
  |refine Bh.two ?_ Do Do (by first|exact Nat.le_of_ble_eq_true rfl|exact CG|(simp only [List.length_append,List.length_cons,List.length_nil];omega))
  |apply Bh.CP
  |apply Bh.app)
theorem w7 (U:M5 L) (hr:Real s) (k:∀n s1,Bh [n] s s1->Q n s1):Rd.wp (iI L) s Q DP:=by
 have h1:=U.decls
 simp only [iI,Rd.wp_seq]
 refine C9 hr λh0=>?_
 exact Jf h1 λb s1 hb=>X8 U (h0.cons hb) k
theorem mb (hA:Dv A) (k:∀n s1,Bh [n] s s1->Q n s1):Rd.wp (Mz A) s Q DP:=by
 simp only [Mz,Rd.wp_seq,Rd.wp_ret]
 refine Jf hA λn s1 hn=>?_
 refine DS (P:=λl s1=>Bh l s s1/\1<=l.length) (λl s1 U=>?_) ⟨hn,Nat.le_refl _⟩
 obtain ⟨U,hl⟩:=U
 simp only [aY,Rd.Ag,Rd.Ax,Rd.wp_seq,Rd.wp_ret]
 exact Bg (λ_=>Jf hA λn s1 hn=>⟨U.snoc hn,ke⟩) λ_=>k _ _ (U.one Do Do hl)
theorem bt (hL:M5 L) (hA:Dv A):Dv (Ib L A):=λs=>by
 simp only [Ib,Rd.Ag,Rd.Ax]
 have U:=mb (s:=s) (Q:=λn s'=>Bh [n] s s') hA λ_ _ h=>h
 refine Bg (λe=>Bg (λ_=>ib hL hA (Bz e Do Do) λ_ _ h=>h) λ_=>U) λ_=>Bg (λe=>?_) λ_=>U
 have hr:=Bz e Do Do
 exact Bg (λ_=>w7 hL hr λ_ _ h=>h) λ_=>Bg (λ_=>hZ hL hr λ_ _ h=>h) λ_=>Bg (λ_=>sv hL hr λ_ _ h=>h) λ_=>Bg (λ_=>mj hL hr λ_ _ h=>h) λ_=>U
theorem eu (U:Bh [o] s0 s) (k:∀n s1,Bh [n] s0 s1->Q n s1):Rd.wp (RT o) s Q DP:=by
 simp only [RT,Rd.wp_seq,Rd.wp_ret]
 refine DS (P:=λl s1=>Bh l s0 s1/\1<=l.length) (λl s1 U=>?_) ⟨U,Nat.le_refl _⟩
 obtain ⟨U,hl⟩:=U
 simp only [Vt,Rd.Ag,Rd.Ax,Rd.wp_seq,Rd.wp_ret]
 exact Bg (λe=>C9 (AO e Do Do) λh=>⟨U.snoc h,ke⟩) λ_=>Tx Do Do λn s1 h=>k _ _ ((U.snoc h).two Do Do ke)
theorem ig (U:M5 L) (h0:Bh [o] s0 s) (k:∀n s1,Bh [n] s0 s1->Q n s1):Rd.wp (MS L o) s Q DP:=by
 have h1:=U.ops
 have h2:=VF
 simp only [MS,Rd.Ag,Rd.Ax,Rd.wp_seq,Rd.wp_ret]
 repeat' (first
  |exact trivial
  |assumption
  |refine Bg (λe=>?_) (λe=>?_)
  |refine C9 (AO ‹_› Do Do) (λhn=>?_)
  |refine C9 (Bz ‹_› Do Do) (λhn=>?_)
  |refine C9 (E1 ‹_›) (λhn=>?_)
  |refine C9 (E3 ‹_›) (λhn=>?_)
  |refine C9 (E2 ‹_›) (λhn=>?_)
  |refine C9 ‹_› (λhn=>?_)
  |refine Tx Do Do (λn s1 hn=>?_)
  |refine eo Do (λn s1 hn=>?_)
  |refine Jf ‹_› (λn s1 hn=>?_)
  |exact dvO U.Ez h0 k
  |refine k _ _ ?_
  |refine Bh.two ?_ Do Do (by first|exact Nat.le_of_ble_eq_true rfl|exact CG|(simp only [List.length_append,List.length_cons,List.length_nil];omega))
  |apply Bh.CP
  |apply Bh.app)
theorem ie (hL:M5 L) (U:Bh [o] s0 s) (k:∀n s1,Bh [n] s0 s1->Q n s1):Rd.wp (O1 L o) s Q DP:=by
 simp only [O1,Rd.Ag,Rd.Ax,Rd.wp_seq,Rd.wp_ret]
 have hc:=ig (Q:=Q) hL U k
 refine Bg (λe=>Bg (λe2=>?_) λ_=>hc) λ_=>hc
 exact C9 (E3 e) λh1=>C9 (AO e2 Do Do) λh2=>k _ _ ((U.cons (h1.cons h2)).two Do Do (Nat.le_of_ble_eq_true rfl))
theorem mg (hL:M5 L) (hr:Real s) (k:∀n s1,Bh [n] s s1->Q n s1):Rd.wp (MT L) s Q DP:=by
 simp only [MT,Rd.Ag,Rd.Ax,Rd.wp_seq]
 exact C9 hr λU=>Bg (λ_=>eu U k) λ_=>Bg (λ_=>eu U k) λ_=>ie hL U k
theorem ij (hL:M5 L) (hr:Real s) (k:∀n s1,Bh [n] s s1->Q n s1):Rd.wp (Km L) s Q DP:=by
 simp only [Km,Rd.Ag,Rd.Ax,Rd.wp_seq,Rd.wp_ret]
 refine C9 hr λU=>?_
 repeat' (first
  |exact trivial
  |assumption
  |refine Bg (λe=>?_) (λe=>?_)
  |refine C9 (AO ‹_› Do Do) (λhn=>?_)
  |refine C9 (Bz ‹_› Do Do) (λhn=>?_)
  |refine C9 (E1 ‹_›) (λhn=>?_)
  |refine C9 (E3 ‹_›) (λhn=>?_)
  |refine C9 (E2 ‹_›) (λhn=>?_)
  |refine C9 ‹_› (λhn=>?_)
  |refine Tx Do Do (λn s1 hn=>?_)
  |refine eo Do (λn s1 hn=>?_)
  |refine Jf ‹_› (λn s1 hn=>?_)
  |exact dvO hL.list U k
  |refine k _ _ ?_
  |refine Bh.two ?_ Do Do (by first|exact Nat.le_of_ble_eq_true rfl|exact CG|(simp only [List.length_append,List.length_cons,List.length_nil];omega))
  |apply Bh.CP
  |apply Bh.app)
theorem su (U:M5 L):Dv (Q8 L):=λs=>by
 have h1:=U.atom
 simp only [Q8,Rd.Ag,Rd.Ax,Rd.wp_seq,Rd.wp_ret]
 refine Bg (λe=>?_) λ_=>trivial
 have hr:=E1 e
 repeat' (first
  |exact trivial
  |assumption
  |refine Bg (λe=>?_) (λe=>?_)
  |refine C9 (AO ‹_› Do Do) (λhn=>?_)
  |refine C9 (Bz ‹_› Do Do) (λhn=>?_)
  |refine C9 (E1 ‹_›) (λhn=>?_)
  |refine C9 (E3 ‹_›) (λhn=>?_)
  |refine C9 (E2 ‹_›) (λhn=>?_)
  |refine C9 ‹_› (λhn=>?_)
  |refine Tx Do Do (λn s1 hn=>?_)
  |refine eo Do (λn s1 hn=>?_)
  |refine Jf ‹_› (λn s1 hn=>?_)
  |exact mg U hr λ_ _ h=>h
  |exact ij U hr λ_ _ h=>h
  |exact Bh.nB ‹_› Do Do
  |refine Bh.two ?_ Do Do (by first|exact Nat.le_of_ble_eq_true rfl|exact CG|(simp only [List.length_append,List.length_cons,List.length_nil];omega))
  |apply Bh.CP
  |apply Bh.app)
theorem ic (hL:M5 L) (hr:Real s) (U:Bh [n] s0 s) (k:∀n s1,Bh [n] s0 s1->Q n s1):Rd.wp (IH L n) s Q DP:=by
 have h1:=hL.exp
 simp only [IH,Rd.wp_seq,Rd.wp_ret]
 refine C9 hr λhb=>?_
 refine DS (P:=λl s1=>Bh l s0 s1/\1<=l.length) (λl s1 U=>?_) ⟨U.cons hb,Nat.le_of_ble_eq_true rfl⟩
 obtain ⟨U,hl⟩:=U
 have hend:∀{l:List Nd} {s:Ae},Bh l s0 s->1<=l.length->Rd.wp (A0 15 [125]) s (λc s'=>Q (As 12 (l++[c])) s') DP:=λU hl=>Tx Do Do λn s1 h=>k _ _ ((U.snoc h).two Do Do ke)
 simp only [Xd,OK,Rd.Ag,Rd.Ax,Rd.wp_seq,Rd.wp_ret]
 have hf:Rd.wp (CX [1,3]) s1 (λnm s'=>Rd.wp (A0 10 [61]) s' (λq s'=>Rd.wp L.exp s' (λe s'=>if AZ s' 15 [44]=true then Rd.wp Az s' (λc s'=>Bh (l++[As 13 [nm,q,e]]++[c]) s0 s'/\1<=(l++[As 13 [nm,q,e]]++[c]).length) DP
  else Rd.wp (A0 15 [125]) s' (λc s'=>Q (As 12 (l++[As 13 [nm,q,e]]++[c])) s') DP) DP) DP) DP:=by
  refine eo Do λnm s2 g1=>Tx Do Do λq s3 g2=>Jf h1 λe s4 g3=>?_
  have h2:=U.snoc ((g1.cons (g2.cons g3)).two (k:=13) Do Do (Nat.le_of_ble_eq_true rfl))
  exact Bg (λe=>C9 (AO e Do Do) λh=>⟨h2.snoc h,Nat.le_trans Do CG⟩) λ_=>hend h2 ke
 simp_all
theorem Ns (hL:M5 L):Dv (Mj L):=λs=>by
 simp only [Mj,Rd.wp_seq]
 refine Jf (su hL) λn s1 hn=>?_
 refine DS (P:=λn s1=>Bh [n] s s1) (λn s1 U=>?_) hn
 simp only [lu,Rd.Ag,Rd.Ax,Rd.wp_seq,Rd.wp_ret]
 exact Bg (λe=>ic hL (AO e Do Do) U λ_ _ h=>h) λ_=>U
end
section
variable {A B C D E:Rd Nd} {s s0 s1 s2 s':Ae} {Q:Nd->Ae->Prop} {L:Fi}
theorem kf:∀{l:List Nd},2<=l.length->l.take (l.length - 1)++[l.getLastD Gj]=l/\1<=(l.take (l.length - 1)).length:=λ{l} h=>by
 have U:l≠[]:=λe=>by simp_all
 refine ⟨?_,by grind⟩
 have h1:=List.dropLast_concat_getLast U
 grind
theorem Bh.split:∀{l:List Nd} {s s':Ae},Bh l s s'->∀{a b:List Nd},l=a++b->∃s1,Bh a s s1/\Bh b s1 s':=by
 intro l s s' h
 induction h with
 |nil s=>intro a b e;obtain ⟨rfl,rfl⟩:=List.append_eq_nil_iff.1 e.symm;exact ⟨s,.nil s,.nil s⟩
 |app h1 h2 i1 i2=>
  intro a b e
  rcases List.append_eq_append_iff.1 e with ⟨x,U,e2⟩|⟨x,U,e2⟩
  .obtain ⟨s1,k1,k2⟩:=i2 e2
   subst U
   exact ⟨s1,.app h1 k1,k2⟩
  .obtain ⟨s1,k1,k2⟩:=i1 U
   subst e2
   exact ⟨s1,k1,.app k2 h2⟩
 |tok g1 g2 g3=>
  intro a b e
  match a with
  |[]=>rw [List.nil_append] at e;subst e;exact ⟨_,.nil _,.tok g1 g2 g3⟩
  |x::r=>
   rw [List.cons_append] at e
   injection e with U e2
   obtain ⟨rfl,rfl⟩:=List.append_eq_nil_iff.1 e2.symm
   subst U
   exact ⟨_,.tok g1 g2 g3,.nil _⟩
 |skip g1 g2=>intro a b e;obtain ⟨rfl,rfl⟩:=List.append_eq_nil_iff.1 e.symm;exact ⟨_,.nil _,.skip g1 g2⟩
 |close g1=>intro a b e;obtain ⟨rfl,rfl⟩:=List.append_eq_nil_iff.1 e.symm;exact ⟨_,.nil _,.close g1⟩
 |node g1 g2 g3 ih=>
  intro a b e
  match a with
  |[]=>rw [List.nil_append] at e;subst e;exact ⟨_,.nil _,.node g1 g2 g3⟩
  |x::r=>
   rw [List.cons_append] at e
   injection e with U e2
   obtain ⟨rfl,rfl⟩:=List.append_eq_nil_iff.1 e2.symm
   subst U
   exact ⟨_,.node g1 g2 g3,.nil _⟩
 |block g1 g2 g3 ih=>
  intro a b e
  match a with
  |[]=>rw [List.nil_append] at e;subst e;exact ⟨_,.nil _,.block g1 g2 g3⟩
  |x::r=>
   rw [List.cons_append] at e
   injection e with U e2
   obtain ⟨rfl,rfl⟩:=List.append_eq_nil_iff.1 e2.symm
   subst U
   exact ⟨_,.block g1 g2 g3,.nil _⟩
theorem mc (hA:Dv A) (hB:Dv B) (hC:Dv C):∀s,Rd.wp (Ec A B C o) s (λn s'=>∀s0,Bh [o] s0 s->Bh [n] s0 s') DP:=λs=>by
 simp only [Ec,Rd.Ax,Rd.wp_seq,Rd.wp_ret]
 refine mh hA λl b s1 h1 h2 hl=>?_
 dsimp only
 refine Bg (λe=>?_) λ_=>?_
 .obtain ⟨h3,h4⟩:=h2 e
  obtain ⟨t1,t2⟩:=kf h3
  obtain ⟨s2,k1,k2⟩:=hl.split t1.symm
  exact C9 (AO h4 Do Do) λg1 s0 U=>(U.cons ((k1.one Do Do t2).cons (k2.cons g1))).two Do Do (Nat.le_of_ble_eq_true rfl)
 .refine Yb hB (hl.one Do Do h1) λn s1 hn=>?_
  refine DS (P:=λq s1=>(q.1=4\/q.1=5)/\2<=q.2.length/\∀s0,Bh [o] s0 s->Bh q.2 s0 s1) (λq s1 h0=>?_) ⟨.inl rfl,Nat.le_refl _,λs0 U=>U.cons hn⟩
  obtain ⟨hq,hl,h0⟩:=h0
  simp only [dw,Rd.Ag,Rd.Ax,Rd.wp_seq,Rd.wp_ret]
  refine Bg (λe=>C9 (AO e Do Do) λg1=>Jf hC λn s2 g2=>⟨.inr trivial,CG,λs0 U=>((h0 s0 U).snoc g1).snoc g2⟩) λ_=>Tx Do Do λc s2 hc s0 U=>?_
  exact ((h0 s0 U).snoc hc).two AC AC (by grind)
theorem X9 {Q:List Nd->Ae->Prop} (hA:Dv A) (U:Bh l s0 s) (k:∀l' s1,l.length+2<=l'.length->Bh l' s0 s1->Q l' s1):Rd.wp (FI A l) s Q DP:=by
 simp only [FI,Rd.wp_seq]
 refine Tx Do Do λb s1 hb=>Jf hA λt s2 ht=>?_
 refine DS (P:=λl' s1=>Bh l' s0 s1/\l.length+2<=l'.length) (λl' s1 U=>?_) ⟨(U.snoc hb).snoc ht,ke⟩
 obtain ⟨U,hl⟩:=U
 simp only [OZ,Rd.Ag,Rd.Ax,Rd.wp_seq,Rd.wp_ret]
 exact Bg (λe=>C9 (AO e Do Do) λg1=>Jf hA λn s2 g2=>⟨(U.snoc g1).snoc g2,by grind⟩) λ_=>k _ _ hl U
theorem sx (hA:Dv A) (hB:Dv B):∀s,Rd.wp (NL A B o) s (λn s'=>∀s0,Bh [o] s0 s->Bh [n] s0 s') DP:=λs=>by
 simp only [NL,Rd.Ag,Rd.Ax,Rd.wp_seq,Rd.wp_ret]
 refine Jf hA λe s1 he=>Bg (λ_=>?_) λ_=>?_
 .have:Rd.wp (FI B [o,e]) s1 (λl s2=>Rd.wp (A0 15 [93]) s2 (λc s'=>∀s0,Bh [o] s0 s->Bh [As 8 (l++[c])] s0 s') DP) DP:=by
   refine Rd.Va (λl s2 hr=>?_) (λ_ _ _=>trivial)
   refine Tx Do Do λc s3 hc s0 ho=>?_
   have h1:Rd.wp (FI B [o,e]) s1 (λl s2=>Bh l s0 s2/\2<=l.length) DP:=X9 hB (ho.cons he) λl' s1 hl h=>⟨h,AC⟩
   unfold Rd.wp at h1
   rw [hr] at h1
   exact (h1.1.snoc hc).two Do Do (by grind)
  omega
 .refine DS (P:=λl s1=>2<=l.length/\∀s0,Bh [o] s0 s->Bh l s0 s1) (λl s1 h0=>?_) ⟨Nat.le_refl _,λs0 ho=>ho.cons he⟩
  obtain ⟨hl,h0⟩:=h0
  have U:∀{k:Int} {l:List Nd} {s1:Ae},k≠1->k≠30->2<=l.length->(∀s0,Bh [o] s0 s->Bh l s0 s1)->Rd.wp (A0 15 [93]) s1 (λc s'=>∀s0,Bh [o] s0 s->Bh [As k (l++[c])] s0 s') DP:=λhk h30 hl h0=>
   Tx Do Do λc s3 hc s0 ho=>((h0 s0 ho).snoc hc).two hk h30 (by grind)
  simp only [nT,Un,Rd.Ag,Rd.Ax,Rd.wp_seq,Rd.wp_ret]
  have hc:if AZ s1 15 [44]=true then Rd.wp Az s1 (λc s'=>Rd.wp A s' (λe s'=>2<=(l++[c]++[e]).length/\∀s0,Bh [o] s0 s->Bh (l++[c]++[e]) s0 s') DP) DP
   else Rd.wp (A0 15 [93]) s1 (λc s'=>∀s0,Bh [o] s0 s->Bh [As 6 (l++[c])] s0 s') DP:=
   Bg (λe=>C9 (AO e Do Do) λg1=>Jf hA λn s2 g2=>⟨CG,λs0 ho=>((h0 s0 ho).snoc g1).snoc g2⟩) λ_=>U Do Do hl h0
  refine Bg (λ_=>Bg (λe=>C9 (AO e Do Do) λg1=>Bg (λ_=>?_) λ_=>Jf hA λn s2 g2=>?_) λ_=>hc) λ_=>hc
  .exact U Do Do (by grind) λs0 ho=>(h0 s0 ho).snoc g1
  .exact U Do Do CG λs0 ho=>((h0 s0 ho).snoc g1).snoc g2
theorem er (hA:Dv A) (U:Bh [n] s0 s) (k:∀n s1,Bh [n] s0 s1->Q n s1):Rd.wp (Q9 A n) s Q DP:=by
 simp only [Q9,Rd.Ag,Rd.Ax,Rd.wp_seq,Rd.wp_ret,Rd.ED]
 exact Bg (λe=>Bg (λ_=>C9 (AO e Do Do) λg1=>Jf hA λm s2 g2=>k _ _ ((U.cons (g1.cons g2)).two Do Do (Nat.le_of_ble_eq_true rfl))) λ_=>trivial) λ_=>k _ _ U
theorem sA (hL:M5 L) (U:Dv A):Dv (S4 L A):=λs=>by
 simp only [S4,Rd.Ag,Rd.Ax,Rd.wp_seq,Rd.wp_ret]
 exact Bg (λe=>C9 (AO e Do Do) λg1=>Jf hL.decls λb s2 g2=>Bg (λ_=>X8 hL (g1.cons g2) λn s3 g3=>er U g3 λ_ _ h=>h) λ_=>(g1.cons g2).two Do Do (Nat.le_of_ble_eq_true rfl))
  λ_=>Jf U λn s3 g3=>er U g3 λ_ _ h=>h
theorem ez (hL:M5 L) (hA:Dv A) (hB:Dv B) (U:Bh l s0 s) (hl:l=[]\/2<=Qf l) (k:∀n s1,Bh [n] s0 s1->Q n s1):Rd.wp (c9 L A B m l) s Q DP:=by
 simp only [c9,Rd.wp_seq,Rd.Ag,Rd.Ax,Rd.wp_ret]
 refine DS (P:=λl s1=>Bh l s0 s1/\(l=[]\/2<=Qf l)) (λl s1 U=>?_) ⟨U,hl⟩
 obtain ⟨U,hl⟩:=U
 have hs:Rd.wp (FI B []) s1 (λg s'=>Rd.wp (A0 10 m) s' (λq s'=>Rd.wp A s' (λe s'=>Bh (l++[As 30 (g++[q]++[e])]) s0 s'/\(l++[As 30 (g++[q]++[e])]=[]\/2<=Qf (l++[As 30 (g++[q]++[e])]))) DP) DP) DP:=by
  refine X9 hB (.nil s1) λg s2 hg h=>Tx Do Do λq s3 g1=>Jf hA λe s4 g2=>⟨U.snoc (Bh.gd ((h.snoc g1).snoc g2) (by grind)),.inr ?_⟩
  rw [Kl]
  have:Qf [As 30 (g++[q]++[e])]=2:=rfl
  omega
 have he:∀{l:List Nd} {s1:Ae},Bh l s0 s1->2<=Qf l->if AZ s1 9 Dd=true then Rd.wp Az s1 (λw s'=>Rd.wp L.decls s' (λb s'=>Q (As 29 (l++[As 31 [w,b]])) s') DP) DP else Q (As 29 l) s1:=λ{l s1} U hl=>
  Bg (λe=>C9 (AO e Do Do) λg1=>Jf hL.decls λb s2 g2=>k _ _ (.node (U.snoc ((g1.cons g2).two Do Do (Nat.le_of_ble_eq_true rfl))) Do (by rw [Kl];have:ry 29=1:=rfl;omega)))
   λ_=>k _ _ (.node U Do (by have:ry 29=1:=rfl;omega))
 simp only [VR,MJ,Rd.Ag,Rd.Ax,Rd.wp_seq,Rd.wp_ret]
 grind
theorem mf (hL:M5 L) (hA:Dv A) (hB:Dv B):Dv (Zv L A B m):=λs=>by
 simp only [Zv,Rd.Ag,Rd.Ax,Rd.wp_seq]
 refine Bg (λe=>?_) λ_=>Bg (λ_=>ez hL hA hB (.nil s) (.inl rfl) λ_ _ h=>h) λ_=>trivial
 by_cases U:Real s
 .exact C9 U λg1=>Jf hA λe s2 g2=>ez hL hA hB (g1.cons g2) (.inr (Nat.le_trans (Nat.le_of_ble_eq_true rfl) QN)) λ_ _ h=>h
 .exact absurd (AO e Do Do) U
theorem wZ (hL:M5 L) (U:Dv A) (hB:Dv B) (hC:Dv C):Dv (aS L A B C):=λs=>by
 simp only [aS,Rd.Ax,Rd.wp_seq,Rd.wp_ret,Rd.ED]
 exact Jf U λn s1 g1=>Bg (λ_=>Jf (mf hL hB hC) λr s2 g2=>(g1.cons g2).two Do Do (Nat.le_of_ble_eq_true rfl)) λ_=>trivial
theorem Rz (U:Bh l s0 s) (hl:1<=l.length) (k:∀n s1,Bh [n] s0 s1->Q n s1):Rd.wp (JX l) s Q DP:=by
 have ho:=OD (p:=GK) VF
 simp only [JX,Rd.wp_seq]
 refine Jf ho λo s1 g1=>?_
 refine DS (P:=λl s1=>Bh l s0 s1/\2<=l.length) (λl s1 U=>?_) ⟨U.snoc g1,ke⟩
 obtain ⟨U,hl⟩:=U
 simp only [VM,Rd.Ag,Rd.Ax,Rd.wp_seq,Rd.wp_ret]
 exact Bg (λe=>C9 (AO e Do Do) λg1=>Jf ho λo s2 g2=>⟨(U.snoc g1).snoc g2,CG⟩) λ_=>k _ _ (U.two Do Do hl)
theorem ia (U:Real s) (k:∀n s1,Bh [n] s s1->Q n s1):Rd.wp JY s Q DP:=by
 simp only [JY,Rd.Ag,Rd.Ax,Rd.wp_seq]
 refine C9 U λg1=>Bg (λe=>?_) λ_=>Rz g1 (Nat.le_of_ble_eq_true rfl) k
 simp only [Du,Rd.Ag,Rd.Ax,Rd.wp_seq,Rd.wp_ret,Rd.Fb]
 exact C9 (Bz e Do Do) λg2=>Bg (λ_=>Rz (g1.cons g2) (Nat.le_of_ble_eq_true rfl) k) λ_=>trivial
theorem mi (hA:Dv A) (hB:Dv B) (U:Bh [n] s0 s) (k:∀n s1,Bh [n] s0 s1->Q n s1):Rd.wp (ZG A B n) s Q DP:=by
 have ho:=OD (p:=To) hA
 simp only [ZG,Rd.Ax,Rd.wp_seq,Rd.ED]
 refine Bg (λ_=>?_) λ_=>trivial
 refine DS (P:=λl s1=>Bh l s0 s1) (λl s1 U=>?_) U
 simp only [yp,Rd.Ag,Rd.Ax,Rd.wp_seq,Rd.wp_ret]
 exact Bg (λe=>C9 (AO e Do Do) λg1=>Jf ho λo s2 g2=>(U.snoc g1).snoc g2) λ_=>Tx Do Do λc s2 g1=>Jf hB λt s3 g2=>k _ _ (((U.snoc g1).snoc g2).two Do Do CG)
theorem sw (hL:M5 L) (U:Dv A) (hB:Dv B) (hC:Dv C) (hD:Dv D) (hE:Dv E):Dv (Rq L A B C D E):=λs=>by
 simp only [Rq,Rd.Ag,Rd.Ax,Rd.wp_seq,Rd.wp_ret,Rd.ED]
 exact Bg (λe=>ia (E2 e) λ_ _ h=>h) λ_=>Jf hB λn s1 g1=>Bg (λ_=>mi U hE g1 λ_ _ h=>h) λ_=>Bg (λ_=>mi U hE g1 λ_ _ h=>h) λ_=>
  Bg (λ_=>Jf (mf hL hC hD) λr s2 g2=>(g1.cons g2).two Do Do (Nat.le_of_ble_eq_true rfl)) λ_=>trivial
theorem Ya {Q:Unit->Ae->Prop} (k:∀s1,Bh [] s s1->Q () s1):Rd.wp MU s Q DP:=by
 refine DS (P:=λ_ s1=>Bh [] s s1) (λ_ s1 U=>?_) (.nil s)
 simp only [Xi,Rd.Ag,Rd.Ax,Rd.wp_seq,Rd.wp_ret]
 exact Bg (λe=>yZ (Uj e) λh=>U.pass h) λ_=>k _ U
theorem Nv {f m:Bool} {Q:Bool->Ae->Prop} (k:∀b s1,Bh [] s s1->Q b s1):Rd.wp (FD f m) s Q DP:=by
 simp only [FD,Rd.Ag,Rd.Ax,Rd.wp_seq,Rd.wp_ret]
 have hi:∀{f:Bool},(if f then AZ s 15 [125] else (Ab s).1.kind==20)=true->Fq (Ab s).1=true:=λ{f} e=>by
  unfold Fq
  cases f with
  |true=>
   rw [if_pos rfl] at e
   unfold AZ at e
   simp_all
  |false=>
   simp_all
 refine Bg (λe=>yZ (hi e) λh=>k _ _ h) λ_=>Bg (λ_=>Bg (λ_=>trivial) λ_=>?_) λ_=>k _ _ (.nil s)
 unfold Rd.wp MD
 dsimp only
 by_cases e:(Ck s).2=true
 .rw [if_pos e];exact k _ _ (.close e)
 .rw [if_neg e];trivial
theorem Nu {p:Tk->Bool} (hA:Dv A):Dv (FB p A):=λs=>by
 simp only [FB,Rd.Ag,Rd.Ax,Rd.wp_seq,Rd.wp_ret]
 have hb:∀{f:Bool} {s1:Ae},(Ab s).2.2=0->Fq (Ab s).1=true->(Ab s).2.1=s1->Rd.wp (Rd.loop (Vl p A f) []) s1 (λl s'=>Bh [C6 f l] s s') DP:=λ{f s1} e1 e2 e3=>by
  subst e3
  refine DS (P:=λl s1=>Bh l (Ab s).2.1 s1) (λl s1 U=>?_) (.nil _)
  simp only [Vl,Rd.Ag,Rd.Ax,Rd.wp_seq,Rd.wp_ret]
  refine Ya λs2 g2=>Nv λb s3 g3=>Bg (λ_=>.block e1 e2 ((U.pass g2).pass g3)) λ_=>Jf hA λn s4 g4=>Nv λb s5 g5=>Bg (λ_=>.block e1 e2 ((((U.pass g2).pass g3).snoc g4).pass g5)) λ_=>(((U.pass g2).pass g3).snoc g4).pass g5
 refine Bg (λe=>?_) λ_=>?_
 .have hi:Fq (Ab s).1=true:=by rw [beq_iff_eq] at e;simp [Fq,e]
  exact yZ hi λ_=>hb (DX (LA hi).1) hi rfl
 .unfold A0
  rw [Rd.Ag,Rd.Ax]
  refine Bg (λe=>?_) λ_=>trivial
  have hi:Fq (Ab s).1=true:=by
   unfold AZ at e
   simp only [Bool.and_eq_true,beq_iff_eq] at e
   simp [Fq,e.1,e.2]
  exact C9 (AO e Do Do) λ_=>hb (DX (LA hi).1) hi rfl
theorem HR (d:Nat):Dv (Kv d):=Dv.of λs n s' h=>by
 have hd:DG (F5 (Dl (DU (d - 1)))):=sq (Nq (Nr _))
 refine hd s n s' ?_
 unfold Kv Ia at h
 grind
theorem et {e:Er}:∀s,Rd.wp (Rd.fail e:Rd Nd) s (λn s'=>∀s0,Bh [o] s0 s->Bh [n] s0 s') DP:=λs=>trivial
theorem OG (U:M5 L):Dv (oV L):=bt U (Ns U)
theorem Lu (U:Dv A) (hL:M5 L):Dv (P9 A L):=w4 (OG hL) U
theorem KO (hA:Dv A) (U:M5 L):Dv (Mp A L):=sA U (Lu hA U)
theorem ep (hA:Dv A) (U:M5 L):Dv (rH A L):=wZ U (RA (OG U)) (Lu hA U) (KO hA U)
theorem KN (hA:Dv A) (U:M5 L):Dv (Rp A L):=sw U (Ns U) (RA (OG U)) (Lu hA U) (KO hA U) hA
theorem y7 (hA:Dv A) (U:M5 L):M5 (zX A L) where
 atom:=Ns U
 exp:=Lu hA U
 ops:=RA (OG U)
 decls:=Nu (KN hA U)
 stmts:=Nu (KO hA U)
 alts:=Nu (ep hA U)
 Ez:=λo=>mc (OG U) hA (Lu hA U)
 list:=λo=>sx (Lu hA U) (KO hA U)
theorem OE:∀d,M5 (cz d)
 |0=>⟨λ_=>trivial,λ_=>trivial,λ_=>trivial,λ_=>trivial,λ_=>trivial,λ_=>trivial,λo=>et,λo=>et⟩
 |d+1=>y7 (HR _) (OE d)
end
theorem Dv.sz {A:Rd Nd} {s:Ae} (h:Dv A) (U:A.run s=.inr (n,s')) (hm:mu s<=100000000):n.size<=1000000000:=by have:=h.size U;omega
theorem oW {s:Ae} (h:IE.run s=.inr (n,s')):∃x,n.kids[(Int.tdiv (n.kids.length:Int) 2).toNat]? =some x/\n.kids[n.kids.length / 2]? =some x:=by
 unfold IE at h
 replace h:(if JH (Ab s).1=true then Rd.seq Az λt=>.ret (As 18 [t]) else Rd.seq (A0 15 [96]) λo=>.seq (CX [1,2,3,4]) λn=>.seq (A0 15 [96]) λc=>.ret (As 18 [o,n,c]):Rd Nd).run s=.inr (n,s'):=h
 split at h
 .obtain ⟨t,s1,_,h⟩:=AU h
  cases h
  exact ⟨t,(by show [t][(Int.tdiv (1:Int) 2).toNat]? =some t;rw [show (Int.tdiv (1:Int) 2).toNat=0 by decide];rfl),by simp [As,Nd.kids]⟩
 .obtain ⟨o,s1,_,h⟩:=AU h
  obtain ⟨x,s2,_,h⟩:=AU h
  obtain ⟨c,s3,_,h⟩:=AU h
  cases h
  exact ⟨x,(by show [o,x,c][(Int.tdiv (3:Int) 2).toNat]? =some x;rw [show (Int.tdiv (3:Int) 2).toNat=1 by decide];rfl),by simp [As,Nd.kids]⟩
section
variable {st0 st:St} {b d:Nat} {s:Ae} {rows:List (AH×List Nd)} {K:AB->St->Prop} {L:Fi}
attribute [local irreducible] Go.Aw.Am
theorem sk (h:K (.ret (.bool (JV n))) st):PC 343 [enc n] st K:=by
 refine pB Tryz.func343 ?_
 repeat' ((conv=>whnf);(first|refine Ba ?_|refine Bb ?_ ?_|refine Bc ?_ ?_|refine vB ?_)<;>intros)
 all_goals conv=>whnf
 all_goals (refine Av h ?_;clear h;simp_all [JV])
theorem Yq:AX enc 341 (λb=>[pv b d,.func 344 [] [],.func 345 [] []]) (Du IE GK):=
 Ly QI λhr _ k=>by obtain ⟨x,U,h2⟩:=oW hr;exact o4 U h2 k
theorem sK:AX enc 341 (λb=>[pv b d,.func 342 [] [],.func 343 [] []]) (Du Az JV):=
 Ly bP λ_ _ k=>sk k
theorem sQ {atom:Rd Nd} (ha:AX enc 349 (λb=>[pv b d]) atom) (U:Dv atom):AX enc 341 (λb=>[pv b d,.func 349 [] [],.func 348 [] []]) (Du atom To):=
 Ly ha λhr hm k=>eO (Dv.sz U hr hm) k
theorem ir:AX enc 309 (λb=>[pv b d]) JY:=by
 refine ⟨λ{st0 b s st rows K} U h=>?_⟩
 simp only [JY,JX,Rd.Ag,Rd.Ax,Rd.wp_seq,Rd.wp_ret] at h
 have hmu:=U.mu
 refine pB Tryz.func309 ?_
 repeat' ((conv=>whnf);(first|refine Ba ?_|refine Bb ?_ ?_|refine Bc ?_ ?_|refine Cx.Hp (l:=[_]) (Cx.push ‹_› [_]) (Nat.le_of_ble_eq_true rfl) ?_|refine IQ ?_|refine Mw ?_ ?_|refine Lm ?_|refine JP ?_ ?_|exact FY|refine KE ?_|refine Mg ?_|refine Ad ?_|refine Gl.go (by first|exact AX.q|exact sK.a|exact Yq.a) ?_ ?_)<;>intros)
 all_goals refine CS (λl own=>[(3,.slice 6 (l.map AP) own)]) (λ_ _=>[]) [1,2] [0,1] (λl own=>(own,l)::rows) (λl=>l.length) _ ‹_› ‹_› RK Yl ?_
 all_goals intro l s1 st1 own1 U h hl hm1
 all_goals simp only [VM,Rd.Ag,Rd.Ax,Rd.wp_seq,Rd.wp_ret,Rd.BJ] at h
 all_goals (repeat' ((conv=>whnf);(first|refine Ba ?_|refine Bb ?_ ?_|refine Bc ?_ ?_|refine IQ ?_|refine Mw ?_ ?_|refine Lm ?_|refine JP ?_ ?_|exact FY|refine KE ?_|refine Mg ?_|refine Ad ?_|refine Gl.go (by first|exact AX.q|exact Yq.a) ?_ ?_)<;>intros))
theorem yq {atom full:Rd Nd} (hn:n.size<=1000000000) (ha:AX enc 349 (λb=>[pv b d]) atom) (hD:Dv atom) (hf:AX enc 350 (λb=>[pv b d]) full):AX enc 312 (λb=>[pv b d,enc n]) (ZG atom full n):=by
 refine ⟨λ{st0 b s st rows K} U h=>?_⟩
 simp only [ZG,Rd.Ax,Rd.wp_seq,Rd.wp_ret,Rd.ED] at h
 have hmu:=U.mu
 refine pB Tryz.func312 ?_
 repeat' ((conv=>whnf);(first|exact Dr|refine Ba ?_|(refine Ds ?_ ?_ ?_;rotate_left)|refine Bb ?_ ?_|refine Bc ?_ ?_|refine IQ ?_|refine Mw ?_ ?_|refine Lm ?_|refine JP ?_ ?_|exact FY|refine KE ?_|refine Mg ?_|refine Ad ?_|refine eO hn ?_|refine V9 ?_|refine V8 ?_|refine Af [(0,true),(1,true),(2,false),(3,false)] [] GE ?_|with_reducible refine WF ?_)<;>intros)
 all_goals refine CS (λl own=>[(5,.slice 6 (l.map AP) own)]) (λ_ _=>[]) [2,3,4] [0,1,2] (λl own=>(own,l)::rows) (λl=>l.length) .full (Cx.push ‹_› _) ‹_› (by show 1+_<=_;omega) Yl ?_
 all_goals intro l s1 st1 own1 U h hl hm1
 all_goals simp only [yp,Rd.Ag,Rd.Ax,Rd.wp_seq,Rd.wp_ret,Rd.BJ] at h
 all_goals (repeat' ((conv=>whnf);(first|exact Dr|refine Ba ?_|(refine Ds ?_ ?_ ?_;rotate_left)|refine Bb ?_ ?_|refine Bc ?_ ?_|refine IQ ?_|refine Mw ?_ ?_|refine Lm ?_|refine JP ?_ ?_|exact FY|refine KE ?_|refine Mg ?_|refine Ad ?_|refine Gl.go (by first|exact AX.q|exact (sQ ha hD).a) ?_ ?_|with_reducible refine WF ?_)<;>intros))
theorem sj {atom ops exp full:Rd Nd} (hL:Mt d L) (ha:AX enc 349 (λb=>[pv b d]) atom) (hD:Dv atom) (ho:AX enc 310 (λb=>[pv b d]) ops) (hE:Dv ops) (he:AX enc 353 (λb=>[pv b d]) exp)
 (hs:AX enc 388 (λb=>[pv b d]) stmt) (hf:AX enc 350 (λb=>[pv b d]) full):AX enc 272 (λb=>[pv b d]) (Rq L atom ops exp stmt full):=by
 refine ⟨λ{st0 b s st rows K} hc h=>?_⟩
 simp only [Rq,Rd.Ag,Rd.Ax,Rd.wp_seq,Rd.wp_ret,Rd.ED] at h
 have U:=hc.mu
 refine pB Tryz.func272 ?_
 repeat' ((conv=>whnf);(first|exact Dr|refine Ba ?_|(refine Ds ?_ ?_ ?_;rotate_left)|refine Bb ?_ ?_|refine Bc ?_ ?_|refine IQ ?_|refine Mw ?_ ?_|exact FY|refine KE ?_|refine Ad ?_|refine VL ?_|refine Gl.go (by first|exact AX.q|exact ir.a|exact (yq (Dv.sz hE ‹_› U) ha hD hf).a|exact (pw hL he hs).a) ?_ ?_|refine zo ?_|refine V9 ?_|refine V8 ?_|refine Af [(0,true),(1,true),(2,false),(3,true),(4,false),(5,false)] [1] GE ?_|with_reducible refine WF ?_)<;>intros)
end
end Go.Proofs.Z
namespace Go.Aw
theorem NB {fs:List V} {k:List V->Prop} (h:k (fs++cs)):F4 (fs++([]++cs)) k:=Bp.2 h
end Go.Aw
namespace Go.Proofs.Z
open Go Go.Aw
theorem Dv.vN {A:Rd Nd} (h:Dv A):Rd.A4 A:=λs n s' e=>by
 have U:=h.size e
 have h2:=size_pos n
 omega
def Fx (starts:Tk->Bool) (item:List Nd->Rd Nd) (f:Bool) (l:List Nd):Rd (Sum (List Nd) (List Nd)):=.seq MU λ_=>.look λs=>.seq (FD f (!starts (Ab s).1)) λe=>
 if e=true then .ret (.inr l) else .seq (item l) λn=>.look λs=>.seq (FD f (!Hc (Ab s).1)) λe=>if e=true then .ret (.inr (l++[n])) else .ret (.inl (l++[n]))
def JS (starts:Tk->Bool) (item:List Nd->Rd Nd):Rd Nd:=.look λs=>if ((Ab s).1.kind==18)=true then .seq Hl λ_=>.seq (.loop (Fx starts item false) []) λl=>.ret (C6 false l)
 else .seq (A0 15 [123]) λ_=>.seq (.loop (Fx starts item true) []) λl=>.ret (C6 true l)
theorem YY {ih:(AF->Env->St->Prop)->Env->St->Prop} {Q0:AF->Env->St->Prop} {st:St} {s:Ae} {Q:β->Ae->Prop} {body:σ->Rd (Sum σ β)} {x0:σ} (base:σ->St)
 (f:σ->AH->List (Nat×V)) (g:σ->AH->List (Nat×List V)) (keep kb:List Nat) (rw:σ->AH->List (AH×List Nd)) (wt:σ->Nat) (U:AH) (hc:Cx (base x0) b s st (rw x0 U)) (h:Rd.wp (Rd.loop body x0) s Q E) (hl:wt x0+4*mu s<=500000000)
 (he:(env.Ow (f x0 U) (g x0 U) keep kb).FF env)
 (hb:∀x s1 st1 own1,Cx (base x) b s1 st1 (rw x own1)->Rd.wp (body x) s1 (Rd.again body s1 Q E) E->wt x+4*mu s1<=500000000->mu s1<=mu s->
   ih (Ca (λenv' st'=>∃y:LS σ,(Cx (base y.x) b y.s y.m (rw y.x y.o)/\Rd.wp (Rd.loop body y.x) y.s Q E/\wt y.x+4*mu y.s<=500000000/\mu y.s<=mu s)/\mu y.s<mu s1/\(env.Ow (f y.x y.o) (g y.x y.o) keep kb).FF env'/\St.le y.m st') Q0)
    (env.Ow (f x own1) (g x own1) keep kb) st1):
 ∃(α:Type) (E:α->Env) (S:α->St) (J:α->Prop) (μ:α->Nat) (x0:α),J x0/\(E x0).FF env/\St.le (S x0) st/\
  ∀x,J x->ih (Ca (λenv' st'=>∃y,J y/\μ y<μ x/\(E y).FF env'/\St.le (S y) st') Q0) (E x) (S x):=
 ⟨LS σ,λy=>env.Ow (f y.x y.o) (g y.x y.o) keep kb,λy=>y.m,
   λy=>Cx (base y.x) b y.s y.m (rw y.x y.o)/\Rd.wp (Rd.loop body y.x) y.s Q E/\wt y.x+4*mu y.s<=500000000/\mu y.s<=mu s,λy=>mu y.s,⟨x0,s,st,U⟩,⟨hc,h,hl,Nat.le_refl _⟩,he,St.le_refl _,
   λy ⟨j1,j2,j3,j4⟩=>hb y.x y.s y.m y.o j1 (by rw [<-Rd.wp_loop];exact j2) j3 j4⟩
section
variable {st0 st:St} {b d:Nat} {s:Ae} {rows:List (AH×List Nd)} {K:AB->St->Prop} {L:Fi}
attribute [local irreducible] Go.Aw.Am
theorem ee (hb:s.DE.length<=500000000) (h:K (.ret (.BM [D4 (Ck s).1,.bool (Ck s).2])) st):PC 269 [D4 s] st K:=by
 refine pB Tryz.func269 ?_
 have h0:¬Ey s=0->s.DE≠[]:=λe e2=>e (by unfold Ey;rw [e2];rfl)
 unfold Ck at h
 by_cases U:G9 s=true
 .by_cases hw:s.wait=1
  .rw [if_neg AC] at h
   repeat' ((conv=>whnf);(first|refine Ba ?_|refine Bb ?_ ?_|refine Bc ?_ ?_|refine Y4 ?_|refine P1 ?_)<;>intros)
   all_goals first|exact BR rfl h|(rw [U] at *;simp at *)
  .by_cases ht:Ey s=0
   .rw [if_neg AC] at h
    repeat' ((conv=>whnf);(first|refine Ba ?_|refine Bb ?_ ?_|refine Bc ?_ ?_|refine Y4 ?_|refine P1 ?_)<;>intros)
    all_goals first|exact BR rfl h|(rw [U] at *;simp at *)
   .rw [if_pos ⟨U,hw,ht⟩] at h
    repeat' ((conv=>whnf);(first|refine Ba ?_|refine Bb ?_ ?_|refine Bc ?_ ?_|refine Y4 ?_|refine P1 ?_|refine Nj (h0 ht) hb ?_)<;>intros)
    all_goals first|exact BR rfl h|(rw [U] at *;simp at *)
 .rw [if_neg (by simp [U])] at h
  repeat' ((conv=>whnf);(first|refine Ba ?_|refine Bb ?_ ?_|refine Bc ?_ ?_|refine Y4 ?_|refine P1 ?_)<;>intros)
  all_goals first|exact BR rfl h|exact absurd ‹_› U
def bv (x:Bool):V:=.bool x
theorem mz {f m:Bool}:AX bv 223 (λb=>[.ptr b 0,.bool f,.bool m]) (FD f m):=by
 refine ⟨λ{st0 b s st rows K} U h=>?_⟩
 simp only [FD,Rd.Ag,Rd.Ax,Rd.wp_seq,Rd.wp_ret] at h
 have hc1:=U.look
 refine pB Tryz.func223 ?_
 have hcl:Rd.wp MD s (λ_ s'=>∀st',Cx st0 b s' st' rows->K (.ret (.bool true)) st') (λe s'=>∀st',Cy st0 b s' st' rows->K (.Cd (fault e.1)) st')->if (Ck s).2=true then mu (Ck s).1<=mu s/\∀st',Cx st0 b (Ck s).1 st' rows->K (.ret (.bool true)) st'
  else Rd.wp (HO:Rd Unit) s (λ_ s'=>∀st',Cx st0 b s' st' rows->K (.ret (.bool true)) st') (λe s'=>∀st',Cy st0 b s' st' rows->K (.Cd (fault e.1)) st'):=λh=>by
  unfold MD Rd.wp at h
  dsimp only at h
  split
  .rename_i e;rw [if_pos e] at h;exact ⟨OB e,h⟩
  .rename_i e;rw [if_neg e] at h;exact h
 have hmu:=U.mu
 cases f
 .simp only [Bool.false_eq_true,if_false] at h
  cases m
  .simp only [Bool.false_eq_true,if_false] at h
   repeat' ((conv=>whnf);(first|refine Ba ?_|refine Bb ?_ ?_|refine Bc ?_ ?_|refine Hk U.has U.hb ?_|refine LV hc1 ‹_› AC ?_|exact Dn hc1 ‹_› rfl|refine IQ ?_|refine lg ?_|exact FY|refine Ad ?_)<;>intros)
  .simp only [if_true] at h
   repeat' ((conv=>whnf);first|refine XY (hcl h) (λe h=>?_) (λe h=>?_)|(refine Ba ?_;intros)|(refine Bb ?_ ?_<;>intro e h)|(refine Bc ?_ ?_<;>intro _)|refine Hk U.has U.hb ?_|refine LV hc1 h AC (λs1 st1 hz hm U h=>?_)|refine Ah (St.Aj ..) ?_|refine ee U.hb ?_|refine ze hc1 AC (λst1 U=>?_)|exact Dn U h.2 rfl|refine T2 hc1 h (λe s1 st1 U h=>?_)|(refine IQ ?_;intro st1 U)|(refine lg ?_;intro e s1 st1 U h)|exact FY|refine Ad (λe1=>?_))
 .simp only [if_true] at h
  by_cases hi:AZ s 15 [125]=true
  .rw [if_pos hi] at h
   obtain ⟨h1,h2⟩:(Ab s).1.kind=15/\(Ab s).1.text=[125]:=by
    unfold AZ at hi
    simp only [Bool.and_eq_true,beq_iff_eq] at hi
    exact hi
   repeat' ((conv=>whnf);(first|refine Ba ?_|refine Bb ?_ ?_|refine Bc ?_ ?_|refine Hk U.has U.hb ?_|refine LV hc1 ‹_› AC ?_|refine IQ ?_|refine lg ?_|exact FY|refine Ad ?_)<;>intros)
  .rw [if_neg hi] at h
   have hx:(Ab s).1.kind=15->¬(Ab s).1.text=[125]:=λh1 h2=>hi (by unfold AZ;rw [h1,h2];rfl)
   cases m
   .simp only [Bool.false_eq_true,if_false] at h
    repeat' ((conv=>whnf);(first|refine lA (beq_eq_false_iff_ne.2 (hx ‹_›)) ?_|refine Ba ?_|refine Bb ?_ ?_|refine Bc ?_ ?_|refine Hk U.has U.hb ?_|exact Dn hc1 ‹_› rfl|refine IQ ?_|refine lg ?_|exact FY|refine Ad ?_)<;>intros)
   .simp only [if_true] at h
    repeat' ((conv=>whnf);(first|refine lA (beq_eq_false_iff_ne.2 (hx ‹_›)) ?_|refine Ba ?_|refine Bb ?_ ?_|refine Bc ?_ ?_|refine Hk U.has U.hb ?_|refine Ah (St.Aj ..) ?_|refine ee U.hb ?_|refine T2 hc1 ‹_› ?_|refine IQ ?_|refine lg ?_|exact FY|refine Ad ?_)<;>intros)
theorem Qu {f m U:Bool} (e:U=m):AX bv 223 (λb=>[.ptr b 0,.bool f,.bool m]) (FD f U):=by rw [e];exact mz
theorem vX {b:Bool} (h:b=true):(!b)=false:=by rw [h];rfl
theorem vW {b:Bool} (h:b=false):(!b)=true:=by rw [h];rfl
theorem RM {own:AH}:AB.ret (enc (C6 false l))=(AB.ret (.agg [.int .i64 2,.int .i64 0,.str [],.int .i64 0,.int .i64 0,.slice 6 (l.map AP) own])).wk:=by unfold C6;rw [mw];rfl
theorem RN {own:AH}:AB.ret (enc (C6 true l))=(AB.ret (.agg [.int .i64 2,.int .i64 1,.str [],.int .i64 0,.int .i64 0,.slice 6 (l.map AP) own])).wk:=by unfold C6;rw [mw];rfl
def yN (base:List Nd->St) (st0:St) (b:Nat) (i:FuncId) (cs:List V) (item:List Nd->Rd Nd):Prop:=∀(l:List Nd) (s:Ae) (st:St) (rows:List (AH×List Nd)) (K:AB->St->Prop) (Q:Nd->Ae->Prop) (E:Er->Ae->Prop),Cx (base l) b s st rows->Rd.wp (item l) s Q E->
 (∀n s1 U,mu s1<mu s->Cx (base (l++[n])) b s1 U rows->Q n s1->K (.ret (enc n)) U)->(∀e s1 U,Cy st0 b s1 U rows->E e s1->K (.Cd (fault e.1)) U)->PC i cs st K
theorem T4 {i:FuncId} {fs:List V} {starts:Tk->Bool} {base:List Nd->St} {item:List Nd->Rd Nd} (hg:∀{t:Tk} {st:St} {K:AB->St->Prop},K (.ret (.bool (starts t))) st->PC g [F1 t] st K)
 (hi:yN base st0 b i (fs++cs) item) (hx:∀{l s st rows},Cy (base l) b s st rows->Cy st0 b s st rows) (hc:Cx (base []) b s st rows)
 (h:Rd.wp (JS starts item) s (λn s'=>∀l st',Cx (base l) b s' st' rows->K (.ret (enc n)) st') (λe s'=>∀st',Cy st0 b s' st' rows->K (.Cd (fault e.1)) st')):
 PC 189 [.ptr b 0,.func g [] [],.func i fs cs] st K:=by
 simp only [JS,Rd.Ag,Rd.Ax,Rd.wp_seq,Rd.wp_ret] at h
 have hmu:=hc.mu
 refine pB Tryz.func189 ?_
 repeat' ((conv=>whnf);first|exact Dr|(refine Ba ?_;intros)|(refine Ds ?_ ?_ ?_;rotate_left)|(refine Bb ?_ ?_<;>intro e h)|(refine Bc ?_ ?_<;>intro _)|(refine IQ ?_;intro U hc)|(refine JP ?_ ?_<;>(first|intro n s1 U hr hm hc h|intro e s1 U hc h))|exact FY|(refine Mg ?_;intro own1 U hc)|refine Ad (λe1=>?_)|refine LV hc h AC (λs1 U hz hm hc h=>?_)|exact B5 (hx hc) h|refine Af [(0,true),(1,true),(2,true),(3,true),(4,true),(5,true),(6,false),(7,false),(8,true),(9,false)] [] GE ?_|refine Af [(0,true),(1,true),(2,true),(3,false),(4,true),(5,false),(6,true),(7,false)] [1] GE ?_|refine Af [(0,true),(1,true),(2,true),(3,true),(4,true),(5,false),(6,false),(7,true),(8,false)] [] GE ?_|with_reducible refine WF ?_)
 .refine YY base (λl own=>[]) (λl own=>[(1,[.int .i64 2,.int .i64 0,.str [],.int .i64 0,.int .i64 0,.slice 6 (l.map AP) own])]) [0,1,2,6,7] [0] (λl own=>(own,l)::rows) (λl=>l.length) .full (hc.push []) h i7 Yl ?_
  intro l s1 U own1 hc h hl hm1
  simp only [Fx,Rd.Ag,Rd.Ax,Rd.wp_seq,Rd.wp_ret,Rd.BJ] at h
  repeat' ((conv=>whnf);(first|exact Dr|refine Ba ?_|(refine Ds ?_ ?_ ?_;rotate_left)|refine Bb ?_ ?_|refine Bc ?_ ?_|with_reducible refine WF ?_)<;>intros)
  unfold MU at h
  refine CS (λ_ _=>[]) (λ_ _=>[]) [0,1,2,6,7] [0,1] (λ_ _=>(own1,l)::rows) (λ_=>l.length) .full ‹_› ‹_› hl Yl ?_
  intro u s2 st2 own2 hc h hl hm2
  simp only [Xi,Rd.Ag,Rd.Ax,Rd.wp_seq,Rd.wp_ret,Rd.BJ] at h
  repeat' ((conv=>whnf);first|exact Dr|(refine Ba ?_;intros)|(refine Ds ?_ ?_ ?_;rotate_left)|(refine Bb ?_ ?_<;>intro e h)|(refine Bc ?_ ?_<;>intro _)|(refine IQ ?_;intro U hc)|(refine JP ?_ ?_<;>(first|intro n s1 U hr hm hc h|intro e s1 U hc h))|exact FY|(refine Mg ?_;intro own1 U hc)|refine Ad (λe1=>?_)|refine Xh ?_|refine hg ?_|refine LV hc h (N5 ‹_›) (λs1 U hz hm hc h=>?_)|refine AX.go (Qu (vX ‹_›)) hc h (λv s1 U hr hm hc h=>?_) (λe s1 U hc h=>?_)|refine AX.go (Qu (vW ‹_›)) hc h (λv s1 U hr hm hc h=>?_) (λe s1 U hc h=>?_)|refine NB ?_|refine hi _ _ _ _ _ _ _ hc h (λn s1 U hm hc h=>?_) (λe s1 U hc h=>?_)|exact B5 (hx hc).drop h|exact B5 (Cy.drop hc) h|exact Dn hc.drop (h l) RM|exact Dn hc.drop (h (l++[_])) RM|refine Af [(0,true),(1,true),(2,true),(3,true),(4,true),(5,true),(6,false),(7,false),(8,true),(9,false)] [] GE ?_|refine Af [(0,true),(1,true),(2,true),(3,false),(4,true),(5,false),(6,true),(7,false)] [1] GE ?_|refine Af [(0,true),(1,true),(2,true),(3,true),(4,true),(5,false),(6,false),(7,true),(8,false)] [] GE ?_|with_reducible refine WF ?_)
  all_goals conv=>whnf
  all_goals exact ⟨⟨(),_,_,.full⟩,⟨hc,Rd.Fk h AC,UV,UV⟩,UV,Yl,St.le_refl _⟩
 .refine YY base (λl own=>[]) (λl own=>[(1,[.int .i64 2,.int .i64 1,.str [],.int .i64 0,.int .i64 0,.slice 6 (l.map AP) own])]) [0,1,2,6,7] [0] (λl own=>(own,l)::rows) (λl=>l.length) .full (hc.push []) h i7 Yl ?_
  intro l s1 U own1 hc h hl hm1
  simp only [Fx,Rd.Ag,Rd.Ax,Rd.wp_seq,Rd.wp_ret,Rd.BJ] at h
  repeat' ((conv=>whnf);(first|exact Dr|refine Ba ?_|(refine Ds ?_ ?_ ?_;rotate_left)|refine Bb ?_ ?_|refine Bc ?_ ?_|with_reducible refine WF ?_)<;>intros)
  unfold MU at h
  refine CS (λ_ _=>[]) (λ_ _=>[]) [0,1,2,6,7] [0,1] (λ_ _=>(own1,l)::rows) (λ_=>l.length) .full ‹_› ‹_› hl Yl ?_
  intro u s2 st2 own2 hc h hl hm2
  simp only [Xi,Rd.Ag,Rd.Ax,Rd.wp_seq,Rd.wp_ret,Rd.BJ] at h
  repeat' ((conv=>whnf);first|exact Dr|(refine Ba ?_;intros)|(refine Ds ?_ ?_ ?_;rotate_left)|(refine Bb ?_ ?_<;>intro e h)|(refine Bc ?_ ?_<;>intro _)|(refine IQ ?_;intro U hc)|(refine JP ?_ ?_<;>(first|intro n s1 U hr hm hc h|intro e s1 U hc h))|exact FY|(refine Mg ?_;intro own1 U hc)|refine Ad (λe1=>?_)|refine Xh ?_|refine hg ?_|refine LV hc h (N5 ‹_›) (λs1 U hz hm hc h=>?_)|refine AX.go (Qu (vX ‹_›)) hc h (λv s1 U hr hm hc h=>?_) (λe s1 U hc h=>?_)|refine AX.go (Qu (vW ‹_›)) hc h (λv s1 U hr hm hc h=>?_) (λe s1 U hc h=>?_)|refine NB ?_|refine hi _ _ _ _ _ _ _ hc h (λn s1 U hm hc h=>?_) (λe s1 U hc h=>?_)|exact B5 (hx hc).drop h|exact B5 (Cy.drop hc) h|exact Dn hc.drop (h l) RN|exact Dn hc.drop (h (l++[_])) RN|refine Af [(0,true),(1,true),(2,true),(3,true),(4,true),(5,true),(6,false),(7,false),(8,true),(9,false)] [] GE ?_|refine Af [(0,true),(1,true),(2,true),(3,false),(4,true),(5,false),(6,true),(7,false)] [1] GE ?_|refine Af [(0,true),(1,true),(2,true),(3,true),(4,true),(5,false),(6,false),(7,true),(8,false)] [] GE ?_|with_reducible refine WF ?_)
  all_goals conv=>whnf
  all_goals exact ⟨⟨(),_,_,.full⟩,⟨hc,Rd.Fk h AC,UV,UV⟩,UV,Yl,St.le_refl _⟩
theorem Re {i:FuncId} {starts:Tk->Bool} {item:Rd Nd} (hg:∀{t:Tk} {st:St} {K:AB->St->Prop},K (.ret (.bool (starts t))) st->PC g [F1 t] st K) (hi:AX enc i (λb=>[pv b d]) item) (hF:Dv item):
 AX enc 189 (λb=>[.ptr b 0,.func g [] [],.func i [pv b d] []]) (FB starts item):=
 ⟨λ{st0 b s st rows K} U h=>T4 (fs:=[pv b d]) (cs:=[]) (base:=λ_=>st0) (item:=λ_=>item) hg (λl s st rows K Q E U h k kb=>hi.vP hF.vN U h (λn s1 st1 _ hm U q=>k n s1 st1 hm U q) kb) (λh=>h) U
   (Rd.wp_mono (show Rd.wp (JS starts λ_=>item) s _ _ from h) (λ_ _ _ h _=>h) (λ_ _ _ h=>h))⟩
end
section
variable {st:St} {R:AB->St->Prop}
attribute [local irreducible] Go.Aw.Am
theorem dY {c:Nat} {s:Ae} {deep:Int} {q:Rs} (hq:¬deep<1->∀(b:Nat) (st5:St) (R:AB->St->Prop),st.le st5->Has st5 b s->Fj st5 b R q->PC f [.ptr b 0,.int .i64 (if 100<deep then 100 else deep),.ptr c 0] st5 R) (h:R (.ret (Kt (BV s deep q))) st):PC 64 [D4 s,.int .i64 deep,.func f [] [.ptr c 0]] st R:=by
 refine A9.ends (Kd Ac [6,7,8,9,12] Tryz.func64 rfl Do rfl rfl rfl rfl rfl rfl ⟨_,Tryz.func107,rfl,Do⟩ rfl ?_)
 repeat' ((conv=>whnf);first|exact Dr|(refine Ba ?_;intros)|(refine Ds ?_ ?_ ?_;rotate_left)|(refine Bb ?_ ?_<;>intro e h)|(refine Bc ?_ ?_<;>intro _)|refine NN (λb5 f5=>?_)|refine Ah (St.Aj ..) ?_|with_reducible refine WF ?_)
 rename_i b1 f1 b2 f2 b3 f3 b4 f4
 obtain ⟨n12,f2a⟩:=A5 f2
 obtain ⟨n23,f3a⟩:=A5 f3
 obtain ⟨n13,f3b⟩:=A5 f3a
 obtain ⟨n34,f4a⟩:=A5 f4
 obtain ⟨n24,f4b⟩:=A5 f4a
 obtain ⟨n14,f4c⟩:=A5 f4b
 obtain ⟨n45,f5a⟩:=A5 f5
 obtain ⟨n35,f5b⟩:=A5 f5a
 obtain ⟨n25,f5c⟩:=A5 f5b
 obtain ⟨n15,f5d⟩:=A5 f5c
 conv=>whnf
 refine ⟨rfl,AR rfl ?_⟩
 generalize hst5:St.Aa _ b5 [V.ptr b4 0]=st5
 have k1:st5.box b1=some Dy:=by subst hst5;rw [St.Ai n15.symm,St.Ai n15.symm,St.Ai n14.symm,St.Ai n13.symm,St.Ai n12.symm,St.Aj];rfl
 have k2:st5.box b2=some [.slice 4 (AQ Fv.Ar) .full,.int .i64 Fv.pos,.slice 1 (ints Fv.DE) .full,.int .i64 Fv.wait]:=by subst hst5;rw [St.Ai n25.symm,St.Ai n25.symm,St.Ai n24.symm,St.Ai n23.symm,St.Aj];rfl
 have k3:st5.box b3=some [.int .i64 0]:=by subst hst5;rw [St.Ai n35.symm,St.Ai n35.symm,St.Ai n34.symm,St.Aj]
 have k4:Has st5 b4 s:=by subst hst5;refine .inr ⟨Tz,Fv,.full,.full,0,?_⟩;rw [St.Ai n45.symm,St.Ai n45.symm,St.Aj];rfl
 have k5:st5.box b5=some [.ptr b4 0]:=by subst hst5;rw [St.Aj]
 have kle:st.le st5:=by
  subst hst5
  exact St.Ak (St.Ak (St.Ak (St.Ak (St.Ak (St.Ak (St.le_refl _) f1.1 _) f2a.1 _) f3b.1 _) f4c.1 _) f5d.1 _) f5d.1 _
 have kpan:∀(U:St) (e:Int) (s':Ae),Io st5 U b4 s'->U.box b5=some [.ptr b4 0]/\U.box b1=some Dy/\U.box b2=some [.slice 4 (AQ Fv.Ar) .full,.int .i64 Fv.pos,.slice 1 (ints Fv.DE) .full,.int .i64 Fv.wait]/\U.box b3=some [.int .i64 0]/\st.le U:=by
  rintro U e s' ⟨_,cs,rfl⟩
  exact ⟨by rw [St.Ai n45];exact k5,by rw [St.Ai n14.symm];exact k1,by rw [St.Ai n24.symm];exact k2,by rw [St.Ai n34.symm];exact k3,St.Ak kle f4c.1 _⟩
 clear hst5 f2 f3 f4 f5 f3a f4a f4b f5a f5b f5c
 refine Al (An Ac ?_)
 repeat' ((conv=>whnf);(first|exact Dr|refine Ba ?_|(refine Ds ?_ ?_ ?_;rotate_left)|refine Bb ?_ ?_|refine Bc ?_ ?_|refine Ah k5 ?_|refine CD ?_|with_reducible refine WF ?_)<;>intros)
 .refine JU (n0:=Gj) (s0:=Fv) k5 k4 k1 k2 k3 n15 n14 n12 n13 n25 n24 n23 ?_
  have g1:(((st5.Aa b1 Dy).Aa b2 s.cells).Aa b3 [.int .i64 2]).box b1=some Dy:=by rw [St.Ai n13.symm,St.Ai n12.symm,St.Aj]
  have g2:(((st5.Aa b1 Dy).Aa b2 s.cells).Aa b3 [.int .i64 2]).box b2=some s.cells:=by rw [St.Ai n23.symm,St.Aj]
  have gl:st.le (((st5.Aa b1 Dy).Aa b2 s.cells).Aa b3 [.int .i64 2]):=St.Ak (St.Ak (St.Ak kle f1.1 _) f2a.1 _) f3b.1 _
  unfold BV at h
  rw [if_pos ‹_›] at h
  repeat' ((conv=>whnf);(first|exact Dr|refine Ba ?_|(refine Ds ?_ ?_ ?_;rotate_left)|refine Bb ?_ ?_|refine Bc ?_ ?_|refine Ah g1 ?_|refine Ah g2 ?_|refine Ah (St.Aj ..) ?_|with_reducible refine WF ?_)<;>intros)
  all_goals exact EV gl rfl h
 .rename_i hd
  unfold BV at h
  rw [if_neg hd] at h
  have hq:=λst5 R h=>hq hd b4 st5 R h
  refine Al (An Ac ?_)
  cases q with
  |inl q=>
   obtain ⟨e,s'⟩:=q
   repeat' ((conv=>whnf);first|exact Dr|(refine Ba ?_;intros)|(refine Ds ?_ ?_ ?_;rotate_left)|(refine Bb ?_ ?_<;>intro e h)|(refine Bc ?_ ?_<;>intro _)|refine Ah k5 ?_|refine ⟨_,rfl,?_⟩|refine hq _ _ kle k4 (λU hu=>?_)|with_reducible refine WF ?_)
   obtain ⟨j5,j1,j2,j3,jle⟩:=kpan U e s' hu
   refine JU (n0:=Gj) (s0:=Fv) j5 hu.1 j1 j2 j3 n15 n14 n12 n13 n25 n24 n23 ?_
   have g1:(((U.Aa b1 Dy).Aa b2 s'.cells).Aa b3 [.int .i64 e]).box b1=some Dy:=by rw [St.Ai n13.symm,St.Ai n12.symm,St.Aj]
   have g2:(((U.Aa b1 Dy).Aa b2 s'.cells).Aa b3 [.int .i64 e]).box b2=some s'.cells:=by rw [St.Ai n23.symm,St.Aj]
   have gl:st.le (((U.Aa b1 Dy).Aa b2 s'.cells).Aa b3 [.int .i64 e]):=St.Ak (St.Ak (St.Ak jle f1.1 _) f2a.1 _) f3b.1 _
   repeat' ((conv=>whnf);(first|exact Dr|refine Ba ?_|(refine Ds ?_ ?_ ?_;rotate_left)|refine Bb ?_ ?_|refine Bc ?_ ?_|refine Ah g1 ?_|refine Ah g2 ?_|refine Ah (St.Aj ..) ?_|with_reducible refine WF ?_)<;>intros)
   all_goals exact EV gl rfl h
  |inr q=>
   obtain ⟨n,s'⟩:=q
   have kret:=λU hu=>kpan U 0 s' hu
   repeat' ((conv=>whnf);first|exact Dr|(refine Ba ?_;intros)|(refine Ds ?_ ?_ ?_;rotate_left)|(refine Bb ?_ ?_<;>intro e h)|(refine Bc ?_ ?_<;>intro _)|refine Ah k5 ?_|refine ⟨_,rfl,?_⟩|refine hq _ _ kle k4 (λU hu=>?_)|refine Ah (kret U hu).2.1 ?_|with_reducible refine WF ?_)
   obtain ⟨j5,j1,j2,j3,jle⟩:=kret U hu
   generalize hst7:U.Aa b1 (AP n)=st7
   have i1:st7.box b1=some (AP n):=by subst hst7;rw [St.Aj]
   have i5:st7.box b5=some [.ptr b4 0]:=by subst hst7;rw [St.Ai n15];exact j5
   have i2:st7.box b2=some [.slice 4 (AQ Fv.Ar) .full,.int .i64 Fv.pos,.slice 1 (ints Fv.DE) .full,.int .i64 Fv.wait]:=by subst hst7;rw [St.Ai n12];exact j2
   have i3:(st7.Aa b2 s'.cells).box b3=some [.int .i64 0]:=by subst hst7;rw [St.Ai n23,St.Ai n13];exact j3
   have i4:Has st7 b4 s':=by
    subst hst7
    rcases hu.1 with e|⟨t,u,o1,o2,e',e⟩
    .exact .inl (by rw [St.Ai n14];exact e)
    .exact .inr ⟨t,u,o1,o2,e',by rw [St.Ai n14];exact e⟩
   have ile:st.le st7:=by subst hst7;exact St.Ak jle f1.1 _
   refine Al (Ox Ac (BU _) (λbs=>lO bs b1 b2 b3 b4 b5 (AP n) s'.cells) (lQ st7 b2 b3 s'.cells) Qr GE Yl (by rw [<-hst7];exact St.le_refl _) ?_ ?_)
   .skip
    unfold Qr
    rcases i4 with i4|⟨t,u,q1,q2,q3,i4⟩
    all_goals repeat' (first|refine List.forall_mem_cons.2 ⟨?_,?_⟩|exact λ_ h=>nomatch h)
    repeat' ((conv=>whnf);(first|exact Dr|refine Ba ?_|(refine Ds ?_ ?_ ?_;rotate_left)|refine Bb ?_ ?_|refine Bc ?_ ?_|refine Ah i5 ?_|refine Ah i1 ?_|refine Ah i4 ?_|refine Ah i2 ?_|refine Ah i3 ?_|with_reducible refine WF ?_)<;>intros)
    all_goals conv=>whnf
    all_goals (refine ⟨Yl,?_⟩)
    all_goals first|exact St.le_refl _|exact EX i1
   .refine An Ac (Rh (bp:=b5) ?_)
    have g1:((st7.Aa b2 s'.cells).Aa b3 [.int .i64 0]).box b1=some (AP n):=by rw [St.Ai n13.symm,St.Ai n12.symm];exact i1
    have g2:((st7.Aa b2 s'.cells).Aa b3 [.int .i64 0]).box b2=some s'.cells:=by rw [St.Ai n23.symm,St.Aj]
    have gl:st.le ((st7.Aa b2 s'.cells).Aa b3 [.int .i64 0]):=St.Ak (St.Ak ile f2a.1 _) f3b.1 _
    repeat' ((conv=>whnf);(first|exact Dr|refine Ba ?_|(refine Ds ?_ ?_ ?_;rotate_left)|refine Bb ?_ ?_|refine Bc ?_ ?_|refine Ah g1 ?_|refine Ah g2 ?_|refine Ah (St.Aj ..) ?_|with_reducible refine WF ?_)<;>intros)
    all_goals exact EV gl rfl h
end
def CZ (A:Rd Nd) (s:Ae):Rs:=match A.run s with
 | .inl p=>.inl (p.1.1,p.2)
 | .inr p=>.inr p
section
variable {st0 st:St} {b c d:Nat} {s:Ae} {K R:AB->St->Prop}
theorem Cx.zO (h:Has st' b s') (hr:∃cs,Rx (st.Aa b cs) st' []):∃U,Io st U b s'/\St.le U st':=by
 obtain ⟨cs,hr⟩:=hr
 have hb:=hr.le.1 b cs (St.Aj ..)
 refine ⟨st.Aa b cs,⟨?_,cs,rfl⟩,hr.le⟩
 rcases h with e|⟨t,u,o1,o2,e0,e⟩
 .rw [hb] at e;injection e with e;subst e;exact .inl (St.Aj ..)
 .rw [hb] at e;injection e with e;subst e;exact .inr ⟨t,u,o1,o2,e0,St.Aj ..⟩
theorem S7 {A:Rd Nd} (hf:AX enc f mk A) (hs:Has st b s) (hm:mu s<=100000000) (ht:Fj st b K (CZ A s)):PC f (mk b) st K:=by
 refine A9.ends (hf.ap (Cx.start hs hm) (Rd.Va (λv s' e st' hc=>?_) (λe s' he st' hc=>?_)))
 .unfold CZ at ht
  rw [e] at ht
  obtain ⟨U,hu,hl⟩:=Cx.zO hc.has hc.rx
  exact ⟨_,U,.inl rfl,hl,ht U hu⟩
 .unfold CZ at ht
  rw [he] at ht
  obtain ⟨U,hu,hl⟩:=Cx.zO hc.has hc.rx
  exact ⟨_,U,.inl rfl,hl,ht U hu⟩
theorem yj {A:Rd Nd} (hA:AX enc g (λb=>[pv b d]) A) (hx:st.box c=some [.func g [] []]) (hs:Has st b s) (hm:mu s<=100000000) (ht:Fj st b K (CZ A s)):PC 308 [.ptr b 0,.int .i64 (d:Int),.ptr c 0] st K:=by
 have U:∀{K:AB->St->Prop},Fj st b K (CZ A s)->PC g [pv b d] st K:=λh=>S7 hA hs hm h
 refine pB Tryz.func308 ?_
 unfold CZ at *
 cases hr:A.run s with
 |inl p=>
  rw [hr] at ht U
  repeat' ((conv=>whnf);first|(refine Ba ?_;intros)|(refine Bb ?_ ?_<;>intro e h)|(refine Bc ?_ ?_<;>intro _)|refine Ah hx ?_|refine U (λst1 hu=>?_))
  all_goals exact ⟨_,_,.inl rfl,St.le_refl _,ht _ hu⟩
 |inr p=>
  rw [hr] at ht U
  repeat' ((conv=>whnf);first|(refine Ba ?_;intros)|(refine Bb ?_ ?_<;>intro e h)|(refine Bc ?_ ?_<;>intro _)|refine Ah hx ?_|refine U (λst1 hu=>?_))
  all_goals exact BR rfl (ht _ hu)
theorem mC {deep:Int} {A:Nat->Rd Nd} (hA:∀d:Nat,1<=d->d<=100->AX enc g (λb=>[pv b d]) (A d)) (hm:mu s<=100000000) (h:K (.ret (Kt (BV s deep (CZ (A (Ed deep)) s)))) st):
 PC 271 [D4 s,.int .i64 deep,.func g [] []] st K:=by
 refine A6 Ac [] Tryz.func271 rfl Do rfl ?_
 refine Al (An Ac ?_)
 repeat' ((conv=>whnf);(first|refine Ba ?_|refine Bb ?_ ?_|refine Bc ?_ ?_|fail)<;>intros)
 refine Ms 5 1 rfl rfl rfl (λc fc=>?_)
 refine An Ac ?_
 have hq:¬deep<1->∀(b:Nat) (U:St) (R:AB->St->Prop),(st.Aa c [.func g [] []]).le U->Has U b s->Fj U b R (CZ (A (Ed deep)) s)->PC 308 [.ptr b 0,.int .i64 (if 100<deep then 100 else deep),.ptr c 0] U R:=λhd b U R hle hs ht=>by
  have e:(if 100<deep then 100 else deep)=((Ed deep:Nat):Int):=by unfold Ed;split<;>omega
  rw [e]
  exact yj (hA _ (by unfold Ed;split<;>omega) (by unfold Ed;split<;>omega)) (hle.1 _ _ (St.Aj ..)) hs hm ht
 obtain ⟨n,s',e,hq3⟩:∃n s' e,BV s deep (CZ (A (Ed deep)) s)=(n,s',e):=⟨_,_,_,rfl⟩
 rw [hq3] at h
 have hcat:∀{K:AB->St->Prop},K (.ret (RB n s' e)) (st.Aa c [.func g [] []])->PC 64 [D4 s,.int .i64 deep,.func 308 [] [.ptr c 0]] (st.Aa c [.func g [] []]) K:=λk=>dY (s:=s) (q:=CZ (A (Ed deep)) s) hq (by rw [hq3];exact k)
 repeat' ((conv=>whnf);(first|refine Ba ?_|refine Bb ?_ ?_|refine Bc ?_ ?_|refine hcat ?_)<;>intros)
 all_goals exact EV (St.Ak (St.le_refl _) fc.1 _) rfl h
end
section
variable {d:Nat}
theorem l6 {t:Tk} {st:St} {K:AB->St->Prop} (h:K (.ret (.bool (IW t))) st):PC 389 [F1 t] st K:=by
 refine pB Tryz.func389 ?_
 repeat' ((conv=>whnf);(first|refine Ba ?_|refine Bb ?_ ?_|refine Bc ?_ ?_|refine Nf ?_|refine VL ?_)<;>intros)
 all_goals conv=>whnf
 all_goals (refine Av h ?_;clear h;simp_all [IW])
theorem gO {item:Rd Nd} (hi:AX enc 272 (λb=>[pv b d]) item) (U:Dv item):AX enc 356 (λb=>[pv b d]) (FB IW item):=by
 refine ⟨λ{st0 b s st rows K} hc h=>?_⟩
 refine pB Tryz.func356 ?_
 repeat' ((conv=>whnf);(first|refine Ba ?_|refine Bb ?_ ?_|refine Bc ?_ ?_|exact FY|refine Ad ?_|refine Gl.go (by first|exact AX.q|exact (Re (λh=>l6 ‹_›) hi U).a) ?_ ?_)<;>intros)
theorem gP {item:Rd Nd} (hi:AX enc 388 (λb=>[pv b d]) item) (U:Dv item):AX enc 415 (λb=>[pv b d]) (FB C3 item):=by
 refine ⟨λ{st0 b s st rows K} hc h=>?_⟩
 refine pB Tryz.func415 ?_
 repeat' ((conv=>whnf);(first|refine Ba ?_|refine Bb ?_ ?_|refine Bc ?_ ?_|exact FY|refine Ad ?_|refine Gl.go (by first|exact AX.q|exact (Re (λh=>Nf ‹_›) hi U).a) ?_ ?_)<;>intros)
theorem lH {item:Rd Nd} (hi:AX enc 414 (λb=>[pv b d]) item) (U:Dv item):AX enc 397 (λb=>[pv b d]) (FB C3 item):=by
 refine ⟨λ{st0 b s st rows K} hc h=>?_⟩
 refine pB Tryz.func397 ?_
 repeat' ((conv=>whnf);(first|refine Ba ?_|refine Bb ?_ ?_|refine Bc ?_ ?_|exact FY|refine Ad ?_|refine Gl.go (by first|exact AX.q|exact (Re (λh=>Nf ‹_›) hi U).a) ?_ ?_)<;>intros)
structure Lev (D:Nat) (full:Rd Nd) (L:Fi):Prop where
 atom:AX enc 349 (λb=>[pv b D]) (vJ L)
 exp:AX enc 353 (λb=>[pv b D]) (P9 full L)
 ops:AX enc 310 (λb=>[pv b D]) (opsL L)
 stmt:AX enc 388 (λb=>[pv b D]) (Mp full L)
 alt:AX enc 414 (λb=>[pv b D]) (rH full L)
 decl:AX enc 272 (λb=>[pv b D]) (Rp full L)
 decls:AX enc 356 (λb=>[pv b D]) (FB IW (Rp full L))
 stmts:AX enc 415 (λb=>[pv b D]) (FB C3 (Mp full L))
 alts:AX enc 397 (λb=>[pv b D]) (FB C3 (rH full L))
 Ez:∀o,AX enc 418 (λb=>[pv b D,enc o]) (Ec (oV L) full (P9 full L) o)
 list:∀o,AX enc 420 (λb=>[pv b D,enc o]) (NL (P9 full L) (Mp full L) o)
theorem lev {full:Rd Nd} {L:Fi} (hL:Mt d L) (hD:M5 L) (hf:AX enc 350 (λb=>[pv b d]) full) (hF:Dv full):Lev d full L:=by
 have atom:=rK hL
 have dat:=Ns hD
 have U:=cQ hL atom Yj
 have ops:=oX U
 have exp:=xe U hf
 have stmt:=u4 hL exp
 have alt:=wK hL ops exp stmt
 have decl:=sj hL atom dat ops (RA (OG hD)) exp stmt hf
 exact ⟨atom,exp,ops,stmt,alt,decl,gO decl (KN hF hD),gP stmt (KO hF hD),lH alt (ep hF hD),λo=>Vo U hf exp,λo=>tP exp stmt⟩
theorem zp:∀d,d<=100->Mt (d+1) (cz d)
 |0,_=>⟨El AC (λ_=>rfl) (λh=>absurd rfl h),El AC (λ_=>rfl) (λh=>absurd rfl h),El AC (λ_=>rfl) (λh=>absurd rfl h),El AC (λ_=>rfl) (λh=>absurd rfl h),
   El AC (λ_=>rfl) (λh=>absurd rfl h),El AC (λ_=>rfl) (λh=>absurd rfl h),λhx U h=>Qw AC (λ_=>rfl) U h (λh=>absurd rfl h),λhx U h=>Qw AC (λ_=>rfl) U h (λh=>absurd rfl h)⟩
 |d+1,h=>by
  have l:=lev (zp d AC) (OE d) (eH (d:=d) AC) (HR _)
  have no:∀{p:Prop},d+1=0->p:=λe=>by cases e
  exact ⟨El AC no λ_=>l.atom,El AC no λ_=>l.exp,El AC no λ_=>l.ops,El AC no λ_=>l.decls,El AC no λ_=>l.stmts,El AC no λ_=>l.alts,
   λhx U h=>Qw AC no U h λ_ K h=>pz (l.Ez _) hx U h,λhx U h=>Qw AC no U h λ_ K h=>jK (l.list _) hx U h⟩
theorem zm (U:1<=d) (h:d<=100):Lev d (Kv d) (cz (d - 1)):=by
 obtain ⟨d,rfl⟩:∃e,d=e+1:=⟨d - 1,AC⟩
 exact lev (zp d AC) (OE d) (eH (d:=d) AC) (HR _)
def Ro (d:Nat):Rd Nd:=Rp (Kv d) (cz (d - 1))
def Vx (d:Nat):Rd Nd:=FB IW (Ro d)
end
section
variable {st:St} {K:AB->St->Prop} {s:Ae} {deep:Int}
theorem vD (hm:mu s<=100000000) (h:K (.ret (Kt (BV s deep (CZ (Ro (Ed deep)) s)))) st):PC 226 [D4 s,.int .i64 deep] st K:=by
 refine pB Tryz.func226 ?_
 repeat' ((conv=>whnf);(first|refine Ba ?_|refine Bb ?_ ?_|refine Bc ?_ ?_|refine mC (s:=s) (A:=Ro) (λd U h1=>(zm U h1).decl) hm ?_)<;>intros)
 all_goals exact BR rfl h
theorem rf (hm:mu s<=100000000) (h:K (.ret (Kt (BV s deep (CZ (Vx (Ed deep)) s)))) st):PC 326 [D4 s,.int .i64 deep] st K:=by
 refine pB Tryz.func326 ?_
 repeat' ((conv=>whnf);(first|refine Ba ?_|refine Bb ?_ ?_|refine Bc ?_ ?_|refine mC (s:=s) (A:=Vx) (λd U h1=>(zm U h1).decls) hm ?_)<;>intros)
 all_goals exact BR rfl h
end
section
variable {st0 st st':St} {b d:Nat} {s:Ae} {rows:List (AH×List Nd)} {K:AB->St->Prop}
attribute [local irreducible] Go.Aw.Am
theorem Cx.mono (h:Cx st0 b s st rows) (k:st.le st'):Cx st0 b s st' rows:=by
 refine ⟨?_,?_,h.mu⟩
 .rcases h.has with e|⟨t,u,o1,o2,e0,e⟩
  .exact .inl (k.1 _ _ e)
  .exact .inr ⟨t,u,o1,o2,e0,k.1 _ _ e⟩
 .obtain ⟨cs,U⟩:=h.rx
  refine ⟨cs,St.le_trans U.le k,λr hr'=>?_,U.ap⟩
  have:=U.ok r hr'
  obtain ⟨o,l⟩:=r
  cases o with
  |any=>exact this
  |full=>exact this
  |tok t=>exact ⟨this.1,k.2 _ _ this.2⟩
theorem Cx.wN {l new:List Int} {Q:V->St->Prop} (hc:Cx st0 b s st rows) (hb:l.length+new.length<=1000000000) (k:∀U st',Cx st0 b s st' rows->Q (.slice 1 (ints (l++new)) U) st'):Am 1 8 (ints l) .full (ints new) st Q:=
 Q1 (own:=.full) trivial hb λU ho=>k U _ (hc.mono (AH.BZ ho))
theorem uI (U:Cx st0 b s st rows) (e:AZ s k x=true) (hk:k≠0/\k≠21) (kk:∀st',Cx st0 b (Ab s).2.1 st' rows->K (.ret (F1 (Ab s).1)) st'):PC 186 [.ptr b 0] st K:=
 Xl U.has U.hb (λ_ st' hu=>kk st' (U.Pg hu (Nat.le_of_lt (C8 e hk.1 hk.2)))) (λn=>absurd (Ev e hk.1) n)
theorem Q5 {Q:List V->Prop} (h:Has st b s) (k1:Q (Dg s)) (U:∀t u o1 o2 e,Q (Yz s t u o1 o2 e)):∃cs,st.box b=some cs/\Q cs:=by
 rcases h with e|⟨t,u,o1,o2,e0,e⟩
 .exact ⟨_,e,k1⟩
 .exact ⟨_,e,U ..⟩
theorem L1 {own:AH} (h:K (.ret (enc (As k l))) st):PC 268 [.int .i64 k,.slice 6 (l.map AP) own] st K:=by
 refine pB Tryz.func268 ?_
 repeat' ((conv=>whnf);(first|refine Ba ?_|refine Bb ?_ ?_|refine Bc ?_ ?_|fail)<;>intros)
 all_goals exact EV (St.le_refl _) Cn h
theorem qB {a:Nd} {own:AH} (h:K (.ret (enc (As k [a]))) st):PC 268 [.int .i64 k,.slice 6 [AP a] own] st K:=L1 (l:=[a]) h
theorem qD {a b:Nd} {own:AH} (h:K (.ret (enc (As k [a,b]))) st):PC 268 [.int .i64 k,.slice 6 [AP a,AP b] own] st K:=L1 (l:=[a,b]) h
theorem qE {a b c:Nd} {own:AH} (h:K (.ret (enc (As k [a,b,c]))) st):PC 268 [.int .i64 k,.slice 6 [AP a,AP b,AP c] own] st K:=L1 (l:=[a,b,c]) h
theorem qF {a b c d:Nd} {own:AH} (h:K (.ret (enc (As k [a,b,c,d]))) st):PC 268 [.int .i64 k,.slice 6 [AP a,AP b,AP c,AP d] own] st K:=L1 (l:=[a,b,c,d]) h
theorem ai (hc:Cx st0 b s st rows) (U:∀st',Cx st0 b s st' rows->K (.ret (.bool (AZ s 15 x))) st'):PC 266 [pv b d,.str x] st K:=by
 refine pB Tryz.func266 ?_
 repeat' ((conv=>whnf);(first|refine Ba ?_|refine Bb ?_ ?_|refine Bc ?_ ?_|refine td ‹_› ?_)<;>intros)
 all_goals conv=>whnf
 all_goals exact Av (U _ ‹_›) ‹_›
theorem ah (U:Cx st0 b s st rows) (e:AZ s 15 x=true) (kk:∀st',Cx st0 b s st' rows->K (.ret (.bool true)) st'):PC 266 [pv b d,.str x] st K:=ai U (by rw [e];exact kk)
theorem gk (U:Cx st0 b s st rows) (e:AZ s 15 x=false) (kk:∀st',Cx st0 b s st' rows->K (.ret (.bool false)) st'):PC 266 [pv b d,.str x] st K:=ai U (by rw [e];exact kk)
theorem vg {Q:Prop} (U:Cx st0 b s st rows) (h:if AZ s 15 x=true then P else Q) (k1:∀st',Cx st0 b s st' rows->AZ s 15 x=true->P->K (.ret (.bool true)) st') (k2:∀st',Cx st0 b s st' rows->AZ s 15 x=false->Q->K (.ret (.bool false)) st'):
 PC 266 [pv b d,.str x] st K:=by
 cases e:AZ s 15 x with
 |true=>exact ah U e λst' c=>k1 st' c e (by rw [if_pos e] at h;exact h)
 |false=>exact gk U e λst' c=>k2 st' c e (by rw [if_neg (by rw [e];decide)] at h;exact h)
theorem va (k:K (.Cd (fault Iu.1)) st):PC 274 [pv b d,.bool false] st K:=by
 refine pB Tryz.func274 ?_
 repeat' ((conv=>whnf);(first|refine Ba ?_|refine Bb ?_ ?_|refine Bc ?_ ?_|refine CD ?_)<;>intros)
 all_goals exact ⟨_,_,.inl rfl,St.le_refl _,k⟩
theorem vb (k:K (.ret (.BM [])) st):PC 274 [pv b d,.bool true] st K:=by
 refine pB Tryz.func274 ?_
 repeat' ((conv=>whnf);(first|refine Ba ?_|refine Bb ?_ ?_|refine Bc ?_ ?_|refine CD ?_)<;>intros)
 all_goals exact ⟨_,_,.inl rfl,St.le_refl _,k⟩
theorem D1 {c:Bool} {Q:Unit->Ae->Prop} (h:Rd.wp (Gs c) s Q E) (e:c=true) (k1:Q () s->K (.ret (.BM [])) st):PC 274 [pv b d,.bool true] st K:=by
 subst e
 unfold Gs at h
 rw [Rd.Ax,if_pos rfl,Rd.wp_ret] at h
 exact vb (k1 h)
theorem D0 {c:Bool} {Q:Unit->Ae->Prop} (h:Rd.wp (Gs c) s Q E) (e:c=false) (U:E Iu s->K (.Cd (fault Iu.1)) st):PC 274 [pv b d,.bool false] st K:=by
 subst e
 unfold Gs at h
 rw [Rd.Ax,if_neg Do,Rd.ED] at h
 exact va (U h)
def yP (st0:St) (b:Nat) (f:FuncId) (args:List V) (A:Rd Nd):Prop:=∀{s:Ae} {st:St} {rows:List (AH×List Nd)} {K:AB->St->Prop},Cx st0 b s st rows->
 Rd.wp A s (λv s'=>∀st',Cx st0 b s' st' rows->K (.ret (enc v)) st') (λe s'=>∀st',Cy st0 b s' st' rows->K (.Cd (fault e.1)) st')->PC f args st K
theorem AX.z {A:Rd Nd} (h:AX enc f mk A):yP st0 b f (mk b) A:=h.ap
theorem yP.go {A:Rd Nd} {Q:Nd->Ae->Prop} (hf:yP st0 b f args A) (U:Cx st0 b s st rows) (h:Rd.wp A s Q E)
 (k:∀v s' st',mu s'<=mu s->Cx st0 b s' st' rows->Q v s'->K (.ret (enc v)) st') (kb:∀e s' st',Cy st0 b s' st' rows->E e s'->K (.Cd (fault e.1)) st'):PC f args st K:=
 hf U (Rd.wp_mono h (λv s' r q st' c=>k v s' st' (A.le _ _ _ r) c q) (λe s' _ q st' c=>kb e s' st' c q))
end
theorem Gw (h:P:=by (with_reducible show ∃_,_);first|exact ⟨⟨_,_,_,_⟩,⟨‹_›,Rd.Fk ‹_› cb,f8,cb⟩,cb,Yl,St.le_refl _⟩|exact B5 (Cx.y ‹_›) ‹_›|exact B5 (Cx.y (Cx.drop ‹_›)) ‹_›|exact eF ‹_› ‹_› rfl|exact Dn ‹_› ‹_› rfl|exact Dn ‹_› ‹_› Cn|exact Dn (Cx.drop ‹_›) ‹_› rfl|exact Dn (Cx.drop ‹_›) ‹_› Cn|exact B5 ‹_› ‹_›|exact B5 (Cy.drop ‹_›) ‹_›|exact B5 (Cy.drop (Cy.drop ‹_›)) ‹_›|fail):P:=h
theorem Qn {A:Prop} (k:A) (h:A->P:=by intro k;(with_reducible show Am _ _ _ _ _ _ _);first|exact Cx.Hp ‹_› f9 k|exact Cx.Hp (Cx.push ‹_› _) f9 k|fail):P:=h k
theorem M8 {A:Prop} (k:A) (h:A->P:=by intro k;(with_reducible show PC _ _ _ _);first|((with_reducible show PC 149 _ _ _);exact bX ‹_› ‹_› k)|((with_reducible show PC 149 _ _ _);exact nn ‹_› ‹_› k)|((with_reducible show PC 266 _ _ _);exact ah ‹_› ‹_› k)|((with_reducible show PC 266 _ _ _);exact gk ‹_› ‹_› k)|((with_reducible show PC 112 _ _ _);exact Sz ‹_› k)|fail):P:=h k
theorem TC {A B:Prop} (k:A) (l:B) (h:A->B->P:=by intro k l;(with_reducible show PC _ _ _ _);first|((with_reducible show PC 149 _ _ _);exact nj ‹_› ‹_› k l)|((with_reducible show PC 266 _ _ _);exact vg ‹_› ‹_› k l)|fail):P:=h k l
theorem Kr {A:Prop} (k:A) (h:A->P:=by intro k;(with_reducible show PC _ _ _ _);first|((with_reducible show PC 150 _ _ _);exact Od ‹_› ‹_› ‹_› Do k)|((with_reducible show PC 150 _ _ _);exact Oe ‹_› ‹_› AC k)|fail):P:=h k
theorem JQ {A B:Prop} (k:A) (l:B) (h:A->B->P:=by intro k l;(with_reducible show PC _ _ _ _);first|((with_reducible show PC 150 _ _ _);exact HE.go ‹_› ‹_› k l)|((with_reducible show PC 153 _ _ _);exact XM.go ‹_› ‹_› k l)|fail):P:=h k l
theorem Yt6 {A:Prop} (k:A) (h:A->P:=by intro k;(with_reducible show PC _ _ _ _);first|((with_reducible show PC 113 _ _ _);exact T2 ‹_› ‹_› k)|fail):P:=h k
theorem Tw {A:Prop} (k:A) (h:A->P:=by intro k;(with_reducible show PC _ _ _ _);first|((with_reducible show PC 268 _ _ _);exact qB k)|((with_reducible show PC 268 _ _ _);exact qD k)|((with_reducible show PC 268 _ _ _);exact qE k)|((with_reducible show PC 268 _ _ _);exact qF k)|((with_reducible show PC 268 _ _ _);exact L1 k)|fail):P:=h k
theorem NC {A:Ae->Rs} {hle:∀s v s',A s=.inr (v,s')->mu s'<=mu s} (hB:Fh A) (hf:DQ g (d:Int) A) (h0:d=0->∀s,A s=.inl (2,s)):
 AX enc 110 (λb=>[.ptr b 0,.func g [] [],.int .i64 (d:Int)]) (Ia A hle):=⟨λU h=>RX (d:=d) rfl hf h0 hB U.mu U.has (S9 hB U h)⟩
theorem Rr (U:1<=d) (h:d<=100):Ed (d:Int)=d:=by unfold Ed;split<;>omega
theorem jY {s:Ae} (h:(FA ks).run s=.inr (n,s')):∃o x c,n=As 3 [o,x,c]:=by
 unfold FA at h
 obtain ⟨o,s1,_,h⟩:=AU h
 obtain ⟨x,s2,_,h⟩:=AU h
 obtain ⟨c,s3,_,h⟩:=AU h
 cases h
 exact ⟨o,x,c,rfl⟩
section
variable {st0 st:St} {b d:Nat} {s:Ae} {rows:List (AH×List Nd)} {K:AB->St->Prop}
attribute [local irreducible] Go.Aw.Am
theorem qt (U:1<=d) (h:d<=100):AX enc 393 (λb=>[pv b d]) (XB d):=by
 have hi:=NC (hle:=λs v s' h=>Nat.le_of_lt (BK (Bo _) _ _ _ h)) (HL (FK (d - 1))) (by have:=yT (deep:=(d:Int));rw [Rr U h] at this;exact this) (λe=>by omega)
 refine ⟨λ{st0 b s st rows K} hc h=>?_⟩
 unfold XB at h
 refine pB Tryz.func393 ?_
 repeat' ((conv=>whnf);(first|refine Ba ?_|refine Bb ?_ ?_|refine Bc ?_ ?_|exact Gw|refine Ad ?_|refine Gl.go (by first|exact AX.q) ?_ ?_)<;>intros)
theorem vh (U:1<=d) (h:d<=100):AX enc 273 (λb=>[pv b d]) (qL d):=by
 have hi:=NC (hle:=λs v s' h=>Nat.le_of_lt (FN (BK (Bo _)) _ _ _ h)) (Nc (HL (FK (d - 1)))) (by have:=Xak (deep:=(d:Int));rw [Rr U h] at this;exact this) (λe=>by omega)
 refine ⟨λ{st0 b s st rows K} hc h=>?_⟩
 unfold qL at h
 refine pB Tryz.func273 ?_
 repeat' ((conv=>whnf);(first|refine Ba ?_|refine Bb ?_ ?_|refine Bc ?_ ?_|exact Gw|refine Ad ?_|refine Gl.go (by first|exact AX.q) ?_ ?_)<;>intros)
theorem kG (U:1<=d) (h:d<=100):AX enc 276 (λb=>[pv b d]) (XH d):=by
 have hi:=NC (hle:=λs v s' h=>Nat.le_of_lt (EI (BK (Bo _)) _ _ _ h)) (MB (HL (FK (d - 1)))) (by have:=zM (deep:=(d:Int));rw [Rr U h] at this;exact this) (λe=>by omega)
 refine ⟨λ{st0 b s st rows K} hc h=>?_⟩
 unfold XH at h
 refine pB Tryz.func276 ?_
 repeat' ((conv=>whnf);(first|refine Ba ?_|refine Bb ?_ ?_|refine Bc ?_ ?_|exact Gw|refine Ad ?_|refine Gl.go (by first|exact AX.q) ?_ ?_)<;>intros)
theorem qz (U:1<=d) (h:d<=100):AX enc 287 (λb=>[pv b d]) (Kv d):=by
 have hi:=NC (hle:=λs v s' h=>Nat.le_of_lt (RH (BK (Bo _)) _ _ _ h)) (T3 (HL (FK (d - 1)))) (by have:=vO (deep:=(d:Int));rw [Rr U h] at this;exact this) (λe=>by omega)
 refine ⟨λ{st0 b s st rows K} hc h=>?_⟩
 unfold Kv at h
 refine pB Tryz.func287 ?_
 repeat' ((conv=>whnf);(first|refine Ba ?_|refine Bb ?_ ?_|refine Bc ?_ ?_|exact Gw|refine Ad ?_|refine Gl.go (by first|exact AX.q) ?_ ?_)<;>intros)
theorem Ij {own:AH} (U:ks.contains 0=false):AX enc 306 (λb=>[pv b d,.slice 1 (ints ks) own]) (FA ks):=by
 refine ⟨λ{st0 b s st rows K} hc h=>?_⟩
 simp only [FA,Rd.wp_seq,Rd.wp_ret] at h
 refine pB Tryz.func306 ?_
 repeat' ((conv=>whnf);(first|exact Dr|refine Ba ?_|(refine Ds ?_ ?_ ?_;rotate_left)|refine Bb ?_ ?_|refine Bc ?_ ?_|refine JQ ?_ ?_|exact Gw|refine Tw ?_|refine Ad ?_|refine Gl.go (by first|exact AX.q|exact (EB U).a) ?_ ?_|refine Af [(0,true),(1,true),(3,true),(4,true),(5,true),(7,true),(8,true),(2,false),(6,false),(9,false),(10,true),(11,false),(12,false)] [1] GE ?_|with_reducible refine WF ?_)<;>intros)
theorem jX {own:AH} {Q:Nd->Ae->Prop} (h0:ks.contains 0=false) (U:Cx st0 b s st rows) (h:Rd.wp (FA ks) s Q E)
 (k:∀o x c s' st',mu s'<=mu s->Cx st0 b s' st' rows->Q (As 3 [o,x,c]) s'->K (.ret (enc (As 3 [o,x,c]))) st') (kb:∀e s' st',Cy st0 b s' st' rows->E e s'->K (.Cd (fault e.1)) st'):PC 306 [pv b d,.slice 1 (ints ks) own] st K:=
 (Ij h0).go U h (λn s1 st1 hr hm U h=>by obtain ⟨o,x,c,rfl⟩:=jY hr;exact k o x c s1 st1 hm U h) kb
theorem Pf:AX enc 286 (λb=>[pv b d]) K6:=by
 refine ⟨λ{st0 b s st rows K} hc h=>?_⟩
 simp only [K6,Rd.Ag,Rd.Ax,Rd.wp_seq,Rd.wp_ret,Rd.Fb] at h
 have U:=hc.mu
 refine pB Tryz.func286 ?_
 repeat' ((conv=>whnf);(first|refine Gz ‹_› ?_ ?_|refine Ba ?_|refine Bb ?_ ?_|refine Bc ?_ ?_|refine M8 ?_|refine TC ?_ ?_|refine CD ?_|exact Gw|refine Ad ?_|refine Gl.go (by first|exact AX.q|exact (EB (ks:=[1]) rfl).a) ?_ ?_|refine Q5 (Cx.has ‹_›) ?_ ?_|refine jX (ks:=[5,6]) rfl ‹_› ‹_› ?_ ?_|refine Wm (ks:=[_,_,_]) rfl AC ?_|refine GW ‹_› U ?_|refine CD ?_)<;>intros)
theorem Tb:AX enc 307 (λb=>[pv b d]) LK:=by
 refine ⟨λ{st0 b s st rows K} U h=>?_⟩
 simp only [LK,Rd.Ag,Rd.Ax] at h
 refine pB Tryz.func307 ?_
 repeat' ((conv=>whnf);(first|refine Ba ?_|refine Bb ?_ ?_|refine Bc ?_ ?_|refine M8 ?_|refine TC ?_ ?_|exact Gw|refine Ad ?_|refine Gl.go (by first|exact AX.q|exact (EB (ks:=[1,2]) rfl).a|exact (Ij (ks:=[5,6]) rfl).a) ?_ ?_)<;>intros)
end
end Go.Proofs.Z
namespace Go.Aw
open Go
section
variable {D:List Deferred} {P:Program} {T:List (Nat×Ty)} {I0 I:Mem} {st0 st:St} {w0 w:World} {β:Nat->Option Nat} {env:Env} {a:Act}
theorem TP (hP:TZ P T) (gl:List Nat) (hf:P.funcs[f]? =some fn) {c0 c1 c2 rest:Code} {rid:Nat} {mk df:Oper}
 (hb : fn.body = some (.seq c0 (.seq c1 (.seq c2 (.seq (.region rid #[mk, df] false) rest))))) (hn : (fn.name == "runtime.NumGoroutine") = false) {cap : Array Operand} {tf : Nat}
 (h1:mk.op=.makeFunc (.func g) #[] cap) (h2:mk.dst=some tf) (h3:mk.guard=none) (h4:df.op=.defer {callee:=.value (.tmp tf),args:=#[],argTypes:=#[]}) (h5:df.guard=none) (h6:df.dst=none)
 (hg:Plain P g) (hle:Nat.ble args.length fn.ntmps=true)
 (h:AW P c0 (Ca (λenv st=>AW P c1 (Ca (λenv st=>AW P c2 (λae env st=>match ae with
   | .normal=>XP env cap.toList λvs=>vs.all V.eN=true/\env.go (some tf) (.func g [] vs) λenv=>AW P rest (cj P T g vs fn R) env st
   | .ret=>Xf T fn R env st
   |_=>False) env st) ru) env st) ru) {tmps:=Jg 0 args,boxes:=[],Bw:=0,sz:=fn.ntmps,gl} st):A9 P f args st R:=by
 refine ⟨?_,fn,hf,ke,hn⟩
 intro I w cargs hs hargs
 refine calls_of_wp_defers hf hb ?_
 refine wp_seq (wp_mono (h [] I st w I _ _ w (GN gl hs hargs hle)) ?_)
 rintro e a w1 ⟨I1,β1,env1,st1,ae,r1,x1,k1⟩
 cases ae with
 |exit _|goto _|ret|Cd _=>exact k1.elim
 |normal=>
 cases e with
 |exit _|goto _|ret|panic _|outgrown=>exact x1.elim
 |normal=>
 refine wp_seq (wp_mono (k1 [] I st w I1 _ _ w1 r1) ?_)
 rintro e a w2 ⟨I2,β2,env2,st2,ae,U,x2,k2⟩
 cases ae with
 |exit _|goto _|ret|Cd _=>exact k2.elim
 |normal=>
 cases e with
 |exit _|goto _|ret|panic _|outgrown=>exact x2.elim
 |normal=>
 refine wp_seq (wp_mono (k2 [] I st w I2 _ _ w2 U) ?_)
 clear k2 U x2
 rintro e a w2 ⟨I2,β2,env2,st2,ae,U,x2,k2⟩
 cases ae with
 |exit _|goto _|Cd _=>exact k2.elim
 |ret=>
  cases e with
  |normal|exit _|goto _|panic _|outgrown=>exact x2.elim
  |ret=>
   obtain ⟨v,c,g1,g2,g3⟩:=CT (P:=P) hP.t U k2
   show Leaves P fn a.tmps _ a.defers _ w2
   rw [U.f.defers]
   exact ⟨c,g1,I2,st2,.ret v,U.fr,U.s,g2,g3⟩
 |normal=>
 cases e with
 |exit _|goto _|ret|panic _|outgrown=>exact x2.elim
 |normal=>
 refine wp_seq (wp_region_list ?_)
 show wpList P #[mk,df] _ [mk,df] a w2
 unfold wpList
 rw [if_pos (by simp [Region.wanted,h3])]
 left
 obtain ⟨vs,hv,kp,kg⟩:=GC U.f (show XP env2 cap.toList _ from k2)
 have hcv:AL I2 (.func g [] vs) (.func (.func g) #[] (cap.map a.eval)):=by
  simp only [AL]
  exact ⟨[],cap.toList.map a.eval,by congr 1;grind,H1,hv⟩
 obtain ⟨env3,r3,k3⟩:=Cw U (A1.of hcv) kg
 have htf:tf<a.tmps.size:=by
  rw [U.f.size]
  exact (HV kg).1 tf rfl
 unfold Oper.wp
 rw [show (execOp a.eval mk).run P w2=.ok (.value (.func (.func g) #[] (cap.map a.eval))) w2 by simp only [execOp,h1,Array.map_empty];rfl]
 show wpList P #[mk,df] _ [df] (a.put mk.dst _) w2
 rw [h2]
 unfold wpList
 rw [if_pos (by simp [Region.wanted,h5])]
 left
 have hev:(a.put (some tf) (.func (.func g) #[] (cap.map a.eval))).eval (.tmp tf)=.func (.func g) #[] (cap.map a.eval):=by
  simp [Act.put,Act.eval,htf]
 unfold Oper.wp
 rw [show (execOp (a.put (some tf) (.func (.func g) #[] (cap.map a.eval))).eval df).run P w2=.ok (.defer {target:=.fn (.func g) (cap.map a.eval),args:=#[]}) w2 by
  simp only [execOp,h4,resolve,hev,Deferred.ofValue,Array.map_empty,Array.empty_append];rfl]
 rw [Oper.upon_defer]
 rw [h6]
 unfold wpList
 show rest.wp P _ _ _
 have r4:=r3.defer {target:=.fn (.func g) (cap.map a.eval),args:=#[]}
 refine wp_mono (k3 _ I st w I2 _ _ w2 r4) ?_
 rintro e a5 w5 ⟨I5,β5,env5,st5,ae,r5,x5,k5⟩
 have hd:=r5.f.defers
 obtain ⟨fn2,p1,p2,p3⟩:=hg
 have hinv:(invoke (.fn (.func g) (cap.map a.eval)) #[]).run P w5=.ok (.enter g (cap.toList.map a.eval).toArray) w5:=by
  have hb:fn2.body.isNone=false:=by cases hb:fn2.body<;>simp_all
  simp only [invoke,callFunc,Sem.run_bind,Sem.run_pure,Result.andThen_ok,run_program,p1]
  rw [p3]
  simp [hb]
  apply Array.ext';simp
 have last:∀{u:FrameMode} {x:Option V},u≠.run->(match x with|none=>u=.returning|some v=>∃c,u=.panicking [{v:=c,recovered:=false}]/\AL I5 v c)->HM P g vs x st5 (λst'=>Xf T fn R env5 st')->
  Leaves P fn a5.tmps (λe w'=>∃I' st' r,Fr I st w I' st' w'/\CU I' st' w'/\Zt I' e r/\R r st') a5.defers u w5:=by
  intro u x hu hx k
  rw [hd]
  refine leaves_cons hu hinv ((k I5 w5 _ u r5.s (Aq.x8 hv kp) hx).mono ?_)
  rintro e u' w6 ⟨⟨v,rfl⟩,hset,I6,st6,q1,q2,q3⟩
  show Leaves P fn a5.tmps _ [] (settle u') w6
  rw [hset]
  have r6:=r5.called q1 q2
  obtain ⟨v,c,g1,g2,g3⟩:=CT (P:=P) hP.t r6 q3
  exact ⟨c,g1,I6,st6,.ret v,r6.fr,r6.s,g2,g3⟩
 cases ae with
 |normal=>
  cases e with
  |normal=>exact last (x:=none) GT rfl k5
  |_=>exact x5.elim
 |ret=>
  cases e with
  |ret=>exact last (x:=none) GT rfl k5
  |_=>exact x5.elim
 |Cd v=>
  cases e with
  |panic chain=>
   obtain ⟨c,rfl,hc⟩:=x5
   exact last (x:=some v) GT ⟨c,rfl,hc⟩ k5
  |_=>exact x5.elim
 |exit _=>exact k5.elim
 |goto _=>exact k5.elim
end
section
variable {D:List Deferred} {P:Program} {T:List (Nat×Ty)} {C:FuncId->List V->St->(AB->St->Prop)->Prop} {I0 I:Mem} {st0 st:St} {w0 w:World} {β:Nat->Option Nat} {env:Env} {a:Act}
def qj {X:Type} (T:List (Nat×Ty)) (C:FuncId->List V->St->(AB->St->Prop)->Prop) (all:List Oper) (Q:AF->Env->St->Prop) (E:X->List Bool->Env) (S:X->List Bool->St) (J:X->List Bool->Prop) (x:X) (p:List Bool×Nat):Prop:=
 match all[p.2]? with
 |some o=>Bl all o (E x p.1) (Gr T C o (E x p.1) (S x p.1) (λv env st=>env.go o.dst v λenv=>∃y,J y (p.1.set p.2 true)/\(E y (p.1.set p.2 true)).FF env/\St.le (S y (p.1.set p.2 true)) st) Q)
   ((E x p.1).go o.dst (.BM []) λenv=>∃y,J y (p.1.set p.2 true)/\(E y (p.1.set p.2 true)).FF env/\St.le (S y (p.1.set p.2 true)) (S x p.1))
 |none=>True
theorem aT (hT:Hh P T) (hC:∀f args st R,C f args st R->C5 P f args st R/\Plain P f) {all:List Oper} {E:X->List Bool->Env} {S:X->List Bool->St} {J:X->List Bool->Prop} {PL:List (List Bool×Nat)}
 (hc:Ir all PL=true) (step:∀p ∈ PL,∀x,J x p.1->qj T C all Q E S J x p) (fin:∀x,J x (List.replicate all.length true)->Q .normal (E x (List.replicate all.length true)) (S x (List.replicate all.length true))):
 ∀(fuel:Nat) (bs:List Bool) (listed:Array Bool) (I:Mem) (β:Nat->Option Nat) (a:Act) (w:World),bs.length=all.length->listed.toList=bs->bs.count false<=fuel->
  (∀j,j<all.length->BO all bs j=true->(bs,j) ∈ PL)->(bs=List.replicate all.length true\/∃j,j<all.length/\BO all bs j=true)->
  ∀x,J x bs->Rel D I0 st0 w0 I β (E x bs) (S x bs) a w->wpAny P .any all.toArray (Ct D I0 st0 w0 Q) fuel listed a w:=by
 have full:∀{bs:List Bool},bs.length=all.length->bs.count false=0->bs=List.replicate all.length true:=λ{bs} hb h0=>by
  rw [List.eq_replicate_iff]
  grind
 have noready:∀{j:Nat},BO all (List.replicate all.length true) j=true->j<all.length->False:=λ{j} h U=>by
  unfold BO at h
  simp_all
 simp only [Ir,Bool.and_eq_true,List.all_eq_true] at hc
 intro fuel
 induction fuel with
 |zero=>
  intro bs listed I β a w hb hl hf hp hr x U h
  have:=full hb AC
  subst this
  refine ⟨?_,⟨I,β,_,_,.normal,h,trivial,fin x U⟩⟩
  rw [List.eq_nil_iff_forall_not_mem]
  intro j U
  obtain ⟨h1,h2⟩:=(EZ hl hb).1 U
  grind
 |succ fuel ih=>
  intro bs listed I β a w hb hl hf hp hr x U h
  refine ⟨λh0=>?_,λi hi=>?_⟩
  .rcases hr with rfl|⟨j,h1,h2⟩
   .exact ⟨I,β,_,_,.normal,h,trivial,fin x U⟩
   .have:=(EZ hl hb).2 ⟨h1,h2⟩
    simp_all
  .obtain ⟨h1,h2⟩:=(EZ hl hb).1 hi
   have hm:=hp i h1 h2
   have hs:=step _ hm x U
   unfold qj at hs
   have ho:all[i]? =some all[i]:=List.getElem?_eq_getElem h1
   simp only [ho] at hs
   obtain ⟨⟨c1,c2⟩,c3⟩:=hc.2 _ hm
   refine M4 hT hC (Q:=Q) ho (λ{I β env st a w} h k=>?_) h hs (K:=λenv st=>∃y,J y (bs.set i true)/\(E y (bs.set i true)).FF env/\St.le (S y (bs.set i true)) st)
   .obtain ⟨y,kj,k⟩:=k
    have hbi:i<bs.length:=AC
    refine ih (bs.set i true) _ I _ a w ke (by simp [hl]) ?_ (λj U hr=>?_) ?_ y kj ((h.Il k.2).Ku (Env.Kw k.1))
    .have:=List.count_set (a:=true) (i:=i) (l:=bs) (b:=false) hbi
     unfold BO at h2
     grind
    .grind
    grind
theorem rL (hP:TZ P T) (hC:∀f args st R,C f args st R->C5 P f args st R/\Plain P f) {ops:Array Oper} (E:X->List Bool->Env) (S:X->List Bool->St) (J:X->List Bool->Prop) (x0:X) (PL:List (List Bool×Nat))
 (hc:Ir ops.toList PL=true) (j0:J x0 (List.replicate ops.toList.length false)) (h0:(E x0 (List.replicate ops.toList.length false)).FF env) (s0:St.le (S x0 (List.replicate ops.toList.length false)) st) (step:∀p ∈ PL,∀x,J x p.1->qj T C ops.toList Q E S J x p)
 (fin:∀x,J x (List.replicate ops.toList.length true)->Q .normal (E x (List.replicate ops.toList.length true)) (S x (List.replicate ops.toList.length true))):AW P (.region id ops true) Q env st:=λD I0 st0 w0 I β a w h=>
 wp_region_any hP.m (by
  have U:=hc
  simp only [Ir,Bool.and_eq_true,List.all_eq_true] at U
  have:=aT (D:=D) hP.t hC hc step fin ops.size (List.replicate ops.toList.length false) (Array.replicate ops.size false) I _ a _ GT GT GT (λj hj hr=>?_) ?_ x0 j0 (((h.JZ (Gu.drew w)).Il s0).Ku (Env.Kw h0))
  .simp_all
  .grind
  simp_all)
end
end Go.Aw
