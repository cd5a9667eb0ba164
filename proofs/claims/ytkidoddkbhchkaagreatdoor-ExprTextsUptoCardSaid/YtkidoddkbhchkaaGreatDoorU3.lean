/-
  Parts of a proof: lemmas that the last text uses.
-/
import Derived.Test.YtkidoddkbhchkaaGreatDoorU2
set_option linter.unusedVariables false
set_option linter.unusedSimpArgs false
set_option maxHeartbeats 16000000
variable {p:Go.Aw.Nd->Bool} {n a n1:Go.Aw.Nd} {o s t x w r:List UInt8} {least b i base:Int} {d pos m j:Nat} {ks l:List Go.Aw.Nd} {f g:Go.FuncId} {K:Int->Prop} {ih:(Go.Aw.AM->Go.Aw.Env->Go.Aw.St->Prop)->Go.Aw.Env->Go.Aw.St->Prop} {Q:Go.Aw.AM->Go.Aw.Env->Go.Aw.St->Prop} {env:Go.Aw.Env} {α β:Type} {v:Bool} {A Y:Go.Proofs.Z.Af->Go.Proofs.Z.Rs} {es:List (List Go.Aw.V)} {R:Go.Aw.AL->Go.Aw.St->Prop} {P B:Prop} {args:List Go.Aw.V}
namespace Go.Proofs.Z
open Go Go.Aw
section
variable {st:St} {R:AL->St->Prop}
theorem RU {one:Bool}:
 ED p n o s least one=(decide (2<=n.kids.length)&&Dg n o&&Fq n s&&(decide (2*least - 1<=((n.kids.length - 2:Nat):Int))&&(!one||n.kids.length - 2==1)&&((n.kids.length - 2) % 2==1&&EC p false (FP n)))):=by
 unfold ED
 rw [GF]
 by_cases U:2<=n.kids.length
 .have hm:=EI U
  cases Dg n o<;>cases Fq n s<;>simp [U,JU,hm]
 .simp only [U,false_and,if_false,decide_false,Bool.false_and]
theorem ZH {k:Nat}:((k:Int)+1).tmod 2=1↔(k+1) % 2=1:=Jt (k:=k+1)
theorem XO {k:Nat}:((k:Int)+1).tmod 2=0↔(k+1) % 2=0:=GL (k:=k+1)
theorem Rj {most:Int} {one:Bool} (hl:n.kids.length<=1000000000) (h0:1<=least) (h1:least<=10) (hm:most=1/\one=true\/most=1099511627776/\one=false)
 (hp:∀x ∈ n.kids,BS 129 p x) (h:R (.ret (.bool (ED p n o s least one))) st):H5 185 [enc n,.str o,.str s,.int .i64 least,.int .i64 most] st R:=by
 refine pB Tryz.func185 ?_
 repeat' ((conv=>whnf);first|(refine Gv ?_;intros)|(refine Gw ?_ ?_<;>intro _)|refine Gp ?_)
 all_goals try (refine Mm (α:=Nat) (λj=>[(12,.int .i64 ((j:Int)+1))]) [5,11] [0] (λ_=>st) (λj=>j+2<=n.kids.length/\EC p false (FP n)=EC p (j % 2==1) ((FP n).drop j)) (λj=>n.kids.length - j) 0 ⟨AC,rfl⟩ Yl (St.le_refl _) ?_;rintro j ⟨hj,hi⟩)
 repeat' ((conv=>whnf);first|(refine Gv ?_;intros)|(refine Gw ?_ ?_<;>intro _)|refine Gp ?_|refine hp _ ‹_› _ _ ?_)
 all_goals try conv=>whnf
 all_goals try simp only [GL,Jt,XO,ZH,Int.toNat_zero,sv] at *
 all_goals have hl:((n.kids.length:Int) - 1).toNat=n.kids.length - 1:=AC
 all_goals try simp only [hl] at *
 all_goals try (have U:=Ms (p:=p) ((M8 AC).trans ‹n.kids[j+1]? =_›);rw [U] at hi;clear U)
 all_goals try (rw [if_neg (by omega:¬j % 2=1)] at hi)
 all_goals try (rw [if_pos (by omega:j % 2=1)] at hi)
 all_goals try (exfalso;omega)
 all_goals first
  |refine ⟨j+1,⟨AC,?_⟩,AC,Yl,St.le_refl _⟩
  |refine Ao h ?_
 all_goals clear h hp
 all_goals try rw [RU]
 all_goals try (rw [Bool.eq_false_iff];intro hc;simp only [Bool.and_eq_true,decide_eq_true_eq,beq_iff_eq,Bool.or_eq_true,Bool.not_eq_true'] at hc;obtain ⟨⟨⟨c1,c2⟩,c3⟩,⟨c4,c5⟩,c6,c7⟩:=hc;first|omega|(rcases hm with ⟨rfl,rfl⟩|⟨rfl,rfl⟩<;>simp at c5<;>omega)|(simp_all [Dg,Fq];done))
 all_goals try (rw [hi];simp_all;done)
 .rw [List.drop_eq_nil_of_le (by rw [EI AC];omega)] at hi
  simp only [Bool.and_eq_true,decide_eq_true_eq,beq_iff_eq,Bool.or_eq_true,Bool.not_eq_true']
  refine ⟨⟨⟨AC,by simp_all [Dg]⟩,by simp_all [Fq]⟩,⟨AC,?_⟩,AC,by rw [hi];rfl⟩
  rcases hm with ⟨rfl,rfl⟩|⟨rfl,rfl⟩
  .right;omega
  .left;rfl
theorem ZI {k:Nat}:((k:Int)+1+1).tmod 2=1↔(k+2) % 2=1:=Jt (k:=k+2)
theorem XP {k:Nat}:((k:Int)+1+1).tmod 2=0↔(k+2) % 2=0:=GL (k:=k+2)
theorem Px {a:Int} {c d:Int}:(Nd.mk a b t c d ks).kids=ks:=rfl
theorem Zl:JY p n=(decide (3<=n.kids.length)&&n.kids[0]?.any Gh&&n.kids[1]?.any (B9 · 15 [123])&&Fq n [125]&&(n.kids.length==3||(n.kids.length % 2==0&&EC (JK p) false ((FP n).drop 1)))):=by
 unfold JY
 rw [GF]
 by_cases h3:3<=n.kids.length
 .have e1:Dg (.mk 0 0 [] 0 0 (n.kids.drop 1)) [123]=n.kids[1]?.any (B9 · 15 [123]):=by simp [Dg,Px]
  have e2:Fq (.mk 0 0 [] 0 0 (n.kids.drop 1)) [125]=Fq n [125]:=by
   simp only [Fq,Px,List.length_drop,List.getElem?_drop]
   rw [show 1+(n.kids.length - 1 - 1)=n.kids.length - 1 by omega]
  have e3:FP (.mk 0 0 [] 0 0 (n.kids.drop 1))=(FP n).drop 1:=by
   simp only [FP,Px,List.length_drop,List.drop_take,List.drop_drop]
  have e4:(2<=(Nd.kids (.mk 0 0 [] 0 0 (n.kids.drop 1))).length):=by simp only [Px,List.length_drop];omega
  have U:((FP n).drop 1).length=n.kids.length - 3:=by rw [List.length_drop,EI AC];omega
  have e6:((FP n).drop 1).isEmpty=(n.kids.length==3):=by
   have:((FP n).drop 1).isEmpty=(((FP n).drop 1).length==0):=by cases (FP n).drop 1<;>rfl
   rw [this,U]
   by_cases h:n.kids.length=3
   .simp [h]
   .rw [beq_eq_false_iff_ne.2 (by omega:n.kids.length - 3≠0),beq_eq_false_iff_ne.2 h]
  have e7:((n.kids.length - 3) % 2==1)=(n.kids.length % 2==0):=by
   by_cases h:n.kids.length % 2=0
   .have:(n.kids.length - 3) % 2=1:=AC
    simp [h,this]
   .rw [beq_eq_false_iff_ne.2 (by omega:(n.kids.length - 3) % 2≠1),beq_eq_false_iff_ne.2 h]
  rw [e1,e2,e3]
  cases n.kids[1]?.any (B9 · 15 [123])<;>cases Fq n [125]<;>simp only [h3,e4,true_and,and_true,if_true,and_false,false_and,if_false,Bool.false_eq_true,decide_true,Bool.true_and,Bool.and_true,Bool.and_false,Bool.false_and,JU,U,e6,e7]
 .simp only [h3,decide_false,Bool.false_and]
theorem dX (hl:n.kids.length<=1000000000)
 (hp:∀x ∈ n.kids,∀y ∈ x.kids,BS 129 p y) (h:R (.ret (.bool (JY p n))) st):H5 186 [enc n] st R:=by
 refine pB Tryz.func186 ?_
 repeat' ((conv=>whnf);first|(refine Gv ?_;intros)|(refine Gw ?_ ?_<;>intro _)|refine Xe ?_|refine Gp ?_)
 all_goals try (refine Mm (α:=Nat) (λj=>[(4,.int .i64 ((j:Int)+1+1))]) [1,3] [0] (λ_=>st) (λj=>j+3<=n.kids.length/\EC (JK p) false ((FP n).drop 1)=EC (JK p) (j % 2==1) (((FP n).drop 1).drop j)) (λj=>n.kids.length - j) 0 ⟨AC,rfl⟩ Yl (St.le_refl _) ?_;rintro j ⟨hj,hi⟩)
 repeat' ((conv=>whnf);first|(refine Gv ?_;intros)|(refine Gw ?_ ?_<;>intro _)|refine Gp ?_|refine Gn ?_|refine hp _ ‹_› _ ‹_› _ _ ?_)
 all_goals try conv=>whnf
 all_goals try simp only [GL,Jt,XP,ZI,Int.toNat_zero,Int.toNat_one,Int.reduceToNat,sv,tV] at *
 all_goals have hl:((n.kids.length:Int) - 1).toNat=n.kids.length - 1:=AC
 all_goals try simp only [hl] at *
 all_goals try (have hg:((FP n).drop 1)[j]? =n.kids[j+2]? :=by (rw [List.getElem?_drop,M8 AC];congr 1;omega))
 all_goals try (have ha:=Ms (p:=JK p) (hg.trans ‹n.kids[j+2]? =_›);rw [ha] at hi;clear ha)
 all_goals try (rw [if_neg (by omega:¬j % 2=1)] at hi)
 all_goals try (rw [if_pos (by omega:j % 2=1)] at hi)
 all_goals try (exfalso;omega)
 all_goals first
  |refine ⟨j+1,⟨AC,?_⟩,AC,Yl,St.le_refl _⟩
  |refine Ao h ?_
 all_goals clear h hp
 all_goals try rw [Zl]
 all_goals try (rw [Bool.eq_false_iff];intro hc;simp only [Bool.and_eq_true,decide_eq_true_eq,beq_iff_eq,Bool.or_eq_true,Bool.not_eq_true'] at hc;obtain ⟨⟨⟨⟨c1,c2⟩,c3⟩,c4⟩,U⟩:=hc;first|omega|(simp_all [Fq];done))
 all_goals try (rw [hi];simp_all [JK,GS,HX];done)
 all_goals try (simp_all [Fq];done)
 all_goals try (rw [Bool.eq_false_iff];intro hc;simp only [Bool.and_eq_true,decide_eq_true_eq,beq_iff_eq,Bool.or_eq_true,Bool.not_eq_true'] at hc;obtain ⟨⟨⟨⟨c1,c2⟩,c3⟩,c4⟩,U⟩:=hc;rcases U with U|⟨U,c6⟩;omega;rw [hi] at c6;simp_all [JK,GS,HX];done)
 rw [List.drop_eq_nil_of_le (i:=j) (by rw [List.length_drop,EI AC];omega)] at hi
 have h2:n.kids.length % 2=0:=AC
 rw [hi]
 simp_all [Fq,EC]
 omega
theorem S4:∀{l:List Nd},l.length<=Dm l
 |[]=>Nat.le_refl _
 |x::r=>by have:=S4 (l:=r);have:=size_pos x;rw [Dm,List.length_cons];omega
theorem ev (n:Nd):n.kids.length<n.size:=by
 cases n with
 |mk a b c d e ks=>rw [Nd.size];have:=S4 (l:=ks);show ks.length<_;omega
theorem QX (U:n.kind=1):Gh n=Ey n [2,4]:=by
 have:EJ n=none:=by simp [EJ,U]
 simp [Gh,this]
theorem ig:M0 n=((Br n).isSome||Gh n||ZY n):=rfl
theorem M3 {l:List Int} (U:n.kind=1):Ey n l=l.contains n.form:=by simp [Ey,U]
theorem DG {k:Int} (U:n.kind=1):CP n k=(n.form==k):=by simp [CP,U]
theorem ec (hl:n.size<=1000000000) (hp:∀x,x.size<n.size->BS 129 p x) (hn:∀x,x.size<n.size->CP x 11=true\/CP x 12=true->p x=true):BS 129 (DP p) n:=by
 intro st R h
 have hk:∀x ∈ n.kids,BS 129 p x:=λx hx=>hp x (CT hx)
 have hkk:∀x ∈ n.kids,∀y ∈ x.kids,BS 129 p y:=λx hx y hy=>hp y (Nat.lt_trans (CT hy) (CT hx))
 have hd:∀x ∈ n.kids.drop 1,BS 129 p x:=λx hx=>hk x (List.mem_of_mem_drop hx)
 have hnk:∀x ∈ n.kids,CP x 11=true\/CP x 12=true->p x=true:=λx hx=>hn x (CT hx)
 have hkl:n.kids.length<=1000000000:=by have:=ev n;omega
 refine pB Tryz.func129 ?_
 repeat' ((conv=>whnf);first|(refine Gv ?_;intros)|(refine Gw ?_ ?_<;>intro _)|refine Gn ?_|refine Xe ?_|refine Zq ?_|refine KU (λl hl=>?_) (λhl=>?_)|refine nY ‹_› ?_|refine Rj (one:=true) (p:=p) hkl Do Do (.inl ⟨rfl,rfl⟩) hk ?_|refine Rj (one:=false) (p:=p) hkl Do Do (.inr ⟨rfl,rfl⟩) hk ?_|refine dX hkl hkk ?_|refine jv hd ?_|refine bR hk hnk ?_|refine hk _ ‹_› _ _ ?_)
 all_goals conv=>whnf
 all_goals (refine Ao h ?_;clear h hp hk hkk hd hn hnk;try simp only [Int.toNat_zero,Int.toNat_one,Int.reduceToNat] at *)
 all_goals first
  |(have g:n.kind=1:=by assumption
    simp_all [DP,QX,M3,DG];done)
  |(simp_all [DP,ig,Ho,HX];done)
  |(have:1<n.kids.length:=by omega
    simp_all [DP,ET];done)
  |(have:¬1<n.kids.length:=by omega
    simp_all [DP];done)
  |skip
 .have g:n.kind=1:=FS
  have U:Gh n=true:=FS
  rw [QX g,M3 g] at U
  simp only [List.contains_cons,List.contains_nil,Bool.or_false,Bool.or_eq_true,beq_iff_eq] at U
  rcases U with U|U<;>simp [DP,g,M3,U]
 .have g:n.kind=11:=FS
  have hb:ET p (n.kids.drop 1)=false:=by
   rw [ET,decide_eq_false M2,Bool.and_false]
  simp only [DP,g,hb,Bool.and_false];rfl
 .have g:n.kind=11:=FS
  have h2:0<n.kids.length:=AC
  have hb:ET p (n.kids.drop 1)=true:=by
   rw [ET,decide_eq_true M2,Bool.and_true]
   assumption
  have U:n.kids[0]?.any Gh=true:=lc
  simp only [DP,g,hb,U,h2,decide_true,Bool.and_true];rfl
 .have g:n.kind=17:=FS
  have h2:¬1<n.kids.length:=AC
  simp only [DP,g,h2,decide_false,Bool.false_and];rfl
theorem VS {k:Nat} {x:Nd} (h:CP x 11=true\/CP x 12=true):VR (k+1) x=true:=by
 have g:x.kind=1:=by rcases h with h|h<;>exact Jf h
 rw [DG g,DG g] at h
 simp only [beq_iff_eq] at h
 rw [VR]
 rcases h with h|h<;>simp [DP,g,M3,h]
theorem Ur:∀(k:Nat) (n:Nd),n.size<=k->n.size<=1000000000->BS 129 (VR k) n
 |0,n,h,_=>by have:=size_pos n;omega
 |k+1,n,h,hl=>ec hl (λx hx=>Ur k x AC AC) λx hx U=>by
  cases k with
  |zero=>have:=size_pos x;omega
  |succ k=>exact VS U
theorem bP (U:∀x ∈ l,BS 129 p x) (hn:∀x ∈ l,CP x 11=true\/CP x 12=true->p x=true) (h:R (.ret (.bool (S3 p l))) st):H5 218 [.slice 6 (Cc l) .any] st R:=by
 refine pB Tryz.func218 ?_
 repeat' ((conv=>whnf);first|(refine Gv ?_;intros)|(refine Gw ?_ ?_<;>intro _)|refine U _ ‹_› _ _ ?_|refine bR U hn ?_)
 all_goals conv=>whnf
 all_goals (refine Ao h ?_;clear h U hn;try simp only [Int.toNat_zero,Int.toNat_one,Int.reduceToNat] at *)
 all_goals simp_all [S3]
theorem OM (h:Dq n=some t):DH n=(2,t):=by
 have hm:DY n=false:=by
  unfold Dq at h
  unfold DY
  cases hq:(Bf n).2 with
  |true=>
   rw [hq] at h
   simp only [if_true,Ho,GS] at h |-
   cases U:CP (Bf n).1 1 with
   |false=>rw [U] at h;simp at h
   |true=>
    have g:=Jf U
    rw [DG g] at U
    rw [DG g,DG g,eq_of_beq U];rfl
  |false=>
   rw [hq] at h
   simp only [Bool.false_eq_true,if_false,Ho] at h |-
   cases U:CP (Bf n).1 5 with
   |false=>rw [U] at h;simp at h
   |true=>
    have g:=Jf U
    rw [DG g] at U
    rw [GW,HX,GS,DG g,DG g,DG g,eq_of_beq U];rfl
 simp [DH,hm,h]
theorem R6 (h:Dq n=none):(DH n).1≠2:=by
 unfold DH
 split
 .simp
 .rw [h];simp
theorem ef (h:(DH n).1=2):Dq n=some (DH n).2:=by
 cases hb:Dq n with
 |none=>exact absurd h (R6 hb)
 |some t=>rw [OM hb]
theorem ee (h:¬(DH n).1=2):Dq n=none:=by
 cases hb:Dq n with
 |none=>rfl
 |some t=>exact absurd (by rw [OM hb]) h
theorem eT {f:Nd} (h:f.kind=4):Br f=none:=by
 simp [Br,Ey,EJ,h]
theorem mS {f x y z:Nd} (hl:f.kids.length=3) (h0:f.kids[0]? =some x) (U:f.kids[1]? =some y) (h2:f.kids[2]? =some z) (ho:B9 x 15 o=true) (hs:B9 z 15 s=true):Bs f o s=some [y]:=by
 obtain ⟨_,e1⟩:=List.getElem?_eq_some_iff.1 U
 have hm:FP f=[y]:=by
  have h:=EI (n:=f) AC
  have g:=M8 (n:=f) (i:=0) AC
  rw [hl] at h
  match hmm:FP f,h,g with
  |[z],h,g=>
   simp only [List.getElem?_cons_zero,U,Option.some.injEq] at g
   rw [g]
 rw [GF,hm,if_pos]
 obtain ⟨_,e2⟩:=List.getElem?_eq_some_iff.1 h2
 exact ⟨AC,by simp [Dg,h0,ho],by simp [Fq,hl,e2,hs]⟩
theorem eS {f:Nd} (h:¬(Dg f o=true/\Fq f s=true)):Bs f o s=none:=by
 rw [GF,if_neg (λx=>h x.2)]
def HI (q:Nd->List UInt8×Bool) (f:Nd):List UInt8×Bool:=
 if f.kind=4 then (match Bs f [40] [41] with|some l=>if l.length=1 then (match l[0]? with|some x=>q x|none=>([],false)) else ([],false)|none=>([],false))
  else match Br f with|some t=>(t,true)|none=>([],false)
theorem qF {q:Nd->List UInt8×Bool} {f:Nd} (hk:n.kind=11) (hl:1<(n.kids.length:Int)) (hb:Iu (FD p) (n.kids.drop 1)=true) (U:n.kids[0]? =some f):BE p q n=HI q f:=by
 have g:2<=n.kids.length:=AC
 have hb:ET p (n.kids.drop 1)=true:=by
  rw [ET,decide_eq_true M2,hb];rfl
 simp only [BE,hk,g,hb,U,if_true];rfl
theorem qH {q:Nd->List UInt8×Bool} (U:n.kind=17):BE p q n=DW p n.kids 0 n.kids:=by
 simp [BE,U]
theorem qG {q:Nd->List UInt8×Bool} (h:¬n.kind=17) (k:n.kind=11->1<(n.kids.length:Int)->Iu (FD p) (n.kids.drop 1)=false):BE p q n=([],false):=by
 unfold BE
 by_cases g:n.kind=11
 .rw [if_pos g]
  split
  .rw [if_neg]
   rw [ET,k g AC];simp
  .rfl
 .rw [if_neg g,if_neg h]
theorem YM {q:Nd->List UInt8×Bool} {f:Nd} (h:f.kind=4) (U:Bs f [40] [41]=none):HI q f=([],false):=by simp [HI,h,U]
theorem YL {q:Nd->List UInt8×Bool} {f:Nd} (h:f.kind=4) (hf:¬f.kids.length=3):HI q f=([],false):=by
 rw [HI,if_pos h]
 cases U:Bs f [40] [41] with
 |none=>rfl
 |some l=>exact if_neg (by have:=Mj U;omega)
theorem YN {q:Nd->List UInt8×Bool} {f y:Nd} (h:f.kind=4) (U:Bs f [40] [41]=some [y]):HI q f=q y:=by simp [HI,h,U]
theorem dk {q:Nd->List UInt8×Bool} {f:Nd} (h:Br f=some t):HI q f=(t,true):=by
 by_cases U:f.kind=4
 .rw [eT U] at h;cases h
 .rw [HI,if_neg U,h]
theorem VA {q:Nd->List UInt8×Bool} {f:Nd} (U:¬f.kind=4) (h:Br f=none):HI q f=([],false):=by
 rw [HI,if_neg U,h]
def Tm (q:Nd->List UInt8×Bool) (x:Nd):Prop:=∀(st:St) (R:AL->St->Prop),R (.ret (.Bh [.str (q x).1,.bool (q x).2])) st->H5 146 [enc x] st R
theorem Xj {q:Nd->List UInt8×Bool} (hp:∀x,x.size<n.size->BS 129 p x) (hn:∀x,x.size<n.size->CP x 11=true\/CP x 12=true->p x=true)
 (hq:∀x,x.size<n.size->Tm q x):Tm (BE p q) n:=by
 intro st R h
 have hk:∀x ∈ n.kids,BS 129 p x:=λx U=>hp x (CT U)
 have hd:∀x ∈ n.kids.drop 1,BS 129 p x:=λx U=>hk x (List.mem_of_mem_drop U)
 have hnk:∀x ∈ n.kids,CP x 11=true\/CP x 12=true->p x=true:=λx U=>hn x (CT U)
 refine pB Tryz.func146 ?_
 repeat' ((conv=>whnf);first|(refine Gv ?_;intros)|(refine Gw ?_ ?_<;>intro _)|refine jv hd ?_|refine Gp ?_|refine hq _ (Nat.lt_trans (CT ‹_›) (CT ‹_›)) _ _ ?_|refine KU (λl hl=>?_) (λhl=>?_))
 all_goals try (refine Lj 5 [1] [0] n.kids.length (λk=>k<=n.kids.length/\DW p n.kids 0 n.kids=DW p n.kids k (n.kids.drop k)) ⟨Nat.zero_le _,rfl⟩ Yl ?_;rintro k ⟨hkl,hi⟩)
 repeat' ((conv=>whnf);first|(refine Gv ?_;intros)|(refine Gw ?_ ?_<;>intro _)|refine ON ?_|refine bP (λx U=>hk x (List.mem_of_mem_take (List.mem_of_mem_drop U))) (λx U=>hnk x (List.mem_of_mem_take (List.mem_of_mem_drop U))) ?_|refine bP (λx U=>hk x (List.mem_of_mem_drop U)) (λx U=>hnk x (List.mem_of_mem_drop U)) ?_)
 all_goals conv=>whnf
 all_goals first
  |refine AZ ?_ h
  |(refine ⟨k+1,⟨AC,?_⟩,AC,Yl,St.le_refl _⟩)
  |skip
 all_goals clear h hp hq hk hd hn hnk
 all_goals try (have e:=drop_at ‹n.kids[Int.toNat k]? =some _›;rw [Int.toNat_natCast] at e;rw [e,DW] at hi;clear e)
 all_goals try (rw [ef ‹_›] at hi)
 all_goals try (rw [ee ‹_›] at hi)
 all_goals try simp only [Int.toNat_zero,Int.toNat_one,Int.reduceToNat,Int.toNat_natCast] at *
 all_goals first
  |(simp_all;done)
  |refine Vq ?_
 all_goals try (rw [qF ‹_› ‹_› ‹_› ‹_›])
 all_goals try (rw [dk ‹_›];done)
 all_goals try (rw [VA ‹_› ‹_›];done)
 all_goals try (rw [YL ‹_› ‹_›];done)
 all_goals try (rw [YN ‹_› (mS ‹_› ‹_› ‹_› ‹_› ‹_› ‹_›)];exact Prod.ext rfl ‹_›)
 all_goals try (rw [YM ‹_› (eS (by rintro ⟨g1,g2⟩;simp_all [Dg,Fq]))];done)
 all_goals try simp only [sv,List.drop_zero] at *
 all_goals try (rw [List.drop_eq_nil_of_le AC] at hi)
 all_goals try (rw [qH ‹_›,hi];simp_all [DW];done)
 all_goals (refine qG ?_ ?_;all_goals intros;simp_all)
theorem Xi:∀(k:Nat) (n:Nd),n.size<=k->n.size<=1000000000->Tm (ic k) n
 |0,n,h,_=>by have:=size_pos n;omega
 |k+1,n,h,hl=>Xj (λx hx=>Ur k x AC AC) (λx hx U=>by
  cases k with
  |zero=>have:=size_pos x;omega
  |succ k=>exact VS U) λx hx=>Xi k x AC AC
theorem dS (U:n.size<=1000000000) (h:R (.ret (.int .i64 (NQ n))) st):H5 67 [enc n] st R:=by
 refine pB Tryz.func67 ?_
 repeat' ((conv=>whnf);first|(refine Gv ?_;intros)|(refine Gw ?_ ?_<;>intro _)|refine Ur _ _ (Nat.le_refl _) U _ _ ?_)
 all_goals conv=>whnf
 all_goals (refine fin h ?_;clear h;simp_all [NQ,G4])
theorem rK (U:n.size<=1000000000) (h:R (.ret (.Bh [.int .i64 (TX n).1,.str (TX n).2.1,.int .i64 (TX n).2.2])) st):H5 77 [enc n] st R:=by
 refine pB Tryz.func77 ?_
 repeat' ((conv=>whnf);first|(refine Gv ?_;intros)|(refine Gw ?_ ?_<;>intro _)|refine Xi _ _ (Nat.le_refl _) U _ _ ?_|refine Ur _ _ (Nat.le_refl _) U _ _ ?_)
 all_goals conv=>whnf
 all_goals (refine AZ ?_ h;clear h;refine Vr ?_;simp_all [TX,G4])
end
theorem Q4 {q:Nd->List (List UInt8)} {b:Bool}:∀{l:List Nd} {i:Nat},(∀x ∈ l,(q x).length<=x.size)->(Fg q b i l).length<=Dm l
 |[],_,_=>by simp [Fg,Dm]
 |x::r,i,h=>by
  have:=Q4 (b:=b) (l:=r) (i:=i+1) λy hy=>h y (List.mem_cons_of_mem _ hy)
  have:=h x List.mem_cons_self
  rw [Fg,List.length_append,Dm]
  split
  .omega
  .simp only [List.length_nil];omega
theorem Q5:∀{k:Nat} {n:Nd},(FQ k n).length<=n.size
 |0,n=>Nat.zero_le _
 |k+1,n=>by
  rw [FQ,Cv]
  have:=size_pos n
  split
  .simp only [List.length_cons,List.length_nil];omega
  .split
   .simp
   .have:=Q4 (b:=n.kind==13) (l:=n.kids) (i:=0) (q:=FQ k) λx _=>Q5
    cases n with
    |mk a b c d e ks=>rw [Nd.size];show (Fg _ _ 0 ks).length<=_;have:(Fg (FQ k) (a==13) 0 ks).length<=Dm ks:=this;show (Fg (FQ k) (a==13) 0 ks).length<=_;omega
section
variable {st:St} {R:AL->St->Prop}
theorem iT (U:n.size<=1000000000) (h:R (.ret (.Bh [.slice 1 (strs (GG n).1) .any,.int .i64 (GG n).2])) st):H5 251 [enc n] st R:=
 dC (Nat.le_trans Q5 U) h
theorem gJ {k f:Int} {l c:Int}:enc (.mk k f t l c ks)=.agg [.int .i64 k,.int .i64 f,.str t,.int .i64 l,.int .i64 c,.slice 6 (ks.map Ax) .any]:=by
 rw [enc,Ax,BG];rfl
end
end Go.Proofs.Z
namespace Go.Aw
open Go
def Gx (c:Int):Int:=
 if c=40\/c=41\/c=44\/c=59\/c=91\/c=93\/c=96\/c=123\/c=125 then 6
 else if c=34\/c=39 then 7
 else if 32<c/\c<127 then 5
 else 0
def ML (c:Int):Int:=
 if c=215\/c=247 then 5
 else if 223<=c/\c<=255\/945<=c/\c<=969 then 2
 else if 192<=c/\c<=222\/913<=c/\c<=937/\c≠930 then 3
 else if c<160\/c=173\/55296<=c/\c<=57343\/1114111<c then 0
 else if 160<c/\c<=191\/8592<=c/\c<=8959 then 5
 else 8
def AQ (c:Int):Int:=
 if c=32\/9<=c/\c<=13 then 1
 else if 48<=c/\c<=57 then 4
 else if 97<=c/\c<=122\/c=95 then 2
 else if 65<=c/\c<=90 then 3
 else if c<128 then Gx c else ML c
def Bw (c base:Int):Int:=
 let v:=if 48<=c/\c<=57 then c - 48 else if 97<=c/\c<=102 then c - 87 else if 65<=c/\c<=70 then c - 55 else 16
 if base<2\/16<base\/base<=v then -1 else v
theorem El (l:List UInt8):1<=(AU l).2:=by
 unfold AU
 split
 .decide
 .dsimp only
  repeat' split
  all_goals simp
theorem GQ {l:List UInt8} (h:l≠[]):(AU l).2<=l.length:=by
 cases l with
 |nil=>exact absurd rfl h
 |cons a l=>
  have hc:∀k:Nat,(match l[k]? with|some b=>b.toNat / 64==2|none=>false)=true->k+2<=(a::l).length:=λk e=>by
   cases hk:l[k]? with
   |none=>rw [hk] at e;cases e
   |some b=>have:=(List.getElem?_eq_some_iff.1 hk).1;rw [List.length_cons];omega
  unfold AU
  dsimp only
  split
  .simp
  split
  .rename_i U
   simp only [Bool.and_eq_true] at U
   have:=hc 0 U.2
   split<;>simp only<;>omega
  split
  .rename_i U
   simp only [Bool.and_eq_true] at U
   have:=hc 1 U.2
   split<;>simp only<;>omega
  split
  .rename_i U
   simp only [Bool.and_eq_true] at U
   have:=hc 2 U.2
   split<;>simp only<;>omega
  .simp
def BA (p:Nat×Nat->Bool) (l:List UInt8):Nat:=
 match l with
 |[]=>0
 |a::r=>if p (AU (a::r)) then (AU (a::r)).2+BA p ((a::r).drop (AU (a::r)).2) else 0
termination_by l.length
decreasing_by
 have:=El (a::r)
 simp only [List.length_drop,List.length_cons]
 omega
theorem E6 (p:Nat×Nat->Bool):BA p []=0:=by rw [BA]
theorem CL {p:Nat×Nat->Bool} {l:List UInt8} (h:l≠[]) (U:p (AU l)=true):BA p l=(AU l).2+BA p (l.drop (AU l).2):=by
 cases l with
 |nil=>exact absurd rfl h
 |cons a r=>rw [BA,if_pos U]
theorem Fx {p:Nat×Nat->Bool} {l:List UInt8} (U:p (AU l)=false):BA p l=0:=by
 cases l with
 |nil=>exact E6 p
 |cons a r=>rw [BA,if_neg (by rw [U];decide)]
theorem NA (p:Nat×Nat->Bool) (l:List UInt8):BA p l<=l.length:=by
 fun_induction BA p l with
 |case1=>exact Nat.le_refl _
 |case2 a r h U=>
  have:=GQ (l:=a::r) GT
  rw [List.length_drop] at U
  omega
 |case3 a r h=>exact Nat.zero_le _
theorem ZE (p:Nat×Nat->Bool) (l:List UInt8) (h:BA p l<l.length):p (AU (l.drop (BA p l)))=false:=by
 fun_induction BA p l with
 |case1=>simp at h
 |case2 a r U ih=>
  rw [List.length_drop] at ih
  have:=GQ (l:=a::r) GT
  rw [<-List.drop_drop]
  exact ih AC
 |case3 a r U=>simpa using U
def B6 (p:Int->Bool) (l:List UInt8):Nat:=BA (λd=>p (d.1:Nat)) l
theorem S8 (p:Int->Bool):B6 p []=0:=E6 _
theorem eB {p:Int->Bool} {l:List UInt8} (h:l≠[]) (U:p ((AU l).1:Nat)=true):B6 p l=(AU l).2+B6 p (l.drop (AU l).2):=CL h U
theorem Rz {p:Int->Bool} {l:List UInt8} (U:p ((AU l).1:Nat)=false):B6 p l=0:=Fx U
theorem Gq (p:Int->Bool) (l:List UInt8):B6 p l<=l.length:=NA _ l
theorem RA (p:Int->Bool) (l:List UInt8) (h:B6 p l<l.length):p ((AU (l.drop (B6 p l))).1:Nat)=false:=ZE _ l h
theorem rune_le {c:Nat} (h:pos<t.length) (hd:(c,m)=AU (t.drop pos)):pos+m<=t.length/\1<=m:=by
 have U:=El (t.drop pos)
 have h2:=GQ (l:=t.drop pos) (λe=>by have:=congrArg List.length e;rw [List.length_drop,List.length_nil] at this;omega)
 rw [List.length_drop,<-hd] at h2
 rw [<-hd] at U
 exact ⟨AC,U⟩
theorem PY {p:Nat×Nat->Bool} {c n:Nat} (h:pos<t.length) (U:(c,m)=AU (t.drop pos)) (hp:p (c,m)=true) (hi:n=pos+BA p (t.drop pos)):n=pos+m+BA p (t.drop (pos+m)):=by
 rw [hi,CL (λe=>by have:=congrArg List.length e;rw [List.length_drop,List.length_nil] at this;omega) (by rw [<-U];exact hp),<-U,List.drop_drop]
 exact (Nat.add_assoc _ _ _).symm
theorem Uz {p:Nat×Nat->Bool} {c n:Nat} (U:(c,m)=AU (t.drop pos)) (hp:p (c,m)=false) (hi:n=pos+BA p (t.drop pos)):n=pos:=by
 rw [hi,Fx (by rw [<-U];exact hp)];rfl
theorem RB {p:Nat×Nat->Bool} {n:Nat} (h:¬pos<t.length) (hi:n=pos+BA p (t.drop pos)):n=pos:=by
 rw [hi,List.drop_eq_nil_iff.2 AC,E6];rfl
def DK (d:Nat×Nat):Bool:= !(d.1==65533&&d.2==1)
end Go.Aw
namespace Go.Proofs.Z
open Go Go.Aw
def Na (s:List UInt8) (i:Int):Int×Int:=if i<0\/s.length<=i then (0,0) else U8 (s.drop i.toNat)
def oD (s:List UInt8) (i U:Int):Int:=if i<0\/s.length<i then 0 else i+B6 (λc=>AQ c==U) (s.drop i.toNat)
def NR (s:List UInt8):Int×Int:=if BA DK s<s.length then (BA DK s,10) else (s.length,0)
theorem SH (h:i<0\/s.length<=i):Na s i=(0,0):=if_pos h
theorem Nb (h:0<=i) (k:i<s.length):Na s i=U8 (s.drop i.toNat):=if_neg AC
theorem kF {k:Int} (h:i<0\/s.length<i):oD s i k=0:=if_pos h
theorem PO {k:Int} (h:0<=i) (U:i<=s.length):oD s i k=i+B6 (λc=>AQ c==k) (s.drop i.toNat):=if_neg AC
theorem Z5 (h:s≠[]):U8 s=((((AU s).1:Nat):Int),(((AU s).2:Nat):Int)):=by
 cases s with
 |nil=>exact absurd rfl h
 |cons a r=>rfl
theorem Pq {c:Nat} (h:pos<s.length) (U:(c,m)=AU (s.drop pos)):U8 (s.drop (pos:Int).toNat)=((c:Int),(m:Int)):=by
 rw [show (pos:Int).toNat=pos by omega,Z5 (λe=>by have:=congrArg List.length e;rw [List.length_drop,List.length_nil] at this;omega),<-U]
theorem gb (h:pos<s.length) (k:BA DK s=pos):NR s=(((pos:Nat):Int),10):=by
 unfold NR;rw [k,if_pos h]
theorem mc (h:¬pos<s.length) (k:BA DK s=pos):NR s=((s.length:Int),0):=by
 unfold NR;rw [k,if_neg h]
section
variable {st:St} {R:AL->St->Prop}
theorem rf {c:Int} (h:R (.ret (.int .i64 (Gx c))) st):PC 84 [.int .i32 c] st R:=by
 refine pB Tryz.func84 ?_
 repeat' ((conv=>whnf);first|(refine BV ?_;intros)|(refine BW ?_ ?_<;>intro _)|fail)
 all_goals exact fin h (BP (by unfold Gx;(repeat' split)<;>first|omega|rfl))
theorem fM {c:Int} (h:R (.ret (.int .i64 (ML c))) st):PC 85 [.int .i32 c] st R:=by
 refine pB Tryz.func85 ?_
 repeat' ((conv=>whnf);first|(refine BV ?_;intros)|(refine BW ?_ ?_<;>intro _)|fail)
 all_goals exact fin h (BP (by unfold ML;(repeat' split)<;>first|omega|rfl))
theorem K6 {c:Int} (h:R (.ret (.int .i64 (AQ c))) st):PC 43 [.int .i32 c] st R:=by
 refine pB Tryz.func43 ?_
 repeat' ((conv=>whnf);first|(refine BV ?_;intros)|(refine BW ?_ ?_<;>intro _)|refine rf ?_|refine fM ?_)
 all_goals exact fin h (BP (by unfold AQ;(repeat' split)<;>first|omega|rfl))
theorem ja (U:s.length<4611686018427387904) (h:R (.ret (.Bh [.int .i32 (Na s i).1,.int .i64 (Na s i).2])) st):PC 276 [.str s,.int .i64 i] st R:=by
 refine pB Tryz.func276 ?_
 repeat' ((conv=>whnf);first|(refine BV ?_;intros)|(refine BW ?_ ?_<;>intro _)|refine pA ?_)
 all_goals exact fin h (by first|rw [SH AC]|rw [Nb AC AC])
theorem pY {k:Int} (hl:s.length<4611686018427387904) (h:R (.ret (.int .i64 (oD s i k))) st):PC 86 [.str s,.int .i64 i,.int .i64 k] st R:=by
 refine pB Tryz.func86 ?_
 repeat' ((conv=>whnf);first|(refine BV ?_;intros)|(refine BW ?_ ?_<;>intro _)|refine K6 ?_)
 all_goals try exact fin h (BP (kF AC))
 have hlen:(s.drop i.toNat).length=s.length - i.toNat:=List.length_drop
 generalize ht:s.drop i.toNat=t at hlen
 refine QW (α:=Nat) (λ_=>[]) (λpos=>[(0,[.O9 t pos])]) [0,1,2,20] [] (λ_=>st) (λpos=>pos<=t.length/\B6 (λc=>AQ c==k) t=pos+B6 (λc=>AQ c==k) (t.drop pos)) (λpos=>t.length - pos) 0 ⟨Nat.zero_le _,GT⟩ Yl (St.le_refl _) ?_
 rintro pos ⟨hp,hi⟩
 repeat' ((conv=>whnf);first|(refine BV ?_;intros)|(refine BW ?_ ?_<;>intro _)|refine K6 ?_)
 .rename_i U c m hd hk
  have hr:=rune_le U hd
  conv=>whnf
  exact ⟨pos+m,⟨hr.1,PY U hd (beq_iff_eq.2 hk) hi⟩,AC,Yl,St.le_refl _⟩
 .rename_i U c m hd hk
  have:=Uz (p:=λd=>AQ (d.1:Nat)==k) hd (beq_eq_false_iff_ne.2 hk) hi
  exact fin h (BP (by rw [PO AC AC,ht,this]))
 .rename_i U hls
  have:=RB U hi
  exact fin h (BP (by rw [PO AC AC,ht,this];omega))
theorem Tu (h:R (.ret (.Bh [.int .i64 (NR s).1,.int .i64 (NR s).2])) st):PC 40 [.str s] st R:=by
 refine pB Tryz.func40 ?_
 repeat' ((conv=>whnf);first|(refine BV ?_;intros)|(refine BW ?_ ?_<;>intro _)|fail)
 refine QW (α:=Nat) (λ_=>[]) (λpos=>[(0,[.O9 s pos])]) [0,9] [] (λ_=>st) (λpos=>pos<=s.length/\BA DK s=pos+BA DK (s.drop pos)) (λpos=>s.length - pos) 0 ⟨Nat.zero_le _,GT⟩ Yl (St.le_refl _) ?_
 rintro pos ⟨hp,hi⟩
 repeat' ((conv=>whnf);first|(refine BV ?_;intros)|(refine BW ?_ ?_<;>intro _)|refine pA ?_)
 .rename_i U c m hd hc hm
  rw [Pq U hd] at hm
  have hk:=Uz hd (by simp only [DK];have h1:c=65533:=hc;have h2:m=1:=Int.ofNat.inj hm;rw [h1,h2];rfl) hi
  exact fin h (by rw [gb U hk])
 .rename_i U c m hd hc hm
  rw [Pq U hd] at hm
  have hr:=rune_le U hd
  conv=>whnf
  exact ⟨pos+m,⟨hr.1,PY U hd (by simp only [DK];have:¬m=1:=λe=>hm (by subst e;rfl);simp [this]) hi⟩,AC,Yl,St.le_refl _⟩
 .rename_i U c m hd hc
  have hr:=rune_le U hd
  conv=>whnf
  exact ⟨pos+m,⟨hr.1,PY U hd (by simp only [DK];have:¬c=65533:=hc;simp [this]) hi⟩,AC,Yl,St.le_refl _⟩
 .rename_i U hls
  exact fin h (by rw [mc U (RB U hi)])
end
end Go.Proofs.Z
namespace Go.Aw
open Go
theorem cM {e:UInt8} (k:K (e.toNat:Nat)):∃r,r=IntKind.i64.wrap ((e.toNat:Nat):Int)/\K r:=by
 have:=e.toNat_lt
 exact Wq AC AC k
def AV:List UInt8->Int
 |[]=> -1
 |a::_=>(a.toNat:Nat)
theorem ie (l:List UInt8): -1<=AV l/\AV l<=255:=by
 cases l with
 |nil=>exact ⟨Do,Do⟩
 |cons a r=>have:=a.toNat_lt;simp only [AV];omega
end Go.Aw
namespace Go.Proofs.Z
open Go Go.Aw
section
variable {st:St} {R:AL->St->Prop}
theorem tq {c a:Int} (h:R (.ret (.bool (decide (a<=c/\c<=b)))) st):PC 268 [.int .i64 c,.int .i64 a,.int .i64 b] st R:=by
 refine pB Tryz.func268 ?_
 repeat' ((conv=>whnf);first|(refine BV ?_;intros)|(refine BW ?_ ?_<;>intro _)|fail)
 all_goals exact fin h (congrArg (λb=>AL.ret (V.bool b)) (by first|exact decide_eq_true (by omega)|exact decide_eq_false AC))
end
end Go.Proofs.Z
namespace Go.Aw
open Go
def HP (l:List UInt8):Nat:=if AV l=13/\AV (l.drop 1)=10 then 2 else if AV l=13\/AV l=10\/AV l=12 then 1 else 0
def XJ (CC:Int):Int:=(CC - 1) / 8*8+9
def A2 (l:List UInt8):Nat:=if 0<HP l then HP l else (AU l).2
def Ff (l:List UInt8) (line:Int):Int:=if 0<HP l then line+1 else line
def Gr (l:List UInt8) (CC:Int):Int:=if 0<HP l then 1 else if AV l=9 then XJ CC else CC+1
theorem Ds {i:Nat} {e:UInt8} (h:s[i]? =some e):AV (s.drop i)=(e.toNat:Nat):=by rw [drop_at h];rfl
theorem EF {i:Nat} (h:s.length<=i):AV (s.drop i)= -1:=by rw [List.drop_eq_nil_iff.2 h];rfl
theorem Y7 (l:List UInt8):HP l<=l.length:=by
 rcases l with _|⟨a,_|⟨b,r⟩⟩
 .decide
 .have e:¬(AV [a]=13/\AV ([a].drop 1)=10):=λh=>absurd (show (-1:Int)=10 from h.2) Do
  unfold HP
  rw [if_neg e,List.length_singleton]
  by_cases h:AV [a]=13\/AV [a]=10\/AV [a]=12
  .rw [if_pos h];omega
  .rw [if_neg h];omega
 .unfold HP
  simp only [List.length_cons]
  by_cases U:AV (a::b::r)=13/\AV ((a::b::r).drop 1)=10
  .rw [if_pos U];omega
  .rw [if_neg U]
   by_cases h:AV (a::b::r)=13\/AV (a::b::r)=10\/AV (a::b::r)=12
   .rw [if_pos h];omega
   .rw [if_neg h];omega
theorem Fz {l:List UInt8} (h:l≠[]):A2 l<=l.length/\1<=A2 l:=by
 unfold A2
 split
 .exact ⟨Y7 l,FS⟩
 .exact ⟨GQ h,El l⟩
theorem ca (s:List UInt8) (pos:Nat):¬pos<s.length\/(pos+A2 (s.drop pos)<=s.length/\1<=A2 (s.drop pos)):=by
 by_cases h:pos<s.length
 .have:=Fz (l:=s.drop pos) (λe=>by have:=congrArg List.length e;rw [List.length_drop,List.length_nil] at this;omega)
  rw [List.length_drop] at this
  exact .inr ⟨AC,this.2⟩
 .exact .inl h
end Go.Aw
namespace Go.Proofs.Z
open Go Go.Aw
def spot (pos:Nat) (line CC:Int):V:=.agg [.int .i64 pos,.int .i64 line,.int .i64 CC]
theorem RC {p:Nat} {p' l l' c U:Int} (e1:(p:Int)=p') (e2:l=l') (e3:c=U):AL.ret (spot p l c)=AL.ret (.agg [.int .i64 p',.int .i64 l',.int .i64 U]):=by subst e1;subst e2;subst e3;rfl
section
variable {st:St} {R:AL->St->Prop}
theorem aR {c:Nat} (U:s.length<4611686018427387904) (hx:Na s i=((c:Int),(m:Int))) (h:R (.ret (.Bh [.int .i32 c,.int .i64 m])) st):PC 276 [.str s,.int .i64 i] st R:=ja U (by rw [hx];exact h)
theorem SG (hl:s.length<4611686018427387904) (hp:pos<s.length) (h:R (.ret (.int .i64 (HP (s.drop pos):Nat))) st):PC 226 [.str s,.int .i64 pos] st R:=by
 obtain ⟨e,U⟩:∃e,s[pos]? =some e:=⟨s[pos],List.getElem?_eq_getElem hp⟩
 have he':s[(pos:Int).toNat]? =some e:=U
 have h0:=Ds U
 have h1:AV ((s.drop pos).drop 1)=AV (s.drop (pos+1)):=by rw [List.drop_drop]
 refine pB Tryz.func226 ?_
 repeat' ((conv=>whnf);first|(refine BV ?_;intros)|(refine BW ?_ ?_<;>intro _)|fail)
 all_goals try have h2:=Ds (show s[pos+1]? =some _ by assumption)
 all_goals try have h3:=EF (s:=s) (i:=pos+1) AC
 all_goals exact fin h (BP (by unfold HP;rw [h1];(repeat' split)<;>omega))
theorem rY {CC:Int} (U:1<=CC) (h1:CC<=4000000000000000000) (h:R (.ret (.int .i64 (XJ CC))) st):PC 277 [.int .i64 CC] st R:=by
 refine pB Tryz.func277 ?_
 repeat' ((conv=>whnf);first|(refine BV ?_;intros)|(refine BW ?_ ?_<;>intro _)|fail)
 exact fin h (BP (by unfold XJ;omega))
theorem bq {line CC:Int} (hl:s.length<4611686018427387904) (hp:pos<s.length) (h0:1<=line) (h1:line<=4000000000000000000) (h2:1<=CC) (h3:CC<=4000000000000000000)
 (h:R (.ret (spot (pos+A2 (s.drop pos)) (Ff (s.drop pos) line) (Gr (s.drop pos) CC))) st):PC 227 [.str s,spot pos line CC] st R:=by
 obtain ⟨e,he⟩:∃e,s[pos]? =some e:=⟨s[pos],List.getElem?_eq_getElem hp⟩
 have he':s[(pos:Int).toNat]? =some e:=he
 have hh:=Ds he
 have hn:=Y7 (s.drop pos)
 rw [List.length_drop] at hn
 rcases hd:AU (s.drop pos) with ⟨c,m⟩
 have hr:=rune_le hp hd.symm
 have hx:Na s pos=((c:Int),(m:Int)):=by rw [Nb AC AC,Pq hp hd.symm]
 refine pB Tryz.func227 ?_
 repeat' ((conv=>whnf);first|(refine BV ?_;intros)|(refine BW ?_ ?_<;>intro _)|refine SG hl hp ?_|refine aR hl hx ?_|refine rY h2 h3 ?_)
 .have U:0<HP (s.drop pos):=AC
  exact fin h (RC (by unfold A2;rw [if_pos U];omega) (by unfold Ff;rw [if_pos U]) (by unfold Gr;rw [if_pos U]))
 .have U:¬0<HP (s.drop pos):=AC
  exact fin h (RC (by unfold A2;rw [if_neg U,hd];omega) (by unfold Ff;rw [if_neg U]) (by unfold Gr;rw [if_neg U,if_pos AC]))
 .have U:¬0<HP (s.drop pos):=AC
  exact fin h (RC (by unfold A2;rw [if_neg U,hd];omega) (by unfold Ff;rw [if_neg U]) (by unfold Gr;rw [if_neg U,if_neg AC]))
end
end Go.Proofs.Z
namespace Go.Aw
open Go
def B1 (l:List UInt8) (k:Nat) (p:Int×Int):Int×Int:=
 match l with
 |[]=>p
 |a::r=>if k<A2 (a::r) then p else B1 ((a::r).drop (A2 (a::r))) (k - A2 (a::r)) (Ff (a::r) p.1,Gr (a::r) p.2)
termination_by l.length
decreasing_by
 have:=Fz (l:=a::r) GT
 simp only [List.length_drop,List.length_cons]
 omega
theorem GM (k:Nat) (p:Int×Int):B1 [] k p=p:=by rw [B1]
theorem FT {l:List UInt8} {k:Nat} {p:Int×Int} (h:k<A2 l):B1 l k p=p:=by
 cases l with
 |nil=>exact GM k p
 |cons a r=>rw [B1,if_pos h]
theorem ER {l:List UInt8} {k:Nat} {p:Int×Int} (U:l≠[]) (h:¬k<A2 l):B1 l k p=B1 (l.drop (A2 l)) (k - A2 l) (Ff l p.1,Gr l p.2):=by
 cases l with
 |nil=>exact absurd rfl U
 |cons a r=>rw [B1,if_neg h]
theorem FU {l:List UInt8} {p:Int×Int}:B1 l 0 p=p:=by
 cases l with
 |nil=>exact GM 0 p
 |cons a r=>exact FT (Fz GT).2
theorem TA (h:pos<s.length):s.drop pos≠[]:=λe=>by
 have:=congrArg List.length e;rw [List.length_drop,List.length_nil] at this;omega
theorem RL {k:Nat} {line CC:Int} (h:pos<s.length) (U:¬pos+k<pos+A2 (s.drop pos)):
 B1 (s.drop pos) k (line,CC)=B1 (s.drop (pos+A2 (s.drop pos))) (k - A2 (s.drop pos)) (Ff (s.drop pos) line,Gr (s.drop pos) CC):=by
 rw [ER (TA h) AC,List.drop_drop]
theorem UC (l:List UInt8) (line:Int):line<=Ff l line/\Ff l line<=line+1:=by unfold Ff;split<;>omega
theorem PZ (l:List UInt8) {CC:Int} (h:1<=CC):1<=Gr l CC/\Gr l CC<=CC+8:=by
 unfold Gr XJ
 by_cases U:0<HP l
 .rw [if_pos U];omega
 .rw [if_neg U]
  by_cases h2:AV l=9
  .rw [if_pos h2];omega
  .rw [if_neg h2];omega
end Go.Aw
namespace Go.Proofs.Z
open Go Go.Aw
section
variable {st:St} {R:AL->St->Prop}
theorem ui {k:Nat} (hl:s.length<=100000000) (hk:k<=s.length) (h:R (.ret (.Bh [.int .i64 (B1 s k (1,1)).1,.int .i64 (B1 s k (1,1)).2,.int .i64 0])) st):PC 152 [.str s,.int .i64 k] st R:=by
 refine pB Tryz.func152 ?_
 repeat' ((conv=>whnf);first|exact D1|(refine BV ?_;intros)|(refine D2 ?_ ?_ ?_;rotate_left)|(refine BW ?_ ?_<;>intro _)|with_reducible refine WF ?_)
 refine T0 (α:=Nat) (β:=Int) (γ:=Int) (λ_ _ _=>[]) (λpos line CC=>[(0,[.int .i64 (pos:Int),.int .i64 line,.int .i64 CC])]) [0,1,7] [] (λ_ _ _=>st)
  (λpos line CC=>pos<=k/\1<=line/\line<=1+(pos:Int)/\1<=CC/\CC<=1+8*(pos:Int)/\B1 s k (1,1)=B1 (s.drop pos) (k - pos) (line,CC)) (λpos _ _=>k - pos) 0 1 1 ⟨AC,AC,AC,AC,AC,rfl⟩ Yl (St.le_refl _) ?_
 rintro pos line CC ⟨h1,h2,h3,h4,h5,U⟩
 have hr:=ca s pos
 have hL:=UC (s.drop pos) line
 have hC:=PZ (s.drop pos) h4
 repeat' ((conv=>whnf);first|exact D1|(refine BV ?_;intros)|(refine D2 ?_ ?_ ?_;rotate_left)|(refine BW ?_ ?_<;>intro _)|refine bq AC AC AC AC AC AC ?_|with_reducible refine WF ?_)
 .exact fin h (by rw [U,FT AC])
 .conv=>whnf
  exact ⟨(pos+A2 (s.drop pos),Ff (s.drop pos) line,Gr (s.drop pos) CC),⟨UV,UV,UV,UV,UV,by dsimp only;rw [U,RL AC AC,Nat.sub_sub]⟩,UV,Yl,St.le_refl _⟩
 .have hz:k - pos=0:=AC
  exact fin h (by rw [U,hz,FU])
theorem o0 {U:Int} (hl:s.length<=100000000) (h0:1<=U) (h1:U<=2147483648) (h:R (.ret (.Bh [.int .i64 (B1 s s.length (1,U)).2,.int .i64 0])) st):PC 153 [.str s,.int .i64 U] st R:=by
 refine pB Tryz.func153 ?_
 repeat' ((conv=>whnf);first|(refine BV ?_;intros)|(refine BW ?_ ?_<;>intro _)|fail)
 refine T0 (α:=Nat) (β:=Int) (γ:=Int) (λ_ _ _=>[]) (λpos line CC=>[(0,[.int .i64 (pos:Int),.int .i64 line,.int .i64 CC])]) [0,6] [] (λ_ _ _=>st)
  (λpos line CC=>pos<=s.length/\1<=line/\line<=1+(pos:Int)/\1<=CC/\CC<=U+8*(pos:Int)/\B1 s s.length (1,U)=B1 (s.drop pos) (s.length - pos) (line,CC)) (λpos _ _=>s.length - pos) 0 1 U ⟨AC,AC,AC,AC,AC,rfl⟩ Yl (St.le_refl _) ?_
 rintro pos line CC ⟨h1,h2,h3,h4,h5,h6⟩
 have hr:=ca s pos
 have hL:=UC (s.drop pos) line
 have hC:=PZ (s.drop pos) h4
 repeat' ((conv=>whnf);first|(refine BV ?_;intros)|(refine BW ?_ ?_<;>intro _)|refine bq AC AC AC AC AC AC ?_)
 .conv=>whnf
  exact ⟨(pos+A2 (s.drop pos),Ff (s.drop pos) line,Gr (s.drop pos) CC),⟨UV,UV,UV,UV,UV,by dsimp only;rw [h6,RL AC AC,Nat.sub_sub]⟩,UV,Yl,St.le_refl _⟩
 .have hz:s.length - pos=0:=AC
  exact fin h (by rw [h6,hz,FU])
end
end Go.Proofs.Z
namespace Go.Aw
open Go
theorem q6 {st:St} {γ δ:Type} (f:α->β->γ->δ->List (Nat×V)) (g:α->β->γ->δ->List (Nat×List V)) (keep kb:List Nat) (S:α->β->γ->δ->St) (J:α->β->γ->δ->Prop) (U:α->β->γ->δ->Nat) (x0:α) (y0:β) (z0:γ) (u0:δ) (h0:J x0 y0 z0 u0)
 (he:(env.F3 (f x0 y0 z0 u0) (g x0 y0 z0 u0) keep kb).C7 env) (hs:St.le (S x0 y0 z0 u0) st)
 (hb:∀x y z u,J x y z u->ih (Bp (λenv' st'=>∃p:α×β×γ×δ,J p.1 p.2.1 p.2.2.1 p.2.2.2/\U p.1 p.2.1 p.2.2.1 p.2.2.2<U x y z u/\(env.F3 (f p.1 p.2.1 p.2.2.1 p.2.2.2) (g p.1 p.2.1 p.2.2.1 p.2.2.2) keep kb).C7 env'/\St.le (S p.1 p.2.1 p.2.2.1 p.2.2.2) st') Q) (env.F3 (f x y z u) (g x y z u) keep kb) (S x y z u)):
 ∃(α:Type) (E:α->Env) (S:α->St) (J:α->Prop) (U:α->Nat) (x0:α),J x0/\(E x0).C7 env/\St.le (S x0) st/\
  ∀x,J x->ih (Bp (λenv' st'=>∃y,J y/\U y<U x/\(E y).C7 env'/\St.le (S y) st') Q) (E x) (S x):=
 ⟨α×β×γ×δ,λp=>env.F3 (f p.1 p.2.1 p.2.2.1 p.2.2.2) (g p.1 p.2.1 p.2.2.1 p.2.2.2) keep kb,λp=>S p.1 p.2.1 p.2.2.1 p.2.2.2,λp=>J p.1 p.2.1 p.2.2.1 p.2.2.2,λp=>U p.1 p.2.1 p.2.2.1 p.2.2.2,(x0,y0,z0,u0),h0,he,hs,λp h=>hb p.1 p.2.1 p.2.2.1 p.2.2.2 h⟩
def Ec (s:List UInt8) (U pos:Nat):List (List UInt8):=
 if h:pos<s.length then
  if 0<HP (s.drop pos) then (s.take pos).drop U::Ec s (pos+HP (s.drop pos)) (pos+HP (s.drop pos)) else Ec s U (pos+1)
 else [s.drop U]
termination_by s.length - pos
decreasing_by all_goals omega
theorem tc {a:Int} (h:¬a<b) (k:K a):∃r,r=(if a<b then b else a)/\K r:=⟨a,(if_neg h).symm,k⟩
theorem td {a:Int} (h:a<b) (k:K b):∃r,r=(if a<b then b else a)/\K r:=⟨b,(if_pos h).symm,k⟩
theorem fv {l:List (List UInt8)} {own:AF} {st:St} {K:V->St->Prop} (h:own.BH st) (hb:l.length<=999999999)
 (k:∀U:AF,U.BH st->K (.slice 1 (strs (l++[x])) U) (U.st st (l++[x]).length)):Ag 1 16 (strs l) own [[.str x]] (own.st st l.length) K:=
 OY (new:=[x]) h PP k
theorem dv {U:Nat} (h:pos<s.length) (k:0<HP (s.drop pos)):Ec s U pos=(s.take pos).drop U::Ec s (pos+HP (s.drop pos)) (pos+HP (s.drop pos)):=by
 rw [Ec,dif_pos h,if_pos k]
theorem dt {U:Nat} (h:pos<s.length) (k:¬0<HP (s.drop pos)):Ec s U pos=Ec s U (pos+1):=by
 rw [Ec,dif_pos h,if_neg k]
theorem YW {U:Nat} (h:¬pos<s.length):Ec s U pos=[s.drop U]:=by
 rw [Ec,dif_neg h]
end Go.Aw
namespace Go.Proofs.Z
open Go Go.Aw
section
variable {st:St} {R:AL->St->Prop}
attribute [local irreducible] Go.Aw.Ag
theorem aI (hl:s.length<=100000000) (h:∀own:AF,own.BH st->R (.ret (.slice 1 (strs (Ec s 0 0)) own)) (own.st st (Ec s 0 0).length)):PC 151 [.str s] st R:=by
 refine pB Tryz.func151 ?_
 repeat' ((conv=>whnf);first|(refine BV ?_;intros)|(refine BW ?_ ?_<;>intro _)|refine uD (λ_=>?_) ?_|fail)
 refine q6 (α:=Nat) (β:=Nat) (γ:=List (List UInt8)) (δ:=AF) (λpos U l own=>[(5,.int .i64 (pos:Int)),(4,.int .i64 (U:Int)),(3,.slice 1 (strs l) own)]) (λ_ _ _ _=>[]) [0] [] (λ_ _ l own=>own.st st l.length)
  (λpos U l own=>U<=pos/\pos<=s.length/\l.length<=pos/\own.BH st/\Ec s 0 0=l++Ec s U pos) (λpos _ _ _=>s.length - pos) 0 0 [] .full ⟨AC,AC,GT,trivial,rfl⟩ Yl (St.le_refl _) ?_
 rintro pos U l own ⟨h1,h2,h3,h4,h5⟩
 have hn:=Y7 (s.drop pos)
 rw [List.length_drop] at hn
 repeat' ((conv=>whnf);first|(refine BV ?_;intros)|(refine BW ?_ ?_<;>intro _)|refine uD (λ_=>?_) ?_|refine SG AC AC ?_|refine tc AC ?_|refine td AC ?_|refine fv h4 AC (λown' ho=>?_))
 .conv=>whnf
  exact ⟨(pos+HP (s.drop pos),pos+HP (s.drop pos),l++[(s.take pos).drop U],own'),⟨Nat.le_refl _,UV,by dsimp only;rw [List.length_append,List.length_singleton];omega,ho,by dsimp only;rw [h5,dv AC AC,List.append_assoc];rfl⟩,UV,Yl,St.le_refl _⟩
 .conv=>whnf
  exact ⟨(pos+1,U,l,own),⟨UV,UV,UV,h4,by dsimp only;rw [h5,dt AC AC]⟩,UV,Yl,St.le_refl _⟩
 .exact fin (by have:=h own' ho;rw [h5,YW AC] at this;exact this) rfl
end
end Go.Proofs.Z
namespace Go.Aw
open Go
def tj:List (List UInt8):=[[95],[99,97,115,101],[99,108,97,115,115],[100,97,116,97],[100,101,102,97,117,108,116],[100,101,114,105,118,105,110,103],[100,111],[101,108,115,101],[102,111,114,101,105,103,110],[105,102],[105,109,112,111,114,116],[105,110],[105,110,102,105,120],[105,110,102,105,120,108],[105,110,102,105,120,114],[105,110,115,116,97,110,99,101],[108,101,116],[109,111,100,117,108,101],[110,101,119,116,121,112,101],[111,102],[116,104,101,110],[116,121,112,101],[119,104,101,114,101]]
def iQ:List (List UInt8):=[[46,46],[58],[58,58],[61],[92],[124],[60,45],[45,62],[64],[126],[61,62]]
def rG (w:List UInt8):Bool:=tj.contains w
def oN (w:List UInt8):Int:=if iQ.contains w then 10 else if AV w=58 then 6 else 5
def IE (c:Int):Bool:=AQ c==2||AQ c==3||AQ c==4||c==39
def LR (l:List UInt8):Nat:=B6 IE l
def HC (l:List UInt8):Int:=match l with
 |[]=>0
 |a::r=>AQ ((AU (a::r)).1:Nat)
def BM (l:List UInt8):Int×Nat:=
 if HC l=6 then (15,1)
 else if HC l=5 then (oN (l.take (B6 (λc=>AQ c==5) l)),B6 (λc=>AQ c==5) l)
 else if HC l=3 then (2,LR l)
 else if HC l=2 then (if rG (l.take (LR l)) then 9 else 1,LR l)
 else (0,0)
def OL (k:Int):Int:=if k=1 then 3 else if k=2 then 4 else if k=5 then 7 else if k=6 then 8 else 0
theorem Fv (c:UInt8) (l:List UInt8):[c].isPrefixOf l=decide (AV l=(c.toNat:Nat)):=by
 cases l with
 |nil=>exact (decide_eq_false (λe=>by have h:(-1:Int)=(c.toNat:Nat):=e;omega)).symm
 |cons a r=>
  show (c==a&&true)=decide (((a.toNat:Nat):Int)=(c.toNat:Nat))
  rw [Bool.and_true,Bool.eq_iff_iff,beq_iff_eq,decide_eq_true_iff]
  exact ⟨λe=>by rw [e],λe=>UInt8.toNat_inj.1 AC⟩
end Go.Aw
namespace Go.Proofs.Z
open Go Go.Aw
section
variable {st:St} {R:AL->St->Prop}
theorem Zn (h:R (.ret (.bool (rG w))) st):PC 327 [.str w] st R:=by
 refine pB Tryz.func327 ?_
 repeat' ((conv=>whnf);first|(refine BV ?_;intros)|(refine BW ?_ ?_<;>intro _)|fail)
 all_goals exact fin h (congrArg (λb=>AL.ret (V.bool b)) (by first|(subst_vars;decide)|(simp only [rG,tj];simp_all)))
theorem eG (h:R (.ret (.int .i64 (oN w))) st):PC 325 [.str w] st R:=by
 refine pB Tryz.func325 ?_
 repeat' ((conv=>whnf);first|(refine BV ?_;intros)|(refine BW ?_ ?_<;>intro _)|refine Ji ?_)
 all_goals try rename_i U
 all_goals try rw [Fv,decide_eq_true_eq] at U
 all_goals try rw [Fv,decide_eq_false_iff_not] at U
 all_goals exact fin h (BP (by first|(subst_vars;decide)|(have U:AV w=58:=U;simp only [oN,iQ];simp_all)|(have U:¬AV w=58:=U;simp only [oN,iQ];simp_all)))
theorem lu {c:Int} (h:R (.ret (.bool (IE c))) st):PC 350 [.int .i32 c] st R:=by
 refine pB Tryz.func350 ?_
 repeat' ((conv=>whnf);first|(refine BV ?_;intros)|(refine BW ?_ ?_<;>intro _)|refine K6 ?_)
 all_goals exact fin h (congrArg (λb=>AL.ret (V.bool b)) (by simp only [IE];simp_all))
theorem WQ {k:Int} (h:R (.ret (.int .i64 (OL k))) st):PC 284 [.int .i64 k] st R:=by
 refine pB Tryz.func284 ?_
 repeat' ((conv=>whnf);first|(refine BV ?_;intros)|(refine BW ?_ ?_<;>intro _)|fail)
 all_goals exact fin h (BP (by unfold OL;(repeat' split)<;>omega))
end
theorem OC (s:List UInt8):HC s=if (Na s 0).2=0 then 0 else AQ (Na s 0).1:=by
 cases s with
 |nil=>rw [SH GT];rfl
 |cons a r=>
  have U:=El (a::r)
  rw [Nb AC GT,show (0:Int).toNat=0 from rfl,List.drop_zero,Z5 GT,if_neg UV]
  rfl
section
variable {st:St} {R:AL->St->Prop}
theorem ri (hl:s.length<4611686018427387904) (h:R (.ret (.str (s.take (LR s)))) st):PC 326 [.str s] st R:=by
 refine pB Tryz.func326 ?_
 repeat' ((conv=>whnf);first|(refine BV ?_;intros)|(refine BW ?_ ?_<;>intro _)|fail)
 refine QW (α:=Nat) (λ_=>[]) (λpos=>[(0,[.O9 s pos])]) [0,6] [] (λ_=>st) (λpos=>pos<=s.length/\LR s=pos+B6 IE (s.drop pos)) (λpos=>s.length - pos) 0 ⟨Nat.zero_le _,by simp [LR]⟩ Yl (St.le_refl _) ?_
 rintro pos ⟨hp,hi⟩
 repeat' ((conv=>whnf);first|(refine BV ?_;intros)|(refine BW ?_ ?_<;>intro _)|refine lu ?_)
 .rename_i U c m hd hk
  have hr:=rune_le U hd
  conv=>whnf
  exact ⟨pos+m,⟨hr.1,PY U hd hk hi⟩,AC,Yl,St.le_refl _⟩
 .rename_i U c m hd hk
  have:=Uz (p:=λd=>IE (d.1:Nat)) hd hk hi
  exact fin h (by rw [this];rfl)
 .rename_i U
  have:=RB U hi
  exact fin h (by rw [this,List.take_of_length_le AC])
theorem mR (U:s.length<4611686018427387904) (h:R (.ret (.int .i64 (HC s))) st):PC 324 [.str s] st R:=by
 refine pB Tryz.func324 ?_
 repeat' ((conv=>whnf);first|(refine BV ?_;intros)|(refine BW ?_ ?_<;>intro _)|refine ja U ?_|refine K6 ?_)
 .exact fin h (BP (by rw [OC,if_pos ‹_›]))
 .exact fin h (BP (by rw [OC,if_neg ‹_›]))
end
theorem uj {k:Int}:oD s 0 k=(B6 (λc=>AQ c==k) s:Nat):=by
 rw [PO AC AC];simp
theorem de (h:¬HC s=0):0<s.length:=by
 cases s with
 |nil=>exact absurd rfl h
 |cons a r=>simp
section
variable {st:St} {R:AL->St->Prop}
theorem pZ {k:Int} (U:s.length<4611686018427387904) (h:R (.ret (.int .i64 (B6 (λc=>AQ c==k) s:Nat))) st):PC 86 [.str s,.int .i64 0,.int .i64 k] st R:=pY U (by rw [uj];exact h)
theorem bo (U:s.length<4611686018427387904) (h:R (.ret (.Bh [.int .i64 (BM s).1,.str (s.take (BM s).2)])) st):PC 283 [.str s] st R:=by
 have hr:=Gq (λc=>AQ c==5) s
 have hne:HC s=0\/0<s.length:=by
  by_cases h0:HC s=0
  .exact .inl h0
  .exact .inr (de h0)
 refine pB Tryz.func283 ?_
 repeat' ((conv=>whnf);first|exact D1|(refine BV ?_;intros)|(refine D2 ?_ ?_ ?_;rotate_left)|(refine BW ?_ ?_<;>intro _)|refine mR U ?_|refine pZ U ?_|refine eG ?_|refine ri U ?_|refine Zn ?_|with_reducible refine WF ?_)
 .exact fin h (by unfold BM;rw [if_pos ‹_›];rfl)
 .exact fin h (by unfold BM;rw [if_neg AC,if_pos AC];rfl)
 .exact fin h (by unfold BM;rw [if_neg AC,if_neg AC,if_pos AC])
 .exact fin h (by unfold BM;rw [if_neg AC,if_neg AC,if_neg AC,if_pos AC,if_pos ‹_›])
 .exact fin h (by unfold BM;rw [if_neg AC,if_neg AC,if_neg AC,if_pos AC,if_neg lc])
 .exact fin h (by unfold BM;rw [if_neg AC,if_neg AC,if_neg AC,if_neg AC];rfl)
end
end Go.Proofs.Z
namespace Go.Aw
open Go
def Io (s:List UInt8) (n:Nat) (k:Int):Int×Nat:=
 if h:n<s.length then
  if (k=2\/k=4)/\AV (s.drop n)=46/\OL (BM (s.drop (n+1))).1≠0 then Io s (n+1+(BM (s.drop (n+1))).2) (OL (BM (s.drop (n+1))).1) else (k,n)
 else (k,n)
termination_by s.length - n
decreasing_by omega
def Hi (s:List UInt8):Int×Nat:=Io s (BM s).2 (BM s).1
theorem Xt {n:Nat} {k:Int} (h:¬(n<s.length/\(k=2\/k=4)/\AV (s.drop n)=46/\OL (BM (s.drop (n+1))).1≠0)):Io s n k=(k,n):=by
 rw [Io]
 split
 .rw [if_neg (λe=>h ⟨FS,e⟩)]
 .rfl
theorem kK {n:Nat} {k:Int} (h:n<s.length) (e:(k=2\/k=4)/\AV (s.drop n)=46/\OL (BM (s.drop (n+1))).1≠0):Io s n k=Io s (n+1+(BM (s.drop (n+1))).2) (OL (BM (s.drop (n+1))).1):=by
 rw [Io,dif_pos h,if_pos e]
theorem Lo (s:List UInt8):(BM s).2<=s.length:=by
 have hf:HC s=0\/0<s.length:=by
  cases s with
  |nil=>exact .inl rfl
  |cons a r=>exact .inr GT
 have U:=Gq (λc=>AQ c==5) s
 have h2:LR s<=s.length:=Gq _ s
 unfold BM
 (repeat' split)<;>first|omega|(dsimp only;omega)
end Go.Aw
namespace Go.Proofs.Z
open Go Go.Aw
section
variable {st:St} {R:AL->St->Prop}
theorem sM {n:Nat} (U:w.length=n) (h:R (.ret (.bool (decide (AV (s.drop n)=46)))) st):PC 87 [.str (s.drop ((w.length:Nat):Int).toNat),.str [46]] st R:=by
 refine Ji ?_
 rw [Fv,U,show ((n:Nat):Int).toNat=n by omega]
 exact h
theorem js {n:Nat} (hl:s.length<=100000000) (U:w.length=n) (h:R (.ret (.Bh [.int .i64 (BM (s.drop (n+1))).1,.str ((s.drop (n+1)).take (BM (s.drop (n+1))).2)])) st):PC 283 [.str (s.drop (((w.length:Nat):Int)+1).toNat)] st R:=by
 rw [U,show (((n:Nat):Int)+1).toNat=n+1 by omega]
 exact bo M2 h
theorem oG {v:List UInt8} {n:Nat} {K:List UInt8->Prop} (U:w.length=n) (h2:v.length=m) (h:n+1+m<=s.length) (k:K (s.take (n+1+m))):
 ((0:Int)<=0/\0<=((w.length:Nat):Int)+1+((v.length:Nat):Int)/\((w.length:Nat):Int)+1+((v.length:Nat):Int)<=s.length)/\∀s',s'=(s.take (((w.length:Nat):Int)+1+((v.length:Nat):Int)).toNat).drop (0:Int).toNat->K s':=by
 subst U;subst h2
 refine WO AC AC ?_
 rw [show (((w.length:Nat):Int)+1+((v.length:Nat):Int)).toNat=w.length+1+v.length by omega]
 exact k
theorem Yr (s:List UInt8) (n:Nat):¬AV (s.drop n)=46\/n<s.length:=by
 by_cases h:n<s.length
 .exact .inr h
 .rw [EF AC];exact .inl Do
theorem o6 (hl:s.length<=100000000) (h:∀ahead:Int,R (.ret (.Bh [.int .i64 (Hi s).1,.str (s.take (Hi s).2),.int .i64 ahead])) st):PC 230 [.str s] st R:=by
 refine pB Tryz.func230 ?_
 repeat' ((conv=>whnf);first|exact D1|(refine BV ?_;intros)|(refine D2 ?_ ?_ ?_;rotate_left)|(refine BW ?_ ?_<;>intro _)|refine bo AC ?_|with_reducible refine WF ?_)
 refine T0 (α:=Nat) (β:=Int) (γ:=Int) (λn k a=>[(2,.int .i64 k),(3,.str (s.take n)),(4,.int .i64 a)]) (λ_ _ _=>[]) [0] [] (λ_ _ _=>st) (λn k _=>n<=s.length/\Hi s=Io s n k) (λn _ _=>s.length - n) (BM s).2 (BM s).1 0 ⟨Lo s,rfl⟩ Yl (St.le_refl _) ?_
 rintro n k a ⟨h1,h2⟩
 have U:(s.take n).length=n:=NE
 have hp:=Lo (s.drop (n+1))
 rw [List.length_drop] at hp
 have hdl:=Yr s n
 have ht2:((s.drop (n+1)).take (BM (s.drop (n+1))).2).length=(BM (s.drop (n+1))).2:=by rw [List.length_take,List.length_drop];omega
 repeat' ((conv=>whnf);first|with_reducible refine oG U ht2 AC ?_|exact D1|(refine BV ?_;intros)|(refine D2 ?_ ?_ ?_;rotate_left)|(refine BW ?_ ?_<;>intro _)|refine sM U ?_|refine js hl U ?_|refine WQ ?_|with_reducible refine WF ?_)
 all_goals first
  |exact fin (by have:=h a;rw [h2,Xt AC] at this;exact this) rfl
  |(conv=>whnf
    exact ⟨(n+1+(BM (s.drop (n+1))).2,OL (BM (s.drop (n+1))).1,(((s.take n).length:Nat):Int)+1),⟨UV,by dsimp only;rw [h2,kK AC ⟨AC,AC,AC⟩]⟩,UV,Yl,St.le_refl _⟩)
end
end Go.Proofs.Z
namespace Go.Aw
open Go
def H4 (s:List UInt8) (pos:Nat):Int×Int:=if (Hi (s.drop pos)).1=0 then (0,0) else ((Hi (s.drop pos)).1,(pos+(Hi (s.drop pos)).2:Nat))
theorem kL {n:Nat} {k:Int} (h:n<=s.length):(Io s n k).2<=s.length:=by
 fun_induction Io s n k with
 |case1 n k hn hc U=>
  have:=Lo (s.drop (n+1))
  rw [List.length_drop] at this
  exact U AC
 |case2 n k hn hc=>exact h
 |case3 n k hn=>exact h
theorem XX (s:List UInt8):(Hi s).2<=s.length:=kL (Lo s)
end Go.Aw
namespace Go.Proofs.Z
open Go Go.Aw
section
variable {st:St} {R:AL->St->Prop}
theorem ly (hl:s.length<=100000000) (hp:pos<s.length) (h:R (.ret (.Bh [.int .i64 (H4 s pos).1,.int .i64 (H4 s pos).2])) st):PC 156 [.str s,.int .i64 pos] st R:=by
 have ht:((s.drop pos).take (Hi (s.drop pos)).2).length=(Hi (s.drop pos)).2:=by rw [List.length_take];have:=XX (s.drop pos);omega
 have hw:=XX (s.drop pos)
 rw [List.length_drop] at hw
 have U:(s.drop pos).length<=100000000:=M2
 refine pB Tryz.func156 ?_
 repeat' ((conv=>whnf);first|(refine BV ?_;intros)|(refine BW ?_ ?_<;>intro _)|refine o6 U (λ_=>?_))
 .exact fin h (by unfold H4;rw [if_pos ‹_›];simp_all)
 .exact fin h (by unfold H4;rw [if_neg ‹_›];simp only [];rw [show (pos:Int).toNat=pos by omega] at *;rw [ht];rfl)
end
end Go.Proofs.Z
namespace Go.Aw
open Go
def Bo (base:Int):List UInt8->Nat
 |[]=>0
 |a::r=>if Bw ((a.toNat:Nat):Int) base<0 then 0 else Bo base r+1
def Ej (l:List UInt8):Int:=if AV (l.drop 1)=111\/AV (l.drop 1)=79 then 8 else if AV (l.drop 1)=120\/AV (l.drop 1)=88 then 16 else 10
def BN (l:List UInt8):Int×Nat:=if AV l=48/\Ej l≠10/\Bo (Ej l) (l.drop 2)≠0 then (Ej l,2) else (10,0)
def LV (l:List UInt8):Nat:=if AV l=43\/AV l=45 then 1 else 0
def IX (l:List UInt8):Nat:=
 if (AV l=101\/AV l=69)/\Bo 10 (l.drop (1+LV (l.drop 1)))≠0 then 1+LV (l.drop 1)+Bo 10 (l.drop (1+LV (l.drop 1))) else 0
def HD (l:List UInt8):Nat:=if AV l=46/\Bo 10 (l.drop 1)≠0 then 1+Bo 10 (l.drop 1) else 0
def Ep (l:List UInt8):Int×Nat:=
 if (BN l).1≠10 then (11,2+Bo (BN l).1 (l.drop 2))
 else if Bo 10 l=0 then (0,0)
 else
  (if 0<HD (l.drop (Bo 10 l))\/0<IX (l.drop (Bo 10 l+HD (l.drop (Bo 10 l)))) then 12 else 11,
    Bo 10 l+HD (l.drop (Bo 10 l))+IX (l.drop (Bo 10 l+HD (l.drop (Bo 10 l)))))
theorem Cf {l:List UInt8} {k:Nat} (h:0<=AV (l.drop k)):k<l.length:=by
 by_cases U:k<l.length
 .exact U
 .rw [List.drop_eq_nil_iff.2 AC] at h;exact absurd h Do
theorem Ea {a:UInt8} (h:a.toNat<128):AU (a::r)=(a.toNat,1):=by
 unfold AU;dsimp only;rw [if_pos (by simpa using h)]
theorem Pr {a:UInt8} (h:¬a.toNat<128):128<=(AU (a::r)).1:=by
 unfold AU;dsimp only;rw [if_neg (by simpa using h)]
 have U:=a.toNat_lt
 repeat' split
 all_goals simp_all
 all_goals omega
theorem IV {c:Int} (h:128<=c):Bw c base<0:=by
 have U:(if 48<=c/\c<=57 then c - 48 else if 97<=c/\c<=102 then c - 87 else if 65<=c/\c<=70 then c - 55 else 16)=16:=by
  rw [if_neg AC,if_neg AC,if_neg AC]
 unfold Bw;dsimp only
 rw [U,if_pos AC];omega
theorem C2 (base:Int) (l:List UInt8):Bo base l<=l.length:=by
 induction l with
 |nil=>exact Nat.le_refl _
 |cons a r U=>unfold Bo;split<;>simp only [List.length_cons]<;>omega
theorem Nw {c:Nat} (h:pos<s.length) (U:(c,m)=AU (s.drop pos)) (k:¬Bw (c:Int) base<0):m=1/\Bo base (s.drop pos)=Bo base (s.drop (pos+1))+1:=by
 rw [List.drop_eq_getElem_cons h] at U |-
 by_cases hb:s[pos].toNat<128
 .rw [Ea hb] at U
  injection U with h1 h2
  subst h1;subst h2
  exact ⟨rfl,by rw [Bo,if_neg k]⟩
 .have:=Pr (r:=s.drop (pos+1)) hb
  rw [<-U] at this
  exact absurd (IV (c:=(c:Int)) (base:=base) (by dsimp only at this;omega)) k
theorem Il {c:Nat} (h:pos<s.length) (U:(c,m)=AU (s.drop pos)) (k:Bw (c:Int) base<0):Bo base (s.drop pos)=0:=by
 rw [List.drop_eq_getElem_cons h] at U |-
 by_cases hb:s[pos].toNat<128
 .rw [Ea hb] at U
  injection U with h1 h2
  subst h1
  rw [Bo,if_pos k]
 .rw [Bo,if_pos (IV AC)]
theorem Jm (h:s.length<=pos):Bo base (s.drop pos)=0:=by rw [List.drop_eq_nil_iff.2 h];rfl
theorem PK {e:UInt8} (h:s[pos]? =some e):Bo base (s.drop pos)=if Bw ((e.toNat:Nat):Int) base<0 then 0 else Bo base (s.drop (pos+1))+1:=by
 rw [drop_at h,Bo]
theorem QO (l:List UInt8):HD l<=l.length:=by
 have:=C2 10 (l.drop 1)
 rw [List.length_drop] at this
 unfold HD;split<;>omega
theorem TG (l:List UInt8):IX l<=l.length:=by
 have:=C2 10 (l.drop (1+LV (l.drop 1)))
 rw [List.length_drop] at this
 unfold IX;split<;>omega
theorem Ub (l:List UInt8):(Ep l).2<=l.length:=by
 have h1:=C2 10 l
 have U:=C2 (BN l).1 (l.drop 2)
 have h3:=QO (l.drop (Bo 10 l))
 have h4:=TG (l.drop (Bo 10 l+HD (l.drop (Bo 10 l))))
 rw [List.length_drop] at U h3 h4
 have h5:(BN l).1≠10->2<=l.length:=λe=>by
  unfold BN at e
  split at e
  .rename_i hc
   have:=C2 (Ej l) (l.drop 2)
   rw [List.length_drop] at this
   omega
  .exact absurd rfl e
 unfold Ep
 split
 .have:=h5 ‹_›;dsimp only;omega
 .split
  .exact Nat.zero_le _
  .dsimp only;omega
theorem dc {a:Int} (U: -2147483648<=a) (h2:a<=2147483647) (k:K a):∃r,r=IntKind.i32.wrap a/\K r:=⟨a,(IntWalk.i32_in _ ⟨U,h2⟩).symm,k⟩
end Go.Aw
namespace Go.Proofs.Z
open Go Go.Aw
section
variable {st:St} {R:AL->St->Prop}
theorem MQ {c:Int} (h:R (.ret (.int .i64 (Bw c b))) st):PC 300 [.int .i32 c,.int .i64 b] st R:=by
 refine pB Tryz.func300 ?_
 repeat' ((conv=>whnf);first|(refine BV ?_;intros)|(refine BW ?_ ?_<;>intro _)|refine dc AC AC ?_)
 all_goals exact fin h (BP (by unfold Bw;dsimp only;(repeat' split)<;>omega))
theorem WW {c:Int} (h:R (.ret (.int .i64 (Bw c b))) st):PC 208 [.int .i64 c,.int .i64 b] st R:=by
 refine pB Tryz.func208 ?_
 repeat' ((conv=>whnf);first|(refine BV ?_;intros)|(refine BW ?_ ?_<;>intro _)|refine tq ?_)
 all_goals exact fin h (BP (by unfold Bw;dsimp only;(repeat' split)<;>omega))
theorem pW (hl:s.length<4611686018427387904) (h:R (.ret (.int .i64 (Bo b s:Nat))) st):PC 279 [.str s,.int .i64 b] st R:=by
 refine pB Tryz.func279 ?_
 repeat' ((conv=>whnf);first|(refine BV ?_;intros)|(refine BW ?_ ?_<;>intro _)|fail)
 refine QW (α:=Nat) (λ_=>[]) (λpos=>[(0,[.O9 s pos])]) [0,1,8] [] (λ_=>st) (λpos=>pos<=s.length/\Bo b s=pos+Bo b (s.drop pos)) (λpos=>s.length - pos) 0 ⟨Nat.zero_le _,GT⟩ Yl (St.le_refl _) ?_
 rintro pos ⟨hp,hi⟩
 repeat' ((conv=>whnf);first|(refine BV ?_;intros)|(refine BW ?_ ?_<;>intro _)|refine MQ ?_)
 .rename_i U c m hd hk
  have:=Il U hd hk
  exact fin h (BP AC)
 .rename_i U c m hd hk
  obtain ⟨e1,e2⟩:=Nw U hd hk
  conv=>whnf
  exact ⟨pos+m,⟨AC,by rw [e1];omega⟩,AC,Yl,St.le_refl _⟩
 .rename_i U hls
  have:=Jm (base:=b) (s:=s) (pos:=pos) AC
  exact fin h (BP AC)
theorem dT {i:Nat} (hl:s.length<=4611686018427387903) (h0:i<=4611686018427387905) (h:R (.ret (.int .i64 (i+Bo b (s.drop i):Nat))) st):PC 313 [.str s,.int .i64 i,.int .i64 b] st R:=by
 refine pB Tryz.func313 ?_
 repeat' ((conv=>whnf);first|(refine BV ?_;intros)|(refine BW ?_ ?_<;>intro _)|fail)
 refine Mm (α:=Nat) (λpos=>[(1,.int .i64 (pos:Int))]) [0,2] [] (λ_=>st) (λpos=>i<=pos/\i+Bo b (s.drop i)=pos+Bo b (s.drop pos)) (λpos=>s.length - pos) i ⟨Nat.le_refl _,rfl⟩ Yl (St.le_refl _) ?_
 rintro pos ⟨hp,hi⟩
 repeat' ((conv=>whnf);first|(refine BV ?_;intros)|(refine BW ?_ ?_<;>intro _)|refine cM ?_|refine WW ?_)
 .rename_i hlt e U hk
  have U:s[pos]? =some e:=U
  have:=PK (base:=b) U
  rw [if_neg AC] at this
  conv=>whnf
  exact ⟨pos+1,⟨AC,AC⟩,AC,Yl,St.le_refl _⟩
 .rename_i hlt e U hk
  have U:s[pos]? =some e:=U
  have:=PK (base:=b) U
  rw [if_pos AC] at this
  exact fin h (BP AC)
 .rename_i hlt
  have:=Jm (base:=b) (s:=s) (pos:=pos) AC
  exact fin h (BP AC)
end
end Go.Proofs.Z
namespace Go.Aw
open Go
theorem Pm {l:List UInt8} (h:AV (l.drop 1)=111\/AV (l.drop 1)=79):Ej l=8:=if_pos h
theorem MK {l:List UInt8} (h:AV (l.drop 1)=120\/AV (l.drop 1)=88):Ej l=16:=by unfold Ej;rw [if_neg AC,if_pos h]
theorem U0 {l:List UInt8} (h:AV (l.drop 1)≠111/\AV (l.drop 1)≠79/\AV (l.drop 1)≠120/\AV (l.drop 1)≠88):Ej l=10:=by unfold Ej;rw [if_neg AC,if_neg AC]
theorem fI (l:List UInt8):Ej l=8\/Ej l=16\/Ej l=10:=by
 unfold Ej
 split
 .exact .inl rfl
 .split
  .exact .inr (.inl rfl)
  .exact .inr (.inr rfl)
theorem Hv {l:List UInt8} (h:AV l=48) (hb:Ej l=b) (hn:b≠10) (U:Bo b (l.drop 2)≠0):BN l=(b,2):=by
 subst hb
 exact if_pos ⟨h,hn,U⟩
theorem G5 {l:List UInt8} (h:AV l≠48\/Ej l=10\/Bo (Ej l) (l.drop 2)=0):BN l=(10,0):=if_neg AC
theorem HS (l:List UInt8):BN l=(10,0)\/(BN l=(8,2)/\Ej l=8)\/(BN l=(16,2)/\Ej l=16):=by
 by_cases h:AV l=48/\Ej l≠10/\Bo (Ej l) (l.drop 2)≠0
 .rcases fI l with hb|hb|hb
  .exact .inr (.inl ⟨Hv h.1 hb Do (hb ▸ h.2.2),hb⟩)
  .exact .inr (.inr ⟨Hv h.1 hb Do (hb ▸ h.2.2),hb⟩)
  .exact absurd hb h.2.1
 .exact .inl (if_neg h)
theorem PU {l:List UInt8} (h:AV l=43\/AV l=45):LV l=1:=if_pos h
theorem PT {l:List UInt8} (h:¬(AV l=43\/AV l=45)):LV l=0:=if_neg h
theorem aq {l:List UInt8} (h:¬(AV l=101\/AV l=69)):IX l=0:=if_neg λe=>h e.1
theorem TE {l:List UInt8} (h:AV l=101\/AV l=69) (hk:1+LV (l.drop 1)=j) (U:Bo 10 (l.drop j)=0):IX l=0:=by
 subst hk
 exact if_neg λe=>e.2 U
theorem TF {l:List UInt8} (h:AV l=101\/AV l=69) (hk:1+LV (l.drop 1)=j) (U:Bo 10 (l.drop j)≠0):IX l=j+Bo 10 (l.drop j):=by
 subst hk
 exact if_pos ⟨h,U⟩
end Go.Aw
namespace Go.Proofs.Z
open Go Go.Aw
section
variable {st:St} {R:AL->St->Prop}
theorem kq {n:Nat} (U:s.length<=4611686018427387903) (h:R (.ret (.int .i64 (Bo b (s.drop n):Nat))) st):PC 279 [.str (s.drop (n:Int).toNat),.int .i64 b] st R:=
 pW M2 h
theorem Zf (hl:s.length<=4611686018427387903) (h:R (.ret (.Bh [.int .i64 (BN s).1,.int .i64 (BN s).2])) st):PC 278 [.str s] st R:=by
 refine pB Tryz.func278 ?_
 repeat' ((conv=>whnf);first|(refine BV ?_;intros)|(refine BW ?_ ?_<;>intro _)|refine kq (n:=2) hl ?_)
 all_goals try have U:=Ds (show s[0]? =some _ by assumption)
 all_goals try rw [List.drop_zero] at U
 all_goals try have h1:=Ds (show s[1]? =some _ by assumption)
 all_goals try have h1:=EF (s:=s) (i:=1) AC
 all_goals first
  |exact fin h (by rw [G5 (.inl AC)];rfl)
  |exact fin h (by rw [G5 (.inr (.inl (U0 AC)))];rfl)
  |exact fin h (by rw [G5 (.inr (.inr (by rw [Pm AC];assumption)))];rfl)
  |exact fin h (by rw [G5 (.inr (.inr (by rw [MK AC];assumption)))];rfl)
  |exact fin h (by rw [Hv AC (Pm AC) Do ‹_›];rfl)
  |exact fin h (by rw [Hv AC (MK AC) Do ‹_›];rfl)
theorem Yy (hl:s.length<=4611686018427387903) (h:R (.ret (.int .i64 (IX s:Nat))) st):PC 280 [.str s] st R:=by
 refine pB Tryz.func280 ?_
 by_cases U:s=[]
 .subst U
  repeat' ((conv=>whnf);first|(refine BV ?_;intros)|(refine BW ?_ ?_<;>intro _)|fail)
  .exact fin h rfl
  .rename_i hn;exact absurd rfl hn
 have hlen:=List.length_pos_iff.2 U
 have r1:Bo 10 (s.drop 1)<=s.length:=Nat.le_trans (C2 10 _) M2
 have r2:Bo 10 (s.drop 2)<=s.length:=Nat.le_trans (C2 10 _) M2
 repeat' ((conv=>whnf);first|(refine BV ?_;intros)|(refine BW ?_ ?_<;>intro _)|refine kq (n:=1) hl ?_|refine kq (n:=2) hl ?_)
 all_goals try have h0:=Ds (show s[0]? =some _ by assumption)
 all_goals try rw [List.drop_zero] at h0
 all_goals try have h1:=Ds (show s[1]? =some _ by assumption)
 all_goals try have h1:=EF (s:=s) (i:=1) AC
 all_goals first
  |(have e:=aq (l:=s) AC;exact fin h (BP AC))
  |(have e:=TE (l:=s) (j:=1) AC (by rw [PT AC]) ‹_›;exact fin h (BP AC))
  |(have e:=TF (l:=s) (j:=1) AC (by rw [PT AC]) ‹_›;exact fin h (BP AC))
  |(have e:=TE (l:=s) (j:=2) AC (by rw [PU AC]) ‹_›;exact fin h (BP AC))
  |(have e:=TF (l:=s) (j:=2) AC (by rw [PU AC]) ‹_›;exact fin h (BP AC))
end
end Go.Proofs.Z
namespace Go.Proofs.Z
open Go Go.Aw
open Rd (ret seq fail Mf look loop)
def GN (base:Int):List UInt8->Int->Int×Int
 |[],v=>(v,0)
 |a::r,v=>if (4611686018427387904 - Bw (a.toNat:Nat) base) / base<v then (0,3) else GN base r (v*base+Bw (a.toNat:Nat) base)
def Fj (s:List UInt8):Int×Int:=if (Ep s).1=11/\(Ep s).2=s.length then GN (BN s).1 (s.drop (BN s).2) 0 else (0,40)
def F0 (t:Tk):Bool:=t.kind==19||(t.kind==15&&t.text==[59])
def Df (t:Tk):Bool:=t.kind==1||t.kind==2||t.kind==3||t.kind==4||t.kind==11||t.kind==12||t.kind==13||t.kind==14||
 (t.kind==9&&t.text==[95])||(t.kind==10&&t.text==[126])||(t.kind==15&&(t.text==[40]||t.text==[91]))
abbrev UK:List UInt8:=[108,101,116]
abbrev sx:List UInt8:=[105,102]
abbrev Tf:List UInt8:=[99,97,115,101]
abbrev sw:List UInt8:=[100,111]
abbrev tw:List UInt8:=[105,110]
abbrev uM:List UInt8:=[111,102]
abbrev lq:List UInt8:=[116,104,101,110]
abbrev lp:List UInt8:=[101,108,115,101]
abbrev ZM:List UInt8:=[119,104,101,114,101]
def DA (t:Tk):Bool:=(t.kind==9&&(t.text==UK||t.text==sx||t.text==Tf||t.text==sw))||(t.kind==10&&t.text==[92])||(t.kind==5&&t.text==[45])||Df t
def FJ (t:Tk):Bool:=t.kind==9&&(t.text==[105,110,102,105,120,108]||t.text==[105,110,102,105,120,114]||t.text==[105,110,102,105,120])
def H0 (t:Tk):Bool:=t.kind==5||t.kind==6||t.kind==7||t.kind==8||(t.kind==10&&t.text==[58])
def Gf (t:Tk):Bool:=H0 t||(t.kind==15&&t.text==[96])
def IJ (k:Int) (l:List Nd):Nd:=if l.length=1 then l.headD FR else Ar k l
def E9:Er:=⟨2,Do⟩
def LM:Er:=⟨120,Do⟩
def MA (n:Nd):Bool:=(n.kind==1||n.kind==3)&&((GG n).2==0&&(GG n).1.length==1)
def CA (m:Rd Nd) (may:Nd->Bool):Rd Nd:=.look λs0=>.seq m λn=>if may n=true then .ret n else .Mf s0 LM
def EK:Rd Nd:=.look λs=>if H0 (Aa s).1=true then .seq A0 λt=>.ret (Ar 18 [t])
 else .seq (BU 15 [96]) λo=>.seq (HK [1,2,3,4]) λn=>.seq (BU 15 [96]) λc=>.ret (Ar 18 [o,n,c])
def T3 (l:List Nd):Rd (Sum (List Nd) (List Nd)):=.look λs=>if A9 s 5 [45]=true then .seq A0 λt=>.ret (.inl (l++[Ar 19 [t]])) else .ret (.inr l)
def T4 (l:List Nd):Rd (List Nd):=.loop T3 l
def Xh (opd:Rd Nd) (U:Bool) (l:List Nd):Rd (Sum (List Nd) (List Nd×Bool)):=.seq (T4 l) λl=>.seq opd λn=>.look λs=>
 if Gf (Aa s).1=true then .seq EK λo=>
  if U=true then .look λs=>if A9 s 15 [41]=true then .ret (.inr (l++[n]++[o],true)) else .ret (.inl (l++[n]++[o]))
  else .ret (.inl (l++[n]++[o]))
 else .ret (.inr (l++[n],false))
def HB (opd:Rd Nd) (U:Bool):Rd (List Nd×Bool):=.loop (Xh opd U) []
def N6 (opd:Rd Nd):Rd Nd:=.seq (HB opd false) λp=>.ret (IJ 17 p.1)
def IL (full:Rd Nd) (n:Nd):Rd Nd:=.look λs=>if A9 s 10 [58,58]=true then .seq A0 λc=>.seq full λt=>.ret (Ar 22 [n,c,t]) else .ret n
def Yx (opd full:Rd Nd):Rd Nd:=.seq (N6 opd) λn=>IL full n
structure C8 where
 atom:Rd Nd
 exp:Rd Nd
 ops:Rd Nd
 decls:Rd Nd
 stmts:Rd Nd
 alts:Rd Nd
 DT:Nd->Rd Nd
 list:Nd->Rd Nd
def HL (L:C8) (lt block:Nd):Rd Nd:=.seq (BU 9 tw) λi=>.seq L.exp λe=>.ret (Ar 24 [lt,block,i,e])
def dq (L:C8):Rd Nd:=.seq A0 λt=>.seq L.decls λb=>HL L t b
def JQ (atom:Rd Nd) (l:List Nd):Rd (Sum (List Nd) (List Nd)):=.seq (CA atom G4) λn=>.ret (.inl (l++[n]))
def Lh (atom:Rd Nd) (l:List Nd):Rd (Sum (List Nd) (List Nd)):=
 if ((l.length:Int)==1)=true then JQ atom l else .look λs=>if Df (Aa s).1=true then JQ atom l else .ret (.inr l)
def JP (L:C8) (atom:Rd Nd):Rd Nd:=.seq A0 λb=>.seq (.loop (Lh atom) [b]) λl=>.seq (BU 10 [45,62]) λa=>.seq L.exp λe=>.ret (Ar 23 (l++[a]++[e]))
def OU (w:List UInt8):Rd Unit:=.look λs=>if F0 (Aa s).1=true then (if A9 (Aa s).2.1 9 w=true then Hh else .ret ()) else .ret ()
def Nh (L:C8) (l:List Nd) (w:List UInt8):Rd (List Nd):=.seq (OU w) λ_=>.seq (BU 9 w) λa=>.seq L.exp λe=>.ret (l++[a]++[e])
def JC (L:C8):Rd Nd:=.seq A0 λi=>.seq L.exp λc=>.seq (Nh L [i,c] lq) λl=>.seq (Nh L l lp) λl=>.ret (Ar 25 l)
def Sj (L:C8):Rd Nd:=.seq A0 λc=>.seq L.exp λe=>.seq (BU 9 uM) λo=>.seq L.alts λa=>.ret (Ar 26 ([c,e,o]++[a]))
def Ii (b:Nd):Bool:=match b.kids.getLast? with
 |none=>true
 |some x=>x.kind==32||x.kind==33
def Mw (L:C8):Rd Nd:=.seq A0 λd=>.seq L.stmts λb=>if Ii b=true then .fail LM else .ret (Ar 27 [d,b])
def L4 (atom:Rd Nd) (l:List Nd):Rd (Sum (List Nd) (List Nd)):=.look λs=>if Df (Aa s).1=true then .seq atom λn=>.ret (.inl (l++[n])) else .ret (.inr l)
def L5 (atom:Rd Nd):Rd Nd:=.seq atom λn=>.seq (.loop (L4 atom) [n]) λl=>.ret (IJ 11 l)
def HR (L:C8) (atom:Rd Nd):Rd Nd:=.look λs=>
 if ((Aa s).1.kind==10)=true then (if ((Aa s).1.text==[92])=true then JP L atom else L5 atom)
 else if ((Aa s).1.kind==9)=true then
  (if ((Aa s).1.text==UK)=true then dq L
  else if ((Aa s).1.text==sx)=true then JC L
  else if ((Aa s).1.text==Tf)=true then Sj L
  else if ((Aa s).1.text==sw)=true then Mw L
  else L5 atom)
 else L5 atom
def MO (l:List Nd):Rd (Sum (List Nd) (List Nd)):=.look λs=>if A9 s 15 [44]=true then .seq A0 λc=>.ret (.inl (l++[c])) else .ret (.inr l)
def M1 (o:Nd):Rd Nd:=.seq (.loop MO [o]) λl=>.seq (BU 15 [41]) λc=>.ret (Ar 3 (l++[c]))
def J2 (L:C8) (o:Nd):Rd Nd:=.look λs=>if Gf (Aa s).1=true then
 (if A9 s 5 [45]=true then L.DT o else .seq EK λp=>.seq L.ops λe=>.seq (BU 15 [41]) λc=>.ret (Ar 10 [o,p,e,c]))
 else L.DT o
def Od (L:C8) (o:Nd):Rd Nd:=.look λs=>if H0 (Aa s).1=true then
 (if A9 (Aa s).2.1 15 [41]=true then .seq A0 λp=>.seq A0 λc=>.ret (Ar 3 [o,p,c]) else J2 L o)
 else J2 L o
def Oe (L:C8):Rd Nd:=.seq A0 λo=>.look λs=>if A9 s 15 [41]=true then M1 o else if A9 s 15 [44]=true then M1 o else Od L o
def LA (L:C8):Rd Nd:=.seq A0 λo=>.look λs=>if A9 s 15 [93]=true then .seq A0 λc=>.ret (Ar 3 [o,c]) else L.list o
def Kb (L:C8):Rd Nd:=.look λs=>if Df (Aa s).1=true then
 (if ((Aa s).1.kind==15)=true then (if ((Aa s).1.text==[40])=true then Oe L else LA L)
 else if ((Aa s).1.kind==9)=true then .seq A0 λw=>.ret (Ar 14 [w])
 else if ((Aa s).1.kind==10)=true then .seq A0 λw=>.seq L.atom λa=>.ret (Ar 16 [w,a])
 else .seq A0 λn=>if ((Aa s).1.kind==1)=true then .look λs=>if A9 s 10 [64]=true then .seq A0 λw=>.seq L.atom λa=>.ret (Ar 15 [n,w,a]) else .ret n
  else .ret n)
 else L7
def NX (L:C8) (l:List Nd):Rd (Sum (List Nd) (List Nd)):=.seq (HK [1,3]) λU=>.seq (BU 10 [61]) λq=>.seq L.exp λe=>.look λs=>
 if A9 s 15 [44]=true then .seq A0 λc=>.ret (.inl (l++[Ar 13 [U,q,e]]++[c])) else .ret (.inr (l++[Ar 13 [U,q,e]]))
def Np (L:C8) (l:List Nd):Rd (Sum (List Nd) (List Nd)):=.look λs=>if A9 s 15 [125]=true then (if 2<(l.length:Int) then NX L l else .ret (.inr l)) else NX L l
def Hr (L:C8) (n:Nd):Rd Nd:=.seq A0 λb=>.seq (.loop (Np L) [n,b]) λl=>.seq (BU 15 [125]) λc=>.ret (Ar 12 (l++[c]))
def UU (L:C8) (n:Nd):Rd (Sum Nd Nd):=.look λs=>if A9 s 15 [123]=true then .seq (Hr L n) λn=>.ret (.inl n) else .ret (.inr n)
def Ka (L:C8):Rd Nd:=.seq (Kb L) λn=>.loop (UU L) n
def RJ (exp:Rd Nd) (p:Int×List Nd):Rd (Sum (Int×List Nd) (Int×List Nd)):=.look λs=>if A9 s 15 [44]=true then .seq A0 λc=>.seq exp λe=>.ret (.inl (5,p.2++[c]++[e])) else .ret (.inr p)
def EE (opd full exp:Rd Nd) (o:Nd):Rd Nd:=.seq (HB opd true) λp=>if p.2=true then
 .seq A0 λc=>.ret (Ar 9 [o,IJ 17 (p.1.take (p.1.length - 1)),p.1.getLastD FR,c])
 else .seq (IL full (IJ 17 p.1)) λe=>.seq (.loop (RJ exp) (4,[o,e])) λq=>.seq (BU 15 [41]) λc=>.ret (Ar q.1 (q.2++[c]))
def KO (stmt:Rd Nd) (l:List Nd):Rd (Sum (List Nd) (List Nd)):=.look λs=>if A9 s 15 [44]=true then .seq A0 λc=>.seq stmt λt=>.ret (.inl (l++[c]++[t])) else .ret (.inr l)
def Ed (stmt:Rd Nd) (l:List Nd):Rd (List Nd):=.seq (BU 10 [124]) λb=>.seq stmt λt=>.loop (KO stmt) (l++[b]++[t])
def VK (exp:Rd Nd) (l:List Nd):Rd (Sum (List Nd) (Int×List Nd)):=.look λs=>if A9 s 15 [44]=true then .seq A0 λc=>.seq exp λe=>.ret (.inl (l++[c]++[e])) else .ret (.inr (6,l))
def VJ (exp:Rd Nd) (l:List Nd):Rd (Sum (List Nd) (Int×List Nd)):=if (l.length:Int)<5 then
 .look λs=>if A9 s 10 [46,46]=true then .seq A0 λd=>.look λs=>if A9 s 15 [93]=true then .ret (.inr (7,l++[d])) else .seq exp λe=>.ret (.inr (7,l++[d]++[e]))
  else VK exp l
 else VK exp l
def OG (exp stmt:Rd Nd) (o:Nd):Rd Nd:=.seq exp λe=>.look λs=>if A9 s 10 [124]=true then
 .seq (Ed stmt [o,e]) λl=>.seq (BU 15 [93]) λc=>.ret (Ar 8 (l++[c]))
 else .seq (.loop (VJ exp) [o,e]) λq=>.seq (BU 15 [93]) λc=>.ret (Ar q.1 (q.2++[c]))
def Sh (exp:Rd Nd) (n:Nd):Rd Nd:=.look λs=>if A9 s 10 [60,45]=true then (if G4 n=true then .seq A0 λa=>.seq exp λe=>.ret (Ar 32 [n,a,e]) else .fail LM) else .ret n
def RD (L:C8) (exp:Rd Nd):Rd Nd:=.look λs=>if A9 s 9 UK=true then
 .seq A0 λt=>.seq L.decls λb=>.look λs=>if A9 s 9 tw=true then .seq (HL L t b) λn=>Sh exp n else .ret (Ar 33 [t,b])
 else .seq exp λn=>Sh exp n
def Ml (exp stmt:Rd Nd) (m:List UInt8) (l:List Nd):Rd (Sum (List Nd) (List Nd)):=.seq (Ed stmt []) λg=>.seq (BU 10 m) λq=>.seq exp λe=>.ret (.inl (l++[Ar 30 (g++[q]++[e])]))
def HE (exp stmt:Rd Nd) (m:List UInt8) (l:List Nd):Rd (Sum (List Nd) (List Nd)):=if ((l.length:Int)==0)=true then Ml exp stmt m l
 else if ((l.headD FR).kind==30)=true then .look λs=>if A9 s 10 [124]=true then Ml exp stmt m l else .ret (.inr l)
 else .ret (.inr l)
def Ob (L:C8) (exp stmt:Rd Nd) (m:List UInt8) (l:List Nd):Rd Nd:=.seq (.loop (HE exp stmt m) l) λl=>.look λs=>if A9 s 9 ZM=true then
 .seq A0 λw=>.seq L.decls λb=>.ret (Ar 29 (l++[Ar 31 [w,b]]))
 else .ret (Ar 29 l)
def Xc (L:C8) (exp stmt:Rd Nd) (m:List UInt8):Rd Nd:=.look λs=>if A9 s 10 m=true then .seq A0 λa=>.seq exp λe=>Ob L exp stmt m ([]++[a,e])
 else if A9 s 10 [124]=true then Ob L exp stmt m [] else L7
def Ye (L:C8) (ops exp stmt:Rd Nd):Rd Nd:=.seq ops λn=>if G4 n=true then .seq (Xc L exp stmt [45,62]) λr=>.ret (Ar 28 [n,r]) else .fail LM
def NU (n:Nd):Bool:=(Fj n.text).2==0&&decide ((Fj n.text).1<=9)
def Ez (n:Nd):Bool:=match n.kids[n.kids.length / 2]? with
 |some x=> !(x.form==7||x.form==8||x.form==3||x.form==4)
 |none=>false
def Ld (l:List Nd):Rd (Sum (List Nd) (List Nd)):=.look λs=>if A9 s 15 [44]=true then .seq A0 λc=>.seq (CA EK Ez) λo=>.ret (.inl (l++[c]++[o])) else .ret (.inr l)
def Gc (l:List Nd):Rd Nd:=.seq (CA EK Ez) λo=>.seq (.loop Ld (l++[o])) λl=>.ret (Ar 35 l)
def Hm:Rd Nd:=.seq A0 λf=>.look λs=>if ((Aa s).1.kind==11)=true then .seq (CA A0 NU) λd=>Gc ([f]++[d]) else Gc [f]
def kO (atom:Rd Nd) (l:List Nd):Rd (Sum (List Nd) (List Nd)):=.look λs=>if A9 s 15 [44]=true then .seq A0 λc=>.seq (CA atom MA) λo=>.ret (.inl (l++[c]++[o])) else .ret (.inr l)
def Xx (atom full:Rd Nd) (n:Nd):Rd Nd:=if MA n=true then .seq (.loop (kO atom) [n]) λl=>.seq (BU 10 [58,58]) λc=>.seq full λt=>.ret (Ar 34 (l++[c]++[t])) else .fail LM
def Qv (L:C8) (atom ops exp stmt full:Rd Nd):Rd Nd:=.look λs=>if FJ (Aa s).1=true then Hm
 else .seq ops λn=>.look λs=>if A9 s 15 [44]=true then Xx atom full n else if A9 s 10 [58,58]=true then Xx atom full n
  else if ((TX n).2.2==0)=true then .seq (Xc L exp stmt [61]) λr=>.ret (Ar 36 [n,r]) else .fail LM
def Dr (s:Af):Af×Bool:=if HM s=true/\¬s.wait=1/\¬Fi s=0 then (EU s,true) else (Fy,false)
theorem K8 {s:Af} (h:(Dr s).2=true):mu (Dr s).1<=mu s:=by
 unfold Dr at h |-
 split
 .rename_i hc
  have U:s.BT≠[]:=λe=>hc.2.2 (by unfold Fi;rw [e];rfl)
  have:=JE U
  simp only [mu,EU] at *
  omega
 .rename_i hc;rw [if_neg hc] at h;cases h
def NT:Rd Unit:=⟨λs=>if (Dr s).2=true then .inr ((),(Dr s).1) else .inl (⟨NN s,Jz s⟩,s),λs v s' h=>by
 split at h
 .cases h;exact K8 ‹_›
 .cases h⟩
def Mu (_:Unit):Rd (Sum Unit Unit):=.look λs=>if F0 (Aa s).1=true then .seq Hh λ_=>.ret (.inl ()) else .ret (.inr ())
def Mv:Rd Unit:=.loop Mu ()
def HA (f:Bool) (U:Bool):Rd Bool:=.look λs=>if (if f then A9 s 15 [125] else (Aa s).1.kind==20)=true then .seq Hh λ_=>.ret true
 else if U=true then (if f=true then L7 else .seq NT λ_=>.ret true) else .ret false
def Iw (U:Tk->Bool) (item:Rd Nd) (f:Bool) (l:List Nd):Rd (Sum (List Nd) (List Nd)):=.seq Mv λ_=>.look λs=>.seq (HA f (!U (Aa s).1)) λe=>
 if e=true then .ret (.inr l) else .seq item λn=>.look λs=>.seq (HA f (!F0 (Aa s).1)) λe=>if e=true then .ret (.inr (l++[n])) else .ret (.inl (l++[n]))
def DS (f:Bool) (l:List Nd):Nd:=.mk 2 (if f then 1 else 0) [] 0 0 l
def CX (U:Tk->Bool) (item:Rd Nd):Rd Nd:=.look λs=>if ((Aa s).1.kind==18)=true then .seq Hh λ_=>.seq (.loop (Iw U item false) []) λl=>.ret (DS false l)
 else .seq (BU 15 [123]) λ_=>.seq (.loop (Iw U item true) []) λl=>.ret (DS true l)
def fD (L:C8):Rd Nd:=Ka L
def Zb (L:C8):Rd Nd:=HR L (Ka L)
def opsL (L:C8):Rd Nd:=N6 (Zb L)
def LH (full:Rd Nd) (L:C8):Rd Nd:=Yx (Zb L) full
def Jr (full:Rd Nd) (L:C8):Rd Nd:=RD L (LH full L)
def UR (full:Rd Nd) (L:C8):Rd Nd:=Ye L (opsL L) (LH full L) (Jr full L)
def Kw (full:Rd Nd) (L:C8):Rd Nd:=Qv L (Ka L) (opsL L) (LH full L) (Jr full L) full
def Hb (t:Tk):Bool:=DA t||FJ t
def uL (full:Rd Nd) (L:C8):C8 where
 atom:=fD L
 exp:=LH full L
 ops:=opsL L
 decls:=CX Hb (Kw full L)
 stmts:=CX DA (Jr full L)
 alts:=CX DA (UR full L)
 DT:=λo=>EE (Zb L) full (LH full L) o
 list:=λo=>OG (LH full L) (Jr full L) o
def YY:C8:=⟨.fail E9,.fail E9,.fail E9,.fail E9,.fail E9,.fail E9,λ_=>.fail E9,λ_=>.fail E9⟩
theorem YC (U:A7 A):A7 (EA A):=λs n s' h=>by
 unfold EA at h
 split at h
 .cases h
 .rename_i p h1
  have h2:=Eu U _ _ _ h1
  split at h
  .rename_i h3
   have h4:=C0 h3 Do Do
   split at h
   .cases h
   .rename_i q h5
    have:=OA U _ _ _ h5
    cases h
    omega
  .have:=Sf h
   omega
def D6 (d:Nat):Rd Nd:=V6 (EA (Cp (DL (d - 1)))) λs v s' h=>Nat.le_of_lt (YC (CM (B0 _)) _ _ _ h)
def Kl:Nat->C8
 |0=>YY
 |d+1=>uL (D6 (d+1)) (Kl d)
end Go.Proofs.Z
namespace Go.Proofs.Z
open Go Go.Aw
theorem Ac {p:Env->Prop} (h:∀e,p e):∀e:Env,p e:=h
theorem qi {e:List V} {K:List V->Prop} (U:0<=i) (h:es[i.toNat]? =some e) (k:K e):0<=i/\∃e,es[i.toNat]? =some e/\K e:=⟨U,e,h,k⟩
theorem ik {l:List Int} {x:Int} {K:List V->Prop} (h:l[i.toNat]? =some x) (U:0<=i) (k:K [.int .i64 x]):0<=i/\∃e,(ints l)[i.toNat]? =some e/\K e:=⟨U,_,by simp [ints,h],k⟩
theorem iy {es:List α} {n:Nat} {K:Nat->Prop} (h:es.length=n) (k:K n):∀m,m=es.length->m<Fe->K m:=λm U _=>by rw [h] at U;subst U;exact k
section
variable {st:St} {K:AL->St->Prop}
theorem Js {t:Tk} (h:K (.ret (.bool (H0 t))) st):PC 249 [Eb t] st K:=by
 refine pB Tryz.func249 ?_
 repeat' ((conv=>whnf);first|(refine AG ?_;intros)|(refine AH ?_ ?_<;>intro e h)|(refine AJ ?_ ?_<;>intro _)|fail)
 all_goals conv=>whnf
 all_goals (refine Ao h ?_;clear h;simp_all [H0])
theorem nj {t:Tk} (h:K (.ret (.bool (Gf t))) st):PC 241 [Eb t] st K:=by
 refine pB Tryz.func241 ?_
 repeat' ((conv=>whnf);first|(refine AG ?_;intros)|(refine AH ?_ ?_<;>intro e h)|(refine AJ ?_ ?_<;>intro _)|refine Js ?_)
 all_goals conv=>whnf
 all_goals (refine Ao h ?_;clear h;simp_all [Gf])
theorem UW {t:Tk} (h:K (.ret (.bool (Df t))) st):PC 170 [Eb t] st K:=by
 refine pB Tryz.func170 ?_
 repeat' ((conv=>whnf);first|(refine AG ?_;intros)|(refine AH ?_ ?_<;>intro e h)|(refine AJ ?_ ?_<;>intro _)|fail)
 all_goals conv=>whnf
 all_goals (refine Ao h ?_;clear h;simp_all [Df])
theorem Qi {t:Tk} (h:K (.ret (.bool (DA t))) st):PC 110 [Eb t] st K:=by
 refine pB Tryz.func110 ?_
 repeat' ((conv=>whnf);first|(refine AG ?_;intros)|(refine AH ?_ ?_<;>intro e h)|(refine AJ ?_ ?_<;>intro _)|refine UW ?_)
 all_goals conv=>whnf
 all_goals (refine Ao h ?_;clear h;simp_all [DA,Df,UK,sx,Tf,sw])
theorem au {t:Tk} (h:K (.ret (.bool (FJ t))) st):PC 111 [Eb t] st K:=by
 refine pB Tryz.func111 ?_
 repeat' ((conv=>whnf);first|(refine AG ?_;intros)|(refine AH ?_ ?_<;>intro e h)|(refine AJ ?_ ?_<;>intro _)|fail)
 all_goals conv=>whnf
 all_goals (refine Ao h ?_;clear h;simp_all [FJ])
theorem Uv {t:Tk} (h:K (.ret (.bool (F0 t))) st):PC 168 [Eb t] st K:=by
 refine pB Tryz.func168 ?_
 repeat' ((conv=>whnf);first|(refine AG ?_;intros)|(refine AH ?_ ?_<;>intro e h)|(refine AJ ?_ ?_<;>intro _)|fail)
 all_goals conv=>whnf
 all_goals (refine Ao h ?_;clear h;simp_all [F0])
theorem KL {k:Int} {own:AF} (h:K (.ret (enc (Ar k l))) st):PC 121 [.int .i64 k,.slice 6 (l.map Ax) own] st K:=by
 refine pB Tryz.func121 ?_
 repeat' ((conv=>whnf);first|(refine AG ?_;intros)|(refine AH ?_ ?_<;>intro e h)|(refine AJ ?_ ?_<;>intro _)|fail)
 all_goals exact CI (St.le_refl _) CO h
theorem aS {k:Int} {own:AF} (h:K (.ret (enc (Ar k [a]))) st):PC 121 [.int .i64 k,.slice 6 [Ax a] own] st K:=KL (l:=[a]) h
theorem aT {k:Int} {b:Nd} {own:AF} (h:K (.ret (enc (Ar k [a,b]))) st):PC 121 [.int .i64 k,.slice 6 [Ax a,Ax b] own] st K:=KL (l:=[a,b]) h
theorem Ua {k:Int} {b c:Nd} {own:AF} (h:K (.ret (enc (Ar k [a,b,c]))) st):PC 121 [.int .i64 k,.slice 6 [Ax a,Ax b,Ax c] own] st K:=KL (l:=[a,b,c]) h
theorem aU {k:Int} {b c d:Nd} {own:AF} (h:K (.ret (enc (Ar k [a,b,c,d]))) st):PC 121 [.int .i64 k,.slice 6 [Ax a,Ax b,Ax c,Ax d] own] st K:=KL (l:=[a,b,c,d]) h
theorem qz {k:Int} {own:AF} (h:K (.ret (enc (IJ k l))) st):PC 190 [.int .i64 k,.slice 6 (l.map Ax) own] st K:=by
 refine pB Tryz.func190 ?_
 match l with
 |[x]=>
  have h:K (.ret (enc x)) st:=h
  have hn:(([x]:List Nd).length:Int)=1:=rfl
  repeat' ((conv=>whnf);first|(refine AG ?_;intros)|(refine AH ?_ ?_<;>intro e h)|(refine AJ ?_ ?_<;>intro _)|refine Bj (l:=[x]) (λ_=>?_)|refine qi AC rfl ?_)
  all_goals exact AZ rfl h
 |[]=>
  have h:K (.ret (enc (Ar k []))) st:=h
  have hn:¬(([]:List Nd).length:Int)=1:=Do
  repeat' ((conv=>whnf);first|(refine AG ?_;intros)|(refine AH ?_ ?_<;>intro e h)|(refine AJ ?_ ?_<;>intro _)|refine Bj (l:=[]) (λ_=>?_)|refine KL (l:=[]) ?_)
  all_goals exact AZ rfl h
 |x::y::r=>
  have h:K (.ret (enc (Ar k (x::y::r)))) st:=h
  have hn:¬((x::y::r).length:Int)=1:=by simp only [List.length_cons];omega
  repeat' ((conv=>whnf);first|(refine AG ?_;intros)|(refine AH ?_ ?_<;>intro e h)|(refine AJ ?_ ?_<;>intro _)|refine Bj (l:=x::y::r) (λ_=>?_)|refine KL (l:=x::y::r) ?_)
  all_goals exact AZ rfl h
theorem TR (h:K (.ret (.bool (G4 n))) st):PC 124 [enc n] st K:=by
 refine pB Tryz.func124 ?_
 repeat' ((conv=>whnf);first|(refine AG ?_;intros)|(refine AH ?_ ?_<;>intro e h)|(refine AJ ?_ ?_<;>intro _)|refine ga ?_)
 all_goals conv=>whnf
 all_goals (refine Ao h ?_;clear h;simp_all [NQ])
theorem aE (U:n.size<=1000000000) (h:K (.ret (.bool (MA n))) st):PC 201 [enc n] st K:=by
 refine pB Tryz.func201 ?_
 have hs:(strs (GG n).1).length=(GG n).1.length:=by simp [strs]
 repeat' ((conv=>whnf);first|(refine AG ?_;intros)|(refine AH ?_ ?_<;>intro e h)|(refine AJ ?_ ?_<;>intro _)|refine iT U ?_|refine iy hs ?_)
 all_goals conv=>whnf
 all_goals (refine Ao h ?_;clear h;simp_all [MA])
end
def AO (n:Nd) (s:Af) (e:Int):V:=.agg [.int .i64 n.kind,.int .i64 n.form,.str n.text,.int .i64 n.line,.int .i64 n.CC,.slice 6 (Cc n.kids) .any,
 .slice 4 (A4 s.As) .any,.int .i64 s.pos,.slice 1 (ints s.BT) .any,.int .i64 s.wait,.int .i64 e]
section
variable {st:St} {R:AL->St->Prop}
attribute [local irreducible] Go.Aw.Ag
theorem J3 {s:Af} (hb:s.BT.length<=500000000) (h:R (.ret (Eb (Aa s).1)) st):PC 73 [Am s] st R:=by
 refine pB Tryz.func73 ?_
 repeat' ((conv=>whnf);first|(refine Bl ?_;intros)|(refine Bm ?_ ?_<;>intro _)|refine KS (s:=s) hb ?_)
 all_goals exact AZ rfl h
theorem S0 {t:Tk} (h:R (.ret (.bool (Cm t))) st):PC 272 [Eb t] st R:=by
 refine pB Tryz.func272 ?_
 repeat' ((conv=>whnf);first|(refine Bl ?_;intros)|(refine Bm ?_ ?_<;>intro _)|fail)
 all_goals conv=>whnf
 all_goals (refine Ao h ?_;clear h;simp_all [Cm])
theorem Up {s:Af} (h:R (.ret (AO FR s 2)) st):PC 61 [Am s] st R:=by
 refine pB Tryz.func61 ?_
 repeat' ((conv=>whnf);first|(refine Bl ?_;intros)|(refine Bm ?_ ?_<;>intro _)|fail)
 all_goals exact AZ rfl h
theorem PN {s:Af} (hb:s.BT.length<=500000000) (h:R (.ret (if (Aa s).2.2=0 then AO (Av (Aa s).1) (Aa s).2.1 0 else AO FR s (Aa s).2.2)) st):PC 63 [Am s] st R:=by
 refine pB Tryz.func63 ?_
 repeat' ((conv=>whnf);first|(refine Bl ?_;intros)|(refine Bm ?_ ?_<;>intro _)|refine KS (s:=s) hb ?_)
 all_goals first
  |(rw [if_pos ‹_›] at h;exact AZ rfl h)
  |(rw [if_neg ‹_›] at h;exact AZ rfl h)
theorem bJ {s:Af} {k:Int} (U:k≠0) (hb:s.BT.length<=500000000) (h:R (.ret (.bool (A9 s k x))) st):PC 125 [Am s,.int .i64 k,.str x] st R:=by
 refine pB Tryz.func125 ?_
 have key:A9 s k x=((Aa s).2.2==0&&A9 s k x):=by
  cases hi:A9 s k x with
  |false=>simp
  |true=>simp [FK hi U]
 rw [key] at h
 clear key
 repeat' ((conv=>whnf);first|(refine Bl ?_;intros)|(refine Bm ?_ ?_<;>intro _)|refine KS (s:=s) hb ?_)
 all_goals conv=>whnf
 all_goals (refine Ao h ?_;clear h;simp_all [A9])
def Ga:Rs->V
 | .inr (n,s)=>AO n s 0
 | .inl (e,s)=>AO FR s e
theorem kD {s:Af} (hb:s.BT.length<=500000000) (h:R (.ret (Ga (Cs s))) st):PC 63 [Am s] st R:=PN hb (by
 unfold Cs at h
 split at h<;>rename_i e
 .rw [if_pos e];exact h
 .rw [if_neg e];exact h)
theorem Uo {s:Af} (hb:s.BT.length<=500000000) (h:R (.ret (Ga (Qg s))) st):PC 179 [Am s] st R:=by
 refine pB Tryz.func179 ?_
 unfold Qg NN at h
 repeat' ((conv=>whnf);first|(refine Bl ?_;intros)|(refine Bm ?_ ?_<;>intro _)|refine KS (s:=s) hb ?_)
 all_goals first
  |(rw [if_pos ‹_›] at h;exact AZ rfl h)
  |(rw [if_neg ‹_›] at h;exact AZ rfl h)
theorem EN {s:Af} {k:Int} (e:A9 s k x=v) (U:k≠0) (hb:s.BT.length<=500000000) (h:R (.ret (.bool v)) st):PC 125 [Am s,.int .i64 k,.str x] st R:=bJ U hb (by rw [e];exact h)
theorem Eg {s:Af} {q:Rs} (e:Cs s=q) (hb:s.BT.length<=500000000) (h:R (.ret (Ga q)) st):PC 63 [Am s] st R:=kD hb (by rw [e];exact h)
theorem PQ {s:Af} {k:Int} (hk:k≠0) (hb:s.BT.length<=500000000) (h:R (.ret (Ga (De s k x))) st):PC 127 [Am s,.int .i64 k,.str x] st R:=by
 refine pB Tryz.func127 ?_
 unfold De at h
 cases hi:A9 s k x with
 |true=>
  rw [if_pos hi] at h
  cases U:Cs s with
  |inl p=>
   rw [U] at h
   repeat' ((conv=>whnf);first|(refine Bl ?_;intros)|(refine Bm ?_ ?_<;>intro _)|refine EN hi hk hb ?_|refine Eg U hb ?_)
   all_goals exact AZ rfl h
  |inr p=>
   rw [U] at h
   repeat' ((conv=>whnf);first|(refine Bl ?_;intros)|(refine Bm ?_ ?_<;>intro _)|refine EN hi hk hb ?_|refine Eg U hb ?_)
   all_goals exact AZ rfl h
 |false=>
  rw [if_neg (by rw [hi];decide)] at h
  repeat' ((conv=>whnf);first|(refine Bl ?_;intros)|(refine Bm ?_ ?_<;>intro _)|refine EN hi hk hb ?_|refine Uo hb ?_)
  all_goals exact AZ rfl h
end
theorem Dw {k:Int} {own:AF} {s:Af} {e:Int}:AL.ret (AO (Ar k l) s e)=(AL.ret (.agg [.int .i64 k,.int .i64 0,.str [],.int .i64 0,.int .i64 0,.slice 6 (l.map Ax) own,
 .slice 4 (A4 s.As) .any,.int .i64 s.pos,.slice 1 (ints s.BT) .any,.int .i64 s.wait,.int .i64 e])).wk:=by rw [<-BG];rfl
section
variable {st:St} {R:AL->St->Prop}
attribute [local irreducible] Go.Aw.Ag
theorem Ny {s:Af} {k:Int} {q:Rs} (e:De s k x=q) (U:k≠0) (hb:s.BT.length<=500000000) (h:R (.ret (Ga q)) st):PC 127 [Am s,.int .i64 k,.str x] st R:=PQ U hb (by rw [e];exact h)
theorem cK {own:AF} {s:Af} (ho:own.BH st) (hn:l.length+1<=1000000000) (hb:s.BT.length<=500000000) (h:R (.ret (Ga (En 3 l s [41]))) st):
 PC 345 [.slice 6 (l.map Ax) own,Am s] (own.st st (l.length*6)) R:=by
 refine pB Tryz.func345 ?_
 unfold En at h
 cases U:De s 15 [41] with
 |inl p=>
  obtain ⟨e,s'⟩:=p
  rw [U] at h
  have hne:¬e=0:=K5 _ _ _ U
  repeat' ((conv=>whnf);first|(refine Bl ?_;intros)|(refine Bm ?_ ?_<;>intro _)|refine Ny U Do hb ?_)
  all_goals exact CI (AF.Ba ho) rfl h
 |inr p=>
  obtain ⟨n,s'⟩:=p
  rw [U] at h
  repeat' ((conv=>whnf);first|(refine Bl ?_;intros)|(refine Bm ?_ ?_<;>intro _)|refine Ny U Do hb ?_|refine DR (l:=l) (x:=n) ho hn (λown' ho'=>?_))
  all_goals exact CI (AF.Ba ho') Dw h
theorem Qo {s:Af} (h:R (.ret (AO n s 0)) st):PC 112 [AO n s 0] st R:=by
 refine pB Tryz.func112 ?_
 repeat' ((conv=>whnf);first|(refine Bl ?_;intros)|(refine Bm ?_ ?_<;>intro _)|fail)
 all_goals exact AZ rfl h
theorem NS {s:Af} {e:Int} (U:¬e=0) (h:R (.ret (AO FR s e)) st):PC 112 [AO n s e] st R:=by
 refine pB Tryz.func112 ?_
 repeat' ((conv=>whnf);first|(refine Bl ?_;intros)|(refine Bm ?_ ?_<;>intro _)|fail)
 all_goals exact AZ rfl h
theorem GU {d:Int} (U:¬d<1) (h:R (.ret (.int .i64 (if 100<d then 100 else d))) st):PC 59 [.int .i64 d] st R:=by
 refine pB Tryz.func59 ?_
 have e:(if (0:Int)<(if 100<d then 100 else d) then (if 100<d then 100 else d) else 0)=(if 100<d then 100 else d):=by split<;>split<;>omega
 rw [<-e] at h
 clear e
 repeat' ((conv=>whnf);first|(refine Bl ?_;intros)|(refine Bm ?_ ?_<;>intro _)|refine ⟨_,rfl,?_⟩)
 all_goals exact fin h rfl
end
section
variable {st:St} {R:AL->St->Prop}
attribute [local irreducible] Go.Aw.Ag
theorem lj {deep:Int} (U:¬deep<1->D8 101 (if 100<deep then 100 else deep) A):F6 287 deep A:=by
 intro s hm st R h
 refine pB Tryz.func287 ?_
 repeat' ((conv=>whnf);first|(refine Bl ?_;intros)|(refine Bm ?_ ?_<;>intro _)|refine Z1 (s:=s) (q:=A s) (λhd=>U hd s hm) ?_)
 all_goals exact AZ rfl h
theorem mT {deep:Int} (U:¬deep<1->D8 50 (if 100<deep then 100 else deep) A):F6 14 deep A:=by
 intro s hm st R h
 refine pB Tryz.func14 ?_
 repeat' ((conv=>whnf);first|(refine Bl ?_;intros)|(refine Bm ?_ ?_<;>intro _)|refine Z1 (s:=s) (q:=A s) (λhd=>U hd s hm) ?_)
 all_goals exact AZ rfl h
end
def Mz (Y:Af->Rs) (n:Nd) (s:Af):Ls:=match Y s with
 | .inl e=>.inl e
 | .inr q=>Cw Y [n,q.1] q.2
def fm (st:St) (b:Nat) (R:AL->St->Prop):Ls->Prop
 | .inr (l,s')=>∀st' U,H9 st st' b s'->U.BH st'->R (.ret (.slice 6 (l.map Ax) U)) (U.st st' (l.length*6))
 | .inl (e,s')=>∀st',H9 st st' b s'->R (.Cz (fault e)) st'
theorem eQ {s:Af} {s':Af} (h:A9 s 15 [44]=true) (U:Y (Aa s).2.1=.inr (n,s')) (hm:mu s'<mu s):Cw Y l s=Cw Y (l++[Av (Aa s).1,n]) s':=by
 rw [Cw,if_pos h,U]
 dsimp only
 rw [if_pos hm]
section
variable {st:St} {R:AL->St->Prop}
attribute [local irreducible] Go.Aw.Ag
theorem oV (hY:F6 287 d Y) (h0:d=0->∀s,Y s=.inl (2,s)) (hB:C5 Y) (hF:A7 Y) {s:Af} {b:Nat} {x:Int} (hx:x=(d:Int)) (hm:mu s<=100000000) (hs:Has st b s) (h:fm st b R (Mz Y n1 s)):
 PC 286 [.ptr b 0,.slice 6 [Ax n1] .full,.int .i64 x] st R:=by
 refine pB Tryz.func286 ?_
 unfold Mz at h
 have hn1:[n1].length+1<=1000000000:=by show 1+1<=1000000000;decide
 repeat' ((conv=>whnf);first|(refine Bl ?_;intros)|(refine Bm ?_ ?_<;>intro _)|refine NH (λ_=>?_) ?_|refine TQ hx hY h0 hB hm hs (Es (λn2 s2 hq2 st2 h2=>?_) (λe2 s2 hq2 st2 h2=>?_))|refine DR (l:=[n1]) (x:=n2) (own:=.full) trivial hn1 (λown1 ho1=>?_))
 .rw [hq2] at h
  have hd2:=hF _ _ _ hq2
  dsimp only at h
  refine IH (α:=List Nd×Af×St×AF) (λx=>[(1,.slice 6 (x.1.map Ax) x.2.2.2)]) [0,2,6] (λx=>[]) [] (λx=>x.2.2.2.st x.2.2.1 (x.1.length*6))
   (λx=>x.2.2.2.BH x.2.2.1/\H9 st x.2.2.1 b x.2.1/\x.1.length+2*mu x.2.1<=400000000/\mu x.2.1<=mu s/\Cw Y x.1 x.2.1=Cw Y [n1,n2] s2) (λx=>mu x.2.1) ([n1]++[n2],s2,st2,own1)
   ⟨ho1,h2,by show 2+2*mu s2<=_;omega,by show mu s2<=_;omega,rfl⟩ Yl (St.le_refl _) ?_
  rintro ⟨l,U,st3,own⟩ ⟨j1,j2,j5,j6,j7⟩
  dsimp only at j1 j2 j5 j6 j7
  have hm3:mu U<=100000000:=AC
  have hb3:=BB hm3
  have hl3:Has (st3.Ab b (Dd U)) b U:=.inl (St.An ..)
  have g3:own.BH (st3.Ab b (Dd U)):=Jb j1 j2.1
  have hn:l.length+2<=1000000000:=AC
  have hm4:A9 U 15 [44]=true->mu (Aa U).2.1<=100000000:=λe=>by have:=C0 e Do Do;omega
  repeat' ((conv=>whnf);first|(refine Bl ?_;intros)|(refine Bm ?_ ?_<;>intro _)|refine NH (λ_=>?_) ?_|refine qO j2.1 hb3 ?_|refine Gs (hl3.hw own _) hb3 (RH g3 hl3 (DE ‹_› Do) (λst4 h4 g4=>?_))|refine TQ hx hY h0 hB (hm4 ‹_›) (h4.1.hw own _) (F1 g4 h4.1 (GK (λn5 s5 hq5 st5 h5 g5=>?_) (λe5 s5 hq5 st5 h5 g5=>?_)))|refine fu (l:=l) (x:=Av (Aa U).1) (y:=n5) g5 hn (λown' ho'=>?_))
  all_goals conv=>whnf
  .have hp:A9 U 15 [44]=true:=FS
   have hd:=hF _ _ _ hq5
   have hd3:=C0 hp Do Do
   have hd4:mu s5<mu U:=AC
   have hu:=(A6 (st:=st3) (b:=b) (s:=U)).trans (h4.trans h5)
   refine ⟨(l++[Av (Aa U).1,n5],s5,st5,own'),⟨ho',j2.trans hu,?_,by show mu s5<=_;omega,?_⟩,hd4,Yl,St.le_refl _⟩
   .show (l++[Av (Aa U).1,n5]).length+2*mu s5<=_
    rw [List.length_append]
    show l.length+2+2*mu s5<=_
    omega
   .show Cw Y (l++[Av (Aa U).1,n5]) s5=_
    rw [<-j7,eQ (l:=l) hp hq5 hd4]
  .have hp:A9 U 15 [44]=true:=FS
   have hu:=(A6 (st:=st3) (b:=b) (s:=U)).trans (h4.trans h5)
   have hr:Cw Y l U=.inl (e5,s5):=by rw [Cw,if_pos hp,hq5]
   rw [<-j7,hr] at h
   exact CI (AF.Ba g5) rfl (h st5 (j2.trans hu))
  .have hr:Cw Y l U=.inr (l,U):=by rw [Cw,if_neg (Bool.eq_false_iff.1 ‹_›)]
   rw [<-j7,hr] at h
   exact fin (h _ own (j2.trans A6) g3) rfl
 .rw [hq2] at h
  exact fin (h st2 h2) rfl
end
section
variable {st:St} {R:AL->St->Prop}
attribute [local irreducible] Go.Aw.Ag
theorem qP {b:Nat} {s:Af} {k:Int} (e:A9 s k x=true) (U:Has st b s) (hb:s.BT.length<=500000000) (h:R (.ret (.bool true)) (st.Ab b (Dd s))):PC 98 [.ptr b 0,.int .i64 k,.str x] st R:=YQ U hb (by rw [e];exact h)
theorem dm {b:Nat} {s:Af} {k:Int} (e:A9 s k x=false) (U:Has st b s) (hb:s.BT.length<=500000000) (h:R (.ret (.bool false)) (st.Ab b (Dd s))):PC 98 [.ptr b 0,.int .i64 k,.str x] st R:=YQ U hb (by rw [e];exact h)
theorem Fs {st:St} {b:Nat} {s:Af}:Has (st.Ab b (Dd s)) b s:=.inl (St.An ..)
theorem Sk {s:Af} (h:A9 s 15 [44]=true):Ck l s=Ck (l++[Av (Aa s).1]) (Aa s).2.1:=by
 rw [Ck,if_pos h,if_pos (C0 h Do Do)]
theorem Ma {s:Af} (h:A9 s 15 [44]=false):Ck l s=(l,s):=by
 rw [Ck,if_neg (by rw [h];decide)]
theorem ZK (l:List Nd) (s:Af):∀q s',Cw Y l s=.inr (q,s')->q.length+2*mu s'<=l.length+2*mu s:=by
 fun_induction Cw Y l s with
 |case1 l s U e1 h2=>intro e s' h;cases h
 |case2 l s U p h2 h3 ih=>
  intro e s' h
  have:=ih e s' h
  rw [List.length_append] at this
  have e2:[Av (Aa s).1,p.1].length=2:=rfl
  omega
 |case3 l s U p h2 h3=>intro e s' h;cases h
 |case4 l s U=>intro e s' h;cases h;exact Nat.le_refl _
theorem eR (hF:A7 Y) {s:Af} {s':Af} (h:Mz Y n s=.inr (l,s')):mu s'<=mu s/\l.length<=2+2*mu s:=by
 unfold Mz at h
 split at h
 .cases h
 .rename_i h1
  have h2:=hF _ _ _ h1
  have h3:=Te _ _ _ _ h
  have h4:=ZK _ _ _ _ h
  have U:∀a b:Nd,[a,b].length=2:=λ_ _=>rfl
  rw [U] at h4
  omega
theorem eJ {st:St} {b:Nat} {K:AL->St->Prop} {q:Ls} (h:∀l s',q=.inr (l,s')->∀st' U,H9 st st' b s'->U.BH st'->K (.ret (.slice 6 (l.map Ax) U)) (U.st st' (l.length*6)))
 (k:∀e s',q=.inl (e,s')->∀st',H9 st st' b s'->K (.Cz (fault e)) st'):fm st b K q:=by
 match q with
 | .inr (l,s')=>exact h l s' rfl
 | .inl (e,s')=>exact k e s' rfl
theorem oq {x:Int} (hx:x=((d+1:Nat):Int)) (hd:d<=1000000) (hY:F6 287 d Y) (h0:d=0->∀s,Y s=.inl (2,s)) (hB:C5 Y) (hF:A7 Y):D8 232 x (He Y):=by
 intro s hm b st R hs h
 refine pB Tryz.func232 ?_
 have hb:=BB hm
 unfold He at h
 cases hq1:Cs s with
 |inl q=>
  rw [hq1] at h
  obtain ⟨e,s'⟩:=q
  repeat' ((conv=>whnf);first|(refine Bl ?_;intros)|(refine Bm ?_ ?_<;>intro _)|refine Gs hs hb (UG hq1 (λst1 h1=>?_)))
  all_goals exact fin (h st1 h1) rfl
 |inr q=>
  obtain ⟨n1,s1⟩:=q
  rw [hq1] at h
  have hm1:mu s1<=100000000:=by have:=(P2 hq1).1;omega
  have hb1:=BB hm1
  have hn1:[n1].length+1<=1000000000:=by show 1+1<=1000000000;decide
  dsimp only at h
  cases hA:A9 s1 10 [45,62] with
  |true=>
   rw [if_pos hA] at h
   have KE:(Aa s1).2.1.BT.length<=500000000:=BB (by have:=C0 hA Do Do;omega)
   have hn2:∀n2:Nd,([n1]++[n2]).length+1<=1000000000:=λ_=>by show 2+1<=1000000000;decide
   repeat' ((conv=>whnf);first|(refine Bl ?_;intros)|(refine Bm ?_ ?_<;>intro _)|refine Gs hs hb (Ht hq1 (λst1 h1=>?_))|refine qP hA h1.1 hb1 ?_|refine Gs Fs hb1 (Ht (DE hA Do) (λst2 h2=>?_))|refine DR (l:=[n1]) (x:=Av (Aa s1).1) (own:=.full) trivial hn1 (λown1 ho1=>?_)|refine RN (h2.1.hw own1 _) KE (F1 ho1 h2.1 (GK (λn3 s3 hq3 U h3 hg3=>?_) (λe3 s3 hq3 U h3 hg3=>?_)))|refine DR (l:=[n1]++[Av (Aa s1).1]) (x:=n3) hg3 (hn2 _) (λown2 ho2=>?_))
   all_goals unfold En at h
   all_goals rw [hq3] at h
   .exact CI (AF.Ba ho2) CO (h U ((h1.trans A6).trans (h2.trans h3)))
   .exact CI (AF.Ba hg3) rfl (h U ((h1.trans A6).trans (h2.trans h3)))
  |false=>
  rw [if_neg (by rw [hA];decide)] at h
  cases hC:A9 s1 15 [41] with
  |true=>
   rw [if_pos hC] at h
   repeat' ((conv=>whnf);first|(refine Bl ?_;intros)|(refine Bm ?_ ?_<;>intro _)|refine Gs hs hb (Ht hq1 (λst1 h1=>?_))|refine dm hA h1.1 hb1 ?_|refine qP hC Fs hb1 ?_|refine RN Fs hb1 (Es (λn3 s3 hq3 U h3=>?_) (λe3 s3 hq3 U h3=>?_))|refine DR (l:=[n1]) (x:=n3) (own:=.full) trivial hn1 (λown2 ho2=>?_))
   all_goals unfold En at h
   all_goals rw [hq3] at h
   .exact CI (AF.Ba ho2) CO (h U (((h1.trans A6).trans A6).trans h3))
   .exact fin (h U (((h1.trans A6).trans A6).trans h3)) rfl
  |false=>
  rw [if_neg (by rw [hC];decide)] at h
  cases hE:A9 s1 15 [44] with
  |true=>
   rw [if_pos hE] at h
   repeat' ((conv=>whnf);first|(refine Bl ?_;intros)|(refine Bm ?_ ?_<;>intro _)|refine Gs hs hb (Ht hq1 (λst1 h1=>?_))|refine dm hA h1.1 hb1 ?_|refine dm hC Fs hb1 ?_|refine qP hE Fs hb1 ?_)
   refine IH (α:=List Nd×Af×St×AF) (λx=>[(5,.slice 6 (x.1.map Ax) x.2.2.2)]) [0,1,4,6] (λx=>[]) [0] (λx=>x.2.2.2.st x.2.2.1 (x.1.length*6))
    (λx=>x.2.2.2.BH x.2.2.1/\H9 st x.2.2.1 b x.2.1/\x.1.length+mu x.2.1<=200000000/\mu x.2.1<=mu s1/\Ck x.1 x.2.1=Ck [n1] s1) (λx=>mu x.2.1) ([n1],s1,_,.full)
    ⟨trivial,((h1.trans A6).trans A6).trans A6,by show 1+mu s1<=_;omega,Nat.le_refl _,rfl⟩ Yl (St.le_refl _) ?_
   rintro ⟨l,s3,U,own⟩ ⟨j1,j2,j5,j6,j7⟩
   dsimp only at j1 j2 j5 j6 j7
   have hm3:mu s3<=100000000:=AC
   have hb3:=BB hm3
   have hl3:Has (U.Ab b (Dd s3)) b s3:=.inl (St.An ..)
   have g3:own.BH (U.Ab b (Dd s3)):=Jb j1 j2.1
   have hn:l.length+1<=1000000000:=AC
   repeat' ((conv=>whnf);first|(refine Bl ?_;intros)|(refine Bm ?_ ?_<;>intro _)|refine qO j2.1 hb3 ?_|refine Gs (hl3.hw own _) hb3 (RH g3 hl3 (DE ‹_› Do) (λst4 h4 g4=>?_))|refine DR (l:=l) (x:=Av (Aa s3).1) g4 hn (λown' ho'=>?_)|refine RN (hl3.hw own _) hb3 (F1 g3 hl3 (GK (λn5 s5 hq5 st5 h5 g5=>?_) (λe5 s5 hq5 st5 h5 g5=>?_)))|refine DR (l:=l) (x:=n5) g5 hn (λown' ho'=>?_))
   all_goals conv=>whnf
   .have hp:A9 s3 15 [44]=true:=FS
    have hd3:=C0 hp Do Do
    refine ⟨(l++[Av (Aa s3).1],(Aa s3).2.1,st4,own'),⟨ho',j2.trans (A6.trans h4),?_,by show mu (Aa s3).2.1<=_;omega,?_⟩,hd3,Yl,St.le_refl _⟩
    .show (l++[Av (Aa s3).1]).length+mu (Aa s3).2.1<=_
     rw [List.length_append,List.length_singleton]
     omega
    .show Ck (l++[Av (Aa s3).1]) (Aa s3).2.1=_
     rw [<-j7,Sk (l:=l) hp]
   all_goals rw [<-j7,Ma ‹_›] at h
   all_goals unfold En at h
   all_goals dsimp only at h
   all_goals rw [hq5] at h
   .exact CI (AF.Ba ho') CO (h st5 (j2.trans (A6.trans h5)))
   .exact CI (AF.Ba g5) rfl (h st5 (j2.trans (A6.trans h5)))
  |false=>
   rw [if_neg (by rw [hE];decide)] at h
   replace h:Gu st b R (match Mz Y n1 s1 with
    | .inl e=>(.inl e:Rs)
    | .inr r=>En (if 2<r.1.length then 5 else 4) r.1 r.2 [41]):=by
    unfold Mz
    cases hy:Y s1 with
    |inl e=>rw [hy] at h;exact h
    |inr q=>rw [hy] at h;exact h
   have hbl:∀{l s2},Mz Y n1 s1=.inr (l,s2)->s2.BT.length<=500000000/\l.length+1<=1000000000:=λe=>by
    have:=eR hF e
    exact ⟨BB AC,AC⟩
   repeat' ((conv=>whnf);first|(refine Bl ?_;intros)|(refine Bm ?_ ?_<;>intro _)|refine Gs hs hb (Ht hq1 (λst1 h1=>?_))|refine dm hA h1.1 hb1 ?_|refine dm hC Fs hb1 ?_|refine dm hE Fs hb1 ?_|refine oV hY h0 hB hF (n1:=n1) AC hm1 Fs (eJ (λl s2 hq2 st2 own1 h2 g2=>?_) (λe2 s2 hq2 st2 h2=>?_))|refine Bj (λ_=>?_)|refine RN (h2.1.hw own1 _) (hbl hq2).1 (F1 g2 h2.1 (GK (λn3 s3 hq3 U h3 hg3=>?_) (λe3 s3 hq3 U h3 hg3=>?_)))|refine DR (l:=l) (x:=n3) hg3 (hbl hq2).2 (λown2 ho2=>?_))
   all_goals rw [hq2] at h
   all_goals dsimp only at h
   all_goals try unfold En at h
   all_goals try rw [hq3] at h
   all_goals have hu:=(((h1.trans A6).trans A6).trans A6).trans h2
   .rw [if_pos AC] at h
    exact CI (AF.Ba ho2) CO (h U (hu.trans h3))
   .exact CI (AF.Ba hg3) rfl (h U (hu.trans h3))
   .rw [if_neg AC] at h
    exact CI (AF.Ba ho2) CO (h U (hu.trans h3))
   .exact CI (AF.Ba hg3) rfl (h U (hu.trans h3))
   .exact fin (h st2 hu) rfl
end
section
variable {st:St} {R:AL->St->Prop}
attribute [local irreducible] Go.Aw.Ag
theorem gk {s:Af} (hm:mu s<=100000000) (h:R (.ret (Ga (En 3 (Ck [n1] s).1 (Ck [n1] s).2 [41]))) st):
 PC 314 [.slice 6 [Ax n1] .full,Am s] st R:=by
 refine pB Tryz.func314 ?_
 repeat' ((conv=>whnf);first|(refine Bl ?_;intros)|(refine Bm ?_ ?_<;>intro _)|fail)
 refine IH (α:=List Nd×Af×AF) (λx=>[(0,.slice 6 (x.1.map Ax) x.2.2)]) [3,4] (λx=>[(0,x.2.1.cells)]) [1] (λx=>x.2.2.st st (x.1.length*6))
  (λx=>x.2.2.BH st/\x.1.length+mu x.2.1<=200000000/\mu x.2.1<=mu s/\Ck x.1 x.2.1=Ck [n1] s) (λx=>mu x.2.1) ([n1],s,.full)
  ⟨trivial,by show 1+mu s<=_;omega,Nat.le_refl _,rfl⟩ Yl (St.le_refl _) ?_
 rintro ⟨l,s3,own⟩ ⟨j1,j5,j6,j7⟩
 dsimp only at j1 j5 j6 j7
 have hm3:mu s3<=100000000:=AC
 have U:=BB hm3
 have hn:l.length+1<=1000000000:=AC
 rw [<-j7] at h
 cases hE:A9 s3 15 [44] with
 |true=>
  repeat' ((conv=>whnf);first|(refine Bl ?_;intros)|(refine Bm ?_ ?_<;>intro _)|refine EN hE Do U ?_|refine Eg (DE hE Do) U ?_|refine DR (l:=l) (x:=Av (Aa s3).1) j1 hn (λown' ho'=>?_))
  all_goals conv=>whnf
  have hd3:=C0 hE Do Do
  refine ⟨(l++[Av (Aa s3).1],(Aa s3).2.1,own'),⟨ho',?_,by show mu (Aa s3).2.1<=_;omega,?_⟩,hd3,Yl,St.le_refl _⟩
  .show (l++[Av (Aa s3).1]).length+mu (Aa s3).2.1<=_
   rw [List.length_append,List.length_singleton]
   omega
  .show Ck (l++[Av (Aa s3).1]) (Aa s3).2.1=_
   rw [<-j7,Sk (l:=l) hE]
 |false=>
  rw [Ma hE] at h
  unfold En at h
  cases hq:De s3 15 [41] with
  |inl p=>
   obtain ⟨e,s'⟩:=p
   rw [hq] at h
   have hne:¬e=0:=K5 _ _ _ hq
   repeat' ((conv=>whnf);first|(refine Bl ?_;intros)|(refine Bm ?_ ?_<;>intro _)|refine EN hE Do U ?_|refine Ny hq Do U ?_)
   all_goals exact CI (AF.Ba j1) rfl h
  |inr p=>
   obtain ⟨n,s'⟩:=p
   rw [hq] at h
   repeat' ((conv=>whnf);first|(refine Bl ?_;intros)|(refine Bm ?_ ?_<;>intro _)|refine EN hE Do U ?_|refine Ny hq Do U ?_|refine DR (l:=l) (x:=n) j1 hn (λown' ho'=>?_))
   all_goals exact CI (AF.Ba ho') Dw h
end
theorem Td (h:d=0) (s:Af):DL d s=.inl (2,s):=by subst h;rfl
theorem fF (U:d+1<=1000000) (h:F6 287 (d:Int) (DL d)):D8 158 ((d+1:Nat):Int) (Cp (DL d)):=
 qj (oq rfl AC h (λe s=>Td e s) (Du d) (B0 d)) (kT AC h (λe s=>Td e s) (Du d) (B0 d))
theorem PM (U:d+1<=1000000) (h:F6 287 (d:Int) (DL d)):D8 97 ((d+1:Nat):Int) (A1 (Cp (DL d))):=
 rN (fF U h) (CM (B0 d))
theorem Th (U:d+1<=1000000) (h:F6 287 (d:Int) (DL d)):D8 101 ((d+1:Nat):Int) (DI (Cp (DL d))):=
 oZ (PM U h) (UT (PM U h) (CM (B0 d))) (CM (B0 d))
theorem XS:∀d:Nat,d<=100->F6 287 (d:Int) (DL d)
 |0,_=>lj λh=>absurd Do h
 |d+1,U=>lj λ_=>by
  rw [if_neg AC]
  exact Th AC (XS d AC)
def B7 (deep:Int):Nat:=(if 100<deep then 100 else deep).toNat
theorem gu (deep:Int):B7 deep<=100:=by unfold B7;split<;>omega
theorem gr {deep:Int} (h:¬deep<1):(if 100<deep then 100 else deep)=((B7 deep - 1+1:Nat):Int):=by unfold B7;split<;>omega
def rn:Rs->Nd
 | .inr p=>p.1
 | .inl _=>FR
def rs:Rs->Af
 | .inr p=>p.2
 | .inl p=>p.2
def re:Rs->Int
 | .inr _=>0
 | .inl p=>p.1
theorem Cq (q:Rs):Ga q=AO (rn q) (rs q) (re q):=by cases q<;>rfl
theorem HJ (hB:C5 A) {s:Af} (h:re (A s)=0):A s=.inr (rn (A s),rs (A s)):=by
 cases U:A s with
 |inl p=>obtain ⟨e,s'⟩:=p;rw [U] at h;exact absurd h (hB _ _ _ U)
 |inr p=>rfl
theorem IF {q:Rs} (h:¬re q=0):q=.inl (re q,rs q):=by
 cases q with
 |inl p=>rfl
 |inr p=>exact absurd rfl h
theorem Oc {q:Rs} (h:¬re q=0):rn q=FR:=by rw [IF h];rfl
theorem LQ (U:C5 A) (hF:A7 A) {s:Af} (h:re (A s)=0):mu (rs (A s))<mu s:=hF _ _ _ (HJ U h)
def H3 (Y:Af->Rs) (l:List Nd) (s:Af):Ls:=match Y s with
 | .inl e=>.inl e
 | .inr q=>Cw Y (l++[q.1]) q.2
theorem Oo (U:C5 Y) {s:Af} (h:re (Y s)=0):H3 Y l s=Cw Y (l++[rn (Y s)]) (rs (Y s)):=by
 unfold H3
 rw [HJ U h]
 rfl
theorem ZL {s:Af} (h:¬re (Y s)=0):H3 Y l s=.inl (re (Y s),rs (Y s)):=by
 unfold H3
 rw [IF h]
 rfl
def KT (Y:Af->Rs) (n:Nd) (s:Af):Rs:=
 if A9 s 10 [45,62] then En 3 [n,Av (Aa s).1] (Aa s).2.1 [41]
 else if A9 s 15 [41] then En 3 [n] s [41]
 else if A9 s 15 [44] then En 3 (Ck [n] s).1 (Ck [n] s).2 [41]
 else match H3 Y [n] s with
  | .inl e=>.inl e
  | .inr r=>En (if 2<r.1.length then 5 else 4) r.1 r.2 [41]
theorem jT {s:Af}:He Y s=match Cs s with
 | .inl e=>.inl e
 | .inr p=>KT Y p.1 p.2:=by
 unfold He KT H3
 cases Cs s with
 |inl e=>rfl
 |inr p=>
  dsimp only
  cases Y p.2<;>rfl
theorem lk (U:A7 Y) {s:Af} (h:A9 s 15 [44]=true):Cw Y l s=H3 Y (l++[Av (Aa s).1]) (Aa s).2.1:=by
 rw [Cw,if_pos h]
 unfold H3
 cases hq:Y (Aa s).2.1 with
 |inl e=>rfl
 |inr p=>
  have h1:=U _ _ _ hq
  have h2:=C0 h Do Do
  dsimp only
  rw [if_pos AC,List.append_assoc]
  rfl
theorem XU {s:Af} (h:A9 s 15 [44]=false):Cw Y l s=.inr (l,s):=by
 rw [Cw,if_neg (by rw [h];decide)]
theorem ar {k:Int} {s:Af} (h:re (De s 15 x)=0):En k l s x=.inr (Ar k (l++[rn (De s 15 x)]),rs (De s 15 x)):=by
 unfold En
 rw [HJ K5 h]
 rfl
theorem Vo {k:Int} {s:Af} (h:¬re (De s 15 x)=0):Ga (En k l s x)=AO (rn (De s 15 x)) (rs (De s 15 x)) (re (De s 15 x)):=by
 unfold En
 rw [IF h]
 rfl
def Ev (f:FuncId) (d:Int) (A:Af->Rs):Prop:=∀s,mu s<=100000000->∀(st:St) (R:AL->St->Prop),R (.ret (Ga (A s))) st->PC f [Am s,.int .i64 d] st R
theorem Ev.e {f:FuncId} {d x:Int} {A:Af->Rs} (h:Ev f d A) (hx:x=d) {s:Af} {q:Rs} (e:A s=q) (U:mu s<=100000000) {st:St} {R:AL->St->Prop} (k:R (.ret (Ga q)) st):PC f [Am s,.int .i64 x] st R:=by
 subst hx;subst e;exact h s U st R k
theorem Ev.q {d x:Int} (h:Ev f d A) (hx:x=d) {s:Af} (U:mu s<=100000000) {st:St} (k:R (.ret (AO (rn (A s)) (rs (A s)) (re (A s)))) st):PC f [Am s,.int .i64 x] st R:=by
 subst hx;exact h s U st R (by rw [Cq];exact k)
section
variable {st:St} {R:AL->St->Prop}
attribute [local irreducible] Go.Aw.Ag
theorem bV {s:Af} {k:Int} (U:k≠0) (hb:s.BT.length<=500000000) (h:R (.ret (AO (rn (De s k x)) (rs (De s k x)) (re (De s k x)))) st):PC 127 [Am s,.int .i64 k,.str x] st R:=PQ U hb (by rw [Cq];exact h)
theorem cL {own:AF} {s:Af} (U:own.BH st) (hn:l.length+1<=1000000000) (hb:s.BT.length<=500000000) (h:R (.ret (AO (rn (En 3 l s [41])) (rs (En 3 l s [41])) (re (En 3 l s [41])))) st):
 PC 345 [.slice 6 (l.map Ax) own,Am s] (own.st st (l.length*6)) R:=cK U hn hb (by rw [Cq];exact h)
theorem U5 {s:Af} {q:Rs} (hq:En 3 (Ck [n1] s).1 (Ck [n1] s).2 [41]=q) (U:mu s<=100000000) (h:R (.ret (AO (rn q) (rs q) (re q))) st):
 PC 314 [.slice 6 [Ax n1] .full,Am s] st R:=gk U (by rw [Cq,hq];exact h)
theorem kx {x:Int} (hx:x=((d+1:Nat):Int)) (hd:d<=1000000) (hY:Ev 318 d Y) (hB:C5 Y) (hF:A7 Y) {s:Af} (hm:mu s<=100000000) (h:R (.ret (Ga (KT Y n1 s))) st):
 PC 317 [.slice 6 [Ax n1] .full,Am s,.int .i64 x] st R:=by
 refine pB Tryz.func317 ?_
 have hb:=BB hm
 have hn1:[n1].length+1<=1000000000:=by show 1+1<=1000000000;decide
 have hn3:∀y:Nd,([n1]++[y]).length+1<=1000000000:=λy=>by show 2+1<=1000000000;decide
 unfold KT at h
 cases hA:A9 s 10 [45,62] with
 |true=>
  have hC:A9 s 15 [41]=false:=by unfold A9 at hA |-;simp only [Bool.and_eq_true,beq_iff_eq] at hA;rw [hA.1];rfl
  have hE:A9 s 15 [44]=false:=by unfold A9 at hA |-;simp only [Bool.and_eq_true,beq_iff_eq] at hA;rw [hA.1];rfl
  rw [if_pos hA] at h
  have KE:(Aa s).2.1.BT.length<=500000000:=BB (by have:=C0 hA Do Do;omega)
  repeat' ((conv=>whnf);first|(refine Bl ?_;intros)|(refine Bm ?_ ?_<;>intro _)|refine EN hC Do hb ?_|refine EN hE Do hb ?_|refine EN hA Do hb ?_|refine Eg (DE hA Do) hb ?_|refine DR (l:=[n1]) (x:=Av (Aa s).1) (own:=.full) trivial hn1 (λown1 ho1=>?_)|refine cL (own:=own1) (l:=[n1]++[Av (Aa s).1]) ho1 (hn3 _) KE ?_)
  rw [Cq] at h
  all_goals exact AZ rfl h
 |false=>
  rw [if_neg (by rw [hA];decide)] at h
  cases hC:A9 s 15 [41] with
  |true=>
   have hE:A9 s 15 [44]=false:=by unfold A9 at hC |-;simp only [Bool.and_eq_true,beq_iff_eq] at hC;rw [hC.2];simp
   rw [if_pos hC] at h
   rw [Cq] at h
   have hq:En 3 (Ck [n1] s).1 (Ck [n1] s).2 [41]=En 3 [n1] s [41]:=by rw [Ma hE]
   repeat' ((conv=>whnf);first|(refine Bl ?_;intros)|(refine Bm ?_ ?_<;>intro _)|refine EN hC Do hb ?_|refine U5 hq hm ?_)
   all_goals exact AZ rfl h
  |false=>
   rw [if_neg (by rw [hC];decide)] at h
   cases hE:A9 s 15 [44] with
   |true=>
    rw [if_pos hE] at h
    rw [Cq] at h
    repeat' ((conv=>whnf);first|(refine Bl ?_;intros)|(refine Bm ?_ ?_<;>intro _)|refine EN hC Do hb ?_|refine EN hE Do hb ?_|refine U5 rfl hm ?_)
    all_goals exact AZ rfl h
   |false=>
    rw [if_neg (by rw [hE];decide)] at h
    repeat' ((conv=>whnf);first|(refine Bl ?_;intros)|(refine Bm ?_ ?_<;>intro _)|refine EN hC Do hb ?_|refine EN hE Do hb ?_|refine EN hA Do hb ?_)
    refine IH (α:=List Nd×Af×AF×Int) (λx=>[(0,.slice 6 (x.1.map Ax) x.2.2.1),(8,.int .i64 x.2.2.2)]) [2,4,6] (λx=>[(0,x.2.1.cells)]) [1] (λx=>x.2.2.1.st st (x.1.length*6))
     (λx=>x.2.2.1.BH st/\mu x.2.1<=mu s/\x.1.length+2*mu x.2.1<=400000000/\1<=x.1.length/\x.2.2.2=(if 1<x.1.length then 5 else 4)/\H3 Y x.1 x.2.1=H3 Y [n1] s) (λx=>mu x.2.1) ([n1],s,.full,4)
     ⟨trivial,Nat.le_refl _,by show 1+2*mu s<=_;omega,Nat.le_refl _,rfl,rfl⟩ Yl (St.le_refl _) ?_
    rintro ⟨l,U,own,kd⟩ ⟨j1,j2,j3,j4,j5,j6⟩
    dsimp only at j1 j2 j3 j4 j5 j6
    have hm3:mu U<=100000000:=AC
    have hn:l.length+1<=1000000000:=AC
    have hn2:∀y:Nd,(l++[y]).length+1<=1000000000:=λy=>by rw [List.length_append,List.length_singleton];omega
    have hd4:re (Y U)=0->mu (rs (Y U))<mu U:=LQ hB hF
    have hm4:re (Y U)=0->mu (rs (Y U))<=100000000:=λe=>by have:=hd4 e;omega
    rw [<-j6] at h
    repeat' ((conv=>whnf);first|(refine Bl ?_;intros)|(refine Bm ?_ ?_<;>intro _)|refine hY.q AC hm3 ?_|refine DR (l:=l) (x:=rn (Y U)) j1 hn (λown1 ho1=>?_)|refine bJ (s:=rs (Y U)) Do (BB (hm4 ‹_›)) ?_|refine Eg (DE ‹_› Do) (BB (hm4 ‹_›)) ?_|refine DR (l:=l++[rn (Y U)]) (x:=Av (Aa (rs (Y U))).1) ho1 (hn2 _) (λown2 ho2=>?_)|refine bV (s:=rs (Y U)) Do (BB (hm4 ‹_›)) ?_|refine DR (l:=l++[rn (Y U)]) (x:=rn (De (rs (Y U)) 15 [41])) ho1 (hn2 _) (λown2 ho2=>?_))
    all_goals conv=>whnf
    .have hp:A9 (rs (Y U)) 15 [44]=true:=FS
     have hy:re (Y U)=0:=FS
     have k1:=hd4 hy
     have k2:=C0 hp Do Do
     refine ⟨(l++[rn (Y U)]++[Av (Aa (rs (Y U))).1],(Aa (rs (Y U))).2.1,own2,5),⟨ho2,by show mu (Aa (rs (Y U))).2.1<=_;omega,?_,?_,?_,?_⟩,by show mu (Aa (rs (Y U))).2.1<mu U;omega,Yl,St.le_refl _⟩
     .show (l++[rn (Y U)]++[Av (Aa (rs (Y U))).1]).length+2*mu (Aa (rs (Y U))).2.1<=_
      simp only [List.length_append,List.length_singleton]
      omega
     .show 1<=(l++[rn (Y U)]++[Av (Aa (rs (Y U))).1]).length
      simp only [List.length_append,List.length_singleton]
      omega
     .show (5:Int)=if 1<(l++[rn (Y U)]++[Av (Aa (rs (Y U))).1]).length then 5 else 4
      rw [if_pos (by simp only [List.length_append,List.length_singleton];omega)]
     .show H3 Y (l++[rn (Y U)]++[Av (Aa (rs (Y U))).1]) (Aa (rs (Y U))).2.1=_
      rw [<-j6,Oo hB hy,lk hF hp]
    .have hy:re (Y U)=0:=FS
     have hw:re (De (rs (Y U)) 15 [41])=0:=FS
     rw [Oo hB hy,XU ‹_›] at h
     dsimp only at h
     rw [ar hw] at h
     have hk:(if 2<(l++[rn (Y U)]).length then (5:Int) else 4)=kd:=by
      rw [j5,List.length_append,List.length_singleton]
      split<;>split<;>omega
     rw [hk] at h
     exact CI (AF.Ba ho2) Dw h
    .have hy:re (Y U)=0:=FS
     rw [Oo hB hy,XU ‹_›] at h
     dsimp only at h
     rw [Vo ‹_›] at h
     exact CI (AF.Ba ho1) rfl h
    .have hy:¬re (Y U)=0:=FS
     rw [ZL hy] at h
     have h:R (.ret (AO FR (rs (Y U)) (re (Y U)))) st:=h
     rw [<-Oc hy] at h
     exact CI (AF.Ba j1) rfl h
end
section
variable {st:St} {R:AL->St->Prop}
attribute [local irreducible] Go.Aw.Ag
theorem Jn {t:Tk} (e:Cm t=v) (h:R (.ret (.bool v)) st):PC 272 [Eb t] st R:=S0 (by rw [e];exact h)
theorem rD {s:Af} (hb:s.BT.length<=500000000) (h:R (.ret (AO (rn (Qg s)) (rs (Qg s)) (re (Qg s)))) st):PC 179 [Am s] st R:=Uo hb (by rw [Cq];exact h)
theorem ky {x:Int} (hx:x=((d+1:Nat):Int)) (hd:d<=1000000) (hY:Ev 318 d Y) (U:C5 Y) (hF:A7 Y) {s:Af} (hm:mu s<=100000000) (h:R (.ret (AO (rn (KT Y n1 s)) (rs (KT Y n1 s)) (re (KT Y n1 s)))) st):
 PC 317 [.slice 6 [Ax n1] .full,Am s,.int .i64 x] st R:=kx hx hd hY U hF hm (by rw [Cq];exact h)
theorem oO {s:Af} (h:(Aa s).2.2=0):Cs s=.inr (Av (Aa s).1,(Aa s).2.1):=by unfold Cs;rw [if_pos h]
theorem cc {s:Af} (h:¬(Aa s).2.2=0):Cs s=.inl ((Aa s).2.2,s):=by unfold Cs;rw [if_neg h]
theorem fE {s:Af} (h:¬(Aa s).2.2=0):Cp Y s=Cs s:=by
 unfold Cp
 rw [Q9 h,if_neg Do,cc h]
 unfold Qg NN
 rw [if_neg h]
theorem bA {x:Int} (hx:x=((d+1:Nat):Int)) (hd:d<=1000000) (hY:Ev 318 d Y) (hB:C5 Y) (hF:A7 Y):Ev 271 x (Cp Y):=by
 intro s hm st R h
 refine pB Tryz.func271 ?_
 have hb:=BB hm
 rw [Cq] at h
 by_cases ht:(Aa s).2.2=0
 .have hq:=oO ht
  have hm1:mu (Aa s).2.1<=100000000:=by have:=(CK ht).1;omega
  have hb1:=BB hm1
  cases U:Cm (Aa s).1 with
  |false=>
   have e:Cp Y s=Qg s:=by unfold Cp;rw [if_neg (by rw [U];decide)]
   rw [e] at h
   repeat' ((conv=>whnf);first|(refine Bl ?_;intros)|(refine Bm ?_ ?_<;>intro _)|refine Eg hq hb ?_|refine J3 hb ?_|refine Jn U ?_|refine rD hb ?_)
   all_goals exact AZ rfl h
  |true=>
   by_cases hk:(Aa s).1.kind=15
   .have hk1:(Av (Aa s).1).form=15:=hk
    by_cases ho:(Aa s).1.text=[40]
    .have ho1:(Av (Aa s).1).text=[40]:=ho
     have e:Cp Y s=KT Y (Av (Aa s).1) (Aa s).2.1:=by
      unfold Cp;rw [if_pos U,if_pos hk,if_pos ho,jT,hq]
     rw [e] at h
     repeat' ((conv=>whnf);first|(refine Bl ?_;intros)|(refine Bm ?_ ?_<;>intro _)|refine Eg hq hb ?_|refine J3 hb ?_|refine Jn U ?_|refine ky (n1:=Av (Aa s).1) hx hd hY hB hF hm1 ?_)
     all_goals exact AZ rfl h
    .have hsq:(Aa s).1.text=[91]:=by
      unfold Cm at U
      simp only [hk] at U
      simp at U
      exact U.resolve_left ho
     have hs1:(Av (Aa s).1).text=[91]:=hsq
     have hs2:¬(Av (Aa s).1).text=[40]:=ho
     have e:Cp Y s=FG Y s:=by
      unfold Cp;rw [if_pos U,if_pos hk,if_neg ho]
     rw [e] at h
     unfold FG at h
     rw [hq] at h
     dsimp only at h
     have hn1:[Av (Aa s).1].length+1<=1000000000:=by show 1+1<=1000000000;decide
     have hn2:∀y:Nd,([Av (Aa s).1]++[y]).length+1<=1000000000:=λy=>by show 2+1<=1000000000;decide
     cases hC:A9 (Aa s).2.1 15 [93] with
     |true=>
      rw [if_pos hC] at h
      have hw:De (Aa s).2.1 15 [93]=.inr (Av (Aa (Aa s).2.1).1,(Aa (Aa s).2.1).2.1):=by unfold De;rw [if_pos hC,DE hC Do]
      repeat' ((conv=>whnf);first|(refine Bl ?_;intros)|(refine Bm ?_ ?_<;>intro _)|refine Eg hq hb ?_|refine J3 hb ?_|refine Jn U ?_|refine EN hC Do hb1 ?_|refine Ny hw Do hb1 ?_|refine DR (l:=[Av (Aa s).1]) (x:=Av (Aa (Aa s).2.1).1) (own:=.full) trivial hn1 (λown1 ho1=>?_))
      all_goals exact CI (AF.Ba ho1) (Dw (l:=[Av (Aa s).1]++[Av (Aa (Aa s).2.1).1])) h
     |false=>
      rw [if_neg (by rw [hC];decide)] at h
      have hd4:re (Y (Aa s).2.1)=0->mu (rs (Y (Aa s).2.1))<mu (Aa s).2.1:=LQ hB hF
      have hm4:re (Y (Aa s).2.1)=0->mu (rs (Y (Aa s).2.1))<=100000000:=λe=>by have:=hd4 e;omega
      repeat' ((conv=>whnf);first|(refine Bl ?_;intros)|(refine Bm ?_ ?_<;>intro _)|refine Eg hq hb ?_|refine J3 hb ?_|refine Jn U ?_|refine EN hC Do hb1 ?_|refine hY.q AC hm1 ?_|refine bV (s:=rs (Y (Aa s).2.1)) Do (BB (hm4 ‹_›)) ?_|refine DR (l:=[Av (Aa s).1]) (x:=rn (Y (Aa s).2.1)) (own:=.full) trivial hn1 (λown1 ho1=>?_)|refine DR (l:=[Av (Aa s).1]++[rn (Y (Aa s).2.1)]) (x:=rn (De (rs (Y (Aa s).2.1)) 15 [93])) ho1 (hn2 _) (λown2 ho2=>?_))
      .rw [HJ hB ‹_›] at h
       dsimp only at h
       rw [<-Cq] at h
       have h:R (.ret (Ga (En 6 ([Av (Aa s).1]++[rn (Y (Aa s).2.1)]) (rs (Y (Aa s).2.1)) [93]))) st:=h
       rw [ar ‹_›] at h
       exact CI (AF.Ba ho2) Dw h
      .rw [HJ hB ‹_›] at h
       dsimp only at h
       rw [<-Cq] at h
       have h:R (.ret (Ga (En 6 ([Av (Aa s).1]++[rn (Y (Aa s).2.1)]) (rs (Y (Aa s).2.1)) [93]))) st:=h
       rw [Vo ‹_›] at h
       exact CI (AF.Ba ho1) rfl h
      .have hy:¬re (Y (Aa s).2.1)=0:=FS
       rw [<-Cq,IF hy] at h
       have h:R (.ret (AO FR (rs (Y (Aa s).2.1)) (re (Y (Aa s).2.1)))) st:=h
       rw [<-Oc hy] at h
       exact AZ rfl h
   .have hk1:¬(Av (Aa s).1).form=15:=hk
    have e:Cp Y s=Cs s:=by
     unfold Cp;rw [if_pos U,if_neg hk]
    rw [e,hq] at h
    repeat' ((conv=>whnf);first|(refine Bl ?_;intros)|(refine Bm ?_ ?_<;>intro _)|refine Eg hq hb ?_|refine J3 hb ?_|refine Jn U ?_)
    all_goals exact AZ rfl h
 .have hq:=cc ht
  rw [fE ht,hq] at h
  repeat' ((conv=>whnf);first|(refine Bl ?_;intros)|(refine Bm ?_ ?_<;>intro _)|refine Eg hq hb ?_)
  all_goals exact AZ rfl h
def Rn (A:Af->Rs) (l:List Nd) (q:Rs):Ls:=match q with
 | .inl e=>.inl e
 | .inr p=>Gt A (l++[p.1]) p.2
theorem rM (U:A7 A) {s:Af} (h:Cm (Aa s).1=true):Gt A l s=Rn A l (A s):=by
 rw [Gt,if_pos h]
 unfold Rn
 cases hq:A s with
 |inl e=>rfl
 |inr p=>dsimp only;rw [if_pos (U _ _ _ hq)]
theorem jY {s:Af} (h:Cm (Aa s).1=false):Gt A l s=.inr (l,s):=by
 rw [Gt,if_neg (by rw [h];decide)]
theorem Uu (U:C5 A) {s:Af} (h:re (A s)=0):Rn A l (A s)=Gt A (l++[rn (A s)]) (rs (A s)):=by
 unfold Rn
 rw [HJ U h]
 rfl
theorem jZ {q:Rs} (h:¬re q=0):Rn A l q=.inl (re q,rs q):=by
 unfold Rn
 rw [IF h]
 rfl
theorem kA {d:Int} (ha:Ev 271 d A) (hB:C5 A) (hF:A7 A):Ev 214 d (A1 A):=by
 intro s hm st R h
 refine pB Tryz.func214 ?_
 have hb:=BB hm
 have h:R (.ret (Ga (match Rn A [] (A s) with
  | .inl e=>.inl e
  | .inr q=>if q.1.length=1 then .inr (rn (A s),q.2) else .inr (Ar 39 q.1,q.2)))) st:=by
  unfold A1 at h
  unfold Rn
  cases hq:A s with
  |inl e=>rw [hq] at h;exact h
  |inr p=>rw [hq] at h;exact h
 have hm4:re (A s)=0->mu (rs (A s))<mu s:=LQ hB hF
 repeat' ((conv=>whnf);first|(refine Bl ?_;intros)|(refine Bm ?_ ?_<;>intro _)|refine ha.q rfl hm ?_)
 refine IH (α:=List Nd×Rs×AF) (λx=>[(6,.slice 6 ((x.1++[rn x.2.1]).map Ax) x.2.2)]) [1,4,5] (λx=>[(2,[.int .i64 (rn x.2.1).kind,.int .i64 (rn x.2.1).form,.str (rn x.2.1).text,.int .i64 (rn x.2.1).line,.int .i64 (rn x.2.1).CC,.slice 6 (Cc (rn x.2.1).kids) .any,
 .slice 4 (A4 (rs x.2.1).As) .any,.int .i64 (rs x.2.1).pos,.slice 1 (ints (rs x.2.1).BT) .any,.int .i64 (rs x.2.1).wait,.int .i64 (re x.2.1)])]) [1] (λx=>x.2.2.st st ((x.1++[rn x.2.1]).length*6))
  (λx=>x.2.2.BH st/\(∃U,x.2.1=A U/\mu U<=mu s/\x.1.length+mu U<=200000000/\(x.1=[]->U=s))/\Rn A x.1 x.2.1=Rn A [] (A s)) (λx=>if re x.2.1=0 then mu (rs x.2.1)+1 else 0) ([],A s,.full)
  ⟨trivial,⟨s,rfl,Nat.le_refl _,by show 0+mu s<=_;omega,λ_=>rfl⟩,rfl⟩ Yl (St.le_refl _) ?_
 rintro ⟨l,q,own⟩ ⟨j1,⟨U,rfl,j2,j3,j4⟩,j5⟩
 dsimp only at j1 j2 j3 j4 j5
 have hd4:re (A U)=0->mu (rs (A U))<mu U:=LQ hB hF
 have hm5:re (A U)=0->mu (rs (A U))<=100000000:=λe=>by have:=hd4 e;omega
 have hn2:(l++[rn (A U)]).length+1<=1000000000:=Pi
 rw [<-j5] at h
 repeat' ((conv=>whnf);first|(refine Bl ?_;intros)|(refine Bm ?_ ?_<;>intro _)|refine J3 (s:=rs (A U)) (BB (hm5 ‹_›)) ?_|refine S0 ?_|refine ha.q (s:=rs (A U)) rfl (hm5 ‹_›) ?_|refine DR (l:=l++[rn (A U)]) (x:=rn (A (rs (A U)))) j1 hn2 (λown1 ho1=>?_)|refine Bj (λ_=>?_))
 all_goals conv=>whnf
 .have hz:re (A U)=0:=FS
  have hp:Cm (Aa (rs (A U))).1=true:=FS
  have k1:=hd4 hz
  have k2:re (A (rs (A U)))=0->mu (rs (A (rs (A U))))<mu (rs (A U)):=LQ hB hF
  refine ⟨(l++[rn (A U)],A (rs (A U)),own1),⟨ho1,⟨rs (A U),rfl,AC,?_,?_⟩,?_⟩,?_,Yl,St.le_refl _⟩
  .show (l++[rn (A U)]).length+_<=_
   rw [List.length_append,List.length_singleton]
   omega
  .intro e
   simp at e
  .show Rn A (l++[rn (A U)]) (A (rs (A U)))=_
   rw [<-j5,Uu hB hz,rM hF hp]
  .show (if re (A (rs (A U)))=0 then mu (rs (A (rs (A U))))+1 else 0)<if re (A U)=0 then mu (rs (A U))+1 else 0
   rw [if_pos hz]
   split
   .rename_i e;have:=k2 e;omega
   .omega
 .have hz:re (A U)=0:=FS
  have hl:1<(((l++[rn (A U)]).length:Nat):Int):=FS
  rw [Uu hB hz,jY ‹_›] at h
  dsimp only at h
  rw [if_neg AC] at h
  have h:R (.ret (AO (Ar 39 (l++[rn (A U)])) (rs (A U)) (re (A U)))) st:=by rw [hz];exact h
  exact CI (AF.Ba j1) Dw h
 .have hz:re (A U)=0:=FS
  have hl:¬1<(((l++[rn (A U)]).length:Nat):Int):=FS
  rw [Uu hB hz,jY ‹_›] at h
  dsimp only at h
  have hl0:l=[]:=List.eq_nil_iff_length_eq_zero.2 (by rw [List.length_append,List.length_singleton] at hl;omega)
  have e3:=j4 hl0
  subst hl0
  subst e3
  have h:R (.ret (AO (rn (A U)) (rs (A U)) (re (A U)))) st:=by rw [hz];exact h
  exact CI (AF.Ba j1) rfl h
 .have hz:¬re (A U)=0:=FS
  rw [jZ hz] at h
  have h:R (.ret (AO FR (rs (A U)) (re (A U)))) st:=h
  rw [<-Oc hz] at h
  exact CI (AF.Ba j1) rfl h
end
def CY (n:Nd) (s:Af) (e:Int):List V:=[.int .i64 n.kind,.int .i64 n.form,.str n.text,.int .i64 n.line,.int .i64 n.CC,.slice 6 (Cc n.kids) .any,
 .slice 4 (A4 s.As) .any,.int .i64 s.pos,.slice 1 (ints s.BT) .any,.int .i64 s.wait,.int .i64 e]
theorem fz {s:Af} (h:A9 s 10 [45,62]=false):F2 A l s=.inr (l,s):=by
 rw [F2,if_neg (by rw [h];decide)]
theorem lR (U:C5 A) (hF:A7 A) {s:Af} (h:A9 s 10 [45,62]=true) (hz:re (A1 A (Aa s).2.1)=0):
 F2 A l s=F2 A (l++[Av (Aa s).1]++[rn (A1 A (Aa s).2.1)]) (rs (A1 A (Aa s).2.1)):=by
 rw [F2,if_pos h,HJ (Ei U) hz]
 dsimp only
 have h1:=LQ (Ei U) (Eu hF) hz
 have h2:=C0 h Do Do
 rw [if_pos AC,List.append_assoc]
 rfl
theorem cv {s:Af} (h:A9 s 10 [45,62]=true) (U:¬re (A1 A (Aa s).2.1)=0):F2 A l s=.inl (re (A1 A (Aa s).2.1),rs (A1 A (Aa s).2.1)):=by
 rw [F2,if_pos h,IF U]
 rfl
theorem ck {s:Af} (U:C5 A) (hz:re (A1 A s)=0):DI A s=Cb A (rn (A1 A s)) (rs (A1 A s)):=by
 unfold DI
 rw [HJ (Ei U) hz]
 rfl
theorem Ti {s:Af} (U:¬re (A1 A s)=0):DI A s=.inl (re (A1 A s),rs (A1 A s)):=by
 unfold DI
 rw [IF U]
 rfl
section
variable {st:St} {R:AL->St->Prop}
attribute [local irreducible] Go.Aw.Ag
theorem KP {s:Af} {e d:Int} (U:¬e=0) (h:R (.ret (AO n s e)) st):PC 215 [AO n s e,.int .i64 d] st R:=by
 refine pB Tryz.func215 ?_
 repeat' ((conv=>whnf);first|(refine Bl ?_;intros)|(refine Bm ?_ ?_<;>intro _)|fail)
 all_goals exact AZ rfl h
theorem SP {d:Int} (hr:Ev 214 d (A1 A)) (hB:C5 A) (hF:A7 A) {s:Af} {e0:Int} (he:e0=0) (hm:mu s<=100000000) (h:R (.ret (Ga (Cb A n s))) st):PC 215 [AO n s e0,.int .i64 d] st R:=by
 refine pB Tryz.func215 ?_
 have hb:=BB hm
 unfold Cb at h
 cases hA:A9 s 10 [45,62] with
 |false=>
  rw [fz hA] at h
  dsimp only at h
  rw [if_pos (show [n].length=1 from rfl)] at h
  have h:R (.ret (AO n s e0)) st:=by rw [he];exact h
  repeat' ((conv=>whnf);first|(refine Bl ?_;intros)|(refine Bm ?_ ?_<;>intro _)|refine EN hA Do hb ?_)
  all_goals exact AZ rfl h
 |true=>
  repeat' ((conv=>whnf);first|(refine Bl ?_;intros)|(refine Bm ?_ ?_<;>intro _)|refine EN hA Do hb ?_)
  refine IH (α:=List Nd×(Nd×Af×Int)×AF) (λx=>[(5,.slice 6 (x.1.map Ax) x.2.2)]) [1,2,4] (λx=>[(0,CY x.2.1.1 x.2.1.2.1 x.2.1.2.2)]) [1] (λx=>x.2.2.st st (x.1.length*6))
   (λx=>x.2.2.BH st/\x.2.1.2.2=0/\mu x.2.1.2.1<=mu s/\x.1.length+2*mu x.2.1.2.1<=400000000/\(x.1.length=1->A9 x.2.1.2.1 10 [45,62]=true)/\F2 A x.1 x.2.1.2.1=F2 A [n] s) (λx=>mu x.2.1.2.1) ([n],(n,s,e0),.full)
   ⟨trivial,he,Nat.le_refl _,by show 1+2*mu s<=_;omega,λ_=>hA,rfl⟩ Yl (St.le_refl _) ?_
  rintro ⟨l,⟨n3,U,e3⟩,own⟩ ⟨j1,j2,j3,j4,j5,j6⟩
  dsimp only at j1 j2 j3 j4 j5 j6
  have hm3:mu U<=100000000:=AC
  have hb3:=BB hm3
  have hn:l.length+1<=1000000000:=AC
  have hn2:∀y:Nd,(l++[y]).length+1<=1000000000:=λy=>by rw [List.length_append,List.length_singleton];omega
  have hm4:A9 U 10 [45,62]=true->mu (Aa U).2.1<=100000000:=λe=>by have:=C0 e Do Do;omega
  rw [<-j6] at h
  repeat' ((conv=>whnf);first|(refine Bl ?_;intros)|(refine Bm ?_ ?_<;>intro _)|refine bJ (s:=U) Do hb3 ?_|refine Eg (DE ‹_› Do) hb3 ?_|refine DR (l:=l) (x:=Av (Aa U).1) j1 hn (λown1 ho1=>?_)|refine hr.q (s:=(Aa U).2.1) rfl (hm4 ‹_›) ?_|refine DR (l:=l++[Av (Aa U).1]) (x:=rn (A1 A (Aa U).2.1)) ho1 (hn2 _) (λown2 ho2=>?_))
  all_goals conv=>whnf
  .have hp:A9 U 10 [45,62]=true:=FS
   have hz:re (A1 A (Aa U).2.1)=0:=FS
   have k1:=LQ (Ei hB) (Eu hF) hz
   have k2:=C0 hp Do Do
   refine ⟨(l++[Av (Aa U).1]++[rn (A1 A (Aa U).2.1)],(rn (A1 A (Aa U).2.1),rs (A1 A (Aa U).2.1),re (A1 A (Aa U).2.1)),own2),⟨ho2,hz,by show mu (rs (A1 A (Aa U).2.1))<=_;omega,?_,?_,?_⟩,by show mu (rs (A1 A (Aa U).2.1))<mu U;omega,Yl,St.le_refl _⟩
   .show (l++[Av (Aa U).1]++[rn (A1 A (Aa U).2.1)]).length+2*mu (rs (A1 A (Aa U).2.1))<=_
    simp only [List.length_append,List.length_singleton]
    omega
   .intro e
    have e:(l++[Av (Aa U).1]++[rn (A1 A (Aa U).2.1)]).length=1:=e
    simp only [List.length_append,List.length_singleton] at e
    omega
   .show F2 A (l++[Av (Aa U).1]++[rn (A1 A (Aa U).2.1)]) (rs (A1 A (Aa U).2.1))=_
    rw [<-j6,<-lR hB hF hp hz]
  .have hp:A9 U 10 [45,62]=true:=FS
   have hz:¬re (A1 A (Aa U).2.1)=0:=FS
   rw [cv hp hz] at h
   have h:R (.ret (AO FR (rs (A1 A (Aa U).2.1)) (re (A1 A (Aa U).2.1)))) st:=h
   rw [<-Oc hz] at h
   exact CI (AF.Ba ho1) rfl h
  .have hp:A9 U 10 [45,62]=false:=FS
   have hl:¬l.length=1:=λe=>by rw [j5 e] at hp;cases hp
   rw [fz hp] at h
   dsimp only at h
   rw [if_neg hl] at h
   have h:R (.ret (AO (Ar 37 l) U e3)) st:=by rw [j2];exact h
   exact CI (AF.Ba j1) Dw h
theorem SR {d:Int} (hr:Ev 214 d (A1 A)) (U:C5 A) (hF:A7 A) {s:Af} {e0:Int} (he:e0=0) (hm:mu s<=100000000) (h:R (.ret (AO (rn (Cb A n s)) (rs (Cb A n s)) (re (Cb A n s)))) st):
 PC 215 [AO n s e0,.int .i64 d] st R:=SP hr U hF he hm (by rw [Cq];exact h)
theorem Nl {q:Rs} (h:R (.ret (AO (rn q) (rs q) (re q))) st):PC 112 [AO (rn q) (rs q) (re q)] st R:=by
 by_cases U:re q=0
 .rw [U] at h |-;exact Qo h
 .rw [Oc U] at h |-;exact NS U h
def Ew (s:Af) (deep:Int) (q:Rs):Rs:=if deep<1 then .inl (2,s) else q
theorem bU {deep:Int} (hr:¬deep<1->Ev 214 (if 100<deep then 100 else deep) (A1 A)) (hB:C5 A) (hF:A7 A) {s:Af} (hm:mu s<=100000000) (h:R (.ret (Ga (Ew s deep (DI A s)))) st):
 PC 318 [Am s,.int .i64 deep] st R:=by
 refine pB Tryz.func318 ?_
 unfold Ew at h
 by_cases U:deep<1
 .rw [if_pos U] at h
  repeat' ((conv=>whnf);first|exact Di|(refine Bl ?_;intros)|(refine Dj ?_ ?_ ?_;rotate_left)|(refine Bm ?_ ?_<;>intro _)|refine Up ?_|with_reducible refine WF ?_)
  all_goals exact AZ rfl h
 .rw [if_neg U,Cq] at h
  by_cases hz:re (A1 A s)=0
  .have hm1:mu (rs (A1 A s))<=100000000:=by have:=LQ (Ei hB) (Eu hF) hz;omega
   rw [ck hB hz] at h
   repeat' ((conv=>whnf);first|exact Di|(refine Bl ?_;intros)|(refine Dj ?_ ?_ ?_;rotate_left)|(refine Bm ?_ ?_<;>intro _)|refine GU U ?_|refine (hr U).q rfl hm ?_|refine SR (hr U) hB hF hz hm1 ?_|refine Nl (q:=Cb A (rn (A1 A s)) (rs (A1 A s))) ?_|with_reducible refine WF ?_)
   all_goals exact AZ rfl h
  .have e:DI A s=A1 A s:=by rw [Ti hz];exact (IF hz).symm
   rw [e] at h
   repeat' ((conv=>whnf);first|exact Di|(refine Bl ?_;intros)|(refine Dj ?_ ?_ ?_;rotate_left)|(refine Bm ?_ ?_<;>intro _)|refine GU U ?_|refine (hr U).q rfl hm ?_|refine KP (n:=rn (A1 A s)) (s:=rs (A1 A s)) hz ?_|refine Nl (q:=A1 A s) ?_|with_reducible refine WF ?_)
   all_goals exact AZ rfl h
end
theorem qK {s:Af} (U:C5 A) (hz:re (A1 A s)=0) (hi:A9 (rs (A1 A s)) 10 [61,62]=true):EA A s=match DI A (Aa (rs (A1 A s))).2.1 with
 | .inl e=>.inl e
 | .inr q=>.inr (Ar 38 [rn (A1 A s),Av (Aa (rs (A1 A s))).1,q.1],q.2):=by
 unfold EA
 have e:=HJ (Ei U) hz
 generalize rn (A1 A s)=n at *
 generalize rs (A1 A s)=s1 at *
 rw [e]
 dsimp only
 rw [if_pos hi]
 cases DI A (Aa s1).2.1<;>rfl
theorem qJ {s:Af} (U:C5 A) (hz:re (A1 A s)=0) (hi:A9 (rs (A1 A s)) 10 [61,62]=false):EA A s=Cb A (rn (A1 A s)) (rs (A1 A s)):=by
 unfold EA
 have e:=HJ (Ei U) hz
 generalize rn (A1 A s)=n at *
 generalize rs (A1 A s)=s1 at *
 rw [e]
 dsimp only
 rw [if_neg (by rw [hi];decide)]
theorem ib {s:Af} (U:¬re (A1 A s)=0):EA A s=A1 A s:=by
 unfold EA
 rw [IF U]
section
variable {st:St} {R:AL->St->Prop}
attribute [local irreducible] Go.Aw.Ag
theorem WS {k:Int} {own:AF} {s:Af} {e:Int} (U:e=0) (hg:own.BH st) (h:R (.ret (AO (Ar k l) s e)) (own.st st (l.length*6))):PC 112 [.agg [.int .i64 k,.int .i64 0,.str [],.int .i64 0,.int .i64 0,.slice 6 (l.map Ax) own,
 .slice 4 (A4 s.As) .any,.int .i64 s.pos,.slice 1 (ints s.BT) .any,.int .i64 s.wait,.int .i64 e]] (own.st st (l.length*6)) R:=by
 have:=Qo (n:=Ar k l) (s:=s) (st:=own.st st (l.length*6)) (R:=R) (by rw [<-U];exact h)
 rw [<-U] at this
 exact N7 (args':=[AO (Ar k l) s e]) (by rw [<-BG];rfl) this
theorem Nk {k:Int} {own:AF} {s:Af} {e:Int} (U:¬e=0) (hg:own.BH st) (h:R (.ret (AO FR s e)) (own.st st (l.length*6))):PC 112 [.agg [.int .i64 k,.int .i64 0,.str [],.int .i64 0,.int .i64 0,.slice 6 (l.map Ax) own,
 .slice 4 (A4 s.As) .any,.int .i64 s.pos,.slice 1 (ints s.BT) .any,.int .i64 s.wait,.int .i64 e]] (own.st st (l.length*6)) R:=
 N7 (args':=[AO (Ar k l) s e]) (by rw [<-BG];rfl) (NS (n:=Ar k l) U h)
theorem SQ {d:Int} (hr:Ev 214 d (A1 A)) (U:C5 A) (hF:A7 A) {s:Af} {e0:Int} {w:Rs} (hw:Cb A n s=w) (he:e0=0) (hm:mu s<=100000000) (h:R (.ret (AO (rn w) (rs w) (re w))) st):
 PC 215 [AO n s e0,.int .i64 d] st R:=SP hr U hF he hm (by rw [hw,Cq];exact h)
theorem oa {deep:Int} (hr:¬deep<1->Ev 214 (if 100<deep then 100 else deep) (A1 A)) (hB:C5 A) (hF:A7 A) {s:Af} (hm:mu s<=100000000) (h:R (.ret (Ga (Ew s deep (EA A s)))) st):
 PC 145 [Am s,.int .i64 deep] st R:=by
 refine pB Tryz.func145 ?_
 unfold Ew at h
 by_cases U:deep<1
 .rw [if_pos U] at h
  repeat' ((conv=>whnf);first|(refine Bl ?_;intros)|(refine Bm ?_ ?_<;>intro _)|refine Up ?_)
  all_goals exact AZ rfl h
 .rw [if_neg U,Cq] at h
  by_cases hz:re (A1 A s)=0
  .have hm1:mu (rs (A1 A s))<=100000000:=by have:=LQ (Ei hB) (Eu hF) hz;omega
   have hb1:=BB hm1
   cases hi:A9 (rs (A1 A s)) 10 [61,62] with
   |false=>
    rw [qJ hB hz hi] at h
    repeat' ((conv=>whnf);first|(refine Bl ?_;intros)|(refine Bm ?_ ?_<;>intro _)|refine GU U ?_|refine (hr U).q rfl hm ?_|refine EN hi Do hb1 ?_|refine SR (hr U) hB hF hz hm1 ?_|refine Nl (q:=Cb A (rn (A1 A s)) (rs (A1 A s))) ?_)
    all_goals exact AZ rfl h
   |true=>
    have hm2:mu (Aa (rs (A1 A s))).2.1<=100000000:=by have:=C0 hi Do Do;omega
    have hn1:[rn (A1 A s)].length+1<=1000000000:=by show 1+1<=1000000000;decide
    have hn2:∀y:Nd,([rn (A1 A s)]++[y]).length+1<=1000000000:=λy=>by show 2+1<=1000000000;decide
    rw [qK hB hz hi] at h
    by_cases hz2:re (A1 A (Aa (rs (A1 A s))).2.1)=0
    .have hm3:mu (rs (A1 A (Aa (rs (A1 A s))).2.1))<=100000000:=by have:=LQ (Ei hB) (Eu hF) hz2;omega
     have hq:DI A (Aa (rs (A1 A s))).2.1=Cb A (rn (A1 A (Aa (rs (A1 A s))).2.1)) (rs (A1 A (Aa (rs (A1 A s))).2.1)):=ck hB hz2
     rw [hq] at h
     generalize hw:Cb A (rn (A1 A (Aa (rs (A1 A s))).2.1)) (rs (A1 A (Aa (rs (A1 A s))).2.1))=w at h
     by_cases hz3:re w=0
     .have hin:w=.inr (rn w,rs w):=by
       rw [<-hw]
       exact HJ (Ks hB) (by rw [hw];exact hz3)
      rw [hin] at h
      repeat' ((conv=>whnf);first|(refine Bl ?_;intros)|(refine Bm ?_ ?_<;>intro _)|refine GU U ?_|refine (hr U).q rfl hm ?_|refine EN hi Do hb1 ?_|refine Eg (DE hi Do) hb1 ?_|refine DR (l:=[rn (A1 A s)]) (x:=Av (Aa (rs (A1 A s))).1) (own:=.full) trivial hn1 (λown1 ho1=>?_)|refine (hr U).q (s:=(Aa (rs (A1 A s))).2.1) rfl hm2 ?_|refine SQ (hr U) hB hF hw hz2 hm3 ?_|refine DR (l:=[rn (A1 A s)]++[Av (Aa (rs (A1 A s))).1]) (x:=rn w) ho1 (hn2 _) (λown2 ho2=>?_)|refine WS hz3 ho2 ?_)
      have h:R (.ret (AO (Ar 38 ([rn (A1 A s)]++[Av (Aa (rs (A1 A s))).1]++[rn w])) (rs w) (re w))) st:=by rw [hz3];exact h
      all_goals exact CI (AF.Ba ho2) rfl h
     .rw [IF hz3] at h
      have h:R (.ret (AO FR (rs w) (re w))) st:=h
      repeat' ((conv=>whnf);first|(refine Bl ?_;intros)|(refine Bm ?_ ?_<;>intro _)|refine GU U ?_|refine (hr U).q rfl hm ?_|refine EN hi Do hb1 ?_|refine Eg (DE hi Do) hb1 ?_|refine DR (l:=[rn (A1 A s)]) (x:=Av (Aa (rs (A1 A s))).1) (own:=.full) trivial hn1 (λown1 ho1=>?_)|refine (hr U).q (s:=(Aa (rs (A1 A s))).2.1) rfl hm2 ?_|refine SQ (hr U) hB hF hw hz2 hm3 ?_|refine DR (l:=[rn (A1 A s)]++[Av (Aa (rs (A1 A s))).1]) (x:=rn w) ho1 (hn2 _) (λown2 ho2=>?_)|refine Nk hz3 ho2 ?_)
      all_goals exact CI (AF.Ba ho2) rfl h
    .rw [Ti hz2] at h
     have h:R (.ret (AO FR (rs (A1 A (Aa (rs (A1 A s))).2.1)) (re (A1 A (Aa (rs (A1 A s))).2.1)))) st:=h
     repeat' ((conv=>whnf);first|(refine Bl ?_;intros)|(refine Bm ?_ ?_<;>intro _)|refine GU U ?_|refine (hr U).q rfl hm ?_|refine EN hi Do hb1 ?_|refine Eg (DE hi Do) hb1 ?_|refine DR (l:=[rn (A1 A s)]) (x:=Av (Aa (rs (A1 A s))).1) (own:=.full) trivial hn1 (λown1 ho1=>?_)|refine (hr U).q (s:=(Aa (rs (A1 A s))).2.1) rfl hm2 ?_|refine KP (n:=rn (A1 A (Aa (rs (A1 A s))).2.1)) (s:=rs (A1 A (Aa (rs (A1 A s))).2.1)) hz2 ?_|refine DR (l:=[rn (A1 A s)]++[Av (Aa (rs (A1 A s))).1]) (x:=rn (A1 A (Aa (rs (A1 A s))).2.1)) ho1 (hn2 _) (λown2 ho2=>?_)|refine Nk hz2 ho2 ?_)
     all_goals exact CI (AF.Ba ho2) rfl h
  .rw [ib hz] at h
   repeat' ((conv=>whnf);first|(refine Bl ?_;intros)|(refine Bm ?_ ?_<;>intro _)|refine GU U ?_|refine (hr U).q rfl hm ?_|refine KP (n:=rn (A1 A s)) (s:=rs (A1 A s)) hz ?_|refine Nl (q:=A1 A s) ?_)
   all_goals exact AZ rfl h
end
section
variable {st:St} {R:AL->St->Prop}
attribute [local irreducible] Go.Aw.Ag
theorem qI {d:Int} (hr:D8 97 d (A1 A)) (ha:X7 99 d (Cb A)) (hw:D8 101 d (DI A)) (hF:A7 A):D8 50 d (EA A):=by
 intro s hm b st R hs h
 refine pB Tryz.func50 ?_
 unfold EA at h
 have hm1:∀{n1 s1},A1 A s=.inr (n1,s1)->mu s1<=100000000:=λe=>by have:=Eu hF _ _ _ e;omega
 have hm2:∀{n1 s1},A1 A s=.inr (n1,s1)->A9 s1 10 [61,62]=true->mu (Aa s1).2.1<=100000000:=λe i=>by have:=hm1 e;have:=C0 i Do Do;omega
 repeat' ((conv=>whnf);first|exact Di|(refine Bl ?_;intros)|(refine Dj ?_ ?_ ?_;rotate_left)|(refine Bm ?_ ?_<;>intro _)|refine hr s hm b _ _ hs (Es (λn1 s1 U st1 h1=>?_) (λe1 s1 U st1 h1=>?_))|refine YQ h1.1 (BB (hm1 U)) ?_|refine ha n1 s1 (hm1 U) b _ _ Fs (Es (λn2 s2 hq2 st2 h2=>?_) (λe2 s2 hq2 st2 h2=>?_))|refine Ae [(0,true),(1,true),(3,true),(4,true),(2,false),(5,false),(6,true),(7,true),(8,false)] [0] EQ ?_|refine Gs Fs (BB (hm1 U)) (Ht (DE ‹_› Do) (λst2 h2=>?_))|refine hw (Aa s1).2.1 (hm2 U ‹_›) b _ _ h2.1 (Es (λn3 s3 hq3 st3 h3=>?_) (λe3 s3 hq3 st3 h3=>?_))|with_reducible refine WF ?_)
 all_goals rw [U] at h
 all_goals dsimp only at h
 .rw [if_pos ‹_›,hq3] at h
  exact CI (St.le_refl _) (CO (l:=[n1,Av (Aa s1).1,n3])) (h st3 ((h1.trans A6).trans (h2.trans h3)))
 .rw [if_pos ‹_›,hq3] at h
  intro e'
  exact fin (h st3 ((h1.trans A6).trans (h2.trans h3))) rfl
 .rw [if_neg (Bool.eq_false_iff.1 ‹_›),hq2] at h
  exact AZ rfl (h st2 ((h1.trans A6).trans h2))
 .rw [if_neg (Bool.eq_false_iff.1 ‹_›),hq2] at h
  exact fin (h st2 ((h1.trans A6).trans h2)) rfl
 .exact fin (h st1 h1) rfl
theorem ia (U:d+1<=1000000) (h:F6 287 (d:Int) (DL d)):D8 50 ((d+1:Nat):Int) (EA (Cp (DL d))):=
 qI (PM U h) (UT (PM U h) (CM (B0 d))) (Th U h) (CM (B0 d))
theorem sS {deep:Int}:F6 14 deep (EA (Cp (DL (B7 deep - 1)))):=mT λh=>by
 rw [gr h]
 have:=gu deep
 exact ia AC (XS _ AC)
end
end Go.Proofs.Z
namespace Go.Aw
theorem lY {b:Bool} {p q:Prop} (h:b=true) (k:p):Bk b p q:=Wk (λ_=>k) (λe=>by rw [h] at e;cases e)
theorem lX {b:Bool} {p q:Prop} (h:b=false) (k:q):Bk b p q:=Wk (λe=>by rw [h] at e;cases e) (λ_=>k)
theorem WG {k l c:Int} {p q:Prop} (h:p):Bk (k==k&&(t==t&&(l==l&&(c==c&&true)))) p q:=lY GT h
theorem WH {k l c:Int} {p q:Prop} (h:q):Bk (!(k==k&&(t==t&&(l==l&&(c==c&&true))))) p q:=lX GT h
theorem WI {l:List Int} {x:Int} {K:List V->Prop} (h:l[i.toNat]? =some x) (U:0<=i) (k:K [.int .i64 x]):0<=i/\∃e,(ints l)[i.toNat]? =some e/\K e:=⟨U,_,by simp [ints,h],k⟩
end Go.Aw
namespace Go.Proofs.Z
open Go Go.Aw
section
variable {st:St} {R:AL->St->Prop}
attribute [local irreducible] Go.Aw.Ag
theorem eu:∀(m:Nat) {n:Nd} {st:St} {R:AL->St->Prop},n.size<=m->R (.ret (.bool true)) st->PC 24 [enc n,enc n] st R:=by
 intro m
 induction m with
 |zero=>intro n st R hm h;cases n;rw [Nd.size] at hm;omega
 |succ m ih=>
  intro n st R hm h
  refine pB Tryz.func24 ?_
  repeat' ((conv=>whnf);first|(with_reducible first|refine Wt rfl ?_|refine WG ?_|refine WH ?_|refine WI ‹_› AC ?_|exact Wa|exact Wb|exact Wc|refine Wd EQ ?_|refine We ?_ ?_ ?_|refine W8 GE ?_ ?_ ?_|refine W0 GE ?_ ?_ ?_|refine W9 ?_ ?_ ?_|refine Wt IR ?_|refine Wu IR ?_|refine Wv AC ?_|refine Ww AC ?_|refine Wf Do (λ_=>?_) (λ_=>?_)|refine Wg (λ_=>?_) (λ_=>?_)|refine Wh (λ_=>?_) (λ_=>?_)|refine Wi ?_|refine Wj ?_|refine Wk (λ_=>?_) (λ_=>?_)|refine Wl (λ_=>?_)|refine Wm ‹_› AC ?_|refine Wn AC AC (λ_ _ _=>?_)|refine Wq AC AC ?_|refine Wz (λ_=>?_)|refine WA (λ_=>?_)|refine WB ‹_› AC ?_|refine WC AC AC (λ_ _=>?_)|refine WD AC AC (λ_ _=>?_))|with_reducible refine WF ?_)
  refine Lj 5 [2,3] [0,1] n.kids.length (λk=>k<=n.kids.length) (Nat.zero_le _) Yl ?_
  intro k hk
  by_cases U:k<n.kids.length
  .obtain ⟨x,hx⟩:∃x,n.kids[(k:Int).toNat]? =some x:=⟨_,List.getElem?_eq_getElem U⟩
   have hxm:x ∈ n.kids:=List.mem_of_getElem? hx
   have hxs:=CT hxm
   repeat' ((conv=>whnf);first|(with_reducible first|refine Wt rfl ?_|refine WG ?_|refine WH ?_|refine WI ‹_› AC ?_|exact Wa|exact Wb|exact Wc|refine Wd EQ ?_|refine We ?_ ?_ ?_|refine W8 GE ?_ ?_ ?_|refine W0 GE ?_ ?_ ?_|refine W9 ?_ ?_ ?_|refine Wt IR ?_|refine Wu IR ?_|refine Wv AC ?_|refine Ww AC ?_|refine Wf Do (λ_=>?_) (λ_=>?_)|refine Wg (λ_=>?_) (λ_=>?_)|refine Wh (λ_=>?_) (λ_=>?_)|refine Wi ?_|refine Wj ?_|refine Wk (λ_=>?_) (λ_=>?_)|refine Wl (λ_=>?_)|refine Wm ‹_› AC ?_|refine Wn AC AC (λ_ _ _=>?_)|refine Wq AC AC ?_|refine Wz (λ_=>?_)|refine WA (λ_=>?_)|refine WB ‹_› AC ?_|refine WC AC AC (λ_ _=>?_)|refine WD AC AC (λ_ _=>?_))|refine ih (n:=x) AC ?_|with_reducible refine WF ?_)
   all_goals conv=>whnf
   all_goals exact ⟨k+1,U,Nat.sub_lt_sub_left U (Nat.lt_succ_self k),Yl,St.le_refl _⟩
  .skip
   repeat' ((conv=>whnf);first|(with_reducible first|refine Wt rfl ?_|refine WG ?_|refine WH ?_|refine WI ‹_› AC ?_|exact Wa|exact Wb|exact Wc|refine Wd EQ ?_|refine We ?_ ?_ ?_|refine W8 GE ?_ ?_ ?_|refine W0 GE ?_ ?_ ?_|refine W9 ?_ ?_ ?_|refine Wt IR ?_|refine Wu IR ?_|refine Wv AC ?_|refine Ww AC ?_|refine Wf Do (λ_=>?_) (λ_=>?_)|refine Wg (λ_=>?_) (λ_=>?_)|refine Wh (λ_=>?_) (λ_=>?_)|refine Wi ?_|refine Wj ?_|refine Wk (λ_=>?_) (λ_=>?_)|refine Wl (λ_=>?_)|refine Wm ‹_› AC ?_|refine Wn AC AC (λ_ _ _=>?_)|refine Wq AC AC ?_|refine Wz (λ_=>?_)|refine WA (λ_=>?_)|refine WB ‹_› AC ?_|refine WC AC AC (λ_ _=>?_)|refine WD AC AC (λ_ _=>?_))|with_reducible refine WF ?_)
   all_goals exact fin h rfl
theorem Xs {s:Af} (h:R (.ret (.bool true)) st):PC 25 [Am s,Am s] st R:=by
 refine pB Tryz.func25 ?_
 repeat' ((conv=>whnf);first|(with_reducible first|refine Wt rfl ?_|refine WG ?_|refine WH ?_|refine WI ‹_› AC ?_|exact Wa|exact Wb|exact Wc|refine Wd EQ ?_|refine We ?_ ?_ ?_|refine W8 GE ?_ ?_ ?_|refine W0 GE ?_ ?_ ?_|refine W9 ?_ ?_ ?_|refine Wt IR ?_|refine Wu IR ?_|refine Wv AC ?_|refine Ww AC ?_|refine Wf Do (λ_=>?_) (λ_=>?_)|refine Wg (λ_=>?_) (λ_=>?_)|refine Wh (λ_=>?_) (λ_=>?_)|refine Wi ?_|refine Wj ?_|refine Wk (λ_=>?_) (λ_=>?_)|refine Wl (λ_=>?_)|refine Wm ‹_› AC ?_|refine Wn AC AC (λ_ _ _=>?_)|refine Wq AC AC ?_|refine Wz (λ_=>?_)|refine WA (λ_=>?_)|refine WB ‹_› AC ?_|refine WC AC AC (λ_ _=>?_)|refine WD AC AC (λ_ _=>?_))|with_reducible refine WF ?_)
 refine Lj 5 [2,3] [0,1] s.As.length (λk=>k<=s.As.length) (Nat.zero_le _) Yl ?_
 intro k hk
 by_cases U:k<s.As.length
 .obtain ⟨x,hx⟩:∃x,s.As[(k:Int).toNat]? =some x:=⟨_,List.getElem?_eq_getElem U⟩
  repeat' ((conv=>whnf);first|(with_reducible first|refine Wt rfl ?_|refine WG ?_|refine WH ?_|refine WI ‹_› AC ?_|exact Wa|exact Wb|exact Wc|refine Wd EQ ?_|refine We ?_ ?_ ?_|refine W8 GE ?_ ?_ ?_|refine W0 GE ?_ ?_ ?_|refine W9 ?_ ?_ ?_|refine Wt IR ?_|refine Wu IR ?_|refine Wv AC ?_|refine Ww AC ?_|refine Wf Do (λ_=>?_) (λ_=>?_)|refine Wg (λ_=>?_) (λ_=>?_)|refine Wh (λ_=>?_) (λ_=>?_)|refine Wi ?_|refine Wj ?_|refine Wk (λ_=>?_) (λ_=>?_)|refine Wl (λ_=>?_)|refine Wm ‹_› AC ?_|refine Wn AC AC (λ_ _ _=>?_)|refine Wq AC AC ?_|refine Wz (λ_=>?_)|refine WA (λ_=>?_)|refine WB ‹_› AC ?_|refine WC AC AC (λ_ _=>?_)|refine WD AC AC (λ_ _=>?_))|with_reducible refine WF ?_)
  all_goals conv=>whnf
  all_goals exact ⟨k+1,U,Nat.sub_lt_sub_left U (Nat.lt_succ_self k),Yl,St.le_refl _⟩
 .skip
  repeat' ((conv=>whnf);first|(with_reducible first|refine Wt rfl ?_|refine WG ?_|refine WH ?_|refine WI ‹_› AC ?_|exact Wa|exact Wb|exact Wc|refine Wd EQ ?_|refine We ?_ ?_ ?_|refine W8 GE ?_ ?_ ?_|refine W0 GE ?_ ?_ ?_|refine W9 ?_ ?_ ?_|refine Wt IR ?_|refine Wu IR ?_|refine Wv AC ?_|refine Ww AC ?_|refine Wf Do (λ_=>?_) (λ_=>?_)|refine Wg (λ_=>?_) (λ_=>?_)|refine Wh (λ_=>?_) (λ_=>?_)|refine Wi ?_|refine Wj ?_|refine Wk (λ_=>?_) (λ_=>?_)|refine Wl (λ_=>?_)|refine Wm ‹_› AC ?_|refine Wn AC AC (λ_ _ _=>?_)|refine Wq AC AC ?_|refine Wz (λ_=>?_)|refine WA (λ_=>?_)|refine WB ‹_› AC ?_|refine WC AC AC (λ_ _=>?_)|refine WD AC AC (λ_ _=>?_))|with_reducible refine WF ?_)
  refine Lj 6 [2,3] [0,1] s.BT.length (λk=>k<=s.BT.length) (Nat.zero_le _) Yl ?_
  intro k hk
  by_cases U:k<s.BT.length
  .obtain ⟨x,hx⟩:∃x,s.BT[(k:Int).toNat]? =some x:=⟨_,List.getElem?_eq_getElem U⟩
   repeat' ((conv=>whnf);first|(with_reducible first|refine Wt rfl ?_|refine WG ?_|refine WH ?_|refine WI ‹_› AC ?_|exact Wa|exact Wb|exact Wc|refine Wd EQ ?_|refine We ?_ ?_ ?_|refine W8 GE ?_ ?_ ?_|refine W0 GE ?_ ?_ ?_|refine W9 ?_ ?_ ?_|refine Wt IR ?_|refine Wu IR ?_|refine Wv AC ?_|refine Ww AC ?_|refine Wf Do (λ_=>?_) (λ_=>?_)|refine Wg (λ_=>?_) (λ_=>?_)|refine Wh (λ_=>?_) (λ_=>?_)|refine Wi ?_|refine Wj ?_|refine Wk (λ_=>?_) (λ_=>?_)|refine Wl (λ_=>?_)|refine Wm ‹_› AC ?_|refine Wn AC AC (λ_ _ _=>?_)|refine Wq AC AC ?_|refine Wz (λ_=>?_)|refine WA (λ_=>?_)|refine WB ‹_› AC ?_|refine WC AC AC (λ_ _=>?_)|refine WD AC AC (λ_ _=>?_))|with_reducible refine WF ?_)
   all_goals conv=>whnf
   all_goals exact ⟨k+1,U,Nat.sub_lt_sub_left U (Nat.lt_succ_self k),Yl,St.le_refl _⟩
  .skip
   repeat' ((conv=>whnf);first|(with_reducible first|refine Wt rfl ?_|refine WG ?_|refine WH ?_|refine WI ‹_› AC ?_|exact Wa|exact Wb|exact Wc|refine Wd EQ ?_|refine We ?_ ?_ ?_|refine W8 GE ?_ ?_ ?_|refine W0 GE ?_ ?_ ?_|refine W9 ?_ ?_ ?_|refine Wt IR ?_|refine Wu IR ?_|refine Wv AC ?_|refine Ww AC ?_|refine Wf Do (λ_=>?_) (λ_=>?_)|refine Wg (λ_=>?_) (λ_=>?_)|refine Wh (λ_=>?_) (λ_=>?_)|refine Wi ?_|refine Wj ?_|refine Wk (λ_=>?_) (λ_=>?_)|refine Wl (λ_=>?_)|refine Wm ‹_› AC ?_|refine Wn AC AC (λ_ _ _=>?_)|refine Wq AC AC ?_|refine Wz (λ_=>?_)|refine WA (λ_=>?_)|refine WB ‹_› AC ?_|refine WC AC AC (λ_ _=>?_)|refine WD AC AC (λ_ _=>?_))|with_reducible refine WF ?_)
   all_goals exact fin h rfl
end
theorem Gz (s:Af) (deep:Int) (q:Rs):Kd (Ct s deep q)=.Bh [enc (rn (Ew s deep q)),Am (rs (Ew s deep q)),.int .i64 (re (Ew s deep q))]:=by
 unfold Ct Ew
 by_cases h:deep<1
 .rw [if_pos h,if_pos h];rfl
 .rw [if_neg h,if_neg h]
  cases q<;>rfl
theorem c8 {s:Af} {deep:Int} {q U:Rs} (h:Ew s deep q=U):Ga (Ew s deep q)=AO (rn U) (rs U) (re U):=by rw [h,Cq]
theorem S1:∀d:Nat,d<=100->Ev 318 (d:Int) (DL d)
 |0,_=>λs U st R h=>bU (A:=Cp (DL 0)) (λe=>absurd Do e) (FW (Du 0)) (CM (B0 0)) U (by
  unfold Ew;rw [if_pos Do];exact h)
 |d+1,hd=>λs U st R h=>bU (A:=Cp (DL d)) (λ_=>by
   rw [if_neg AC]
   exact kA (bA rfl AC (S1 d AC) (Du d) (B0 d)) (FW (Du d)) (CM (B0 d))) (FW (Du d)) (CM (B0 d)) U (by
  unfold Ew;rw [if_neg AC];exact h)
theorem dQ {deep:Int} (h:¬deep<1):Ev 271 (if 100<deep then 100 else deep) (Cp (DL (B7 deep - 1))):=by
 have:=gu deep
 exact bA (gr h) AC (S1 _ AC) (Du _) (B0 _)
theorem kz {deep:Int} (h:¬deep<1):Ev 214 (if 100<deep then 100 else deep) (A1 (Cp (DL (B7 deep - 1)))):=
 kA (dQ h) (FW (Du _)) (CM (B0 _))
section
variable {st:St} {R:AL->St->Prop}
attribute [local irreducible] Go.Aw.Ag
theorem od {s:Af} {deep:Int} {q:Rs} (U:mu s<=100000000) (hq:Ew s deep (EA (Cp (DL (B7 deep - 1))) s)=q) (h:R (.ret (AO (rn q) (rs q) (re q))) st):PC 145 [Am s,.int .i64 deep] st R:=
 oa (A:=Cp (DL (B7 deep - 1))) kz (FW (Du _)) (CM (B0 _)) U (by rw [c8 hq];exact h)
end
structure BO (f:FuncId) (mk:Af->List V) (A:Rd Nd):Prop where
 ap:∀{st0:St} {s:Af} {st:St} {rows:List (AF×List Nd)} {K:AL->St->Prop},mu s<=100000000->Rx st0 st rows->
  Rd.wp A s (λv s'=>∀st',Rx st0 st' rows->K (.ret (AO v s' 0)) st') (λe s'=>∀n st',Rx st0 st' rows->K (.ret (AO n s' e.1)) st')->PC f (mk s) st K
theorem nI {k:Int} (h:([1,2,3,4]:List Int).contains k=true):k≠0/\k≠21:=by
 simp only [List.contains_cons,List.contains_nil,Bool.or_eq_true,beq_iff_eq,Bool.or_false] at h
 omega
section
variable {st0 st:St} {s:Af} {rows:List (AF×List Nd)} {K:AL->St->Prop} {Q:Nd->Af->Prop} {E:Er->Af->Prop}
theorem BO.go {mk:Af->List V} {A:Rd Nd} (hf:BO f mk A) (U:mu s<=100000000) (hc:Rx st0 st rows) (h:Rd.wp A s Q E)
 (k:∀n s' st',A.run s=.inr (n,s')->mu s'<=mu s->mu s'<=100000000->Rx st0 st' rows->Q n s'->K (.ret (AO n s' 0)) st')
 (kb:∀e n s' st',¬e.1=0->Rx st0 st' rows->E e s'->K (.ret (AO n s' e.1)) st'):PC f (mk s) st K:=
 hf.ap U hc (Rd.wp_mono h (λv s' r q st' c=>k v s' st' r (A.le _ _ _ r) (Nat.le_trans (A.le _ _ _ r) U) c q) (λe s' _ q n st' c=>kb e n s' st' e.2 c q))
theorem BO.UN {mk:Af->List V} {A:Rd Nd} (hf:BO f mk A) (hF:Rd.A7 A) (U:mu s<=100000000) (hc:Rx st0 st rows) (h:Rd.wp A s Q E)
 (k:∀n s' st',A.run s=.inr (n,s')->mu s'<mu s->mu s'<=100000000->Rx st0 st' rows->Q n s'->K (.ret (AO n s' 0)) st')
 (kb:∀e n s' st',¬e.1=0->Rx st0 st' rows->E e s'->K (.ret (AO n s' e.1)) st'):PC f (mk s) st K:=
 hf.ap U hc (Rd.wp_mono h (λv s' r q st' c=>k v s' st' r (hF _ _ _ r) (Nat.le_trans (A.le _ _ _ r) U) c q) (λe s' _ q n st' c=>kb e n s' st' e.2 c q))
theorem Fc {r r':AL} (hc:Rx st0 st rows) (h:∀st',Rx st0 st' rows->K r st') (e:r=r'.wk):∃r2 U,(r2=r'\/r2=r'.wk)/\St.le U st/\K r2 U:=⟨r,st,.inr e,St.le_refl _,h st hc⟩
theorem aJ {σ:Type} {Q0:AM->Env->St->Prop} {Q:β->Af->Prop} {body:σ->Rd (Sum σ β)} {x0:σ}
 (f:σ->Af->AF->List (Nat×V)) (g:σ->Af->AF->List (Nat×List V)) (keep kb:List Nat) (rw:σ->AF->List (AF×List Nd)) (wt:σ->Nat) (U:AF) (hm:mu s<=100000000) (hc:Rx st0 st (rw x0 U)) (h:Rd.wp (Rd.loop body x0) s Q E) (hl:wt x0+4*mu s<=500000000)
 (he:(env.F3 (f x0 s U) (g x0 s U) keep kb).C7 env)
 (hb:∀x s1 st1 own1,mu s1<=100000000->mu s1<=mu s->Rx st0 st1 (rw x own1)->Rd.wp (body x) s1 (Rd.again body s1 Q E) E->wt x+4*mu s1<=500000000->
   ih (Bp (λenv' st'=>∃y:LS σ,(mu y.s<=100000000/\mu y.s<=mu s/\Rx st0 y.m (rw y.x y.o)/\Rd.wp (Rd.loop body y.x) y.s Q E/\wt y.x+4*mu y.s<=500000000)/\mu y.s<mu s1/\(env.F3 (f y.x y.s y.o) (g y.x y.s y.o) keep kb).C7 env'/\St.le y.m st') Q0)
    (env.F3 (f x s1 own1) (g x s1 own1) keep kb) st1):
 ∃(α:Type) (E:α->Env) (S:α->St) (J:α->Prop) (μ:α->Nat) (x0:α),J x0/\(E x0).C7 env/\St.le (S x0) st/\
  ∀x,J x->ih (Bp (λenv' st'=>∃y,J y/\μ y<μ x/\(E y).C7 env'/\St.le (S y) st') Q0) (E x) (S x):=
 ⟨LS σ,λy=>env.F3 (f y.x y.s y.o) (g y.x y.s y.o) keep kb,λy=>y.m,
   λy=>mu y.s<=100000000/\mu y.s<=mu s/\Rx st0 y.m (rw y.x y.o)/\Rd.wp (Rd.loop body y.x) y.s Q E/\wt y.x+4*mu y.s<=500000000,λy=>mu y.s,⟨x0,s,st,U⟩,⟨hm,Nat.le_refl _,hc,h,hl⟩,he,St.le_refl _,
   λy ⟨j1,j2,j3,j4,j5⟩=>hb y.x y.s y.m y.o j1 j2 j3 (by rw [<-Rd.wp_loop];exact j4) j5⟩
theorem tK (U:mu s<=100000000) (h:K (.ret (Eb (Aa s).1)) st):PC 73 [Am s] st K:=J3 (BB U) h
theorem tJ (U:mu s<=100000000) (h:K (.ret (QF (Aa s))) st):PC 126 [Am s] st K:=KS (BB U) h
theorem pc {k:Int} (U:k≠0) (hm:mu s<=100000000) (h:K (.ret (.bool (A9 s k x))) st):PC 125 [Am s,.int .i64 k,.str x] st K:=bJ U (BB hm) h
theorem kE:BO 63 (λs=>[Am s]) A0:=by
 refine ⟨λ{st0 s st rows K} U hc h=>?_⟩
 refine PN (BB U) ?_
 by_cases e:(Aa s).2.2=0
 .rw [if_pos e]
  unfold Rd.wp at h;rw [CU e] at h;exact h st hc
 .rw [if_neg e]
  unfold Rd.wp at h;rw [H2 e] at h;exact h FR st hc
theorem X3 (hm:mu s<=100000000) (h:Rd.wp A0 s Q E) (e:(Aa s).2.2=0) (h2:(Aa s).1.kind≠21) (k:∀s1,(Aa s).2.1=s1->mu s1<mu s->mu s1<=100000000->Q (Av (Aa s).1) s1->K (.ret (AO (Av (Aa s).1) s1 0)) st):PC 63 [Am s] st K:=by
 unfold Rd.wp at h;rw [CU e] at h
 have U:=(CK e).2 h2
 exact PN (BB hm) (by rw [if_pos e];exact k _ rfl U AC h)
theorem X2 {k:Int} (hm:mu s<=100000000) (h:Rd.wp A0 s Q E) (e:A9 s k x=true) (U:k≠0/\k≠21) (kk:∀s1,(Aa s).2.1=s1->mu s1<mu s->mu s1<=100000000->Q (Av (Aa s).1) s1->K (.ret (AO (Av (Aa s).1) s1 0)) st):PC 63 [Am s] st K:=
 X3 hm h (FK e U.1) (by unfold A9 at e;simp only [Bool.and_eq_true,beq_iff_eq] at e;rw [e.1];exact U.2) kk
theorem FC (hm:mu s<=100000000) (h:Rd.wp A0 s Q E) (U:(Aa s).1.kind≠0/\(Aa s).1.kind≠21) (kk:∀s1,(Aa s).2.1=s1->mu s1<mu s->mu s1<=100000000->Q (Av (Aa s).1) s1->K (.ret (AO (Av (Aa s).1) s1 0)) st):PC 63 [Am s] st K:=
 X3 hm h (EY U.1) U.2 kk
theorem tz {Q:α->Af->Prop} (U:mu s<=100000000) (h:Rd.wp (L7:Rd α) s Q E) (k:∀e:Er,¬e.1=0->E e s->K (.ret (AO FR s e.1)) st):PC 179 [Am s] st K:=
 Uo (BB U) (k ⟨NN s,Jz s⟩ (Jz s) h)
theorem KV {k:Int} (U:k≠0):BO 127 (λs=>[Am s,.int .i64 k,.str x]) (BU k x):=by
 refine ⟨λ{st0 s st rows K} hm hc h=>?_⟩
 unfold BU at h
 rw [Rd.Ah,Rd.Az] at h
 refine PQ U (BB hm) ?_
 unfold De
 by_cases e:A9 s k x=true
 .rw [if_pos e] at h |-
  rw [DE e U]
  unfold Rd.wp at h;rw [XN e U] at h;exact h st hc
 .rw [if_neg e] at h |-
  exact h FR st hc
theorem tA (h:K (.ret (AO FR s 2)) st):PC 61 [Am s] st K:=Up h
theorem cm (h:K (.ret (AO n s 0)) st):PC 57 [AO n s 0] st K:=by
 refine pB Tryz.func57 ?_
 repeat' ((conv=>whnf);first|(refine AG ?_;intros)|(refine AH ?_ ?_<;>intro e h)|(refine AJ ?_ ?_<;>intro _)|refine Qo ?_)
 all_goals exact AZ rfl h
theorem NF {e:Int} (U:¬e=0) (h:K (.ret (AO FR s e)) st):PC 57 [AO n s e] st K:=by
 refine pB Tryz.func57 ?_
 repeat' ((conv=>whnf);first|(refine AG ?_;intros)|(refine AH ?_ ?_<;>intro e h)|(refine AJ ?_ ?_<;>intro _)|refine NS U ?_)
 all_goals exact AZ rfl h
theorem eW (h:K (.ret (AO FR s 120)) st):PC 68 [Am s] st K:=by
 refine pB Tryz.func68 ?_
 repeat' ((conv=>whnf);first|(refine AG ?_;intros)|(refine AH ?_ ?_<;>intro e h)|(refine AJ ?_ ?_<;>intro _)|fail)
 all_goals exact AZ rfl h
theorem tH {k:Int} (U:k≠0) (hm:mu s<=100000000) (h:K (.ret (.bool (A9 s k x))) st):PC 62 [Am s,.int .i64 k,.str x] st K:=by
 refine pB Tryz.func62 ?_
 repeat' ((conv=>whnf);first|(refine AG ?_;intros)|(refine AH ?_ ?_<;>intro e h)|(refine AJ ?_ ?_<;>intro _)|refine pc U hm ?_)
 all_goals conv=>whnf
 all_goals exact Ao h ‹_›
theorem tI (U:mu s<=100000000) (h:K (.ret (.bool (A9 s 15 x))) st):PC 75 [Am s,.str x] st K:=by
 refine pB Tryz.func75 ?_
 repeat' ((conv=>whnf);first|(refine AG ?_;intros)|(refine AH ?_ ?_<;>intro e h)|(refine AJ ?_ ?_<;>intro _)|refine pc Do U ?_)
 all_goals conv=>whnf
 all_goals exact Ao h ‹_›
theorem qa {Q:α->Af->Prop} (hm:mu s<=100000000) (h:Rd.wp (L7:Rd α) s Q E) (k:∀e:Er,¬e.1=0->E e s->K (.ret (AO FR s e.1)) st):PC 133 [Am s] st K:=by
 have U:=k ⟨NN s,Jz s⟩ (Jz s) h
 refine pB Tryz.func133 ?_
 repeat' ((conv=>whnf);first|(refine AG ?_;intros)|(refine AH ?_ ?_<;>intro e h)|(refine AJ ?_ ?_<;>intro _)|refine Uo (BB hm) ?_)
 all_goals exact AZ rfl U
section
variable {k:Int} {x:List UInt8} {P R:Prop}
theorem tC (hm:mu s<=100000000) (e:A9 s k x=true) (U:k≠0) (h:K (.ret (.bool true)) st):PC 125 [Am s,.int .i64 k,.str x] st K:=pc U hm (by rw [e];exact h)
theorem tB (hm:mu s<=100000000) (e:A9 s k x=false) (U:k≠0) (h:K (.ret (.bool false)) st):PC 125 [Am s,.int .i64 k,.str x] st K:=pc U hm (by rw [e];exact h)
theorem uw (hm:mu s<=100000000) (U:k≠0) (h:if A9 s k x=true then P else R) (k1:A9 s k x=true->P->K (.ret (.bool true)) st) (k2:A9 s k x=false->R->K (.ret (.bool false)) st):PC 125 [Am s,.int .i64 k,.str x] st K:=by
 cases e:A9 s k x with
 |true=>exact tC hm e U (k1 e (by rw [if_pos e] at h;exact h))
 |false=>exact tB hm e U (k2 e (by rw [if_neg (by rw [e];decide)] at h;exact h))
theorem tE (hm:mu s<=100000000) (e:A9 s k x=true) (U:k≠0) (h:K (.ret (.bool true)) st):PC 62 [Am s,.int .i64 k,.str x] st K:=tH U hm (by rw [e];exact h)
theorem tD (hm:mu s<=100000000) (e:A9 s k x=false) (U:k≠0) (h:K (.ret (.bool false)) st):PC 62 [Am s,.int .i64 k,.str x] st K:=tH U hm (by rw [e];exact h)
theorem ux (hm:mu s<=100000000) (U:k≠0) (h:if A9 s k x=true then P else R) (k1:A9 s k x=true->P->K (.ret (.bool true)) st) (k2:A9 s k x=false->R->K (.ret (.bool false)) st):PC 62 [Am s,.int .i64 k,.str x] st K:=by
 cases e:A9 s k x with
 |true=>exact tE hm e U (k1 e (by rw [if_pos e] at h;exact h))
 |false=>exact tD hm e U (k2 e (by rw [if_neg (by rw [e];decide)] at h;exact h))
theorem tG (U:mu s<=100000000) (e:A9 s 15 x=true) (h:K (.ret (.bool true)) st):PC 75 [Am s,.str x] st K:=tI U (by rw [e];exact h)
theorem tF (U:mu s<=100000000) (e:A9 s 15 x=false) (h:K (.ret (.bool false)) st):PC 75 [Am s,.str x] st K:=tI U (by rw [e];exact h)
theorem uy (U:mu s<=100000000) (h:if A9 s 15 x=true then P else R) (k1:A9 s 15 x=true->P->K (.ret (.bool true)) st) (k2:A9 s 15 x=false->R->K (.ret (.bool false)) st):PC 75 [Am s,.str x] st K:=by
 cases e:A9 s 15 x with
 |true=>exact tG U e (k1 e (by rw [if_pos e] at h;exact h))
 |false=>exact tF U e (k2 e (by rw [if_neg (by rw [e];decide)] at h;exact h))
end
theorem kC {t:Tk} (h:K (.ret (.bool (H0 t))) st):PC 209 [Eb t] st K:=by
 refine pB Tryz.func209 ?_
 repeat' ((conv=>whnf);first|(refine AG ?_;intros)|(refine AH ?_ ?_<;>intro e h)|(refine AJ ?_ ?_<;>intro _)|fail)
 all_goals conv=>whnf
 all_goals (refine Ao h ?_;clear h;simp_all [H0])
theorem jL {t:Tk} (h:K (.ret (.bool (Gf t))) st):PC 194 [Eb t] st K:=by
 refine pB Tryz.func194 ?_
 repeat' ((conv=>whnf);first|(refine AG ?_;intros)|(refine AH ?_ ?_<;>intro e h)|(refine AJ ?_ ?_<;>intro _)|refine kC ?_)
 all_goals conv=>whnf
 all_goals (refine Ao h ?_;clear h;simp_all [Gf])
theorem jw {t:Tk} (h:K (.ret (.bool (Df t))) st):PC 171 [Eb t] st K:=by
 refine pB Tryz.func171 ?_
 repeat' ((conv=>whnf);first|(refine AG ?_;intros)|(refine AH ?_ ?_<;>intro e h)|(refine AJ ?_ ?_<;>intro _)|fail)
 all_goals conv=>whnf
 all_goals (refine Ao h ?_;clear h;simp_all [Df])
theorem jz {t:Tk} (h:K (.ret (.bool (DA t))) st):PC 115 [Eb t] st K:=by
 refine pB Tryz.func115 ?_
 repeat' ((conv=>whnf);first|(refine AG ?_;intros)|(refine AH ?_ ?_<;>intro e h)|(refine AJ ?_ ?_<;>intro _)|refine jw ?_)
 all_goals conv=>whnf
 all_goals (refine Ao h ?_;clear h;simp_all [DA,Df,UK,sx,Tf,sw])
theorem jA {t:Tk} (h:K (.ret (.bool (DA t||FJ t))) st):PC 116 [Eb t] st K:=by
 refine pB Tryz.func116 ?_
 repeat' ((conv=>whnf);first|(refine AG ?_;intros)|(refine AH ?_ ?_<;>intro e h)|(refine AJ ?_ ?_<;>intro _)|refine jz ?_)
 all_goals conv=>whnf
 all_goals (refine Ao h ?_;clear h;simp_all [FJ])
theorem jM {t:Tk} (h:K (.ret (.bool (([1,2,3,4]:List Int).contains t.kind))) st):PC 210 [Eb t] st K:=by
 refine pB Tryz.func210 ?_
 repeat' ((conv=>whnf);first|(refine AG ?_;intros)|(refine AH ?_ ?_<;>intro e h)|(refine AJ ?_ ?_<;>intro _)|fail)
 all_goals conv=>whnf
 all_goals (refine Ao h ?_;clear h;simp_all)
theorem Nv {k:Int} {own:AF} (h:K (.ret (enc (Ar k l))) st):PC 64 [.int .i64 k,.slice 6 (l.map Ax) own] st K:=by
 refine pB Tryz.func64 ?_
 repeat' ((conv=>whnf);first|(refine AG ?_;intros)|(refine AH ?_ ?_<;>intro e h)|(refine AJ ?_ ?_<;>intro _)|fail)
 all_goals exact CI (St.le_refl _) CO h
theorem jN {k:Int} {own:AF} (h:K (.ret (enc (Ar k []))) st):PC 64 [.int .i64 k,.slice 6 [] own] st K:=Nv (l:=[]) h
theorem jO {k:Int} {own:AF} (h:K (.ret (enc (Ar k [a]))) st):PC 64 [.int .i64 k,.slice 6 [Ax a] own] st K:=Nv (l:=[a]) h
theorem jP {k:Int} {b:Nd} {own:AF} (h:K (.ret (enc (Ar k [a,b]))) st):PC 64 [.int .i64 k,.slice 6 [Ax a,Ax b] own] st K:=Nv (l:=[a,b]) h
end
theorem B3 (h:P:=by (with_reducible show ∃_,_);first|exact ⟨⟨_,_,_,_⟩,⟨‹_›,(by first|omega|(dsimp only<;>omega)|(simp only [List.length_append,List.length_cons,List.length_nil]<;>omega)),hc,Rd.BF h (by first|omega|(dsimp only<;>omega)|(simp only [List.length_append,List.length_cons,List.length_nil]<;>omega)),(by first|omega|(dsimp only<;>omega)|(simp only [List.length_append,List.length_cons,List.length_nil]<;>omega))⟩,(by first|omega|(dsimp only<;>omega)|(simp only [List.length_append,List.length_cons,List.length_nil]<;>omega)),Yl,St.le_refl _⟩|exact Fc hc h rfl|exact Fc hc h Dw|exact Fc hc (h _) rfl|exact Fc hc (h FR) rfl|exact Fc hc (h _) Dw|exact Fc hc.drop h rfl|exact Fc hc.drop h Dw|exact Fc hc.drop (h _) rfl|exact Fc hc.drop (h FR) rfl|exact Fc hc.drop (h _) Dw|exact ⟨_,_,.inl rfl,St.le_refl _,h _ _ _ hc⟩|exact ⟨_,_,.inl rfl,St.le_refl _,h _ _ _ _ hc⟩|fail):P:=h
theorem CN {A:Prop} (k:A) (h:A->P:=by intro k;(with_reducible show Ag _ _ _ _ _ _ _);first|exact hc.Fk ke k|exact Rx.Fk (hc.push _) ke k|exact Rx.Fk (l:=[_]) (hc.push [_]) (Nat.le_of_ble_eq_true rfl) k|fail):P:=h k
theorem Ca {A:Prop} (k:A) (h:A->P:=by intro k;(with_reducible show PC _ _ _ _);first|((with_reducible show PC 73 _ _ _);exact tK ‹_› k)|((with_reducible show PC 126 _ _ _);exact tJ ‹_› k)|((with_reducible show PC 125 _ _ _);exact tC ‹_› ‹_› Do k)|((with_reducible show PC 62 _ _ _);exact tE ‹_› ‹_› Do k)|((with_reducible show PC 75 _ _ _);exact tG ‹_› ‹_› k)|((with_reducible show PC 125 _ _ _);exact tB ‹_› ‹_› Do k)|((with_reducible show PC 62 _ _ _);exact tD ‹_› ‹_› Do k)|((with_reducible show PC 75 _ _ _);exact tF ‹_› ‹_› k)|((with_reducible show PC 61 _ _ _);exact tA k)|((with_reducible show PC 57 _ _ _);exact cm k)|((with_reducible show PC 57 _ _ _);exact NF ‹_› k)|((with_reducible show PC 68 _ _ _);exact eW k)|((with_reducible show PC 209 _ _ _);exact kC k)|((with_reducible show PC 194 _ _ _);exact jL k)|((with_reducible show PC 171 _ _ _);exact jw k)|((with_reducible show PC 115 _ _ _);exact jz k)|((with_reducible show PC 116 _ _ _);exact jA k)|((with_reducible show PC 210 _ _ _);exact jM k)|((with_reducible show PC 64 _ _ _);exact jN k)|((with_reducible show PC 64 _ _ _);exact jO k)|((with_reducible show PC 64 _ _ _);exact jP k)|((with_reducible show PC 64 _ _ _);exact Nv k)|fail):P:=h k
theorem D4 {A:Prop} (k:A) (l:B) (h:A->B->P:=by intro k l;(with_reducible show PC _ _ _ _);first|((with_reducible show PC 125 _ _ _);exact uw ‹_› Do h k l)|((with_reducible show PC 62 _ _ _);exact ux ‹_› Do h k l)|((with_reducible show PC 75 _ _ _);exact uy ‹_› h k l)|fail):P:=h k l
theorem D5 {A:Prop} (k:A) (h:A->P:=by intro k;(with_reducible show PC _ _ _ _);first|((with_reducible show PC 63 _ _ _);exact X2 ‹_› h ‹_› Do k)|((with_reducible show PC 63 _ _ _);exact FC ‹_› h (by first|exact Hu ‹_›|exact KZ ‹_›|exact nI ‹_›|omega) k)|fail):P:=h k
theorem DQ {A:Prop} (k:A) (l:B) (h:A->B->P:=by intro k l;(with_reducible show PC _ _ _ _);first|((with_reducible show PC 63 _ _ _);exact BO.go kE ‹_› hc h k l)|((with_reducible show PC 127 _ _ _);exact BO.go (KV Do) ‹_› hc h k l)|fail):P:=h k l
theorem ME {A:Prop} (k:A) (h:A->P:=by intro k;(with_reducible show PC _ _ _ _);first|((with_reducible show PC 179 _ _ _);exact tz ‹_› h k)|((with_reducible show PC 133 _ _ _);exact qa ‹_› h k)|fail):P:=h k
def FE (k:Int) (l:List Nd) (x:List UInt8):Rd Nd:=.seq (BU 15 x) λc=>.ret (Ar k (l++[c]))
def Gj (exp:Rd Nd) (k:Int) (x:List UInt8) (l:List Nd):Rd (List Nd):=.seq (BU k x) λw=>.seq exp λe=>.ret (l++[w]++[e])
def ow (p:List Nd×Bool):Nd:=if p.2=true then Ar 17 p.1 else IJ 17 p.1
structure pk (f:FuncId) (mk:Af->List V) (A:Rd (List Nd×Bool)):Prop where
 ap:∀{st0:St} {s:Af} {st:St} {rows:List (AF×List Nd)} {K:AL->St->Prop},mu s<=100000000->Rx st0 st rows->
  Rd.wp A s (λv s'=>∀st',Rx st0 st' rows->K (.ret (.Bh [AO (ow v) s' 0,.bool v.2])) st') (λe s'=>∀n st',Rx st0 st' rows->K (.ret (.Bh [AO n s' e.1,.bool false])) st')->PC f (mk s) st K
structure X8 (B:Nat) (f:FuncId) (mk:Af->V->List V) (A:List Nd->Rd (List Nd)):Prop where
 ap:∀{st0:St} {s:Af} {st:St} {rows:List (AF×List Nd)} {K:AL->St->Prop} {own:AF} {l:List Nd},l.length<=B->mu s<=100000000->Rx st0 st ((own,l)::rows)->
  Rd.wp (A l) s (λl' s'=>∀n own' st',Rx st0 st' ((own',l')::rows)->K (.ret (.Bh [.slice 6 (l'.map Ax) own',AO n s' 0])) st') (λe s'=>∀l' n own' st',Rx st0 st' ((own',l')::rows)->K (.ret (.Bh [.slice 6 (l'.map Ax) own',AO n s' e.1])) st')->PC f (mk s (.slice 6 (l.map Ax) own)) st K
structure pj (f:FuncId) (mk:Af->V->List V) (A:List Nd->Rd Nd):Prop where
 ap:∀{st0:St} {s:Af} {st:St} {rows:List (AF×List Nd)} {K:AL->St->Prop} {own:AF} {l:List Nd},l.length<=900000000->mu s<=100000000->Rx st0 st ((own,l)::rows)->
  Rd.wp (A l) s (λv s'=>∀st',Rx st0 st' rows->K (.ret (AO v s' 0)) st') (λe s'=>∀n st',Rx st0 st' rows->K (.ret (AO n s' e.1)) st')->PC f (mk s (.slice 6 (l.map Ax) own)) st K
section
variable {st0 st:St} {s:Af} {rows:List (AF×List Nd)} {K:AL->St->Prop} {E:Er->Af->Prop}
theorem pk.go {mk:Af->List V} {A:Rd (List Nd×Bool)} {Q:List Nd×Bool->Af->Prop} (hf:pk f mk A) (U:mu s<=100000000) (hc:Rx st0 st rows) (h:Rd.wp A s Q E)
 (k:∀n s' st',A.run s=.inr (n,s')->mu s'<=mu s->mu s'<=100000000->Rx st0 st' rows->Q n s'->K (.ret (.Bh [AO (ow n) s' 0,.bool n.2])) st')
 (kb:∀e n s' st',¬e.1=0->Rx st0 st' rows->E e s'->K (.ret (.Bh [AO n s' e.1,.bool false])) st'):PC f (mk s) st K:=
 hf.ap U hc (Rd.wp_mono h (λv s' r q st' c=>k v s' st' r (A.le _ _ _ r) (Nat.le_trans (A.le _ _ _ r) U) c q) (λe s' _ q n st' c=>kb e n s' st' e.2 c q))
theorem X8.go {B:Nat} {mk:Af->V->List V} {A:List Nd->Rd (List Nd)} {own:AF} {Q:List Nd->Af->Prop} (hf:X8 B f mk A) (hl:l.length<=B) (hm:mu s<=100000000) (hc:Rx st0 st ((own,l)::rows)) (h:Rd.wp (A l) s Q E)
 (k:∀l' n U s' st',(A l).run s=.inr (l',s')->mu s'<=mu s->mu s'<=100000000->Rx st0 st' ((U,l')::rows)->Q l' s'->K (.ret (.Bh [.slice 6 (l'.map Ax) U,AO n s' 0])) st')
 (kb:∀e l' n U s' st',¬e.1=0->Rx st0 st' ((U,l')::rows)->E e s'->K (.ret (.Bh [.slice 6 (l'.map Ax) U,AO n s' e.1])) st'):PC f (mk s (.slice 6 (l.map Ax) own)) st K:=
 hf.ap hl hm hc (Rd.wp_mono h (λv s' r q n U st' c=>k v n U s' st' r ((A l).le _ _ _ r) (Nat.le_trans ((A l).le _ _ _ r) hm) c q) (λe s' _ q l' n U st' c=>kb e l' n U s' st' e.2 c q))
theorem pj.go {mk:Af->V->List V} {A:List Nd->Rd Nd} {own:AF} {Q:Nd->Af->Prop} (hf:pj f mk A) (hl:l.length<=900000000) (U:mu s<=100000000) (hc:Rx st0 st ((own,l)::rows)) (h:Rd.wp (A l) s Q E)
 (k:∀n s' st',(A l).run s=.inr (n,s')->mu s'<=mu s->mu s'<=100000000->Rx st0 st' rows->Q n s'->K (.ret (AO n s' 0)) st')
 (kb:∀e n s' st',¬e.1=0->Rx st0 st' rows->E e s'->K (.ret (AO n s' e.1)) st'):PC f (mk s (.slice 6 (l.map Ax) own)) st K:=
 hf.ap hl U hc (Rd.wp_mono h (λv s' r q st' c=>k v s' st' r ((A l).le _ _ _ r) (Nat.le_trans ((A l).le _ _ _ r) U) c q) (λe s' _ q n st' c=>kb e n s' st' e.2 c q))
attribute [local irreducible] Go.Aw.Ag
theorem G8:BO 141 (λs=>[Am s]) EK:=by
 refine ⟨λ{st0 s st rows K} hm hc h=>?_⟩
 simp only [EK,HK,Rd.Ah,Rd.Az,Rd.wp_seq,Rd.wp_ret] at h
 refine pB Tryz.func141 ?_
 repeat' ((conv=>whnf);first|(refine AG ?_;intros)|(refine AH ?_ ?_<;>intro e h)|(refine AJ ?_ ?_<;>intro _)|refine Ca ?_|(refine D5 ?_;intro s1 hz hl hm h)|refine DQ (λn s1 U hr hl hm hc h=>?_) (λe n s1 U he hc h=>?_)|(refine ME ?_;intro e he h)|(refine CN ?_;intro own1 U hc)|refine Ac (λe1=>?_)|exact B3|fail)
theorem GI {k:Int}:pj 315 (λs v=>[.int .i64 k,v,Am s,.str x]) (λl=>FE k l x):=by
 refine ⟨λ{st0 s st rows K own l} hl hm hc h=>?_⟩
 simp only [FE,Rd.Ah,Rd.Az,Rd.wp_seq,Rd.wp_ret] at h
 refine pB Tryz.func315 ?_
 repeat' ((conv=>whnf);first|(refine AG ?_;intros)|(refine AH ?_ ?_<;>intro e h)|(refine AJ ?_ ?_<;>intro _)|refine DQ (λn s1 U hr hl hm hc h=>?_) (λe n s1 U he hc h=>?_)|refine Ca ?_|(refine CN ?_;intro own1 U hc)|refine Ac (λe1=>?_)|exact B3|fail)
end
theorem Hu {t:Tk} (h:Df t=true):t.kind≠0/\t.kind≠21:=by
 unfold Df at h
 simp only [Bool.or_eq_true,Bool.and_eq_true,beq_iff_eq] at h
 omega
theorem KZ {t:Tk} (h:H0 t=true):t.kind≠0/\t.kind≠21:=by
 unfold H0 at h
 simp only [Bool.or_eq_true,Bool.and_eq_true,beq_iff_eq] at h
 omega
theorem Ip {t:Tk} (h:F0 t=true):t.kind≠0/\t.kind≠21:=by
 unfold F0 at h
 simp only [Bool.or_eq_true,Bool.and_eq_true,beq_iff_eq] at h
 omega
abbrev pv (b d:Nat):V:=.agg [.ptr b 0,.int .i64 (d:Int)]
section
variable {st0 st:St} {b d:Nat} {s:Af} {rows:List (AF×List Nd)} {K:AL->St->Prop}
theorem bz (hc:Cx st0 b s st rows) (kk:∀st',Cx st0 b s st' rows->K (.ret (.bool (A9 s 15 x))) st'):PC 137 [pv b d,.str x] st K:=by
 refine pB Tryz.func137 ?_
 repeat' ((conv=>whnf);first|(refine AG ?_;intros)|(refine AH ?_ ?_<;>intro e h)|(refine AJ ?_ ?_<;>intro _)|refine qQ hc (λU hc=>?_))
 all_goals conv=>whnf
 all_goals exact Ao (kk U hc) ‹_›
theorem Um (hc:Cx st0 b s st rows) (e:A9 s 15 x=true) (U:∀st',Cx st0 b s st' rows->K (.ret (.bool true)) st'):PC 137 [pv b d,.str x] st K:=bz hc (by rw [e];exact U)
theorem Zg (hc:Cx st0 b s st rows) (e:A9 s 15 x=false) (U:∀st',Cx st0 b s st' rows->K (.ret (.bool false)) st'):PC 137 [pv b d,.str x] st K:=bz hc (by rw [e];exact U)
theorem ry {Q:Prop} (hc:Cx st0 b s st rows) (h:if A9 s 15 x=true then P else Q) (U:∀st',Cx st0 b s st' rows->A9 s 15 x=true->P->K (.ret (.bool true)) st') (k2:∀st',Cx st0 b s st' rows->A9 s 15 x=false->Q->K (.ret (.bool false)) st'):
 PC 137 [pv b d,.str x] st K:=by
 cases e:A9 s 15 x with
 |true=>exact Um hc e λst' c=>U st' c e (by rw [if_pos e] at h;exact h)
 |false=>exact Zg hc e λst' c=>k2 st' c e (by rw [if_neg (by rw [e];decide)] at h;exact h)
theorem aF {ks:List Int} {own:AF} (h0:ks.contains 0=false):Bx enc 250 (λb=>[.ptr b 0,.slice 1 (ints ks) own]) (HK ks):=by
 refine ⟨λ{st0 b s st rows K} hc h=>?_⟩
 unfold HK at h
 simp only [Rd.Ah,Rd.Az] at h
 refine pB Tryz.func250 ?_
 repeat' ((conv=>whnf);first|(refine AG ?_;intros)|(refine AH ?_ ?_<;>intro e h)|(refine AJ ?_ ?_<;>intro _)|refine Uk hc (λU hc=>?_)|refine P0 hc h ‹_› Do (λs1 U hz hm hc h=>?_)|refine P1 hc h (by first|exact Hu ‹_›|exact KZ ‹_›|omega) (λs1 U hz hm hc h=>?_)|refine J6.go hc h (λn s1 U hr hm hc h=>?_) (λe s1 U hc h=>?_)|refine UX hc h (λe s1 U hc h=>?_)|exact DJ hc.y h|exact DJ hc.drop.y h|refine Bj (λ_=>?_)|refine Ac (λe1=>?_)|exact ⟨⟨_,_,_,_⟩,⟨hc,Rd.BF h i6,i7,i6⟩,i6,(by refine ⟨rfl,?_,?_,rfl⟩<;>repeat' (first|exact trivial|exact rfl|refine And.intro ?_ ?_)),St.le_refl _⟩|exact ⟨_,_,.inl rfl,St.le_refl _,h _ _ hc⟩|exact Fo hc h rfl|exact Fo hc h CO|exact Fo hc.drop h rfl|exact Fo hc.drop h CO|exact DJ hc h|exact DJ hc.drop h|exact DJ hc.drop.drop h|refine WA (λ_=>?_))
 refine Mm (α:=Nat×St) (λx=>[(12,.int .i64 (x.1:Int))]) [0,4,5,10,11] [0,1] (λx=>x.2) (λx=>x.1<=ks.length/\Cx st0 b s x.2 rows/\ks.contains (Aa s).1.kind=(ks.drop x.1).contains (Aa s).1.kind) (λx=>ks.length - x.1) (0,_) ⟨Nat.zero_le _,hc,rfl⟩ Yl (St.le_refl _) ?_
 rintro ⟨k,st2⟩ ⟨hk,hc2,hi⟩
 dsimp only at hk hc2 hi |-
 by_cases hlt:k<ks.length
 .obtain ⟨x,hx⟩:∃x,ks[(k:Int).toNat]? =some x:=⟨_,List.getElem?_eq_getElem hlt⟩
  have hx':ks[k]? =some x:=hx
  rw [drop_at hx',List.contains_cons] at hi
  have hx1:=hx
  by_cases e:(Aa s).1.kind=x
  .rw [beq_iff_eq.2 e,Bool.true_or] at hi
   rw [if_pos hi] at h
   have hkd:(Aa s).1.kind≠0:=λz=>by rw [z] at hi;rw [h0] at hi;cases hi
   have hc:=hc2
   repeat' ((conv=>whnf);first|refine ik hx AC ?_|(refine AG ?_;intros)|(refine AH ?_ ?_<;>intro e h)|(refine AJ ?_ ?_<;>intro _)|refine J6.go hc h (λn s1 U hr hm hc h=>?_) (λe s1 U hc h=>?_)|exact Fo hc h rfl|exact DJ hc h)
  .rw [beq_eq_false_iff_ne.2 e,Bool.false_or] at hi
   repeat' ((conv=>whnf);first|refine ik hx AC ?_|(refine AG ?_;intros)|(refine AH ?_ ?_<;>intro e h)|(refine AJ ?_ ?_<;>intro _)|fail)
   all_goals conv=>whnf
   all_goals exact ⟨(k+1,st2),⟨hlt,hc2,hi⟩,Nat.sub_lt_sub_left hlt (Nat.lt_succ_self k),Yl,St.le_refl _⟩
 .rw [List.drop_eq_nil_iff.2 AC] at hi
  rw [if_neg (by rw [hi];exact Bool.false_ne_true)] at h
  have hc:=hc2
  repeat' ((conv=>whnf);first|(refine AG ?_;intros)|(refine AH ?_ ?_<;>intro e h)|(refine AJ ?_ ?_<;>intro _)|refine UX hc h (λe s1 U hc h=>?_)|exact DJ hc h)
theorem iu:Bx enc 250 (λb=>[.ptr b 0,.slice 1 [[.int .i64 1],[.int .i64 2],[.int .i64 3],[.int .i64 4]] .full]) (HK [1,2,3,4]):=aF (ks:=[1,2,3,4]) Do
theorem PG:Bx enc 199 (λb=>[pv b d]) EK:=by
 refine ⟨λ{st0 b s st rows K} hc h=>?_⟩
 unfold EK at h
 simp only [Rd.Ah,Rd.Az,Rd.wp_seq,Rd.wp_ret] at h
 refine pB Tryz.func199 ?_
 repeat' ((conv=>whnf);first|exact Dk|(refine AG ?_;intros)|(refine Dl ?_ ?_ ?_;rotate_left)|(refine AH ?_ ?_<;>intro e h)|(refine AJ ?_ ?_<;>intro _)|refine Uk hc (λU hc=>?_)|refine P0 hc h ‹_› Do (λs1 U hz hm hc h=>?_)|refine P1 hc h (by first|exact Hu ‹_›|exact KZ ‹_›|omega) (λs1 U hz hm hc h=>?_)|refine J6.go hc h (λn s1 U hr hm hc h=>?_) (λe s1 U hc h=>?_)|refine cj.go hc h (λn s1 U hr hm hc h=>?_) (λe s1 U hc h=>?_)|exact DJ hc.y h|exact DJ hc.drop.y h|refine Js ?_|refine aS ?_|refine aT ?_|refine Ua ?_|refine aU ?_|refine KL ?_|refine Ac (λe1=>?_)|exact ⟨⟨_,_,_,_⟩,⟨hc,Rd.BF h i6,i7,i6⟩,i6,(by refine ⟨rfl,?_,?_,rfl⟩<;>repeat' (first|exact trivial|exact rfl|refine And.intro ?_ ?_)),St.le_refl _⟩|exact ⟨_,_,.inl rfl,St.le_refl _,h _ _ hc⟩|exact Fo hc h rfl|exact Fo hc h CO|exact Fo hc.drop h rfl|exact Fo hc.drop h CO|exact DJ hc h|exact DJ hc.drop h|exact DJ hc.drop.drop h|refine iu.go hc h (λn s1 U hr hm hc h=>?_) (λe s1 U hc h=>?_)|refine Ae [(0,true),(1,true),(2,true),(3,true),(4,false),(5,true),(6,false),(7,false)] [1] GE ?_|with_reducible refine WF ?_)
end
theorem F5 (h:P:=by (with_reducible show ∃_,_);first|exact ⟨⟨_,_,_,_⟩,⟨hc,Rd.BF h i6,i7,i6⟩,i6,Yl,St.le_refl _⟩|exact DJ hc.y h|exact DJ hc.drop.y h|exact ⟨_,_,.inl rfl,St.le_refl _,h _ _ hc⟩|exact Fo hc h rfl|exact Fo hc h CO|exact Fo hc.drop h rfl|exact Fo hc.drop h CO|exact DJ hc h|exact DJ hc.drop h|exact DJ hc.drop.drop h|fail):P:=h
theorem LJ {A:Prop} (k:A) (h:A->P:=by intro k;(with_reducible show Ag _ _ _ _ _ _ _);first|exact hc.Fk ke k|exact Cx.Fk (hc.push _) ke k|fail):P:=h k
theorem It {A:Prop} (k:A) (h:A->P:=by intro k;(with_reducible show PC _ _ _ _);first|((with_reducible show PC 98 _ _ _);exact im hc ‹_› k)|((with_reducible show PC 98 _ _ _);exact pH hc ‹_› k)|((with_reducible show PC 137 _ _ _);exact Um hc ‹_› k)|((with_reducible show PC 137 _ _ _);exact Zg hc ‹_› k)|((with_reducible show PC 135 _ _ _);exact Uk hc k)|fail):P:=h k
theorem L1 {A:Prop} (k:A) (l:B) (h:A->B->P:=by intro k l;(with_reducible show PC _ _ _ _);first|((with_reducible show PC 98 _ _ _);exact sX hc h k l)|((with_reducible show PC 137 _ _ _);exact ry hc h k l)|fail):P:=h k l
theorem K1 {A:Prop} (k:A) (h:A->P:=by intro k;(with_reducible show PC _ _ _ _);first|((with_reducible show PC 100 _ _ _);exact P0 hc h ‹_› Do k)|((with_reducible show PC 100 _ _ _);exact P1 hc h (by first|exact Hu ‹_›|exact KZ ‹_›|omega) k)|fail):P:=h k
theorem Jv {A:Prop} (k:A) (l:B) (h:A->B->P:=by intro k l;(with_reducible show PC _ _ _ _);first|((with_reducible show PC 100 _ _ _);exact J6.go hc h k l)|((with_reducible show PC 167 _ _ _);exact cj.go hc h k l)|fail):P:=h k l
theorem fp {A:Prop} (k:A) (h:A->P:=by intro k;(with_reducible show PC _ _ _ _);first|((with_reducible show PC 191 _ _ _);exact UX hc h k)|fail):P:=h k
theorem Kq {A:Prop} (k:A) (h:A->P:=by intro k;(with_reducible show PC _ _ _ _);first|((with_reducible show PC 249 _ _ _);exact Js k)|((with_reducible show PC 241 _ _ _);exact nj k)|((with_reducible show PC 170 _ _ _);exact UW k)|((with_reducible show PC 121 _ _ _);exact aS k)|((with_reducible show PC 121 _ _ _);exact aT k)|((with_reducible show PC 121 _ _ _);exact Ua k)|((with_reducible show PC 121 _ _ _);exact aU k)|((with_reducible show PC 121 _ _ _);exact KL k)|((with_reducible show PC 190 _ _ _);exact qz k)|fail):P:=h k
theorem rZ {t:Tk} (h:H0 t=true):t.kind≠21:=(KZ h).2
theorem GC:Rd.A7 EK:=Rd.A7.look λs v s' h=>by
 split at h
 .rename_i U
  exact Rd.A7.at (λv s' e=>K0 e (rZ U)) h
 .exact Rd.A7.seq (Mg Do) s v s' h
section
variable {st0 st:St} {b d:Nat} {s:Af} {rows:List (AF×List Nd)} {K:AL->St->Prop}
attribute [local irreducible] Go.Aw.Ag
theorem kt {br:Bool} {opd:Rd Nd} (ho:Bx enc 240 (λb=>[pv b d]) opd):sE (λp own=>.Bh [.slice 6 (p.1.map Ax) own,.bool p.2]) (·.1) 189 (λb=>[pv b d,.bool br]) (HB opd br):=by
 refine ⟨λ{st0 b s st rows K} hc h=>?_⟩
 unfold HB at h
 refine pB Tryz.func189 ?_
 have hmu:=hc.mu
 repeat' ((conv=>whnf);first|(refine AG ?_;intros)|(refine AH ?_ ?_<;>intro e h)|(refine AJ ?_ ?_<;>intro _)|refine Hx (λ_=>?_) ?_|fail)
 refine Dh (λl own=>[(4,.slice 6 (l.map Ax) own)]) (λ_ _=>[]) [1,2] [0] (λl own=>(own,l)::rows) (λl=>l.length) .full (hc.push []) h la Yl ?_
 intro l s1 U own1 hc h hl hm1
 simp only [Xh,Rd.Ah,Rd.Az,Rd.wp_seq,Rd.wp_ret,Rd.A5] at h
 repeat' ((conv=>whnf);first|(refine AG ?_;intros)|(refine AH ?_ ?_<;>intro e h)|(refine AJ ?_ ?_<;>intro _)|refine Hx (λ_=>?_) ?_|fail)
 unfold T4 at h
 refine Dh (λl own=>[(4,.slice 6 (l.map Ax) own)]) (λ_ _=>[]) [1,2] [0] (λl own=>(own,l)::rows) (λl=>l.length) own1 hc h hl Yl ?_
 intro l2 s2 st2 own2 hc h hl hm2
 simp only [T3,Rd.Ah,Rd.Az,Rd.wp_seq,Rd.wp_ret,Rd.A5] at h
 cases br
 .simp only [Bool.false_eq_true,if_false] at h
  repeat' ((conv=>whnf);first|(refine AG ?_;intros)|(refine AH ?_ ?_<;>intro e h)|(refine AJ ?_ ?_<;>intro _)|refine Hx (λ_=>?_) ?_|(refine It ?_;intro U hc)|(refine L1 ?_ ?_<;>intro U hc e h)|(refine K1 ?_;intro s1 U hz hm hc h)|refine Jv (λn s1 U hr hm hc h=>?_) (λe s1 U hc h=>?_)|exact F5|refine Kq ?_|(refine LJ ?_;intro own1 U hc)|refine Ac (λe1=>?_)|refine ho.go hc h (λn s1 U hr hm hc h=>?_) (λe s1 U hc h=>?_)|refine PG.UN GC hc h (λn s1 U hr hm hc h=>?_) (λe s1 U hc h=>?_))
 .simp only [if_true] at h
  repeat' ((conv=>whnf);first|(refine AG ?_;intros)|(refine AH ?_ ?_<;>intro e h)|(refine AJ ?_ ?_<;>intro _)|refine Hx (λ_=>?_) ?_|(refine It ?_;intro U hc)|(refine L1 ?_ ?_<;>intro U hc e h)|(refine K1 ?_;intro s1 U hz hm hc h)|refine Jv (λn s1 U hr hm hc h=>?_) (λe s1 U hc h=>?_)|exact F5|refine Kq ?_|(refine LJ ?_;intro own1 U hc)|refine Ac (λe1=>?_)|refine ho.go hc h (λn s1 U hr hm hc h=>?_) (λe s1 U hc h=>?_)|refine PG.UN GC hc h (λn s1 U hr hm hc h=>?_) (λe s1 U hc h=>?_))
end
section
variable {st0 st:St} {b d:Nat} {s:Af} {rows:List (AF×List Nd)} {K:AL->St->Prop}
attribute [local irreducible] Go.Aw.Ag
theorem jm {opd:Rd Nd} (ho:Bx enc 240 (λb=>[pv b d]) opd):Bx enc 130 (λb=>[pv b d]) (N6 opd):=by
 refine ⟨λ{st0 b s st rows K} hc h=>?_⟩
 simp only [N6,Rd.wp_seq,Rd.wp_ret] at h
 refine pB Tryz.func130 ?_
 repeat' ((conv=>whnf);first|(refine AG ?_;intros)|(refine AH ?_ ?_<;>intro e h)|(refine AJ ?_ ?_<;>intro _)|exact F5|refine Kq ?_|refine Ac (λe1=>?_)|refine sE.go (kt ho) hc h (λn own1 s1 U hr hm hc h=>?_) (λe s1 U hc h=>?_))
theorem k7 {U:∀s v s',A s=.inr (v,s')->mu s'<=mu s} (hB:C5 A) (hc:Cx st0 b s st rows) (h:Rd.wp (V6 A U) s (λv s'=>∀st',Cx st0 b s' st' rows->K (.ret (enc v)) st') (λe s'=>∀st',Cy st0 b s' st' rows->K (.Cz (fault e.1)) st')):Gu st b K (A s):=by
 cases hq:A s with
 |inl p=>
  obtain ⟨e,s'⟩:=p
  unfold Rd.wp at h
  rw [Re hB hq] at h
  exact λst' hu=>h st' (hc.um hu)
 |inr p=>
  obtain ⟨n,s'⟩:=p
  unfold Rd.wp at h
  rw [PF hq] at h
  exact λst' hu=>h st' (hc.RP hu (U _ _ _ hq))
theorem nk {A:Rd Nd} (hd:d<=1000000) (h0:d=0->A=.fail E9) (hc:Cx st0 b s st rows)
 (h:Rd.wp A s (λv s'=>∀st',Cx st0 b s' st' rows->K (.ret (enc v)) st') (λe s'=>∀st',Cy st0 b s' st' rows->K (.Cz (fault e.1)) st'))
 (hg:d≠0->∀K:AL->St->Prop,Rd.wp A s (λv s'=>∀st',Cx st0 b s' st' rows->K (.ret (enc v)) st') (λe s'=>∀st',Cy st0 b s' st' rows->K (.Cz (fault e.1)) st')->PC g [pv b d] st K):
 PC 120 [pv b (d+1),.func g [] []] st K:=by
 refine pB Tryz.func120 ?_
 by_cases hz:d=0
 .have U:((d+1:Nat):Int)<2:=AC
  rw [h0 hz,Rd.BK] at h
  repeat' ((conv=>whnf);first|(refine AG ?_;intros)|(refine AH ?_ ?_<;>intro e h)|(refine AJ ?_ ?_<;>intro _)|refine FI ?_|exact DJ hc.y h)
 .have U:¬((d+1:Nat):Int)<2:=AC
  repeat' ((conv=>whnf);first|refine Bn hd ?_|(refine AG ?_;intros)|(refine AH ?_ ?_<;>intro e h)|(refine AJ ?_ ?_<;>intro _)|refine hg hz _ (Rd.wp_mono h (λv s1 hr h st1 hc=>?_) (λe s1 hr h st1 hc=>?_))|refine FI ?_|exact F5|refine Ac (λe1=>?_))
theorem Pw {c:Nat} {A:Rd Nd} (hd:d<=1000000) (h0:d=0->A=.fail E9) (hc:Cx st0 b s st rows)
 (h:Rd.wp A s (λv s'=>∀st',Cx st0 b s' st' rows->K (.ret (enc v)) st') (λe s'=>∀st',Cy st0 b s' st' rows->K (.Cz (fault e.1)) st'))
 (hg:d≠0->∀K:AL->St->Prop,Rd.wp A s (λv s'=>∀st',Cx st0 b s' st' rows->K (.ret (enc v)) st') (λe s'=>∀st',Cy st0 b s' st' rows->K (.Cz (fault e.1)) st')->PC g [pv b d,.ptr c 0] st K):
 PC 120 [pv b (d+1),.func g [] [.ptr c 0]] st K:=by
 refine pB Tryz.func120 ?_
 by_cases hz:d=0
 .have U:((d+1:Nat):Int)<2:=AC
  rw [h0 hz,Rd.BK] at h
  repeat' ((conv=>whnf);first|(refine AG ?_;intros)|(refine AH ?_ ?_<;>intro e h)|(refine AJ ?_ ?_<;>intro _)|refine FI ?_|exact DJ hc.y h)
 .have U:¬((d+1:Nat):Int)<2:=AC
  repeat' ((conv=>whnf);first|refine Bn hd ?_|(refine AG ?_;intros)|(refine AH ?_ ?_<;>intro e h)|(refine AJ ?_ ?_<;>intro _)|refine hg hz _ (Rd.wp_mono h (λv s1 hr h st1 hc=>?_) (λe s1 hr h st1 hc=>?_))|refine FI ?_|exact F5|refine Ac (λe1=>?_))
theorem Eo {A:Rd Nd} (hd:d<=1000000) (U:d=0->A=.fail E9) (hg:d≠0->Bx enc g (λb=>[pv b d]) A):Bx enc 120 (λb=>[pv b (d+1),.func g [] []]) A:=by
 refine ⟨λ{st0 b s st rows K} hc h=>?_⟩
 exact nk hd U hc h λhz K h=>(hg hz).ap hc h
end
section
variable {st0 st:St} {b d:Nat} {s:Af} {rows:List (AF×List Nd)} {K:AL->St->Prop}
attribute [local irreducible] Go.Aw.Ag
theorem YI (U:d+1<=100):F6 14 ((d+1:Nat):Int) (EA (Cp (DL (d+1 - 1)))):=by
 have:=sS (deep:=((d+1:Nat):Int))
 have e:B7 ((d+1:Nat):Int) - 1=d+1 - 1:=by unfold B7;split<;>omega
 rw [e] at this;exact this
theorem av (hd:d+1<=100):Bx enc 203 (λb=>[pv b (d+1)]) (D6 (d+1)):=by
 refine ⟨λ{st0 b s st rows K} hc h=>?_⟩
 have hB:C5 (EA (Cp (DL (d+1 - 1)))):=Sg (FW (Du _))
 have hi:∀{K:AL->St->Prop},Rd.wp (D6 (d+1)) s (λv s'=>∀st',Cx st0 b s' st' rows->K (.ret (enc v)) st') (λe s'=>∀st',Cy st0 b s' st' rows->K (.Cz (fault e.1)) st')->
  PC 254 [.ptr b 0,.func 14 [] [],.int .i64 ((d+1:Nat):Int)] st K:=λh=>
  TQ (d:=d+1) rfl (YI hd) (λe=>by omega) hB hc.mu hc.has (k7 hB hc h)
 refine pB Tryz.func203 ?_
 repeat' ((conv=>whnf);first|(refine AG ?_;intros)|(refine AH ?_ ?_<;>intro e h)|(refine AJ ?_ ?_<;>intro _)|refine hi (Rd.wp_mono h (λv s1 hr h U hc=>?_) (λe s1 hr h U hc=>?_))|exact F5|refine Ac (λe1=>?_))
theorem XT {full:Rd Nd} (hf:Bx enc 203 (λb=>[pv b d]) full):Bx enc 147 (λb=>[pv b d,enc n]) (IL full n):=by
 refine ⟨λ{st0 b s st rows K} hc h=>?_⟩
 simp only [IL,Rd.Ah,Rd.Az,Rd.wp_seq,Rd.wp_ret] at h
 refine pB Tryz.func147 ?_
 repeat' ((conv=>whnf);first|exact Dk|(refine AG ?_;intros)|(refine Dl ?_ ?_ ?_;rotate_left)|(refine AH ?_ ?_<;>intro e h)|(refine AJ ?_ ?_<;>intro _)|(refine It ?_;intro U hc)|(refine L1 ?_ ?_<;>intro U hc e h)|(refine K1 ?_;intro s1 U hz hm hc h)|refine Jv (λn s1 U hr hm hc h=>?_) (λe s1 U hc h=>?_)|exact F5|refine Kq ?_|refine Ac (λe1=>?_)|refine Bx.go hf hc h (λn s1 U hr hm hc h=>?_) (λe s1 U hc h=>?_)|refine Ae [(0,true),(1,true),(2,true),(4,true),(3,false),(5,false),(6,true),(7,false),(8,false)] [2] GE ?_|with_reducible refine WF ?_)
theorem qB {opd full:Rd Nd} (ho:Bx enc 240 (λb=>[pv b d]) opd) (hf:Bx enc 203 (λb=>[pv b d]) full):Bx enc 80 (λb=>[pv b d]) (Yx opd full):=by
 refine ⟨λ{st0 b s st rows K} hc h=>?_⟩
 simp only [Yx,Rd.wp_seq] at h
 refine pB Tryz.func80 ?_
 repeat' ((conv=>whnf);first|exact Dk|(refine AG ?_;intros)|(refine Dl ?_ ?_ ?_;rotate_left)|(refine AH ?_ ?_<;>intro e h)|(refine AJ ?_ ?_<;>intro _)|exact F5|refine Ac (λe1=>?_)|refine Bx.go (jm ho) hc h (λn s1 U hr hm hc h=>?_) (λe s1 U hc h=>?_)|refine Bx.go (XT hf) hc h (λn s1 U hr hm hc h=>?_) (λe s1 U hc h=>?_)|refine Ae [(0,true),(1,true),(2,false),(3,false),(4,false)] [1] GE ?_|with_reducible refine WF ?_)
theorem VO {L:C8} {lt bl:Nd} (he:Bx enc 120 (λb=>[pv b d,.func 80 [] []]) L.exp):Bx enc 122 (λb=>[pv b d,enc lt,enc bl]) (HL L lt bl):=by
 refine ⟨λ{st0 b s st rows K} hc h=>?_⟩
 simp only [HL,Rd.wp_seq,Rd.wp_ret] at h
 refine pB Tryz.func122 ?_
 repeat' ((conv=>whnf);first|exact Dk|(refine AG ?_;intros)|(refine Dl ?_ ?_ ?_;rotate_left)|(refine AH ?_ ?_<;>intro e h)|(refine AJ ?_ ?_<;>intro _)|refine Jv (λn s1 U hr hm hc h=>?_) (λe s1 U hc h=>?_)|exact F5|refine Kq ?_|refine Ac (λe1=>?_)|refine Bx.go he hc h (λn s1 U hr hm hc h=>?_) (λe s1 U hc h=>?_)|refine Ae [(0,true),(1,true),(2,true),(3,true),(4,false),(5,true),(6,false),(7,false)] [3] GE ?_|with_reducible refine WF ?_)
theorem bj {L:C8} (he:Bx enc 120 (λb=>[pv b d,.func 80 [] []]) L.exp):ph 335 (λb v=>[pv b d,v,.str w]) (λl=>Nh L l w):=by
 refine ⟨λ{st0 b s st rows K own l} hl hc h=>?_⟩
 simp only [Nh,OU,Rd.Ah,Rd.Az,Rd.wp_seq,Rd.wp_ret] at h
 refine pB Tryz.func335 ?_
 have hmu:=hc.mu
 rcases hc.has with hs|⟨t,u,o1,o2,e0,hs⟩
 .skip
  repeat' ((conv=>whnf);first|(refine AG ?_;intros)|(refine AH ?_ ?_<;>intro e h)|(refine AJ ?_ ?_<;>intro _)|refine Hx (λ_=>?_) ?_|refine AB hs ?_|(refine It ?_;intro U hc)|(refine L1 ?_ ?_<;>intro U hc e h)|refine Jv (λn s1 U hr hm hc h=>?_) (λe s1 U hc h=>?_)|exact F5|(refine LJ ?_;intro own1 U hc)|refine Ac (λe1=>?_)|refine Uv ?_|refine bY hc h (Ip ‹_›) (λs1 U hm hc h=>?_)|refine MY hc hmu (λU hc=>?_)|refine Bx.go he hc h (λn s1 U hr hm hc h=>?_) (λe s1 U hc h=>?_))
 .skip
  repeat' ((conv=>whnf);first|(refine AG ?_;intros)|(refine AH ?_ ?_<;>intro e h)|(refine AJ ?_ ?_<;>intro _)|refine Hx (λ_=>?_) ?_|refine AB hs ?_|(refine It ?_;intro U hc)|(refine L1 ?_ ?_<;>intro U hc e h)|refine Jv (λn s1 U hr hm hc h=>?_) (λe s1 U hc h=>?_)|exact F5|(refine LJ ?_;intro own1 U hc)|refine Ac (λe1=>?_)|refine Uv ?_|refine bY hc h (Ip ‹_›) (λs1 U hm hc h=>?_)|refine MY hc hmu (λU hc=>?_)|refine Bx.go he hc h (λn s1 U hr hm hc h=>?_) (λe s1 U hc h=>?_))
theorem Lf {p:FuncId} {A:Rd Nd} {may:Nd->Bool} (hg:Bx enc g (λb=>[pv b d]) A) (hp:∀{s s' n} {st:St} {K:AL->St->Prop},A.run s=.inr (n,s')->mu s<=100000000->K (.ret (.bool (may n))) st->PC p [enc n] st K):
 Bx enc 196 (λb=>[pv b d,.func g [] [],.func p [] []]) (CA A may):=by
 refine ⟨λ{st0 b s st rows K} hc h=>?_⟩
 simp only [CA,Rd.Ah,Rd.Az,Rd.wp_seq,Rd.wp_ret,Rd.GO] at h
 refine pB Tryz.func196 ?_
 have hmu:=hc.mu
 rcases hc.has with hs|⟨t,u,o1,o2,e0,hs⟩
 .skip
  repeat' ((conv=>whnf);first|(refine AG ?_;intros)|(refine AH ?_ ?_<;>intro e h)|(refine AJ ?_ ?_<;>intro _)|refine AB hs ?_|refine FI ?_|exact F5|refine Ac (λe1=>?_)|refine MY hc hmu (λU hc=>?_)|refine Bx.go hg hc h (λn s1 U hr hm hc h=>?_) (λe s1 U hc h=>?_)|refine hp hr hmu ?_)
 .skip
  repeat' ((conv=>whnf);first|(refine AG ?_;intros)|(refine AH ?_ ?_<;>intro e h)|(refine AJ ?_ ?_<;>intro _)|refine AB hs ?_|refine FI ?_|exact F5|refine Ac (λe1=>?_)|refine MY hc hmu (λU hc=>?_)|refine Bx.go hg hc h (λn s1 U hr hm hc h=>?_) (λe s1 U hc h=>?_)|refine hp hr hmu ?_)
end
structure L0 (D:Nat) (L:C8):Prop where
 atom:Bx enc 120 (λb=>[pv b D,.func 202 [] []]) L.atom
 exp:Bx enc 120 (λb=>[pv b D,.func 80 [] []]) L.exp
 ops:Bx enc 120 (λb=>[pv b D,.func 130 [] []]) L.ops
 decls:Bx enc 120 (λb=>[pv b D,.func 56 [] []]) L.decls
 stmts:Bx enc 120 (λb=>[pv b D,.func 78 [] []]) L.stmts
 alts:Bx enc 120 (λb=>[pv b D,.func 79 [] []]) L.alts
 DT:∀{o:Nd} {c:Nat} {st0:St} {b:Nat} {s:Af} {st:St} {rows:List (AF×List Nd)} {K:AL->St->Prop},st.box c=some (Ax o)->Cx st0 b s st rows->
  Rd.wp (L.DT o) s (λv s'=>∀st',Cx st0 b s' st' rows->K (.ret (enc v)) st') (λe s'=>∀st',Cy st0 b s' st' rows->K (.Cz (fault e.1)) st')->PC 120 [pv b D,.func 339 [] [.ptr c 0]] st K
 list:∀{o:Nd} {c:Nat} {st0:St} {b:Nat} {s:Af} {st:St} {rows:List (AF×List Nd)} {K:AL->St->Prop},st.box c=some (Ax o)->Cx st0 b s st rows->
  Rd.wp (L.list o) s (λv s'=>∀st',Cx st0 b s' st' rows->K (.ret (enc v)) st') (λe s'=>∀st',Cy st0 b s' st' rows->K (.Cz (fault e.1)) st')->PC 120 [pv b D,.func 341 [] [.ptr c 0]] st K
theorem pI (h:n.kids.length=0):Ii n=true:=by
 unfold Ii;rw [List.length_eq_zero_iff.1 h];rfl
theorem aG {x:Nd} (h:n.kids[((n.kids.length:Nat) - 1:Int).toNat]? =some x):n.kids.getLast? =some x:=by
 rw [List.getLast?_eq_getElem?,<-h];congr 1;omega
theorem pJ {x:Nd} (h:n.kids[((n.kids.length:Nat) - 1:Int).toNat]? =some x) (k:x.kind=32\/x.kind=33):Ii n=true:=by
 unfold Ii;rw [aG h];simpa using k
theorem pK {x:Nd} (h:n.kids[((n.kids.length:Nat) - 1:Int).toNat]? =some x) (k:¬x.kind=32) (U:¬x.kind=33):¬Ii n=true:=by
 unfold Ii;rw [aG h];simp [k,U]
theorem B4 {m:Rd α} {k:α->Rd β} {s s':Af} {v:β} (h:(Rd.seq m k).run s=.inr (v,s')):∃a s1,m.run s=.inr (a,s1)/\(k a).run s1=.inr (v,s'):=by
 unfold Rd.seq at h
 dsimp only at h
 split at h
 .cases h
 .exact ⟨_,_,‹_›,h⟩
theorem jn {L:C8} {b:Nd} {s s':Af} {n:Nat} (h:(Nh L [a,b] w).run s=.inr (l,s')) (U:n<=100000000):l.length<=90000000:=by
 unfold Nh at h
 obtain ⟨_,_,_,h⟩:=B4 h
 obtain ⟨_,_,_,h⟩:=B4 h
 obtain ⟨_,_,_,h⟩:=B4 h
 cases h
 exact Nat.le_of_ble_eq_true rfl
section
variable {st0 st:St} {b d:Nat} {s:Af} {rows:List (AF×List Nd)} {K:AL->St->Prop} {L:C8} {atom:Rd Nd}
attribute [local irreducible] Go.Aw.Ag
theorem cH (hL:L0 d L):Bx enc 292 (λb=>[pv b d]) (JC L):=by
 refine ⟨λ{st0 b s st rows K} hc h=>?_⟩
 simp only [JC,Rd.wp_seq,Rd.wp_ret] at h
 have hmu:=hc.mu
 refine pB Tryz.func292 ?_
 repeat' ((conv=>whnf);first|exact Dk|(refine AG ?_;intros)|(refine Dl ?_ ?_ ?_;rotate_left)|(refine AH ?_ ?_<;>intro e h)|(refine AJ ?_ ?_<;>intro _)|(refine K1 ?_;intro s1 U hz hm hc h)|refine Jv (λn s1 U hr hm hc h=>?_) (λe s1 U hc h=>?_)|exact F5|refine Kq ?_|refine Ac (λe1=>?_)|refine Bx.go hL.exp hc h (λn s1 U hr hm hc h=>?_) (λe s1 U hc h=>?_)|refine ph.go (l:=[_,_]) (bj hL.exp) (Nat.le_of_ble_eq_true rfl) (hc.push _) h (λl own1 s1 U hr hm hc h=>?_) (λe s1 U hc h=>?_)|refine ph.go (bj hL.exp) (jn hr hmu) hc h (λl own1 s1 U hr hm hc h=>?_) (λe s1 U hc h=>?_)|refine Ae [(0,true),(1,true),(3,true),(2,false),(4,false),(5,true),(6,true)] [] GE ?_|refine Ae [(0,true),(1,true),(2,true),(3,false),(4,false),(5,false),(6,false)] [1] GE ?_|with_reducible refine WF ?_)
theorem kY (hL:L0 d L):Bx enc 293 (λb=>[pv b d]) (Mw L):=by
 refine ⟨λ{st0 b s st rows K} hc h=>?_⟩
 simp only [Mw,Rd.wp_seq,Rd.wp_ret,Rd.Az,Rd.BK] at h
 refine pB Tryz.func293 ?_
 repeat' ((conv=>whnf);first|(refine AG ?_;intros)|(refine AH ?_ ?_<;>intro e h)|(refine AJ ?_ ?_<;>intro _)|(refine K1 ?_;intro s1 U hz hm hc h)|refine Jv (λn s1 U hr hm hc h=>?_) (λe s1 U hc h=>?_)|refine FI ?_|exact F5|refine Kq ?_|refine Bj (λ_=>?_)|refine Ac (λe1=>?_)|refine Bx.go hL.stmts hc h (λn s1 U hr hm hc h=>?_) (λe s1 U hc h=>?_))
 all_goals conv=>whnf
 all_goals first
  |(rw [if_pos (pI AC)] at h;exact DJ hc.y h)
  |(rw [if_pos (pJ ‹_› AC)] at h;exact DJ hc.y h)
  |(rw [if_neg (pK ‹_› AC AC)] at h;exact Fo hc h rfl)
end
section
variable {st0 st:St} {b d:Nat} {s:Af} {rows:List (AF×List Nd)} {K:AL->St->Prop} {L:C8} {atom:Rd Nd}
attribute [local irreducible] Go.Aw.Ag
theorem gW (U:Bx enc 202 (λb=>[pv b d]) atom):Bx enc 196 (λb=>[pv b d,.func 202 [] [],.func 124 [] []]) (CA atom G4):=
 Lf U λ_ _ k=>TR k
theorem TI {A:Rd Nd} (h:Rd.A7 A):Rd.A7 (CA A p):=Rd.A7.look λs v s' e=>Rd.A7.at (h _) e
theorem dn (hL:L0 d L) (ha:Bx enc 202 (λb=>[pv b d]) atom) (hF:Rd.A7 atom):Bx enc 291 (λb=>[pv b d]) (JP L atom):=by
 refine ⟨λ{st0 b s st rows K} hc h=>?_⟩
 simp only [JP,Rd.wp_seq,Rd.wp_ret] at h
 refine pB Tryz.func291 ?_
 have hmu:=hc.mu
 repeat' ((conv=>whnf);first|(refine AG ?_;intros)|(refine AH ?_ ?_<;>intro e h)|(refine AJ ?_ ?_<;>intro _)|(refine It ?_;intro U hc)|(refine K1 ?_;intro s1 U hz hm hc h)|refine Jv (λn s1 U hr hm hc h=>?_) (λe s1 U hc h=>?_)|exact F5|refine Kq ?_|(refine LJ ?_;intro own1 U hc)|refine Bj (λ_=>?_)|refine Ac (λe1=>?_))
 refine Dh (λl own=>[(3,.slice 6 (l.map Ax) own)]) (λ_ _=>[]) [1,2] [0,1] (λl own=>(own,l)::rows) (λl=>l.length) .full (hc.push _) h (by show 1+_<=_;omega) Yl ?_
 intro l s1 U own1 hc h hl hm1
 simp only [Lh,JQ,Rd.Ah,Rd.Az,Rd.wp_seq,Rd.wp_ret,Rd.A5] at h
 repeat' ((conv=>whnf);first|(refine AG ?_;intros)|(refine AH ?_ ?_<;>intro e h)|(refine AJ ?_ ?_<;>intro _)|(refine It ?_;intro U hc)|(refine K1 ?_;intro s1 U hz hm hc h)|refine Jv (λn s1 U hr hm hc h=>?_) (λe s1 U hc h=>?_)|exact F5|refine Kq ?_|(refine LJ ?_;intro own1 U hc)|refine Bj (λ_=>?_)|refine Ac (λe1=>?_)|refine Bx.UN (gW ha) (TI hF) hc h (λn s1 U hr hm hc h=>?_) (λe s1 U hc h=>?_)|refine Bx.go hL.exp hc h (λn s1 U hr hm hc h=>?_) (λe s1 U hc h=>?_))
theorem Zc (hL:L0 d L) (ha:Bx enc 202 (λb=>[pv b d]) atom) (hF:Rd.A7 atom):Bx enc 240 (λb=>[pv b d]) (HR L atom):=by
 refine ⟨λ{st0 b s st rows K} hc h=>?_⟩
 simp only [HR,L5,dq,Sj,Rd.Ah,Rd.Az,Rd.wp_seq,Rd.wp_ret] at h
 refine pB Tryz.func240 ?_
 have hmu:=hc.mu
 repeat' ((conv=>whnf);first|exact Dk|(refine AG ?_;intros)|(refine Dl ?_ ?_ ?_;rotate_left)|(refine AH ?_ ?_<;>intro e h)|(refine AJ ?_ ?_<;>intro _)|(refine It ?_;intro U hc)|(refine K1 ?_;intro s1 U hz hm hc h)|refine Jv (λn s1 U hr hm hc h=>?_) (λe s1 U hc h=>?_)|exact F5|refine Kq ?_|(refine LJ ?_;intro own1 U hc)|refine Ac (λe1=>?_)|refine Bx.go (dn hL ha hF) hc h (λn s1 U hr hm hc h=>?_) (λe s1 U hc h=>?_)|refine Bx.go (cH hL) hc h (λn s1 U hr hm hc h=>?_) (λe s1 U hc h=>?_)|refine Bx.go (kY hL) hc h (λn s1 U hr hm hc h=>?_) (λe s1 U hc h=>?_)|refine Bx.go hL.decls hc h (λn s1 U hr hm hc h=>?_) (λe s1 U hc h=>?_)|refine Bx.go (VO hL.exp) hc h (λn s1 U hr hm hc h=>?_) (λe s1 U hc h=>?_)|refine Bx.go hL.exp hc h (λn s1 U hr hm hc h=>?_) (λe s1 U hc h=>?_)|refine Bx.go hL.alts hc h (λn s1 U hr hm hc h=>?_) (λe s1 U hc h=>?_)|refine Bx.go ha hc h (λn s1 U hr hm hc h=>?_) (λe s1 U hc h=>?_)|refine Cx.Fk (l:=[_,_,_]) (hc.push _) (Nat.le_of_ble_eq_true rfl) (λown1 U hc=>?_)|refine Ae [(0,true),(1,true),(2,true),(4,true),(3,false),(5,false),(6,false),(7,false)] [1] GE ?_|refine Ae [(0,true),(1,true),(3,true),(5,true),(6,true),(2,false),(4,false),(7,false),(8,true),(9,true)] [] GE ?_|with_reducible refine WF ?_)
 all_goals refine Dh (λl own=>[(5,.slice 6 (l.map Ax) own)]) (λ_ _=>[]) [1,2] [0,1] (λl own=>(own,l)::rows) (λl=>l.length) .full (hc.push _) h (by show 1+_<=_;omega) Yl ?_
 all_goals intro l s1 U own1 hc h hl hm1
 all_goals simp only [L4,Rd.Ah,Rd.Az,Rd.wp_seq,Rd.wp_ret,Rd.A5] at h
 all_goals (repeat' ((conv=>whnf);first|exact Dk|(refine AG ?_;intros)|(refine Dl ?_ ?_ ?_;rotate_left)|(refine AH ?_ ?_<;>intro e h)|(refine AJ ?_ ?_<;>intro _)|(refine It ?_;intro U hc)|(refine K1 ?_;intro s1 U hz hm hc h)|refine Jv (λn s1 U hr hm hc h=>?_) (λe s1 U hc h=>?_)|exact F5|refine Kq ?_|(refine LJ ?_;intro own1 U hc)|refine Ac (λe1=>?_)|refine Bx.UN ha hF hc h (λn s1 U hr hm hc h=>?_) (λe s1 U hc h=>?_)|with_reducible refine WF ?_))
end
end Go.Proofs.Z
namespace Go.Aw
open Go
def St.MR (st:St) (b:Nat):St:={st with box:=λx=>if x=b then none else st.box x}
theorem BX.of_flat {I:Mem} {sz:Nat}:∀{es:List (List V)} {vs:List Value},(∀e ∈ es,e.length=sz)->Aj I es.flatten vs->BX I sz es vs
 |[],vs,_,h=>by simpa only [List.flatten_nil,Aj,BX] using h
 |e::r,vs,hl,h=>by
  rw [List.flatten_cons] at h
  have U:=Aj.take e.length h
  have h2:=Aj.drop e.length h
  rw [List.take_left' rfl] at U
  rw [List.drop_left' rfl] at h2
  simp only [BX]
  exact ⟨_,_,(List.take_append_drop e.length vs).symm,hl e List.mem_cons_self,U,BX.of_flat (λx hx=>hl x (List.mem_cons_of_mem _ hx)) h2⟩
section
variable {P:Program} {D:List Deferred} {I0 I:Mem} {st0 st:St} {w0 w:World} {β:Nat->Option Nat} {env:Env} {a:Act}
theorem Rel.freeze (h:Rel D I0 st0 w0 I β env st a w) {b:Nat} {cs:List V} (hb:st.box b=some cs):
 ∃vs:List Value,Aj I cs vs/\I.le (I.add b 0 vs vs.length)/\Rel D I0 st0 w0 (I.add b 0 vs vs.length) β env (st.MR b) a w:=by
 obtain ⟨vs,ty,hw,hv⟩:=h.s.box b cs hb
 obtain ⟨i1,i2,i3⟩:=h.s.JB b (by rw [hb];simp)
 have hl:I.le (I.add b 0 vs vs.length):=Mem.QU (λo _=>i1 o) (.inl i3)
 have hd:=h.fr.Mb b (.inl (by rw [hb];simp))
 have nb:∀x,(st.MR b).box x≠none->x≠b/\st.box x≠none:=λx e=>by
  by_cases U:x=b
  .subst U;exact absurd (if_pos rfl) e
  .refine ⟨U,?_⟩
   have e':(if x=b then none else st.box x)≠none:=e
   rwa [if_neg U] at e'
 refine ⟨vs,hv,hl,⟨⟨h.fr.os,h.fr.tape,h.fr.output,h.fr.size,h.fr.Mq,Mem.le_trans h.fr.le hl,?_,?_,λx e=>h.fr.Mb x (e.imp (λe=>(nb x e).2) id)⟩,⟨?_,?_,?_,?_,?_,TO hl.1 hl.2 h.s.UF⟩,Is.mem h.f hl ?_⟩⟩
 .intro x o h1 h2
  by_cases e:x=b
  .subst e;exact hd
  .exact h.fr.new x o h1 (by simpa [Mem.add,e] using h2)
 .intro x h1 h2
  by_cases e:x=b
  .subst e;exact hd
  .exact h.fr.Mo x h1 (by simpa [Mem.add,e] using h2)
 .intro x o v e
  simp only [Mem.add] at e
  split at e
  .rename_i U
   obtain ⟨rfl,h1,h2⟩:=U
   simp only [World.cell?,hw,Option.isSome_none,Bool.false_eq_true,if_false,List.getElem?_toArray]
   exact e
  .exact h.s.cell x o v e
 .intro x n e
  simp only [Mem.add] at e
  split at e
  .rename_i U;subst U;injection e with e;subst e;exact ⟨_,ty,hw,GT⟩
  .exact h.s.shape x n e
 .intro x c e
  have U:=(nb x (by rw [e];simp)).1
  have e':st.box x=some c:=by
   have:(if x=b then none else st.box x)=some c:=e
   rwa [if_neg U] at this
  obtain ⟨us,ty',h1,h2⟩:=h.s.box x c e'
  exact ⟨us,ty',h1,Aj.mono hl _ _ h2⟩
 .intro x e
  obtain ⟨U,e'⟩:=nb x e
  obtain ⟨h1,h2,h3⟩:=h.s.JB x e'
  exact ⟨λo=>by simp [Mem.add,U,h1 o],h2,by simp [Mem.add,U,h3]⟩
 .intro x n e
  have U:x≠b:=λU=>by subst U;rw [show (st.MR x).hw x=st.hw x from rfl,i2] at e;cases e
  exact ⟨(h.s.hw x n e).1,λo ho=>by simp only [Mem.add];rw [if_neg (by simp [U])];exact (h.s.hw x n e).2 o ho⟩
 .intro id x e
  obtain ⟨h1,h2,h3,h4,h5,h6⟩:=h.f.sep id x e
  have U:x≠b:=λU=>by subst U;rw [hb] at h5;cases h5
  exact ⟨λo=>by simp [Mem.add,U,h3 o],by simp [Mem.add,U,h4],by show (if x=b then none else st.box x)=none;rw [if_neg U];exact h5,h6⟩
theorem Zm {b sz n cap:Nat} {rest:List V} {vs:List Value} (hv:Aj I (es.flatten++rest) vs) (hl:I.le (I.add b 0 vs vs.length)) (hz:∀e ∈ es,e.length=sz) (hn:es.length=n) {c:Value} (h:AE I (.DM sz b n cap) c):
 AE (I.add b 0 vs vs.length) (.slice sz es .any) c:=by
 simp only [AE] at h |-
 obtain ⟨rfl,h1,h2,h3⟩:=h
 subst hn
 refine ⟨_,cap,rfl,h1,h2,h3,trivial,.inr rfl,?_⟩
 have U:=Aj.take es.flatten.length hv
 rw [List.take_left' rfl] at U
 refine Co.add es _ 0 (BX.of_flat hz U) hl λj c e=>?_
 rw [Nat.zero_add]
 have e':vs[j]? =some c:=by
  rw [List.getElem?_take] at e
  split at e
  .exact e
  .cases e
 have:=Mem.Tn (I:=I) (b:=b) (h:=0) (n:=vs.length) e'
 rwa [Nat.zero_add] at this
inductive qd (o n:V):V->V->Prop
 |same (v:V):qd o n v v
 |here:qd o n o n
inductive X6 (o n:V):List V->List V->Prop
 |nil:X6 o n [] []
 |cons {v v':V} {l l':List V}:qd o n v v'->X6 o n l l'->X6 o n (v::l) (v'::l')
theorem qd.rep {J:Mem} {o n v U:V} (h:qd o n v U) (hl:I.le J) (k:∀c,AE I o c->AE J n c) {c:Value} (r:AE I v c):AE J U c:=by
 cases h with
 |same=>exact AE.mono hl _ _ r
 |here=>exact k c r
theorem X6.rep {J:Mem} {o n:V}:∀{l l':List V} {vs:List Value},X6 o n l l'->I.le J->(∀c,AE I o c->AE J n c)->Aj I l vs->Aj J l' vs
 |_,_,vs,.nil,U,k,r=>by simpa only [Aj] using r
 |_,_,vs,.cons h1 h2,U,k,r=>by
  simp only [Aj] at r |-
  obtain ⟨c,s,rfl,r1,r2⟩:=r
  exact ⟨c,s,rfl,h1.rep U k r1,h2.rep U k r2⟩
inductive cp (o n:V):AL->AL->Prop
 |val {v v':V}:qd o n v v'->cp o n (.ret v) (.ret v')
 |agg {l l':List V}:X6 o n l l'->cp o n (.ret (.agg l)) (.ret (.agg l'))
 |Bh {l l':List V}:X6 o n l l'->cp o n (.ret (.Bh l)) (.ret (.Bh l'))
theorem cp.rep {J:Mem} {o n:V} {r r':AL} (h:cp o n r r') (hl:I.le J) (k:∀c,AE I o c->AE J n c) {e:Ending} (m:W6 I e r):W6 J e r':=by
 cases e with
 |returned c=>
  cases h with
  |val h=>exact qd.rep h hl k m
  |agg h=>have U:AE I _ c:=m;simp only [AE] at U;obtain ⟨vs,e,m3⟩:=U;show AE J _ _;simp only [AE];exact ⟨vs,e,h.rep hl k m3⟩
  |Bh h=>have U:AE I _ c:=m;simp only [AE] at U;obtain ⟨vs,e,m3⟩:=U;show AE J _ _;simp only [AE];exact ⟨vs,e,h.rep hl k m3⟩
 |panicked chain=>cases h<;>exact m.elim
 |outgrown=>cases h<;>exact m.elim
theorem Bc.freeze {f:FuncId} {args:List V} {R R':AL->St->Prop} (h:Bc P f args st R')
 (k:∀r s,R' r s->R r s\/∃b sz n cap es rest r',s.box b=some (es.flatten++rest)/\(∀e ∈ es,e.length=sz)/\es.length=n/\cp (.DM sz b n cap) (.slice sz es .any) r r'/\R r' (s.MR b)):Bc P f args st R:=by
 refine ⟨λI w U hs ha=>(h.a I w U hs ha).mono ?_,h.b⟩
 rintro e w' ⟨I',st',r,k1,k2,k3,k4⟩
 rcases k r st' k4 with k4|⟨b,sz,n,cap,es,rest,r',g1,g2,g3,g4,g5⟩
 .exact ⟨I',st',r,k1,k2,k3,k4⟩
 have hr:Rel [] I st w I' (λ_=>none) {tmps:=[],boxes:=[],BI:=0,sz:=0,gl:=[]} st' {tmps:=#[],defers:=[]} w':=
  ⟨k1,k2,⟨rfl,λt v e=>(by cases e),λid cs e=>(by cases e),λid b e=>(by cases e),λi j b e=>(by cases e),λid b e=>(by cases e),rfl⟩⟩
 obtain ⟨vs,hv,hl,hr'⟩:=hr.freeze g1
 exact ⟨_,_,r',hr'.fr,hr'.s,g4.rep hl (λc hc=>Zm hv hl g2 g3 hc) k3,g5⟩
theorem ZQ {c:Code} {env':Env} {st st':St} (h:AW P c Q env' st') (U:env'.C7 env) (hs:St.le st' st):AW P c Q env st:=
 λD I0 st0 w0 I β a w hr=>h D I0 st0 w0 I _ a w ((hr.Ke (Env.Kf U)).IK hs)
theorem ZP {c:Code} {st st':St} (e:st'=st) (h:AW P c Q env st'):AW P c Q env st:=e ▸ h
theorem Pj {x y:Code} {st:St} (E:α->Env) (S:α->St) (J:α->Prop) (hy:∀p,J p->AW P y Q (E p) (S p))
 (hx:AW P x (Bp (λenv' st'=>∃p,J p/\(E p).C7 env'/\St.le (S p) st') Q) env st):AW P (.seq x y) Q env st:=
 Ak (ZO hx λe env st h=>by
  cases e with
  |normal=>obtain ⟨p,U,h2,h3⟩:=h;exact ZQ (hy p U) h2 h3
  |exit i=>exact h
  |goto i=>exact h
  |ret=>exact h
  |Cz v=>exact h)
theorem Bu {T : List (Nat × Ty)} (hP : UP P T) {fn : Func} (gl : List Nat) (hf : P.funcs[f]? = some fn) {c : Code} (hb : fn.body = some c) (hn : (fn.name == "runtime.NumGoroutine") = false) (hle : Nat.ble args.length fn.ntmps = true)
 (h:AW P c (bH T fn (Ends R)) {tmps:=J9 0 args,boxes:=[],BI:=0,sz:=fn.ntmps,gl} st):Bc P f args st R:=by
 refine ⟨?_,fn,hf,by rw [hb];rfl,hn⟩
 intro I w cargs hs hargs
 refine calls_of_wp hf hb ?_
 refine wp_mono (h [] I st w I _ _ w (Hw gl hs hargs hle)) ?_
 rintro e a w' ⟨I1,β1,env1,st1,ae,h1,h2,h3⟩
 have hret:(Gd T env1 st1 fn.results.toList λvs=>match vs with
  |[v]=>Ends R (.ret v) st1
  |vs=>Ends R (.ret (.Bh vs)) st1)->
  a.defers=[]/\∃v,(results fn a.tmps).run P w'=.ok v w'/\∃I' st' r,Fr I st w I' st' w'/\CH I' st' w'/\W6 I' (.returned v) r/\R r st':=by
  intro h3
  obtain ⟨v,c,g1,g2,r2,st2,g3,g4,g5⟩:=C4 (P:=P) (R:=Ends R) hP.t h1 h3
  have U:=h1.IK g4
  refine ⟨h1.f.defers,c,g1,I1,st2,r2,U.fr,U.s,?_,g5⟩
  rcases g3 with rfl|rfl
  .exact g2
  .exact g2.wk
 cases ae with
 |normal=>cases e<;>first|exact hret h3|exact h2.elim
 |exit i=>exact h3.elim
 |goto i=>exact h3.elim
 |ret=>cases e<;>first|exact hret h3|exact h2.elim
 |Cz v=>
  cases e<;>try exact h2.elim
  obtain ⟨r2,st2,g3,g4,g5⟩:=h3
  obtain ⟨c',rfl,h2⟩:=h2
  have U:=h1.IK g4
  refine ⟨h1.f.defers,I1,st2,r2,U.fr,U.s,?_,g5⟩
  rcases g3 with rfl|rfl
  .exact ⟨c',rfl,h2⟩
  .exact ⟨c',rfl,h2.wk⟩
end
end Go.Aw
