/-
  Parts of a proof: lemmas that the last text uses.
-/
import Derived.Test.YtpaiiicnhgoijaaGreatDoorT3
set_option linter.unusedVariables false
set_option linter.unusedSimpArgs false
set_option maxHeartbeats 16000000
variable {n f:Go.Aw.Nd} {t x o s l w r:List UInt8} {b i least base deep:Int} {j d pos m:Nat} {p:Go.Aw.Nd->Bool} {ks:List Go.Aw.Nd} {e:UInt8} {K:Int->Prop}
namespace Go.Proofs.Z
open Go Go.Aw
section
variable {st:St} {R:AD->St->Prop}
def Hr (n:Nd):Bool:=Yt n.size n
theorem bO:B4 291 Hr n:=λst R h=>bP n.size n (Nat.le_refl _) st R h
def OS (n:Nd):Int:=if Hr n then 0 else 120
theorem kW (h:R (.ret (.int .i64 (OS n))) st):ID 422 [enc n] st R:=by
 refine pB Tryz.func422 ?_
 repeat' ((conv=>whnf);first|  (refine GM ?_ ?_<;>intro _)|refine bO _ _ ?_)
 all_goals conv=>whnf
 all_goals (refine fin h ?_;clear h;simp_all [OS])
def VE (n:Nd):Int×List UInt8×Int:=
 if (lY n.size n).2 then (1,(lY n.size n).1,0) else if Hr n then (2,[],0) else (0,[],120)
theorem X3 {f:Int×List UInt8×Int} {c:Int} (h:f=(b,t,c)):AD.ret (.Bl [.int .i64 f.1,.str f.2.1,.int .i64 f.2.2])=(AD.ret (.Bl [.int .i64 b,.str t,.int .i64 c])).wk:=by subst h;rfl
theorem xO (h:R (.ret (.Bl [.int .i64 (VE n).1,.str (VE n).2.1,.int .i64 (VE n).2.2])) st):ID 215 [enc n] st R:=by
 refine pB Tryz.func215 ?_
 repeat' ((conv=>whnf);first|  (refine GM ?_ ?_<;>intro _)|refine Sh _ n (Nat.le_refl _) _ _ ?_|refine bO _ _ ?_)
 all_goals conv=>whnf
 all_goals (refine AU ?_ h;clear h;refine X3 ?_;simp_all [VE])
def Fq (q:Nd->List (List UInt8)) (field:Bool):Nat->List Nd->List (List UInt8)
 |_,[]=>[]
 |i,x::r=>(if 0<i\/field=false then q x else [])++Fq q field (i+1) r
def CT (q:Nd->List (List UInt8)) (n:Nd):List (List UInt8):=
 match BM n with
 |some s=>[s]
 |none=>if n.kind=18\/n.kind=19 then [] else Fq q (n.kind==13) 0 n.kids
def aB (q:Nd->List (List UInt8)) (x:Nd):Prop:=∀(l:List (List UInt8)) (own:Ay) (st:St) (R:AD->St->Prop),l.length+(q x).length<=1000000000->own.B5 st->
 (∀U:Ay,U.B5 st->R (.ret (.slice 1 (strs (l++q x)) U)) (U.st st (l++q x).length))->ID 393 [.slice 1 (strs l) own,enc x] (own.st st l.length) R
attribute [local irreducible] Go.Aw.Ai
theorem bS {q:Nd->List (List UInt8)} (hq:∀x,x.size<n.size->aB q x):aB (CT q) n:=by
 intro l own st R hb ho h
 refine pB Tryz.func393 ?_
 repeat' ((conv=>whnf);first|(refine Jw ?_;intros)|(refine GM ?_ ?_<;>intro _)|refine Ny (λt ht=>?_) (λht=>?_)|refine Qb (new:=[_]) ho ?_ (λown' ho'=>?_))
 .have e:CT q n=[t]:=by simp [CT,ht]
  rw [e] at hb;exact hb
 .conv=>whnf
  have e:CT q n=[t]:=by simp [CT,ht]
  rw [e] at h
  exact fin (h own' ho') rfl
 .conv=>whnf
  have e:CT q n=[]:=by simp [CT, *]
  rw [e,List.append_nil] at h
  exact fin (h own ho) rfl
 .conv=>whnf
  have e:CT q n=[]:=by simp [CT, *]
  rw [e,List.append_nil] at h
  exact fin (h own ho) rfl
 .have e:CT q n=Fq q (n.kind==13) 0 n.kids:=by simp [CT, *]
  rw [e] at h hb
  conv=>whnf
  refine O9 (α:=Nat×Ay×List (List UInt8)) (λx=>[(31,.int .i64 (x.1:Int)),(0,.slice 1 (strs x.2.2) x.2.1)]) [3,29,30] [0] (λx=>Ay.st st x.2.2.length x.2.1)
   (λx=>x.1<=n.kids.length/\Ay.B5 st x.2.1/\l++Fq q (n.kind==13) 0 n.kids=x.2.2++Fq q (n.kind==13) x.1 (n.kids.drop x.1)) (λx=>n.kids.length - x.1) (0,own,l) ⟨Nat.zero_le _,ho,rfl⟩ Yl (St.le_refl _) ?_
  rintro ⟨k,own1,U⟩ ⟨hk,ho1,hi⟩
  simp only at hk ho1 hi
  have hlen:=congrArg List.length hi
  simp only [List.length_append] at hlen
  repeat' ((conv=>whnf);first|(refine Jw ?_;intros)|(refine GM ?_ ?_<;>intro _)|refine hq _ (Dl ‹_›) U own1 st _ ?_ ho1 (λown2 ho2=>?_))
  all_goals try conv=>whnf
  all_goals try (have e:=drop_at ‹n.kids[_]? =some _›;simp only [Int.toNat_natCast] at e;rw [e,Fq] at hi hlen;clear e)
  all_goals simp only [Int.toNat_natCast] at *
  .rw [if_pos (.inl H1)] at hlen
   rw [List.length_append] at hlen
   show U.length+_<=1000000000
   omega
  .refine ⟨(k+1,own2,U++_),⟨by show k+1<=_;omega,ho2,?_⟩,by show _ - (k+1)<_ - k;omega,Yl,St.le_refl _⟩
   rw [if_pos (.inl H1)] at hi
   rw [hi,List.append_assoc]
  .refine ⟨(k+1,own1,U),⟨by show k+1<=_;omega,ho1,?_⟩,by show _ - (k+1)<_ - k;omega,Yl,St.le_refl _⟩
   rw [if_neg (by rintro (g|g)<;>first|omega|simp_all)] at hi
   rw [hi];rfl
  .have g:(n.kind==13)=false:=lm
   rw [if_pos (.inr g),List.length_append] at hlen
   show U.length+_<=1000000000
   omega
  .refine ⟨(k+1,own2,U++_),⟨by show k+1<=_;omega,ho2,?_⟩,by show _ - (k+1)<_ - k;omega,Yl,St.le_refl _⟩
   have g:(n.kind==13)=false:=lm
   rw [if_pos (.inr g)] at hi
   rw [hi,List.append_assoc]
  .rw [List.drop_eq_nil_of_le H1,Fq,List.append_nil] at hi
   rw [hi] at h
   exact fin (h own1 ho1) rfl
def FY:Nat->Nd->List (List UInt8)
 |0,_=>[]
 |k+1,n=>CT (FY k) n
theorem YC:∀(k:Nat) (n:Nd),n.size<=k->aB (FY k) n
 |0,n,h=>by have:=size_pos n;omega
 |k+1,n,h=>bS λx U=>YC k x H1
def GX (n:Nd):List (List UInt8)×Int:=if Hr n then (FY n.size n,0) else ([],120)
theorem ic (hb:(FY n.size n).length<=1000000000) (h:R (.ret (.Bl [.slice 1 (strs (GX n).1) .any,.int .i64 (GX n).2])) st):ID 344 [enc n] st R:=by
 refine pB Tryz.func344 ?_
 repeat' ((conv=>whnf);first|  (refine GM ?_ ?_<;>intro _)|refine bO _ _ ?_|refine YC _ n (Nat.le_refl _) [] .full st _ ?_ trivial (λown2 U=>?_))
 all_goals try conv=>whnf
 .show 0+_<=_
  omega
 .have e:GX n=(FY n.size n,0):=by simp_all [GX]
  rw [e] at h
  exact ⟨_,st,.inr rfl,Ay.Bj U,h⟩
 .have e:GX n=([],120):=by simp_all [GX]
  rw [e] at h
  exact AU rfl h
end
section
variable {st:St} {R:AD->St->Prop}
def Dj (n:Nd) (k:Int):Bool:=n.kind==1&&n.form==k
theorem HN {k:Int}:BR n [k]=Dj n k:=by
 simp only [BR,Dj,List.contains_cons,List.contains_nil,Bool.or_false]
theorem Hf {j k:Int}:BR n [j,k]=(Dj n j||Dj n k):=by
 simp only [BR,Dj,List.contains_cons,List.contains_nil,Bool.or_false]
 cases n.kind==1<;>rfl
theorem Iv {k:Int}:Cv n k t=(Dj n k&&n.text==t):=by simp [Cv,HN]
theorem Ub:EX n=if n.kind=3/\n.kids.length=3/\n.kids[0]?.any (Cv · 15 [40])=true/\n.kids[2]?.any (Cv · 15 [41])=true then n.kids[1]? else none:=by
 unfold EX
 by_cases hk:n.kind=3
 .rw [if_pos hk]
  by_cases h3:n.kids.length=3
  .have e2:3 - 1=2:=rfl
   simp only [BO,h3,hk,true_and,e2]
   have e:(2<=3/\n.kids[0]?.any (Cv · 15 [40])=true/\n.kids[2]?.any (Cv · 15 [41])=true)↔(n.kids[0]?.any (Cv · 15 [40])=true/\n.kids[2]?.any (Cv · 15 [41])=true):=⟨λh=>h.2,λh=>⟨H1,h⟩⟩
   simp only [e]
   split
   .rename_i l U
    split at U
    .cases U
     rename_i g
     rw [if_pos g,if_pos (by simp [h3])]
     simp [List.getElem?_take]
    .cases U
   .rename_i U
    split at U
    .cases U
    .rename_i g;rw [if_neg g]
  .rw [if_neg (λh=>h3 h.2.1)]
   cases hf:BO n [40] [41] with
   |none=>rfl
   |some l=>
    have:=M9 hf
    exact if_neg H1
 .rw [if_neg hk,if_neg (λh=>hk h.1)]
theorem Hk {k:Int} (h:R (.ret (.bool (Dj n k))) st):ID 251 [enc n,.int .i64 k] st R:=by
 refine pB Tryz.func251 ?_
 repeat' ((conv=>whnf);first|  (refine GM ?_ ?_<;>intro _)|fail)
 all_goals conv=>whnf
 all_goals (refine An h ?_;clear h;simp_all [Dj])
theorem Gy (h:R (.ret (.bool (Cv n 15 t))) st):ID 247 [enc n,.str t] st R:=by
 refine pB Tryz.func247 ?_
 repeat' ((conv=>whnf);first|  (refine GM ?_ ?_<;>intro _)|refine Hk ?_)
 all_goals conv=>whnf
 all_goals (refine An h ?_;clear h;simp_all [Iv])
theorem cz (h:R (.ret (.bool (BR n [11,12,13,14]))) st):ID 253 [enc n] st R:=by
 refine pB Tryz.func253 ?_
 repeat' ((conv=>whnf);first|  (refine GM ?_ ?_<;>intro _)|refine Hk ?_)
 all_goals conv=>whnf
 all_goals (refine An h ?_;clear h;simp_all [BR,Dj])
theorem Y7 (U:∀x,EX n=some x->R (.ret (.Bl [enc x,.bool true])) st) (hn:EX n=none->R (.ret (.Bl [enc F0,.bool false])) st):ID 318 [enc n] st R:=by
 refine pB Tryz.func318 ?_
 repeat' ((conv=>whnf);first|(refine Jw ?_;intros)|(refine GM ?_ ?_<;>intro _)|refine Gy ?_)
 all_goals conv=>whnf
 all_goals try simp only [Int.toNat_zero,Int.toNat_one,Int.reduceToNat] at *
 all_goals first
  |exact AU rfl (U _ (by clear U hn;simp_all [Ub];done))
  |exact AU rfl (hn (by clear U hn;simp_all [Ub];done))
theorem LI (U:∀t,BM n=some t->R (.ret (.Bl [.str t,.bool true])) st) (hn:BM n=none->R (.ret (.Bl [.str [],.bool false])) st):ID 248 [enc n] st R:=by
 refine pB Tryz.func248 ?_
 repeat' ((conv=>whnf);first|(refine Jw ?_;intros)|(refine GM ?_ ?_<;>intro _)|refine Y7 (λl hl=>?_) (λhl=>?_)|refine Hk ?_)
 all_goals conv=>whnf
 all_goals first
  |exact AU rfl (U _ (by clear U hn;simp_all [BM,HN];done))
  |exact AU rfl (hn (by clear U hn;simp_all [BM,HN];done))
theorem YW (h:R (.ret (.bool (Hh n))) st):ID 319 [enc n] st R:=by
 refine pB Tryz.func319 ?_
 repeat' ((conv=>whnf);first|  (refine GM ?_ ?_<;>intro _)|refine Hk ?_)
 all_goals conv=>whnf
 all_goals (refine An h ?_;clear h;simp_all [Hh,Hf,Iv])
theorem Y8 (h:R (.ret (.bool (Gs n))) st):ID 252 [enc n] st R:=by
 refine pB Tryz.func252 ?_
 repeat' ((conv=>whnf);first|(refine Jw ?_;intros)|(refine GM ?_ ?_<;>intro _)|refine Y7 (λl U=>?_) (λU=>?_)|refine Hk ?_|refine YW ?_)
 all_goals conv=>whnf
 all_goals (refine An h ?_;clear h;simp_all [Gs,Hf])
def DZ (n:Nd):Int×List UInt8:=
 if n.kind=18/\Ep n=true then (1,(Bs n).1.text) else match Ea n with|some t=>(2,t)|none=>(0,[])
theorem gL {f:Int×List UInt8} (h:f=(b,t)):AD.ret (.Bl [.int .i64 f.1,.str f.2])=(AD.ret (.Bl [.int .i64 b,.str t])).wk:=by subst h;rfl
theorem iy {x y z:Nd} (h0:n.kids[0]? =some x) (h1:n.kids[1]? =some y) (h2:n.kids[2]? =some z) (U:n.kids.length=3) (h:Cv x 15 [96]=true) (k:Cv z 15 [96]=true) (hk:n.kind=18):Bs n=(y,true):=by
 obtain ⟨_,e0⟩:=List.getElem?_eq_some_iff.1 h0
 obtain ⟨_,e1⟩:=List.getElem?_eq_some_iff.1 h1
 obtain ⟨_,e2⟩:=List.getElem?_eq_some_iff.1 h2
 have:BO n [96] [96]=some ((n.kids.take 2).drop 1):=by
  simp [BO,U,e0,e2,h,k]
 simp [Bs,hk,U,this,e1]
theorem Qg {x z:Nd} (h0:n.kids[0]? =some x) (h2:n.kids[2]? =some z) (U:n.kids.length=3) (h:¬(Cv x 15 [96]=true/\Cv z 15 [96]=true)):Bs n=(F0,false):=by
 have:BO n [96] [96]=none:=by
  simp only [BO,U,h0]
  rw [if_neg]
  rintro ⟨_,g1,g2⟩
  simp only [h2,Option.any_some,show 3 - 1=2 from rfl] at g1 g2
  exact h ⟨g1,g2⟩
 simp [Bs,U,this]
theorem Q8:Hh F0=false/\BR F0 [2,4]=false/\BR F0 [1]=false/\BR F0 [5]=false:=⟨rfl,rfl,rfl,rfl⟩
theorem P1 (h:R (.ret (.Bl [.int .i64 (DZ n).1,.str (DZ n).2])) st):ID 249 [enc n] st R:=by
 refine pB Tryz.func249 ?_
 repeat' ((conv=>whnf);first|exact zy|(refine Jw ?_;intros)|(refine zz ?_ ?_ ?_;rotate_left)|(refine GM ?_ ?_<;>intro _)|refine YW ?_|refine Hk ?_|refine Gy ?_|refine Au NE ?_|fail)
 all_goals conv=>whnf
 all_goals (refine AU ?_ h;clear h;refine gL ?_)
 all_goals try simp only [Int.toNat_zero,Int.toNat_one,Int.reduceToNat] at *
 .rename_i x hx _ U
  have e:Bs n=(x,false):=by simp_all [Bs]
  simp_all [DZ,Ep]
 .rename_i x hx _ U ho
  have e:Bs n=(x,false):=by simp_all [Bs]
  simp_all [DZ,Ep,Ea,HN]
 .rename_i x hx _ U ho
  have e:Bs n=(x,false):=by simp_all [Bs]
  simp_all [DZ,Ep,Ea,HN]
 all_goals try (have e:=iy ‹n.kids[0]? =_› ‹n.kids[1]? =_› ‹n.kids[2]? =_› ‹_› ‹_› ‹_› ‹_›;simp_all [DZ,Ep,Ea,HN,Hf];done)
 .have e:=Qg ‹n.kids[0]? =_› ‹n.kids[2]? =_› ‹_› lm
  simp [DZ,Ep,Ea,e,Q8]
 .have hl:n.kids.length=3:=‹_›
  have e:=Qg (n:=n) ‹n.kids[0]? =_› (List.getElem?_eq_getElem H1) hl lm
  simp [DZ,Ep,Ea,e,Q8]
 .have e:Bs n=(F0,false):=by simp_all [Bs]
  simp [DZ,Ep,Ea,e,Q8]
 .have e:Bs n=(F0,false):=by simp_all [Bs]
  simp [DZ,Ep,Ea,e,Q8]
end
section
variable {st:St} {R:AD->St->Prop}
def M0 (x:Nd):Bool:=Cv x 15 [44]
def Gb (n:Nd):List Nd:=(n.kids.take (n.kids.length - 1)).drop 1
def DJ (n:Nd) (t:List UInt8):Bool:=n.kids[0]?.any (Cv · 15 t)
def Fz (n:Nd) (t:List UInt8):Bool:=n.kids[n.kids.length - 1]?.any (Cv · 15 t)
theorem GU:BO n o s=if 2<=n.kids.length/\DJ n o=true/\Fz n s=true then some (Gb n) else none:=rfl
theorem EW (h:2<=n.kids.length):(Gb n).length=n.kids.length - 2:=by
 simp [Gb];omega
theorem N7 {i:Nat} (h:i+2<n.kids.length):(Gb n)[i]? =n.kids[i+1]? :=by
 unfold Gb
 grind
theorem lU (h:DJ n o=true) (U:o≠s):DJ n s=false:=by
 unfold DJ at *
 cases hx:n.kids[0]? with
 |none=>rfl
 |some x=>
  rw [hx] at h
  simp only [Option.any_some,Iv,Bool.and_eq_true,beq_iff_eq] at h |-
  simp_all
theorem Xq {q:Nd->Bool}:∀{l:List Nd},l.any (λx=> !q x)= !Jf q l
 |[]=>rfl
 |x::r=>by rw [List.any_cons,Jf,Xq];simp_all
theorem p5 {q:Nd->Bool} {l:List Nd} {k:Nat} {x:Nd} (h:l[k]? =some x):Jf q (l.drop k)=(q x&&Jf q (l.drop (k+1))):=by rw [drop_at h];rfl
theorem kf {q:Nd->Bool} {l:List Nd} {k:Nat} (h:l.length<=k):Jf q (l.drop k)=true:=by rw [List.drop_eq_nil_of_le h];rfl
def dt (n:Nd):Bool:=match BO n [91] [93] with|some l=>l.isEmpty|none=>match BO n [40] [41] with|some l=> !l.any λx=> !Cv x 15 [44]|none=>false
theorem kB:dt n=(decide (2<=n.kids.length)&&((DJ n [91]&&Fz n [93]&&n.kids.length==2)||(Jf M0 (Gb n)&&DJ n [40]&&Fz n [41]))):=by
 unfold dt
 rw [GU,GU]
 by_cases U:2<=n.kids.length
 .have hm:=EW U
  cases h91:DJ n [91] with
  |true=>
   rw [lU h91 IR]
   cases Fz n [93] with
   |false=>simp [U]
   |true=>
    simp only [U,decide_true,true_and,and_self,if_true,Bool.true_and,Bool.and_true,Bool.and_false,Bool.false_and,Bool.or_false]
    rw [show (Gb n).isEmpty=((Gb n).length==0) by grind,hm]
    grind
  |false=>
   have e:(λx=>Cv x 15 [44])=M0:=rfl
   cases h40:DJ n [40]<;>cases h41:Fz n [41]<;>simp [U,Xq,e]
 grind
theorem si (hk:n.kind=3) (h:R (.ret (.bool (dt n))) st):ID 254 [enc n] st R:=by
 refine pB Tryz.func254 ?_
 repeat' ((conv=>whnf);first|(refine Jw ?_;intros)|(refine GM ?_ ?_<;>intro _)|refine Gy ?_)
 all_goals try (refine vS 4 1 [1,3] [0] n.kids.length (λk=>1<=k/\k<=n.kids.length - 1/\Jf M0 (Gb n)=Jf M0 ((Gb n).drop (k - 1))) ⟨H1,H1,rfl⟩ Yl ?_;rintro k ⟨U,hk2,hi⟩)
 repeat' ((conv=>whnf);first|(refine Jw ?_;intros)|(refine GM ?_ ?_<;>intro _)|refine Gy ?_)
 all_goals try conv=>whnf
 all_goals try simp only [Int.toNat_zero,Int.toNat_one,Int.reduceToNat,Int.toNat_natCast] at *
 all_goals try (have hm:(Gb n)[k - 1]? =n.kids[k]? :=(N7 H1).trans (by rw [Nat.sub_add_cancel U]))
 all_goals try (have ha:=p5 (q:=M0) (l:=Gb n) (k:=k - 1) (hm.trans ‹n.kids[k]? =_›);rw [Nat.sub_add_cancel U] at ha;rw [ha] at hi;clear ha)
 all_goals first
  |(refine ⟨k+1,⟨H1,H1,?_⟩,H1,Yl,St.le_refl _⟩;clear h;simp_all [M0];done)
  |refine An h ?_
 all_goals clear h
 all_goals rw [kB]
 all_goals have hl:((n.kids.length:Int) - 1).toNat=n.kids.length - 1:=H1
 all_goals try simp only [hl] at *
 all_goals try (rw [kf (l:=Gb n) (k:=k - 1) (by rw [EW H1];omega)] at hi)
 all_goals first
  |(have h2:¬2<=n.kids.length:=by omega
    rw [decide_eq_false h2];rfl)
  |(have h2:2<=n.kids.length:=by omega
    simp_all [DJ,Fz,M0];done)
theorem nu {l:List Nd} (U:∀x ∈ l,B4 190 p x) (h:R (.ret (.bool (Jf (FM p) l))) st):ID 246 [.slice 6 (Co l) .any] st R:=by
 refine pB Tryz.func246 ?_
 repeat' ((conv=>whnf);first|(refine Jw ?_;intros)|(refine GM ?_ ?_<;>intro _)|fail)
 refine Lr 3 [0] l.length (λk=>k<=l.length/\Jf (FM p) l=Jf (FM p) (l.drop k)) ⟨Nat.zero_le _,rfl⟩ Yl ?_
 rintro k ⟨hk,hi⟩
 repeat' ((conv=>whnf);first|(refine Jw ?_;intros)|(refine GM ?_ ?_<;>intro _)|refine U _ ‹_› _ _ ?_)
 all_goals conv=>whnf
 all_goals try (have e:=drop_at ‹l[Int.toNat k]? =some _›;rw [Int.toNat_natCast] at e;rw [e,Jf] at hi;clear e)
 all_goals first
  |(refine ⟨k+1,⟨H1,?_⟩,H1,Yl,St.le_refl _⟩;clear h;simp_all [FM];done)
  |(refine An h ?_;clear h;simp_all [FM];done)
  |(refine An h ?_;clear h;rw [List.drop_eq_nil_of_le H1] at hi;simp_all [Jf];done)
theorem Y9 (U:n.kind=18):((DZ n).1=1↔Ep n=true):=by
 unfold DZ
 grind
theorem bM (h:Ep n=true):n.kind=18:=by
 by_cases U:n.kind=18
 .exact U
 .have:Bs n=(F0,false):=by simp [Bs,U]
  rw [Ep,this] at h
  exact absurd h IR
theorem V8:(DZ n).1=1↔Ep n=true:=by
 by_cases U:n.kind=18
 .exact Y9 U
 .constructor
  .intro h
   unfold DZ at h
   grind
  .intro h;exact absurd (bM h) U
theorem JU {x:Nd} {k:Int} (h:Dj x k=true):x.kind=1:=by
 simp only [Dj,Bool.and_eq_true,beq_iff_eq] at h;exact h.1
theorem fk {l:List Nd} (U:∀x ∈ l,B4 190 p x) (hn:∀x ∈ l,Dj x 11=true\/Dj x 12=true->p x=true) (h:R (.ret (.bool (IG p 0 l))) st):ID 257 [.slice 6 (Co l) .any] st R:=by
 refine pB Tryz.func257 ?_
 repeat' ((conv=>whnf);first|(refine Jw ?_;intros)|(refine GM ?_ ?_<;>intro _)|refine Hk ?_)
 refine Lr 3 [0] l.length (λk=>k<=l.length/\IG p 0 l=IG p 0 (l.drop k)) ⟨Nat.zero_le _,rfl⟩ Yl ?_
 rintro k ⟨hk,hi⟩
 repeat' ((conv=>whnf);first|(refine Jw ?_;intros)|(refine GM ?_ ?_<;>intro _)|refine Hk ?_|refine U _ ‹_› _ _ ?_|refine P1 ?_)
 all_goals conv=>whnf
 all_goals try (exfalso;omega)
 all_goals try simp only [y9,za,zb,xg,yM,Int.toNat_natCast,Nat.zero_add,Nat.reduceAdd,V8] at *
 all_goals try (have e:=nV (p:=p) ‹l[k]? =some _›;rw [e] at hi;clear e)
 all_goals (try have e1:=nW (p:=p) ‹l[k+1]? =some _›)
 all_goals (try have e2:=Ut (p:=p) ‹l[k+1]? =some _›)
 all_goals (try have e3:=Ut (p:=p) ‹l[k+2]? =some _›)
 all_goals (try have f0:=KZ (p:=p) (s:=0) (l:=l) (k:=k) H1)
 all_goals (try have f1:=KZ (p:=p) (s:=1) (l:=l) (k:=k+1) H1)
 all_goals (try have f2:=KZ (p:=p) (s:=2) (l:=l) (k:=k+1) H1)
 all_goals (try have f3:=KZ (p:=p) (s:=2) (l:=l) (k:=k+2) H1)
 all_goals (try have g1:=hn _ ‹_ ∈ l› (.inl ‹Dj _ 11=true›))
 all_goals (try have g2:=hn _ ‹_ ∈ l› (.inr ‹Dj _ 12=true›))
 all_goals (try have g3:=JU ‹Dj _ 11=true›)
 all_goals (try have g4:=JU ‹Dj _ 12=true›)
 all_goals try simp only [Nat.zero_add,Nat.reduceAdd] at *
 all_goals first
  |(refine An h ?_;clear h U hn;simp_all [Hf];done)
  |(refine ⟨k+3,⟨H1,?_⟩,H1,Yl,St.le_refl _⟩;clear h U hn;simp_all [Hf];done)
  |(refine ⟨k+2,⟨H1,?_⟩,H1,Yl,St.le_refl _⟩;clear h U hn;simp_all [Hf];done)
end
section
variable {st:St} {R:AD->St->Prop}
theorem Tx {one:Bool}:
 EP p n o s least one=(decide (2<=n.kids.length)&&DJ n o&&Fz n s&&(decide (2*least - 1<=((n.kids.length - 2:Nat):Int))&&(!one||n.kids.length - 2==1)&&((n.kids.length - 2) % 2==1&&EM p false (Gb n)))):=by
 unfold EP
 rw [GU]
 by_cases U:2<=n.kids.length
 .have hm:=EW U
  cases DJ n o<;>cases Fz n s<;>simp [U,KF,hm]
 grind
theorem cR {k:Nat}:((k:Int)+1).tmod 2=1↔(k+1) % 2=1:=Kc (k:=k+1)
theorem ZO {k:Nat}:((k:Int)+1).tmod 2=0↔(k+1) % 2=0:=G7 (k:=k+1)
theorem SK {most:Int} {one:Bool} (hl:n.kids.length<=1000000000) (h0:1<=least) (h1:least<=10) (hm:most=1/\one=true\/most=1099511627776/\one=false)
 (hp:∀x ∈ n.kids,B4 190 p x) (h:R (.ret (.bool (EP p n o s least one))) st):ID 255 [enc n,.str o,.str s,.int .i64 least,.int .i64 most] st R:=by
 refine pB Tryz.func255 ?_
 repeat' ((conv=>whnf);first|(refine Jw ?_;intros)|(refine GM ?_ ?_<;>intro _)|refine Gy ?_)
 all_goals try (refine O9 (α:=Nat) (λj=>[(12,.int .i64 ((j:Int)+1))]) [5,11] [0] (λ_=>st) (λj=>j+2<=n.kids.length/\EM p false (Gb n)=EM p (j % 2==1) ((Gb n).drop j)) (λj=>n.kids.length - j) 0 ⟨H1,rfl⟩ Yl (St.le_refl _) ?_;rintro j ⟨hj,hi⟩)
 repeat' ((conv=>whnf);first|(refine Jw ?_;intros)|(refine GM ?_ ?_<;>intro _)|refine Gy ?_|refine hp _ ‹_› _ _ ?_)
 all_goals try conv=>whnf
 all_goals try simp only [G7,Kc,ZO,cR,Int.toNat_zero,xg] at *
 all_goals have hl:((n.kids.length:Int) - 1).toNat=n.kids.length - 1:=H1
 all_goals try simp only [hl] at *
 all_goals try (have U:=Nk (p:=p) ((N7 H1).trans ‹n.kids[j+1]? =_›);rw [U] at hi;clear U)
 all_goals try (rw [if_neg (by omega:¬j % 2=1)] at hi)
 all_goals try (rw [if_pos (by omega:j % 2=1)] at hi)
 all_goals try (exfalso;omega)
 all_goals first
  |refine ⟨j+1,⟨H1,?_⟩,H1,Yl,St.le_refl _⟩
  |refine An h ?_
 all_goals clear h hp
 all_goals try rw [Tx]
 all_goals try (rw [Bool.eq_false_iff];intro hc;simp only [Bool.and_eq_true,decide_eq_true_eq,beq_iff_eq,Bool.or_eq_true,Bool.not_eq_true'] at hc;obtain ⟨⟨⟨c1,c2⟩,c3⟩,⟨c4,c5⟩,c6,c7⟩:=hc;first|omega|(rcases hm with ⟨rfl,rfl⟩|⟨rfl,rfl⟩<;>simp at c5<;>omega)|(simp_all [DJ,Fz];done))
 all_goals try (rw [hi];simp_all;done)
 .rw [List.drop_eq_nil_of_le (by rw [EW H1];omega)] at hi
  simp only [Bool.and_eq_true,decide_eq_true_eq,beq_iff_eq,Bool.or_eq_true,Bool.not_eq_true']
  refine ⟨⟨⟨H1,by simp_all [DJ]⟩,by simp_all [Fz]⟩,⟨H1,?_⟩,H1,by rw [hi];rfl⟩
  grind
theorem cS {k:Nat}:((k:Int)+1+1).tmod 2=1↔(k+2) % 2=1:=Kc (k:=k+2)
theorem ZP {k:Nat}:((k:Int)+1+1).tmod 2=0↔(k+2) % 2=0:=G7 (k:=k+2)
theorem QN {a:Int} {c d:Int}:(Nd.mk a b t c d ks).kids=ks:=rfl
theorem cr:KJ p n=(decide (3<=n.kids.length)&&n.kids[0]?.any Gs&&n.kids[1]?.any (Cv · 15 [123])&&Fz n [125]&&(n.kids.length==3||(n.kids.length % 2==0&&EM (Kv p) false ((Gb n).drop 1)))):=by
 unfold KJ
 rw [GU]
 by_cases h3:3<=n.kids.length
 .have e1:DJ (.mk 0 0 [] 0 0 (n.kids.drop 1)) [123]=n.kids[1]?.any (Cv · 15 [123]):=by simp [DJ,QN]
  have e2:Fz (.mk 0 0 [] 0 0 (n.kids.drop 1)) [125]=Fz n [125]:=by
   simp only [Fz,QN,List.length_drop,List.getElem?_drop]
   rw [show 1+(n.kids.length - 1 - 1)=n.kids.length - 1 by omega]
  have e3:Gb (.mk 0 0 [] 0 0 (n.kids.drop 1))=(Gb n).drop 1:=by
   simp only [Gb,QN,List.length_drop,List.drop_take,List.drop_drop]
  have e4:(2<=(Nd.kids (.mk 0 0 [] 0 0 (n.kids.drop 1))).length):=by simp only [QN,List.length_drop];omega
  have U:((Gb n).drop 1).length=n.kids.length - 3:=by rw [List.length_drop,EW H1];omega
  have e6:((Gb n).drop 1).isEmpty=(n.kids.length==3):=by
   have:((Gb n).drop 1).isEmpty=(((Gb n).drop 1).length==0):=by cases (Gb n).drop 1<;>rfl
   rw [this,U]
   by_cases h:n.kids.length=3
   .simp [h]
   .grind
  have e7:((n.kids.length - 3) % 2==1)=(n.kids.length % 2==0):=by
   by_cases h:n.kids.length % 2=0
   .grind
   .grind
  rw [e1,e2,e3]
  cases n.kids[1]?.any (Cv · 15 [123])<;>cases Fz n [125]<;>simp only [h3,e4,true_and,and_true,if_true,and_false,false_and,if_false,Bool.false_eq_true,decide_true,Bool.true_and,Bool.and_true,Bool.and_false,Bool.false_and,KF,U,e6,e7]
 grind
theorem iF (hl:n.kids.length<=1000000000)
 (hp:∀x ∈ n.kids,∀y ∈ x.kids,B4 190 p y) (h:R (.ret (.bool (KJ p n))) st):ID 256 [enc n] st R:=by
 refine pB Tryz.func256 ?_
 repeat' ((conv=>whnf);first|(refine Jw ?_;intros)|(refine GM ?_ ?_<;>intro _)|refine Y8 ?_|refine Gy ?_)
 all_goals try (refine O9 (α:=Nat) (λj=>[(4,.int .i64 ((j:Int)+1+1))]) [1,3] [0] (λ_=>st) (λj=>j+3<=n.kids.length/\EM (Kv p) false ((Gb n).drop 1)=EM (Kv p) (j % 2==1) (((Gb n).drop 1).drop j)) (λj=>n.kids.length - j) 0 ⟨H1,rfl⟩ Yl (St.le_refl _) ?_;rintro j ⟨hj,hi⟩)
 repeat' ((conv=>whnf);first|(refine Jw ?_;intros)|(refine GM ?_ ?_<;>intro _)|refine Gy ?_|refine Hk ?_|refine hp _ ‹_› _ ‹_› _ _ ?_)
 all_goals try conv=>whnf
 all_goals try simp only [G7,Kc,ZP,cS,Int.toNat_zero,Int.toNat_one,Int.reduceToNat,xg,yM] at *
 all_goals have hl:((n.kids.length:Int) - 1).toNat=n.kids.length - 1:=H1
 all_goals try simp only [hl] at *
 all_goals try (have hg:((Gb n).drop 1)[j]? =n.kids[j+2]? :=by (rw [List.getElem?_drop,N7 H1];congr 1;omega))
 all_goals try (have ha:=Nk (p:=Kv p) (hg.trans ‹n.kids[j+2]? =_›);rw [ha] at hi;clear ha)
 all_goals try (rw [if_neg (by omega:¬j % 2=1)] at hi)
 all_goals try (rw [if_pos (by omega:j % 2=1)] at hi)
 all_goals try (exfalso;omega)
 all_goals first
  |refine ⟨j+1,⟨H1,?_⟩,H1,Yl,St.le_refl _⟩
  |refine An h ?_
 all_goals clear h hp
 all_goals try rw [cr]
 all_goals try (rw [Bool.eq_false_iff];intro hc;simp only [Bool.and_eq_true,decide_eq_true_eq,beq_iff_eq,Bool.or_eq_true,Bool.not_eq_true'] at hc;obtain ⟨⟨⟨⟨c1,c2⟩,c3⟩,c4⟩,U⟩:=hc;first|omega|(simp_all [Fz];done))
 all_goals try (rw [hi];simp_all [Kv,Hf,Iv];done)
 all_goals try (simp_all [Fz];done)
 all_goals try (rw [Bool.eq_false_iff];intro hc;simp only [Bool.and_eq_true,decide_eq_true_eq,beq_iff_eq,Bool.or_eq_true,Bool.not_eq_true'] at hc;obtain ⟨⟨⟨⟨c1,c2⟩,c3⟩,c4⟩,U⟩:=hc;rcases U with U|⟨U,c6⟩;omega;rw [hi] at c6;simp_all [Kv,Hf,Iv];done)
 rw [List.drop_eq_nil_of_le (i:=j) (by rw [List.length_drop,EW H1];omega)] at hi
 have h2:n.kids.length % 2=0:=H1
 rw [hi]
 simp_all [Fz,EM]
 omega
theorem UA:∀{l:List Nd},l.length<=D0 l
 |[]=>Nat.le_refl _
 |x::r=>by have:=UA (l:=r);have:=size_pos x;rw [D0,List.length_cons];omega
theorem iS (n:Nd):n.kids.length<n.size:=by
 cases n with
 |mk a b c d e ks=>rw [Nd.size];have:=UA (l:=ks);show ks.length<_;omega
theorem Sq (U:n.kind=1):Gs n=BR n [2,4]:=by
 have:EX n=none:=by simp [EX,U]
 simp [Gs,this]
theorem l5:N0 n=((BM n).isSome||Gs n||dt n):=rfl
theorem N3 {l:List Int} (U:n.kind=1):BR n l=l.contains n.form:=by simp [BR,U]
theorem DY {k:Int} (U:n.kind=1):Dj n k=(n.form==k):=by simp [Dj,U]
theorem iI (hl:n.size<=1000000000) (hp:∀x,x.size<n.size->B4 190 p x) (hn:∀x,x.size<n.size->Dj x 11=true\/Dj x 12=true->p x=true):B4 190 (D4 p) n:=by
 intro st R h
 have hk:∀x ∈ n.kids,B4 190 p x:=λx hx=>hp x (Dl hx)
 have hkk:∀x ∈ n.kids,∀y ∈ x.kids,B4 190 p y:=λx hx y hy=>hp y (Nat.lt_trans (Dl hy) (Dl hx))
 have hd:∀x ∈ n.kids.drop 1,B4 190 p x:=λx hx=>hk x (List.mem_of_mem_drop hx)
 have hnk:∀x ∈ n.kids,Dj x 11=true\/Dj x 12=true->p x=true:=λx hx=>hn x (Dl hx)
 have hkl:n.kids.length<=1000000000:=by have:=iS n;omega
 refine pB Tryz.func190 ?_
 repeat' ((conv=>whnf);first|(refine Jw ?_;intros)|(refine GM ?_ ?_<;>intro _)|refine Hk ?_|refine Y8 ?_|refine cz ?_|refine LI (λl hl=>?_) (λhl=>?_)|refine si ‹_› ?_|refine SK (one:=true) (p:=p) hkl IR IR (.inl ⟨rfl,rfl⟩) hk ?_|refine SK (one:=false) (p:=p) hkl IR IR (.inr ⟨rfl,rfl⟩) hk ?_|refine iF hkl hkk ?_|refine nu hd ?_|refine fk hk hnk ?_|refine hk _ ‹_› _ _ ?_)
 all_goals conv=>whnf
 all_goals (refine An h ?_;clear h hp hk hkk hd hn hnk;try simp only [Int.toNat_zero,Int.toNat_one,Int.reduceToNat] at *)
 all_goals first
  |(have g:n.kind=1:=by assumption
    simp_all [D4,Sq,N3,DY];done)
  |(simp_all [D4,l5,HN,Iv];done)
  |(have:1<n.kids.length:=by omega
    simp_all [D4,E4];done)
  |(have:¬1<n.kids.length:=by omega
    simp_all [D4];done)
  |skip
 .have g:n.kind=1:=Nm
  have U:Gs n=true:=Nm
  rw [Sq g,N3 g] at U
  simp only [List.contains_cons,List.contains_nil,Bool.or_false,Bool.or_eq_true,beq_iff_eq] at U
  rcases U with U|U<;>simp [D4,g,N3,U]
 .have g:n.kind=11:=Nm
  have hb:E4 p (n.kids.drop 1)=false:=by
   rw [E4,decide_eq_false GT,Bool.and_false]
  simp only [D4,g,hb,Bool.and_false];rfl
 .have g:n.kind=11:=Nm
  have h2:0<n.kids.length:=H1
  have hb:E4 p (n.kids.drop 1)=true:=by
   rw [E4,decide_eq_true GT,Bool.and_true]
   assumption
  have U:n.kids[0]?.any Gs=true:=lm
  simp only [D4,g,hb,U,h2,decide_true,Bool.and_true];rfl
 .have g:n.kind=17:=Nm
  have h2:¬1<n.kids.length:=H1
  simp only [D4,g,h2,decide_false,Bool.false_and];rfl
theorem Yu {k:Nat} {x:Nd} (h:Dj x 11=true\/Dj x 12=true):Yt (k+1) x=true:=by
 have g:x.kind=1:=by rcases h with h|h<;>exact JU h
 rw [DY g,DY g] at h
 simp only [beq_iff_eq] at h
 rw [Yt]
 rcases h with h|h<;>simp [D4,g,N3,h]
theorem V7:∀(k:Nat) (n:Nd),n.size<=k->n.size<=1000000000->B4 190 (Yt k) n
 |0,n,h,_=>by have:=size_pos n;omega
 |k+1,n,h,hl=>iI hl (λx hx=>V7 k x H1 H1) λx hx U=>by
  cases k with
  |zero=>have:=size_pos x;omega
  |succ k=>exact Yu U
theorem fh {l:List Nd} (U:∀x ∈ l,B4 190 p x) (hn:∀x ∈ l,Dj x 11=true\/Dj x 12=true->p x=true) (h:R (.ret (.bool (Uz p l))) st):ID 250 [.slice 6 (Co l) .any] st R:=by
 refine pB Tryz.func250 ?_
 repeat' ((conv=>whnf);first|(refine Jw ?_;intros)|(refine GM ?_ ?_<;>intro _)|refine U _ ‹_› _ _ ?_|refine fk U hn ?_)
 all_goals conv=>whnf
 all_goals (refine An h ?_;clear h U hn;try simp only [Int.toNat_zero,Int.toNat_one,Int.reduceToNat] at *)
 all_goals simp_all [Uz]
theorem P0 (h:Ea n=some t):DZ n=(2,t):=by
 have hm:Ep n=false:=by
  unfold Ea at h
  unfold Ep
  cases hq:(Bs n).2 with
  |true=>
   rw [hq] at h
   simp only [if_true,HN,Hf] at h |-
   cases U:Dj (Bs n).1 1 with
   |false=>simp_all
   |true=>
    have g:=JU U
    rw [DY g] at U
    rw [DY g,DY g,eq_of_beq U];rfl
  |false=>
   rw [hq] at h
   simp only [Bool.false_eq_true,if_false,HN] at h |-
   cases U:Dj (Bs n).1 5 with
   |false=>simp_all
   |true=>
    have g:=JU U
    rw [DY g] at U
    rw [Hh,Iv,Hf,DY g,DY g,DY g,eq_of_beq U];rfl
 simp [DZ,hm,h]
theorem TE (h:Ea n=none):(DZ n).1≠2:=by
 unfold DZ
 grind
theorem iK (h:(DZ n).1=2):Ea n=some (DZ n).2:=by
 cases hb:Ea n with
 |none=>exact absurd h (TE hb)
 |some t=>rw [P0 hb]
theorem iJ (h:¬(DZ n).1=2):Ea n=none:=by
 cases hb:Ea n with
 |none=>rfl
 |some t=>exact absurd (by rw [P0 hb]) h
theorem jC (h:f.kind=4):BM f=none:=by
 simp [BM,BR,EX,h]
theorem qV {x y z:Nd} (U:f.kids.length=3) (h0:f.kids[0]? =some x) (h1:f.kids[1]? =some y) (h2:f.kids[2]? =some z) (ho:Cv x 15 o=true) (hs:Cv z 15 s=true):BO f o s=some [y]:=by
 obtain ⟨_,e1⟩:=List.getElem?_eq_some_iff.1 h1
 have hm:Gb f=[y]:=by
  have h:=EW (n:=f) H1
  have g:=N7 (n:=f) (i:=0) H1
  rw [U] at h
  match hmm:Gb f,h,g with
  |[z],h,g=>
   simp_all
 rw [GU,hm,if_pos]
 obtain ⟨_,e2⟩:=List.getElem?_eq_some_iff.1 h2
 exact ⟨H1,by simp [DJ,h0,ho],by simp [Fz,U,e2,hs]⟩
theorem jB (h:¬(DJ f o=true/\Fz f s=true)):BO f o s=none:=by
 rw [GU,if_neg (λx=>h x.2)]
def Ie (q:Nd->List UInt8×Bool) (f:Nd):List UInt8×Bool:=
 if f.kind=4 then (match BO f [40] [41] with|some l=>if l.length=1 then (match l[0]? with|some x=>q x|none=>([],false)) else ([],false)|none=>([],false))
  else match BM f with|some t=>(t,true)|none=>([],false)
theorem vq {q:Nd->List UInt8×Bool} (hk:n.kind=11) (hl:1<(n.kids.length:Int)) (hb:Jf (FM p) (n.kids.drop 1)=true) (U:n.kids[0]? =some f):BW p q n=Ie q f:=by
 have g:2<=n.kids.length:=H1
 have hb:E4 p (n.kids.drop 1)=true:=by
  rw [E4,decide_eq_true GT,hb];rfl
 simp only [BW,hk,g,hb,U,if_true];rfl
theorem vt {q:Nd->List UInt8×Bool} (U:n.kind=17):BW p q n=Ec p n.kids 0 n.kids:=by
 simp [BW,U]
theorem vr {q:Nd->List UInt8×Bool} (h:¬n.kind=17) (k:n.kind=11->1<(n.kids.length:Int)->Jf (FM p) (n.kids.drop 1)=false):BW p q n=([],false):=by
 unfold BW
 by_cases g:n.kind=11
 .rw [if_pos g]
  split
  .rw [if_neg]
   rw [E4,k g H1];simp
  .rfl
 simp_all
theorem bt {q:Nd->List UInt8×Bool} (h:f.kind=4) (hf:BO f [40] [41]=none):Ie q f=([],false):=by simp [Ie,h,hf]
theorem bq {q:Nd->List UInt8×Bool} (h:f.kind=4) (hf:¬f.kids.length=3):Ie q f=([],false):=by
 rw [Ie,if_pos h]
 cases U:BO f [40] [41] with
 |none=>rfl
 |some l=>exact if_neg (by have:=M9 U;omega)
theorem bu {q:Nd->List UInt8×Bool} {y:Nd} (h:f.kind=4) (hf:BO f [40] [41]=some [y]):Ie q f=q y:=by simp [Ie,h,hf]
theorem gR {q:Nd->List UInt8×Bool} (h:BM f=some t):Ie q f=(t,true):=by
 by_cases U:f.kind=4
 .rw [jC U] at h;cases h
 .rw [Ie,if_neg U,h]
theorem Ya {q:Nd->List UInt8×Bool} (U:¬f.kind=4) (h:BM f=none):Ie q f=([],false):=by
 rw [Ie,if_neg U,h]
def UX (q:Nd->List UInt8×Bool) (x:Nd):Prop:=∀(st:St) (R:AD->St->Prop),R (.ret (.Bl [.str (q x).1,.bool (q x).2])) st->ID 189 [enc x] st R
theorem Ze {q:Nd->List UInt8×Bool} (hp:∀x,x.size<n.size->B4 190 p x) (hn:∀x,x.size<n.size->Dj x 11=true\/Dj x 12=true->p x=true)
 (hq:∀x,x.size<n.size->UX q x):UX (BW p q) n:=by
 intro st R h
 have hk:∀x ∈ n.kids,B4 190 p x:=λx U=>hp x (Dl U)
 have hd:∀x ∈ n.kids.drop 1,B4 190 p x:=λx U=>hk x (List.mem_of_mem_drop U)
 have hnk:∀x ∈ n.kids,Dj x 11=true\/Dj x 12=true->p x=true:=λx U=>hn x (Dl U)
 refine pB Tryz.func189 ?_
 repeat' ((conv=>whnf);first|(refine Jw ?_;intros)|(refine GM ?_ ?_<;>intro _)|refine nu hd ?_|refine Gy ?_|refine hq _ (Nat.lt_trans (Dl ‹_›) (Dl ‹_›)) _ _ ?_|refine LI (λl hl=>?_) (λhl=>?_))
 all_goals try (refine L9 5 [1] [0] n.kids.length (λk=>k<=n.kids.length/\Ec p n.kids 0 n.kids=Ec p n.kids k (n.kids.drop k)) ⟨Nat.zero_le _,rfl⟩ Yl ?_;rintro k ⟨hkl,hi⟩)
 repeat' ((conv=>whnf);first|(refine Jw ?_;intros)|(refine GM ?_ ?_<;>intro _)|refine P1 ?_|refine fh (λx U=>hk x (List.mem_of_mem_take (List.mem_of_mem_drop U))) (λx U=>hnk x (List.mem_of_mem_take (List.mem_of_mem_drop U))) ?_|refine fh (λx U=>hk x (List.mem_of_mem_drop U)) (λx U=>hnk x (List.mem_of_mem_drop U)) ?_)
 all_goals conv=>whnf
 all_goals first
  |refine AU ?_ h
  |(refine ⟨k+1,⟨H1,?_⟩,H1,Yl,St.le_refl _⟩)
  |skip
 all_goals clear h hp hq hk hd hn hnk
 all_goals try (have e:=drop_at ‹n.kids[Int.toNat k]? =some _›;rw [Int.toNat_natCast] at e;rw [e,Ec] at hi;clear e)
 all_goals try (rw [iK ‹_›] at hi)
 all_goals try (rw [iJ ‹_›] at hi)
 all_goals try simp only [Int.toNat_zero,Int.toNat_one,Int.reduceToNat,Int.toNat_natCast] at *
 all_goals first
  |(simp_all;done)
  |refine X2 ?_
 all_goals try (rw [vq ‹_› ‹_› ‹_› ‹_›])
 all_goals try (rw [gR ‹_›];done)
 all_goals try (rw [Ya ‹_› ‹_›];done)
 all_goals try (rw [bq ‹_› ‹_›];done)
 all_goals try (rw [bu ‹_› (qV ‹_› ‹_› ‹_› ‹_› ‹_› ‹_›)];exact Prod.ext rfl ‹_›)
 all_goals try (rw [bt ‹_› (jB (by rintro ⟨g1,g2⟩;simp_all [DJ,Fz]))];done)
 all_goals try simp only [xg,List.drop_zero] at *
 all_goals try (rw [List.drop_eq_nil_of_le H1] at hi)
 all_goals try (rw [vt ‹_›,hi];simp_all [Ec];done)
 all_goals (refine vr ?_ ?_;all_goals intros;simp_all)
theorem Zd:∀(k:Nat) (n:Nd),n.size<=k->n.size<=1000000000->UX (lY k) n
 |0,n,h,_=>by have:=size_pos n;omega
 |k+1,n,h,hl=>Ze (λx hx=>V7 k x H1 H1) (λx hx U=>by
  cases k with
  |zero=>have:=size_pos x;omega
  |succ k=>exact Yu U) λx hx=>Zd k x H1 H1
theorem iA (U:n.size<=1000000000) (h:R (.ret (.int .i64 (OS n))) st):ID 321 [enc n] st R:=by
 refine pB Tryz.func321 ?_
 repeat' ((conv=>whnf);first|  (refine GM ?_ ?_<;>intro _)|refine V7 _ _ (Nat.le_refl _) U _ _ ?_)
 all_goals conv=>whnf
 all_goals (refine fin h ?_;clear h;simp_all [OS,Hr])
theorem wB (U:n.size<=1000000000) (h:R (.ret (.Bl [.int .i64 (VE n).1,.str (VE n).2.1,.int .i64 (VE n).2.2])) st):ID 114 [enc n] st R:=by
 refine pB Tryz.func114 ?_
 repeat' ((conv=>whnf);first|  (refine GM ?_ ?_<;>intro _)|refine Zd _ _ (Nat.le_refl _) U _ _ ?_|refine V7 _ _ (Nat.le_refl _) U _ _ ?_)
 all_goals conv=>whnf
 all_goals (refine AU ?_ h;clear h;refine X3 ?_;simp_all [VE,Hr])
end
theorem Sv {q:Nd->List (List UInt8)} {b:Bool}:∀{l:List Nd} {i:Nat},(∀x ∈ l,(q x).length<=x.size)->(Fq q b i l).length<=D0 l
 |[],_,_=>by simp [Fq,D0]
 |x::r,i,h=>by
  have:=Sv (b:=b) (l:=r) (i:=i+1) λy hy=>h y (List.mem_cons_of_mem _ hy)
  have:=h x List.mem_cons_self
  rw [Fq,List.length_append,D0]
  grind
theorem Sw:∀{k:Nat} {n:Nd},(FY k n).length<=n.size
 |0,n=>Nat.zero_le _
 |k+1,n=>by
  rw [FY,CT]
  have:=size_pos n
  split
  .grind
  .split
   .simp
   .have:=Sv (b:=n.kind==13) (l:=n.kids) (i:=0) (q:=FY k) λx _=>Sw
    cases n with
    |mk a b c d e ks=>rw [Nd.size];show (Fq _ _ 0 ks).length<=_;have:(Fq (FY k) (a==13) 0 ks).length<=D0 ks:=this;show (Fq (FY k) (a==13) 0 ks).length<=_;omega
section
variable {st:St} {R:AD->St->Prop}
theorem mK (U:n.size<=1000000000) (h:R (.ret (.Bl [.slice 1 (strs (GX n).1) .any,.int .i64 (GX n).2])) st):ID 344 [enc n] st R:=
 ic (Nat.le_trans Sw U) h
theorem lD {k f:Int} {l c:Int}:enc (.mk k f t l c ks)=.agg [.int .i64 k,.int .i64 f,.str t,.int .i64 l,.int .i64 c,.slice 6 (ks.map Ap) .any]:=by
 rw [enc,Ap,BV];rfl
end
end Go.Proofs.Z
namespace Go.Aw
open Go
def Ed (c:Int):Int:=
 if c=40\/c=41\/c=44\/c=59\/c=91\/c=93\/c=96\/c=123\/c=125 then 6
 else if c=34\/c=39 then 7
 else if 32<c/\c<127 then 5
 else 0
def NL (c:Int):Int:=
 if c=215\/c=247 then 5
 else if 223<=c/\c<=255\/945<=c/\c<=969 then 2
 else if 192<=c/\c<=222\/913<=c/\c<=937/\c≠930 then 3
 else if c<160\/c=173\/55296<=c/\c<=57343\/1114111<c then 0
 else if 160<c/\c<=191\/8592<=c/\c<=8959 then 5
 else 8
def A4 (c:Int):Int:=
 if c=32\/9<=c/\c<=13 then 1
 else if 48<=c/\c<=57 then 4
 else if 97<=c/\c<=122\/c=95 then 2
 else if 65<=c/\c<=90 then 3
 else if c<128 then Ed c else NL c
def BQ (c base:Int):Int:=
 let v:=if 48<=c/\c<=57 then c - 48 else if 97<=c/\c<=102 then c - 87 else if 65<=c/\c<=70 then c - 55 else 16
 if base<2\/16<base\/base<=v then -1 else v
theorem Ho (l:List UInt8):1<=(Br l).2:=by
 unfold Br
 grind
theorem Kr (h:l≠[]):(Br l).2<=l.length:=by
 cases l with
 |nil=>simp_all
 |cons a l=>
  have hc:∀k:Nat,(match l[k]? with|some b=>b.toNat / 64==2|none=>false)=true->k+2<=(a::l).length:=λk e=>by grind
  unfold Br
  grind
def CI (p:Nat×Nat->Bool) (l:List UInt8):Nat:=
 match l with
 |[]=>0
 |a::r=>if p (Br (a::r)) then (Br (a::r)).2+CI p ((a::r).drop (Br (a::r)).2) else 0
termination_by l.length
decreasing_by
 have:=Ho (a::r)
 grind
theorem Pt (p:Nat×Nat->Bool):CI p []=0:=by rw [CI]
theorem Mm {p:Nat×Nat->Bool} (h:l≠[]) (U:p (Br l)=true):CI p l=(Br l).2+CI p (l.drop (Br l).2):=by
 cases l with
 |nil=>simp_all
 |cons a r=>rw [CI,if_pos U]
theorem Oz {p:Nat×Nat->Bool} (U:p (Br l)=false):CI p l=0:=by
 cases l with
 |nil=>exact Pt p
 |cons a r=>rw [CI,if_neg lm]
theorem S6 (p:Nat×Nat->Bool) (l:List UInt8):CI p l<=l.length:=by
 fun_induction CI p l with
 |case1=>omega
 |case2 a r h ih=>
  have:=Kr (l:=a::r) Pi
  grind
 |case3 a r h=>omega
theorem cM (p:Nat×Nat->Bool) (l:List UInt8) (h:CI p l<l.length):p (Br (l.drop (CI p l)))=false:=by
 fun_induction CI p l with
 |case1=>simp at h
 |case2 a r U ih=>
  rw [List.length_drop] at ih
  have:=Kr (l:=a::r) Pi
  rw [<-List.drop_drop]
  grind
 |case3 a r U=>simp_all
def CF (p:Int->Bool) (l:List UInt8):Nat:=CI (λd=>p (d.1:Nat)) l
theorem iX (p:Int->Bool):CF p []=0:=Pt _
theorem iY {p:Int->Bool} (h:l≠[]) (U:p ((Br l).1:Nat)=true):CF p l=(Br l).2+CF p (l.drop (Br l).2):=Mm h U
theorem oG {p:Int->Bool} (U:p ((Br l).1:Nat)=false):CF p l=0:=Oz U
theorem Gz (p:Int->Bool) (l:List UInt8):CF p l<=l.length:=S6 _ l
theorem S7 (p:Int->Bool) (l:List UInt8) (h:CF p l<l.length):p ((Br (l.drop (CF p l))).1:Nat)=false:=cM _ l h
theorem rune_le {c:Nat} (h:pos<t.length) (hd:(c,m)=Br (t.drop pos)):pos+m<=t.length/\1<=m:=by
 have U:=Ho (t.drop pos)
 have h2:=Kr (l:=t.drop pos) (λe=>by have:=congrArg List.length e;grind)
 grind
theorem Q5 {p:Nat×Nat->Bool} {c n:Nat} (h:pos<t.length) (U:(c,m)=Br (t.drop pos)) (hp:p (c,m)=true) (hi:n=pos+CI p (t.drop pos)):n=pos+m+CI p (t.drop (pos+m)):=by
 rw [hi,Mm (λe=>by have:=congrArg List.length e;grind) lm,<-U,List.drop_drop]
 grind
theorem WV {p:Nat×Nat->Bool} {c n:Nat} (U:(c,m)=Br (t.drop pos)) (hp:p (c,m)=false) (hi:n=pos+CI p (t.drop pos)):n=pos:=by
 rw [hi,Oz lm];rfl
theorem S8 {p:Nat×Nat->Bool} {n:Nat} (h:¬pos<t.length) (hi:n=pos+CI p (t.drop pos)):n=pos:=by
 rw [hi,List.drop_eq_nil_iff.2 H1,Pt];rfl
def F4 (d:Nat×Nat):Bool:= !(d.1==65533&&d.2==1)
end Go.Aw
namespace Go.Proofs.Z
open Go Go.Aw
def N9 (s:List UInt8) (i:Int):Int×Int:=if i<0\/s.length<=i then (0,0) else XI (s.drop i.toNat)
def sH (s:List UInt8) (i U:Int):Int:=if i<0\/s.length<i then 0 else i+CF (λc=>A4 c==U) (s.drop i.toNat)
def OT (s:List UInt8):Int×Int:=if CI F4 s<s.length then (CI F4 s,10) else (s.length,0)
theorem Ue (h:i<0\/s.length<=i):N9 s i=(0,0):=if_pos h
theorem Oa (h:0<=i) (k:i<s.length):N9 s i=XI (s.drop i.toNat):=if_neg H1
theorem om {k:Int} (h:i<0\/s.length<i):sH s i k=0:=if_pos h
theorem QY {k:Int} (h:0<=i) (U:i<=s.length):sH s i k=i+CF (λc=>A4 c==k) (s.drop i.toNat):=if_neg H1
theorem dB (h:s≠[]):XI s=((((Br s).1:Nat):Int),(((Br s).2:Nat):Int)):=by
 cases s with
 |nil=>exact absurd rfl h
 |cons a r=>rfl
theorem QF {c:Nat} (h:pos<s.length) (U:(c,m)=Br (s.drop pos)):XI (s.drop (pos:Int).toNat)=((c:Int),(m:Int)):=by
 rw [show (pos:Int).toNat=pos by omega,dB (λe=>by have:=congrArg List.length e;rw [List.length_drop,List.length_nil] at this;omega),<-U]
theorem kX (h:pos<s.length) (k:CI F4 s=pos):OT s=(((pos:Nat):Int),10):=by
 unfold OT;rw [k,if_pos h]
theorem qt (h:¬pos<s.length) (k:CI F4 s=pos):OT s=((s.length:Int),0):=by
 unfold OT;rw [k,if_neg h]
section
variable {st:St} {R:AD->St->Prop}
theorem vU {c:Int} (h:R (.ret (.int .i64 (Ed c))) st):PC 127 [.int .i32 c] st R:=by
 refine pB Tryz.func127 ?_
 repeat' ((conv=>whnf);first|  (refine DD ?_ ?_<;>intro _)|fail)
 all_goals exact fin h (B9 (by unfold Ed;(repeat' split)<;>first|omega|rfl))
theorem kG {c:Int} (h:R (.ret (.int .i64 (NL c))) st):PC 128 [.int .i32 c] st R:=by
 refine pB Tryz.func128 ?_
 repeat' ((conv=>whnf);first|(refine CM ?_;intros)|(refine DD ?_ ?_<;>intro _)|fail)
 all_goals exact fin h (B9 (by unfold NL;(repeat' split)<;>first|omega|rfl))
theorem LX {c:Int} (h:R (.ret (.int .i64 (A4 c))) st):PC 58 [.int .i32 c] st R:=by
 refine pB Tryz.func58 ?_
 repeat' ((conv=>whnf);first|(refine CM ?_;intros)|(refine DD ?_ ?_<;>intro _)|refine vU ?_|refine kG ?_)
 all_goals exact fin h (B9 (by unfold A4;(repeat' split)<;>first|omega|rfl))
theorem mQ (U:s.length<4611686018427387904) (h:R (.ret (.Bl [.int .i32 (N9 s i).1,.int .i64 (N9 s i).2])) st):PC 325 [.str s,.int .i64 i] st R:=by
 refine pB Tryz.func325 ?_
 repeat' ((conv=>whnf);first|(refine CM ?_;intros)|(refine DD ?_ ?_<;>intro _)|refine tP ?_)
 all_goals exact fin h (by first|rw [Ue H1]|rw [Oa H1 H1])
theorem uz {k:Int} (hl:s.length<4611686018427387904) (h:R (.ret (.int .i64 (sH s i k))) st):PC 129 [.str s,.int .i64 i,.int .i64 k] st R:=by
 refine pB Tryz.func129 ?_
 repeat' ((conv=>whnf);first|(refine CM ?_;intros)|(refine DD ?_ ?_<;>intro _)|refine LX ?_)
 all_goals try exact fin h (B9 (om H1))
 have hlen:(s.drop i.toNat).length=s.length - i.toNat:=List.length_drop
 generalize ht:s.drop i.toNat=t at hlen
 refine Lt (α:=Nat) (λ_=>[]) (λpos=>[(0,[.Qo t pos])]) [0,1,2,20] [] (λ_=>st) (λpos=>pos<=t.length/\CF (λc=>A4 c==k) t=pos+CF (λc=>A4 c==k) (t.drop pos)) (λpos=>t.length - pos) 0 ⟨Nat.zero_le _,Pi⟩ Yl (St.le_refl _) ?_
 rintro pos ⟨hp,hi⟩
 repeat' ((conv=>whnf);first|(refine CM ?_;intros)|(refine DD ?_ ?_<;>intro _)|refine LX ?_)
 .rename_i U c m hd hk
  have hr:=rune_le U hd
  conv=>whnf
  exact ⟨pos+m,⟨hr.1,Q5 U hd (beq_iff_eq.2 hk) hi⟩,H1,Yl,St.le_refl _⟩
 .rename_i U c m hd hk
  have:=WV (p:=λd=>A4 (d.1:Nat)==k) hd (beq_eq_false_iff_ne.2 hk) hi
  exact fin h (B9 (by rw [QY H1 H1,ht,this]))
 .rename_i U hls
  have:=S8 U hi
  exact fin h (B9 (by rw [QY H1 H1,ht,this];omega))
theorem U9 (h:R (.ret (.Bl [.int .i64 (OT s).1,.int .i64 (OT s).2])) st):PC 55 [.str s] st R:=by
 refine pB Tryz.func55 ?_
 repeat' ((conv=>whnf);first|(refine CM ?_;intros)|(refine DD ?_ ?_<;>intro _)|fail)
 refine Lt (α:=Nat) (λ_=>[]) (λpos=>[(0,[.Qo s pos])]) [0,9] [] (λ_=>st) (λpos=>pos<=s.length/\CI F4 s=pos+CI F4 (s.drop pos)) (λpos=>s.length - pos) 0 ⟨Nat.zero_le _,Pi⟩ Yl (St.le_refl _) ?_
 rintro pos ⟨hp,hi⟩
 repeat' ((conv=>whnf);first|(refine CM ?_;intros)|(refine DD ?_ ?_<;>intro _)|refine tP ?_)
 .rename_i U c m hd hc hm
  rw [QF U hd] at hm
  have hk:=WV hd (by simp only [F4];have h1:c=65533:=hc;have h2:m=1:=Int.ofNat.inj hm;rw [h1,h2];rfl) hi
  exact fin h (by rw [kX U hk])
 .rename_i U c m hd hc hm
  rw [QF U hd] at hm
  have hr:=rune_le U hd
  conv=>whnf
  exact ⟨pos+m,⟨hr.1,Q5 U hd (by simp only [F4];have:¬m=1:=λe=>hm (by subst e;rfl);simp [this]) hi⟩,H1,Yl,St.le_refl _⟩
 .rename_i U c m hd hc
  have hr:=rune_le U hd
  conv=>whnf
  exact ⟨pos+m,⟨hr.1,Q5 U hd (by simp only [F4];have:¬c=65533:=hc;simp [this]) hi⟩,H1,Yl,St.le_refl _⟩
 .rename_i U hls
  exact fin h (by rw [qt U (S8 U hi)])
end
end Go.Proofs.Z
namespace Go.Aw
open Go
theorem gr (k:K (e.toNat:Nat)):∃r,r=IntKind.i64.wrap ((e.toNat:Nat):Int)/\K r:=by
 have:=e.toNat_lt
 exact Wq H1 H1 k
def A6:List UInt8->Int
 |[]=> -1
 |a::_=>(a.toNat:Nat)
theorem l4 (l:List UInt8): -1<=A6 l/\A6 l<=255:=by
 cases l with
 |nil=>exact ⟨IR,IR⟩
 |cons a r=>have:=a.toNat_lt;simp only [A6];omega
end Go.Aw
namespace Go.Proofs.Z
open Go Go.Aw
section
variable {st:St} {R:AD->St->Prop}
theorem yb {c a:Int} (h:R (.ret (.bool (decide (a<=c/\c<=b)))) st):PC 310 [.int .i64 c,.int .i64 a,.int .i64 b] st R:=by
 refine pB Tryz.func310 ?_
 repeat' ((conv=>whnf);first|  (refine DD ?_ ?_<;>intro _)|fail)
 all_goals exact fin h (congrArg (λb=>AD.ret (V.bool b)) (by first|exact decide_eq_true (by omega)|exact decide_eq_false H1))
end
end Go.Proofs.Z
namespace Go.Aw
open Go
def Jv (l:List UInt8):Nat:=if A6 l=13/\A6 (l.drop 1)=10 then 2 else if A6 l=13\/A6 l=10\/A6 l=12 then 1 else 0
def fy (Da:Int):Int:=(Da - 1) / 8*8+9
def Be (l:List UInt8):Nat:=if 0<Jv l then Jv l else (Br l).2
def GA (l:List UInt8) (line:Int):Int:=if 0<Jv l then line+1 else line
def HF (l:List UInt8) (Da:Int):Int:=if 0<Jv l then 1 else if A6 l=9 then fy Da else Da+1
theorem DG {i:Nat} (h:s[i]? =some e):A6 (s.drop i)=(e.toNat:Nat):=by rw [drop_at h];rfl
theorem ET {i:Nat} (h:s.length<=i):A6 (s.drop i)= -1:=by rw [List.drop_eq_nil_iff.2 h];rfl
theorem bV (l:List UInt8):Jv l<=l.length:=by
 rcases l with _|⟨a,_|⟨b,r⟩⟩
 .decide
 .have e:¬(A6 [a]=13/\A6 ([a].drop 1)=10):=λh=>absurd (show (-1:Int)=10 from h.2) IR
  unfold Jv
  rw [if_neg e,List.length_singleton]
  by_cases h:A6 [a]=13\/A6 [a]=10\/A6 [a]=12
  .rw [if_pos h];omega
  .rw [if_neg h];omega
 .unfold Jv
  simp only [List.length_cons]
  by_cases U:A6 (a::b::r)=13/\A6 ((a::b::r).drop 1)=10
  .rw [if_pos U];omega
  .rw [if_neg U]
   by_cases h:A6 (a::b::r)=13\/A6 (a::b::r)=10\/A6 (a::b::r)=12
   .rw [if_pos h];omega
   .rw [if_neg h];omega
theorem Hw (h:l≠[]):Be l<=l.length/\1<=Be l:=by
 unfold Be
 split
 .exact ⟨bV l,Nm⟩
 .exact ⟨Kr h,Ho l⟩
theorem fx (s:List UInt8) (pos:Nat):¬pos<s.length\/(pos+Be (s.drop pos)<=s.length/\1<=Be (s.drop pos)):=by
 by_cases h:pos<s.length
 .have:=Hw (l:=s.drop pos) (λe=>by have:=congrArg List.length e;rw [List.length_drop,List.length_nil] at this;omega)
  rw [List.length_drop] at this
  exact .inr ⟨H1,this.2⟩
 .exact .inl h
end Go.Aw
namespace Go.Proofs.Z
open Go Go.Aw
def spot (pos:Nat) (line Da:Int):V:=.agg [.int .i64 pos,.int .i64 line,.int .i64 Da]
theorem S9 {p:Nat} {p' l l' c U:Int} (e1:(p:Int)=p') (e2:l=l') (e3:c=U):AD.ret (spot p l c)=AD.ret (.agg [.int .i64 p',.int .i64 l',.int .i64 U]):=by subst e1;subst e2;subst e3;rfl
section
variable {st:St} {R:AD->St->Prop}
theorem et {c:Nat} (U:s.length<4611686018427387904) (hx:N9 s i=((c:Int),(m:Int))) (h:R (.ret (.Bl [.int .i32 c,.int .i64 m])) st):PC 325 [.str s,.int .i64 i] st R:=mQ U (by rw [hx];exact h)
theorem Uc (hl:s.length<4611686018427387904) (hp:pos<s.length) (h:R (.ret (.int .i64 (Jv (s.drop pos):Nat))) st):PC 267 [.str s,.int .i64 pos] st R:=by
 obtain ⟨e,U⟩:∃e,s[pos]? =some e:=⟨s[pos],List.getElem?_eq_getElem hp⟩
 have he':s[(pos:Int).toNat]? =some e:=U
 have h0:=DG U
 have h1:A6 ((s.drop pos).drop 1)=A6 (s.drop (pos+1)):=by rw [List.drop_drop]
 refine pB Tryz.func267 ?_
 repeat' ((conv=>whnf);first|(refine CM ?_;intros)|(refine DD ?_ ?_<;>intro _)|fail)
 all_goals try have h2:=DG (show s[pos+1]? =some _ by assumption)
 all_goals try have h3:=ET (s:=s) (i:=pos+1) H1
 all_goals exact fin h (B9 (by unfold Jv;rw [h1];(repeat' split)<;>omega))
theorem wQ {Da:Int} (U:1<=Da) (h1:Da<=4000000000000000000) (h:R (.ret (.int .i64 (fy Da))) st):PC 326 [.int .i64 Da] st R:=by
 refine pB Tryz.func326 ?_
 repeat' ((conv=>whnf);first|(refine CM ?_;intros)|fail)
 exact fin h (B9 (by unfold fy;omega))
theorem eI {line Da:Int} (hl:s.length<4611686018427387904) (hp:pos<s.length) (h0:1<=line) (h1:line<=4000000000000000000) (h2:1<=Da) (h3:Da<=4000000000000000000)
 (h:R (.ret (spot (pos+Be (s.drop pos)) (GA (s.drop pos) line) (HF (s.drop pos) Da))) st):PC 268 [.str s,spot pos line Da] st R:=by
 obtain ⟨e,he⟩:∃e,s[pos]? =some e:=⟨s[pos],List.getElem?_eq_getElem hp⟩
 have he':s[(pos:Int).toNat]? =some e:=he
 have hh:=DG he
 have hn:=bV (s.drop pos)
 rw [List.length_drop] at hn
 rcases hd:Br (s.drop pos) with ⟨c,m⟩
 have hr:=rune_le hp hd.symm
 have hx:N9 s pos=((c:Int),(m:Int)):=by rw [Oa H1 H1,QF hp hd.symm]
 refine pB Tryz.func268 ?_
 repeat' ((conv=>whnf);first|(refine CM ?_;intros)|(refine DD ?_ ?_<;>intro _)|refine Uc hl hp ?_|refine et hl hx ?_|refine wQ h2 h3 ?_)
 .have U:0<Jv (s.drop pos):=H1
  exact fin h (S9 (by unfold Be;rw [if_pos U];omega) (by unfold GA;rw [if_pos U]) (by unfold HF;rw [if_pos U]))
 .have U:¬0<Jv (s.drop pos):=H1
  exact fin h (S9 (by unfold Be;rw [if_neg U,hd];omega) (by unfold GA;rw [if_neg U]) (by unfold HF;rw [if_neg U,if_pos H1]))
 .have U:¬0<Jv (s.drop pos):=H1
  exact fin h (S9 (by unfold Be;rw [if_neg U,hd];omega) (by unfold GA;rw [if_neg U]) (by unfold HF;rw [if_neg U,if_neg H1]))
end
end Go.Proofs.Z
namespace Go.Aw
open Go
def Cz (l:List UInt8) (k:Nat) (p:Int×Int):Int×Int:=
 match l with
 |[]=>p
 |a::r=>if k<Be (a::r) then p else Cz ((a::r).drop (Be (a::r))) (k - Be (a::r)) (GA (a::r) p.1,HF (a::r) p.2)
termination_by l.length
decreasing_by
 have:=Hw (l:=a::r) Pi
 simp only [List.length_drop,List.length_cons]
 omega
theorem G8 (k:Nat) (p:Int×Int):Cz [] k p=p:=by rw [Cz]
theorem FZ {k:Nat} {p:Int×Int} (h:k<Be l):Cz l k p=p:=by
 cases l with
 |nil=>exact G8 k p
 |cons a r=>rw [Cz,if_pos h]
theorem FL {k:Nat} {p:Int×Int} (U:l≠[]) (h:¬k<Be l):Cz l k p=Cz (l.drop (Be l)) (k - Be l) (GA l p.1,HF l p.2):=by
 cases l with
 |nil=>exact absurd rfl U
 |cons a r=>rw [Cz,if_neg h]
theorem G9 {p:Int×Int}:Cz l 0 p=p:=by
 cases l with
 |nil=>exact G8 0 p
 |cons a r=>exact FZ (Hw Pi).2
theorem Vg (h:pos<s.length):s.drop pos≠[]:=λe=>by
 have:=congrArg List.length e;rw [List.length_drop,List.length_nil] at this;omega
theorem Tj {k:Nat} {line Da:Int} (h:pos<s.length) (U:¬pos+k<pos+Be (s.drop pos)):
 Cz (s.drop pos) k (line,Da)=Cz (s.drop (pos+Be (s.drop pos))) (k - Be (s.drop pos)) (GA (s.drop pos) line,HF (s.drop pos) Da):=by
 rw [FL (Vg h) H1,List.drop_drop]
theorem WZ (l:List UInt8) (line:Int):line<=GA l line/\GA l line<=line+1:=by unfold GA;split<;>omega
theorem WY (l:List UInt8) {Da:Int} (h:1<=Da):1<=HF l Da/\HF l Da<=Da+8:=by
 unfold HF fy
 by_cases U:0<Jv l
 .rw [if_pos U];omega
 .rw [if_neg U]
  by_cases h2:A6 l=9
  .rw [if_pos h2];omega
  .rw [if_neg h2];omega
end Go.Aw
namespace Go.Proofs.Z
open Go Go.Aw
section
variable {st:St} {R:AD->St->Prop}
theorem yW {k:Nat} (hl:s.length<=100000000) (hk:k<=s.length) (h:R (.ret (.Bl [.int .i64 (Cz s k (1,1)).1,.int .i64 (Cz s k (1,1)).2,.int .i64 0])) st):PC 200 [.str s,.int .i64 k] st R:=by
 refine pB Tryz.func200 ?_
 repeat' ((conv=>whnf);first|exact Ft|(refine CM ?_;intros)|(refine Fu ?_ ?_ ?_;rotate_left)|(refine DD ?_ ?_<;>intro _)|refine Au NE ?_|fail)
 refine VH (α:=Nat) (β:=Int) (γ:=Int) (λ_ _ _=>[]) (λpos line Da=>[(0,[.int .i64 (pos:Int),.int .i64 line,.int .i64 Da])]) [0,1,7] [] (λ_ _ _=>st)
  (λpos line Da=>pos<=k/\1<=line/\line<=1+(pos:Int)/\1<=Da/\Da<=1+8*(pos:Int)/\Cz s k (1,1)=Cz (s.drop pos) (k - pos) (line,Da)) (λpos _ _=>k - pos) 0 1 1 ⟨H1,H1,H1,H1,H1,rfl⟩ Yl (St.le_refl _) ?_
 rintro pos line Da ⟨h1,h2,h3,h4,h5,U⟩
 have hr:=fx s pos
 have hL:=WZ (s.drop pos) line
 have hC:=WY (s.drop pos) h4
 repeat' ((conv=>whnf);first|exact Ft|(refine CM ?_;intros)|(refine Fu ?_ ?_ ?_;rotate_left)|(refine DD ?_ ?_<;>intro _)|refine eI H1 H1 H1 H1 H1 H1 ?_|refine Au NE ?_|fail)
 .exact fin h (by rw [U,FZ H1])
 .conv=>whnf
  exact ⟨(pos+Be (s.drop pos),GA (s.drop pos) line,HF (s.drop pos) Da),⟨f9,f9,f9,f9,f9,by dsimp only;rw [U,Tj H1 H1,Nat.sub_sub]⟩,f9,Yl,St.le_refl _⟩
 .have hz:k - pos=0:=H1
  exact fin h (by rw [U,hz,G9])
theorem tu {U:Int} (hl:s.length<=100000000) (h0:1<=U) (h1:U<=2147483648) (h:R (.ret (.Bl [.int .i64 (Cz s s.length (1,U)).2,.int .i64 0])) st):PC 201 [.str s,.int .i64 U] st R:=by
 refine pB Tryz.func201 ?_
 repeat' ((conv=>whnf);first|(refine CM ?_;intros)|(refine DD ?_ ?_<;>intro _)|fail)
 refine VH (α:=Nat) (β:=Int) (γ:=Int) (λ_ _ _=>[]) (λpos line Da=>[(0,[.int .i64 (pos:Int),.int .i64 line,.int .i64 Da])]) [0,6] [] (λ_ _ _=>st)
  (λpos line Da=>pos<=s.length/\1<=line/\line<=1+(pos:Int)/\1<=Da/\Da<=U+8*(pos:Int)/\Cz s s.length (1,U)=Cz (s.drop pos) (s.length - pos) (line,Da)) (λpos _ _=>s.length - pos) 0 1 U ⟨H1,H1,H1,H1,H1,rfl⟩ Yl (St.le_refl _) ?_
 rintro pos line Da ⟨h1,h2,h3,h4,h5,h6⟩
 have hr:=fx s pos
 have hL:=WZ (s.drop pos) line
 have hC:=WY (s.drop pos) h4
 repeat' ((conv=>whnf);first|(refine CM ?_;intros)|(refine DD ?_ ?_<;>intro _)|refine eI H1 H1 H1 H1 H1 H1 ?_)
 .conv=>whnf
  exact ⟨(pos+Be (s.drop pos),GA (s.drop pos) line,HF (s.drop pos) Da),⟨f9,f9,f9,f9,f9,by dsimp only;rw [h6,Tj H1 H1,Nat.sub_sub]⟩,f9,Yl,St.le_refl _⟩
 .have hz:s.length - pos=0:=H1
  exact fin h (by rw [h6,hz,G9])
end
end Go.Proofs.Z
namespace Go.Aw
open Go
theorem vR {ih:(AG->Env->St->Prop)->Env->St->Prop} {Q:AG->Env->St->Prop} {env:Env} {st:St} {α β γ δ:Type} (f:α->β->γ->δ->List (Nat×V)) (g:α->β->γ->δ->List (Nat×List V)) (keep kb:List Nat) (S:α->β->γ->δ->St) (J:α->β->γ->δ->Prop) (U:α->β->γ->δ->Nat) (x0:α) (y0:β) (z0:γ) (u0:δ) (h0:J x0 y0 z0 u0)
 (he:(env.EG (f x0 y0 z0 u0) (g x0 y0 z0 u0) keep kb).C3 env) (hs:St.le (S x0 y0 z0 u0) st)
 (hb:∀x y z u,J x y z u->ih (Bz (λenv' st'=>∃p:α×β×γ×δ,J p.1 p.2.1 p.2.2.1 p.2.2.2/\U p.1 p.2.1 p.2.2.1 p.2.2.2<U x y z u/\(env.EG (f p.1 p.2.1 p.2.2.1 p.2.2.2) (g p.1 p.2.1 p.2.2.1 p.2.2.2) keep kb).C3 env'/\St.le (S p.1 p.2.1 p.2.2.1 p.2.2.2) st') Q) (env.EG (f x y z u) (g x y z u) keep kb) (S x y z u)):
 ∃(α:Type) (E:α->Env) (S:α->St) (J:α->Prop) (U:α->Nat) (x0:α),J x0/\(E x0).C3 env/\St.le (S x0) st/\
  ∀x,J x->ih (Bz (λenv' st'=>∃y,J y/\U y<U x/\(E y).C3 env'/\St.le (S y) st') Q) (E x) (S x):=
 ⟨α×β×γ×δ,λp=>env.EG (f p.1 p.2.1 p.2.2.1 p.2.2.2) (g p.1 p.2.1 p.2.2.1 p.2.2.2) keep kb,λp=>S p.1 p.2.1 p.2.2.1 p.2.2.2,λp=>J p.1 p.2.1 p.2.2.1 p.2.2.2,λp=>U p.1 p.2.1 p.2.2.1 p.2.2.2,(x0,y0,z0,u0),h0,he,hs,λp h=>hb p.1 p.2.1 p.2.2.1 p.2.2.2 h⟩
def Eo (s:List UInt8) (U pos:Nat):List (List UInt8):=
 if h:pos<s.length then
  if 0<Jv (s.drop pos) then (s.take pos).drop U::Eo s (pos+Jv (s.drop pos)) (pos+Jv (s.drop pos)) else Eo s U (pos+1)
 else [s.drop U]
termination_by s.length - pos
decreasing_by all_goals omega
theorem xT {a:Int} (h:¬a<b) (k:K a):∃r,r=(if a<b then b else a)/\K r:=⟨a,(if_neg h).symm,k⟩
theorem xU {a:Int} (h:a<b) (k:K b):∃r,r=(if a<b then b else a)/\K r:=⟨b,(if_pos h).symm,k⟩
theorem ko {l:List (List UInt8)} {own:Ay} {st:St} {K:V->St->Prop} (h:own.B5 st) (hb:l.length<=999999999)
 (k:∀U:Ay,U.B5 st->K (.slice 1 (strs (l++[x])) U) (U.st st (l++[x]).length)):Ai 1 16 (strs l) own [[.str x]] (own.st st l.length) K:=
 Qb (new:=[x]) h lm k
theorem hH {U:Nat} (h:pos<s.length) (k:0<Jv (s.drop pos)):Eo s U pos=(s.take pos).drop U::Eo s (pos+Jv (s.drop pos)) (pos+Jv (s.drop pos)):=by
 rw [Eo,dif_pos h,if_pos k]
theorem gY {U:Nat} (h:pos<s.length) (k:¬0<Jv (s.drop pos)):Eo s U pos=Eo s U (pos+1):=by
 rw [Eo,dif_pos h,if_neg k]
theorem bI {U:Nat} (h:¬pos<s.length):Eo s U pos=[s.drop U]:=by
 rw [Eo,dif_neg h]
end Go.Aw
namespace Go.Proofs.Z
open Go Go.Aw
section
variable {st:St} {R:AD->St->Prop}
attribute [local irreducible] Go.Aw.Ai
theorem ee (hl:s.length<=100000000) (h:∀own:Ay,own.B5 st->R (.ret (.slice 1 (strs (Eo s 0 0)) own)) (own.st st (Eo s 0 0).length)):PC 199 [.str s] st R:=by
 refine pB Tryz.func199 ?_
 repeat' ((conv=>whnf);first|(refine CM ?_;intros)|(refine DD ?_ ?_<;>intro _)|fail)
 refine vR (α:=Nat) (β:=Nat) (γ:=List (List UInt8)) (δ:=Ay) (λpos U l own=>[(5,.int .i64 (pos:Int)),(4,.int .i64 (U:Int)),(3,.slice 1 (strs l) own)]) (λ_ _ _ _=>[]) [0] [] (λ_ _ l own=>own.st st l.length)
  (λpos U l own=>U<=pos/\pos<=s.length/\l.length<=pos/\own.B5 st/\Eo s 0 0=l++Eo s U pos) (λpos _ _ _=>s.length - pos) 0 0 [] .full ⟨H1,H1,Pi,trivial,rfl⟩ Yl (St.le_refl _) ?_
 rintro pos U l own ⟨h1,h2,h3,h4,h5⟩
 have hn:=bV (s.drop pos)
 rw [List.length_drop] at hn
 repeat' ((conv=>whnf);first|(refine CM ?_;intros)|(refine DD ?_ ?_<;>intro _)|refine Uc H1 H1 ?_|refine xT H1 ?_|refine xU H1 ?_|refine ko h4 H1 (λown' ho=>?_))
 .conv=>whnf
  exact ⟨(pos+Jv (s.drop pos),pos+Jv (s.drop pos),l++[(s.take pos).drop U],own'),⟨Nat.le_refl _,H1,GT,ho,by dsimp only;rw [h5,hH H1 H1,List.append_assoc];rfl⟩,H1,Yl,St.le_refl _⟩
 .conv=>whnf
  exact ⟨(pos+1,U,l,own),⟨GT,H1,GT,h4,by dsimp only;rw [h5,gY H1 H1]⟩,H1,Yl,St.le_refl _⟩
 .exact fin (by have:=h own' ho;rw [h5,bI H1] at this;grind) rfl
end
end Go.Proofs.Z
namespace Go.Aw
open Go
def x8:List (List UInt8):=[[95],[99,97,115,101],[99,108,97,115,115],[100,97,116,97],[100,101,102,97,117,108,116],[100,101,114,105,118,105,110,103],[100,111],[101,108,115,101],[102,111,114,101,105,103,110],[105,102],[105,109,112,111,114,116],[105,110],[105,110,102,105,120],[105,110,102,105,120,108],[105,110,102,105,120,114],[105,110,115,116,97,110,99,101],[108,101,116],[109,111,100,117,108,101],[110,101,119,116,121,112,101],[111,102],[116,104,101,110],[116,121,112,101],[119,104,101,114,101]]
def mH:List (List UInt8):=[[46,46],[58],[58,58],[61],[92],[124],[60,45],[45,62],[64],[126],[61,62]]
def wx (w:List UInt8):Bool:=x8.contains w
def ZI (w:List UInt8):Int:=if mH.contains w then 10 else if A6 w=58 then 6 else 5
def Jn (c:Int):Bool:=A4 c==2||A4 c==3||A4 c==4||c==39
def MJ (l:List UInt8):Nat:=CF Jn l
def H9 (l:List UInt8):Int:=match l with
 |[]=>0
 |a::r=>A4 ((Br (a::r)).1:Nat)
def BB (l:List UInt8):Int×Nat:=
 if H9 l=6 then (15,1)
 else if H9 l=5 then (ZI (l.take (CF (λc=>A4 c==5) l)),CF (λc=>A4 c==5) l)
 else if H9 l=3 then (2,MJ l)
 else if H9 l=2 then (if wx (l.take (MJ l)) then 9 else 1,MJ l)
 else (0,0)
def JZ (k:Int):Int:=if k=1 then 3 else if k=2 then 4 else if k=5 then 7 else if k=6 then 8 else 0
theorem DM (c:UInt8) (l:List UInt8):[c].isPrefixOf l=decide (A6 l=(c.toNat:Nat)):=by
 cases l with
 |nil=>exact (decide_eq_false (λe=>by have h:(-1:Int)=(c.toNat:Nat):=e;omega)).symm
 |cons a r=>
  show (c==a&&true)=decide (((a.toNat:Nat):Int)=(c.toNat:Nat))
  rw [Bool.and_true,Bool.eq_iff_iff,beq_iff_eq,decide_eq_true_iff]
  exact ⟨λe=>by rw [e],λe=>UInt8.toNat_inj.1 H1⟩
end Go.Aw
namespace Go.Proofs.Z
open Go Go.Aw
section
variable {st:St} {R:AD->St->Prop}
theorem cu (h:R (.ret (.bool (wx w))) st):PC 381 [.str w] st R:=by
 refine pB Tryz.func381 ?_
 repeat' ((conv=>whnf);first|  (refine DD ?_ ?_<;>intro _)|fail)
 all_goals exact fin h (congrArg (λb=>AD.ret (V.bool b)) (by first|(subst_vars;decide)|(simp only [wx,x8];simp_all)))
theorem jf (h:R (.ret (.int .i64 (ZI w))) st):PC 379 [.str w] st R:=by
 refine pB Tryz.func379 ?_
 repeat' ((conv=>whnf);first|  (refine DD ?_ ?_<;>intro _)|refine JY ?_)
 all_goals try rename_i U
 all_goals try rw [DM,decide_eq_true_eq] at U
 all_goals try rw [DM,decide_eq_false_iff_not] at U
 all_goals exact fin h (B9 (by first|(subst_vars;decide)|(have U:A6 w=58:=U;simp only [ZI,mH];simp_all)|(have U:¬A6 w=58:=U;simp only [ZI,mH];simp_all)))
theorem pA {c:Int} (h:R (.ret (.bool (Jn c))) st):PC 411 [.int .i32 c] st R:=by
 refine pB Tryz.func411 ?_
 repeat' ((conv=>whnf);first|  (refine DD ?_ ?_<;>intro _)|refine LX ?_)
 all_goals exact fin h (congrArg (λb=>AD.ret (V.bool b)) (by simp only [Jn];simp_all))
theorem YR {k:Int} (h:R (.ret (.int .i64 (JZ k))) st):PC 333 [.int .i64 k] st R:=by
 refine pB Tryz.func333 ?_
 repeat' ((conv=>whnf);first|  (refine DD ?_ ?_<;>intro _)|fail)
 all_goals exact fin h (B9 (by unfold JZ;(repeat' split)<;>omega))
end
theorem PS (s:List UInt8):H9 s=if (N9 s 0).2=0 then 0 else A4 (N9 s 0).1:=by
 cases s with
 |nil=>rw [Ue Pi];rfl
 |cons a r=>
  have U:=Ho (a::r)
  rw [Oa H1 Pi,show (0:Int).toNat=0 from rfl,List.drop_zero,dB Pi,if_neg f9]
  rfl
section
variable {st:St} {R:AD->St->Prop}
theorem vW (hl:s.length<4611686018427387904) (h:R (.ret (.str (s.take (MJ s)))) st):PC 380 [.str s] st R:=by
 refine pB Tryz.func380 ?_
 repeat' ((conv=>whnf);first|(refine CM ?_;intros)|(refine DD ?_ ?_<;>intro _)|fail)
 refine Lt (α:=Nat) (λ_=>[]) (λpos=>[(0,[.Qo s pos])]) [0,6] [] (λ_=>st) (λpos=>pos<=s.length/\MJ s=pos+CF Jn (s.drop pos)) (λpos=>s.length - pos) 0 ⟨Nat.zero_le _,by simp [MJ]⟩ Yl (St.le_refl _) ?_
 rintro pos ⟨hp,hi⟩
 repeat' ((conv=>whnf);first|(refine CM ?_;intros)|(refine DD ?_ ?_<;>intro _)|refine pA ?_)
 .rename_i U c m hd hk
  have hr:=rune_le U hd
  conv=>whnf
  exact ⟨pos+m,⟨hr.1,Q5 U hd hk hi⟩,H1,Yl,St.le_refl _⟩
 .rename_i U c m hd hk
  have:=WV (p:=λd=>Jn (d.1:Nat)) hd hk hi
  exact fin h (by rw [this];rfl)
 .rename_i U
  have:=S8 U hi
  exact fin h (by rw [this,List.take_of_length_le H1])
theorem qU (U:s.length<4611686018427387904) (h:R (.ret (.int .i64 (H9 s))) st):PC 378 [.str s] st R:=by
 refine pB Tryz.func378 ?_
 repeat' ((conv=>whnf);first|  (refine DD ?_ ?_<;>intro _)|refine mQ U ?_|refine LX ?_)
 .exact fin h (B9 (by rw [PS,if_pos ‹_›]))
 .exact fin h (B9 (by rw [PS,if_neg ‹_›]))
end
theorem yY {k:Int}:sH s 0 k=(CF (λc=>A4 c==k) s:Nat):=by
 rw [QY H1 H1];simp
theorem gM (h:¬H9 s=0):0<s.length:=by
 cases s with
 |nil=>exact absurd rfl h
 |cons a r=>simp
section
variable {st:St} {R:AD->St->Prop}
theorem uA {k:Int} (U:s.length<4611686018427387904) (h:R (.ret (.int .i64 (CF (λc=>A4 c==k) s:Nat))) st):PC 129 [.str s,.int .i64 0,.int .i64 k] st R:=uz U (by rw [yY];exact h)
theorem eH (U:s.length<4611686018427387904) (h:R (.ret (.Bl [.int .i64 (BB s).1,.str (s.take (BB s).2)])) st):PC 332 [.str s] st R:=by
 have hr:=Gz (λc=>A4 c==5) s
 have hne:H9 s=0\/0<s.length:=by
  by_cases h0:H9 s=0
  .exact .inl h0
  .exact .inr (gM h0)
 refine pB Tryz.func332 ?_
 repeat' ((conv=>whnf);first|exact Ft|(refine CM ?_;intros)|(refine Fu ?_ ?_ ?_;rotate_left)|(refine DD ?_ ?_<;>intro _)|refine qU U ?_|refine uA U ?_|refine jf ?_|refine vW U ?_|refine cu ?_|refine Au NE ?_|fail)
 .exact fin h (by unfold BB;rw [if_pos ‹_›];rfl)
 .exact fin h (by unfold BB;rw [if_neg H1,if_pos H1];rfl)
 .exact fin h (by unfold BB;rw [if_neg H1,if_neg H1,if_pos H1])
 .exact fin h (by unfold BB;rw [if_neg H1,if_neg H1,if_neg H1,if_pos H1,if_pos ‹_›])
 .exact fin h (by unfold BB;rw [if_neg H1,if_neg H1,if_neg H1,if_pos H1,if_neg lm])
 .exact fin h (by unfold BB;rw [if_neg H1,if_neg H1,if_neg H1,if_neg H1];rfl)
end
end Go.Proofs.Z
namespace Go.Aw
open Go
def I8 (s:List UInt8) (n:Nat) (k:Int):Int×Nat:=
 if h:n<s.length then
  if (k=2\/k=4)/\A6 (s.drop n)=46/\JZ (BB (s.drop (n+1))).1≠0 then I8 s (n+1+(BB (s.drop (n+1))).2) (JZ (BB (s.drop (n+1))).1) else (k,n)
 else (k,n)
termination_by s.length - n
decreasing_by omega
def E1 (s:List UInt8):Int×Nat:=I8 s (BB s).2 (BB s).1
theorem Zo {n:Nat} {k:Int} (h:¬(n<s.length/\(k=2\/k=4)/\A6 (s.drop n)=46/\JZ (BB (s.drop (n+1))).1≠0)):I8 s n k=(k,n):=by
 rw [I8]
 split
 .rw [if_neg (λe=>h ⟨Nm,e⟩)]
 .rfl
theorem ov {n:Nat} {k:Int} (h:n<s.length) (e:(k=2\/k=4)/\A6 (s.drop n)=46/\JZ (BB (s.drop (n+1))).1≠0):I8 s n k=I8 s (n+1+(BB (s.drop (n+1))).2) (JZ (BB (s.drop (n+1))).1):=by
 rw [I8,dif_pos h,if_pos e]
def La (s:List UInt8) (n:Nat) (k a:Int):Int:=
 if h:n<s.length/\(k=2\/k=4)/\A6 (s.drop n)=46/\JZ (BB (s.drop (n+1))).1≠0 then La s (n+1+(BB (s.drop (n+1))).2) (JZ (BB (s.drop (n+1))).1) (n+1) else a
termination_by s.length - n
def ke (s:List UInt8):Int:=La s (BB s).2 (BB s).1 0
theorem fQ {n:Nat} {k a:Int} (h:¬(n<s.length/\(k=2\/k=4)/\A6 (s.drop n)=46/\JZ (BB (s.drop (n+1))).1≠0)):La s n k a=a:=by rw [La,dif_neg h]
theorem fP {n:Nat} {k a:Int} (h:n<s.length) (e:(k=2\/k=4)/\A6 (s.drop n)=46/\JZ (BB (s.drop (n+1))).1≠0):La s n k a=La s (n+1+(BB (s.drop (n+1))).2) (JZ (BB (s.drop (n+1))).1) (n+1):=by rw [La,dif_pos ⟨h,e⟩]
theorem jd (w:List UInt8):ZI w=10\/ZI w=6\/ZI w=5:=by
 unfold ZI
 (repeat' split)<;>simp
theorem YP (s:List UInt8):(BB s).1≠3/\(BB s).1≠4/\(BB s).1≠7/\(BB s).1≠8:=by
 have h:=jd (s.take (CF (λc=>A4 c==5) s))
 unfold BB
 (repeat' split)<;>first|omega|(dsimp only;omega)
theorem Md (s:List UInt8):(BB s).2<=s.length:=by
 have hf:H9 s=0\/0<s.length:=by
  cases s with
  |nil=>exact .inl rfl
  |cons a r=>exact .inr Pi
 have U:=Gz (λc=>A4 c==5) s
 have h2:MJ s<=s.length:=Gz _ s
 unfold BB
 (repeat' split)<;>first|omega|(dsimp only;omega)
end Go.Aw
namespace Go.Proofs.Z
open Go Go.Aw
section
variable {st:St} {R:AD->St->Prop}
theorem xC {n:Nat} (U:w.length=n) (h:R (.ret (.bool (decide (A6 (s.drop n)=46)))) st):PC 130 [.str (s.drop ((w.length:Nat):Int).toNat),.str [46]] st R:=by
 refine JY ?_
 rw [DM,U,show ((n:Nat):Int).toNat=n by omega]
 exact h
theorem nq {n:Nat} (hl:s.length<=100000000) (U:w.length=n) (h:R (.ret (.Bl [.int .i64 (BB (s.drop (n+1))).1,.str ((s.drop (n+1)).take (BB (s.drop (n+1))).2)])) st):PC 332 [.str (s.drop (((w.length:Nat):Int)+1).toNat)] st R:=by
 rw [U,show (((n:Nat):Int)+1).toNat=n+1 by omega]
 exact eH So h
theorem sO {v:List UInt8} {n:Nat} {K:List UInt8->Prop} (U:w.length=n) (h2:v.length=m) (h:n+1+m<=s.length) (k:K (s.take (n+1+m))):
 ((0:Int)<=0/\0<=((w.length:Nat):Int)+1+((v.length:Nat):Int)/\((w.length:Nat):Int)+1+((v.length:Nat):Int)<=s.length)/\∀s',s'=(s.take (((w.length:Nat):Int)+1+((v.length:Nat):Int)).toNat).drop (0:Int).toNat->K s':=by
 subst U;subst h2
 refine WO H1 H1 ?_
 rw [show (((w.length:Nat):Int)+1+((v.length:Nat):Int)).toNat=w.length+1+v.length by omega]
 exact k
theorem aT (s:List UInt8) (n:Nat):¬A6 (s.drop n)=46\/n<s.length:=by
 by_cases h:n<s.length
 .exact .inr h
 .rw [ET H1];exact .inl IR
theorem pD (hl:s.length<=100000000) (h:∀a:Int,ke s=a->0<=a->a<=(E1 s).2->((E1 s).1=3\/(E1 s).1=4\/(E1 s).1=7\/(E1 s).1=8->1<=a)->R (.ret (.Bl [.int .i64 (E1 s).1,.str (s.take (E1 s).2),.int .i64 a])) st):PC 271 [.str s] st R:=by
 refine pB Tryz.func271 ?_
 repeat' ((conv=>whnf);first|exact Ft|(refine CM ?_;intros)|(refine Fu ?_ ?_ ?_;rotate_left)|(refine DD ?_ ?_<;>intro _)|refine eH H1 ?_|refine Au NE ?_|fail)
 have hk0:=YP s
 refine VH (α:=Nat) (β:=Int) (γ:=Int) (λn k a=>[(2,.int .i64 k),(3,.str (s.take n)),(4,.int .i64 a)]) (λ_ _ _=>[]) [0] [] (λ_ _ _=>st) (λn k a=>n<=s.length/\E1 s=I8 s n k/\ke s=La s n k a/\0<=a/\a<=n/\(k=3\/k=4\/k=7\/k=8->1<=a)) (λn _ _=>s.length - n) (BB s).2 (BB s).1 0 ⟨Md s,rfl,rfl,Int.le_refl _,H1,λe=>by omega⟩ Yl (St.le_refl _) ?_
 rintro n k a ⟨h1,h2,h3,h4,h5,h6⟩
 have U:(s.take n).length=n:=WF
 have hp:=Md (s.drop (n+1))
 rw [List.length_drop] at hp
 have hdl:=aT s n
 have ht2:((s.drop (n+1)).take (BB (s.drop (n+1))).2).length=(BB (s.drop (n+1))).2:=by rw [List.length_take,List.length_drop];omega
 repeat' ((conv=>whnf);first|with_reducible refine sO U ht2 H1 ?_|exact Ft|(refine CM ?_;intros)|(refine Fu ?_ ?_ ?_;rotate_left)|(refine DD ?_ ?_<;>intro _)|refine xC U ?_|refine nq hl U ?_|refine YR ?_|refine Au NE ?_|fail)
 all_goals first
  |exact fin (by have h:=h a;rw [h2,h3,Zo H1,fQ H1] at h;exact h rfl h4 h5 h6) rfl
  |(conv=>whnf
    exact ⟨(n+1+(BB (s.drop (n+1))).2,JZ (BB (s.drop (n+1))).1,(((s.take n).length:Nat):Int)+1),⟨f9,by dsimp only;rw [h2,ov H1 ⟨H1,H1,H1⟩],by dsimp only;rw [h3,fP H1 ⟨H1,H1,H1⟩,U],f9,f9,λ_=>by dsimp only;omega⟩,f9,Yl,St.le_refl _⟩)
theorem tz (U:s.length<=100000000) (h:∀ahead:Int,R (.ret (.Bl [.int .i64 (E1 s).1,.str (s.take (E1 s).2),.int .i64 ahead])) st):PC 271 [.str s] st R:=pD U λa _ _ _ _=>h a
end
end Go.Proofs.Z
namespace Go.Aw
open Go
def IA (s:List UInt8) (pos:Nat):Int×Int:=if (E1 (s.drop pos)).1=0 then (0,0) else ((E1 (s.drop pos)).1,(pos+(E1 (s.drop pos)).2:Nat))
theorem ow {n:Nat} {k:Int} (h:n<=s.length):(I8 s n k).2<=s.length:=by
 fun_induction I8 s n k with
 |case1 n k hn hc ih=>
  have:=Md (s.drop (n+1))
  rw [List.length_drop] at this
  exact ih H1
 |case2 n k hn hc=>exact h
 |case3 n k hn=>exact h
theorem Z4 (s:List UInt8):(E1 s).2<=s.length:=ow (Md s)
end Go.Aw
namespace Go.Proofs.Z
open Go Go.Aw
section
variable {st:St} {R:AD->St->Prop}
theorem pE (hl:s.length<=100000000) (hp:pos<s.length) (h:R (.ret (.Bl [.int .i64 (IA s pos).1,.int .i64 (IA s pos).2])) st):PC 204 [.str s,.int .i64 pos] st R:=by
 have ht:((s.drop pos).take (E1 (s.drop pos)).2).length=(E1 (s.drop pos)).2:=by rw [List.length_take];have:=Z4 (s.drop pos);omega
 have hw:=Z4 (s.drop pos)
 rw [List.length_drop] at hw
 have U:(s.drop pos).length<=100000000:=So
 refine pB Tryz.func204 ?_
 repeat' ((conv=>whnf);first|(refine CM ?_;intros)|(refine DD ?_ ?_<;>intro _)|refine tz U (λ_=>?_))
 .exact fin h (by unfold IA;rw [if_pos ‹_›];simp_all)
 .exact fin h (by unfold IA;rw [if_neg ‹_›];simp only [];rw [show (pos:Int).toNat=pos by omega] at *;rw [ht];rfl)
end
end Go.Proofs.Z
namespace Go.Aw
open Go
def BJ (base:Int):List UInt8->Nat
 |[]=>0
 |a::r=>if BQ ((a.toNat:Nat):Int) base<0 then 0 else BJ base r+1
def Ex (l:List UInt8):Int:=if A6 (l.drop 1)=111\/A6 (l.drop 1)=79 then 8 else if A6 (l.drop 1)=120\/A6 (l.drop 1)=88 then 16 else 10
def B7 (l:List UInt8):Int×Nat:=if A6 l=48/\Ex l≠10/\BJ (Ex l) (l.drop 2)≠0 then (Ex l,2) else (10,0)
def MM (l:List UInt8):Nat:=if A6 l=43\/A6 l=45 then 1 else 0
def JG (l:List UInt8):Nat:=
 if (A6 l=101\/A6 l=69)/\BJ 10 (l.drop (1+MM (l.drop 1)))≠0 then 1+MM (l.drop 1)+BJ 10 (l.drop (1+MM (l.drop 1))) else 0
def Ia (l:List UInt8):Nat:=if A6 l=46/\BJ 10 (l.drop 1)≠0 then 1+BJ 10 (l.drop 1) else 0
def EA (l:List UInt8):Int×Nat:=
 if (B7 l).1≠10 then (11,2+BJ (B7 l).1 (l.drop 2))
 else if BJ 10 l=0 then (0,0)
 else
  (if 0<Ia (l.drop (BJ 10 l))\/0<JG (l.drop (BJ 10 l+Ia (l.drop (BJ 10 l)))) then 12 else 11,
    BJ 10 l+Ia (l.drop (BJ 10 l))+JG (l.drop (BJ 10 l+Ia (l.drop (BJ 10 l)))))
theorem Cp {k:Nat} (h:0<=A6 (l.drop k)):k<l.length:=by
 by_cases U:k<l.length
 .exact U
 .rw [List.drop_eq_nil_iff.2 H1] at h;exact absurd h IR
theorem LZ {a:UInt8} (h:a.toNat<128):Br (a::r)=(a.toNat,1):=by
 unfold Br;simp_all
theorem QG {a:UInt8} (h:¬a.toNat<128):128<=(Br (a::r)).1:=by
 unfold Br;grind
theorem JD {c:Int} (h:128<=c):BQ c base<0:=by
 have U:(if 48<=c/\c<=57 then c - 48 else if 97<=c/\c<=102 then c - 87 else if 65<=c/\c<=70 then c - 55 else 16)=16:=by
  rw [if_neg H1,if_neg H1,if_neg H1]
 unfold BQ;grind
theorem Du (base:Int) (l:List UInt8):BJ base l<=l.length:=by
 induction l with
 |nil=>exact Nat.le_refl _
 |cons a r ih=>unfold BJ;grind
theorem Oq {c:Nat} (h:pos<s.length) (U:(c,m)=Br (s.drop pos)) (k:¬BQ (c:Int) base<0):m=1/\BJ base (s.drop pos)=BJ base (s.drop (pos+1))+1:=by
 rw [List.drop_eq_getElem_cons h] at U |-
 by_cases hb:s[pos].toNat<128
 .rw [LZ hb] at U
  injection U with h1 h2
  subst h1;subst h2
  exact ⟨rfl,by rw [BJ,if_neg k]⟩
 .have:=QG (r:=s.drop (pos+1)) hb
  rw [<-U] at this
  exact absurd (JD (c:=(c:Int)) (base:=base) H1) k
theorem I7 {c:Nat} (h:pos<s.length) (U:(c,m)=Br (s.drop pos)) (k:BQ (c:Int) base<0):BJ base (s.drop pos)=0:=by
 rw [List.drop_eq_getElem_cons h] at U |-
 by_cases hb:s[pos].toNat<128
 .rw [LZ hb] at U
  injection U with h1 h2
  subst h1
  rw [BJ,if_pos k]
 .rw [BJ,if_pos (JD H1)]
theorem J2 (h:s.length<=pos):BJ base (s.drop pos)=0:=by rw [List.drop_eq_nil_iff.2 h];rfl
theorem QW (h:s[pos]? =some e):BJ base (s.drop pos)=if BQ ((e.toNat:Nat):Int) base<0 then 0 else BJ base (s.drop (pos+1))+1:=by
 rw [drop_at h,BJ]
theorem Sg (l:List UInt8):Ia l<=l.length:=by
 have:=Du 10 (l.drop 1)
 rw [List.length_drop] at this
 unfold Ia;grind
theorem Vm (l:List UInt8):JG l<=l.length:=by
 have:=Du 10 (l.drop (1+MM (l.drop 1)))
 rw [List.length_drop] at this
 unfold JG;grind
theorem VS (l:List UInt8):(EA l).2<=l.length:=by
 have h1:=Du 10 l
 have U:=Du (B7 l).1 (l.drop 2)
 have h3:=Sg (l.drop (BJ 10 l))
 have h4:=Vm (l.drop (BJ 10 l+Ia (l.drop (BJ 10 l))))
 rw [List.length_drop] at U h3 h4
 have h5:(B7 l).1≠10->2<=l.length:=λe=>by
  unfold B7 at e
  split at e
  .rename_i hc
   have:=Du (Ex l) (l.drop 2)
   grind
  omega
 unfold EA
 grind
theorem gJ {a:Int} (U: -2147483648<=a) (h2:a<=2147483647) (k:K a):∃r,r=IntKind.i32.wrap a/\K r:=⟨a,(IntWalk.i32_in _ ⟨U,h2⟩).symm,k⟩
end Go.Aw
namespace Go.Proofs.Z
open Go Go.Aw
section
variable {st:St} {R:AD->St->Prop}
theorem NS {c:Int} (h:R (.ret (.int .i64 (BQ c b))) st):PC 374 [.int .i32 c,.int .i64 b] st R:=by
 refine pB Tryz.func374 ?_
 repeat' ((conv=>whnf);first|(refine CM ?_;intros)|(refine DD ?_ ?_<;>intro _)|refine gJ H1 H1 ?_)
 all_goals exact fin h (B9 (by unfold BQ;dsimp only;(repeat' split)<;>omega))
theorem YX {c:Int} (h:R (.ret (.int .i64 (BQ c b))) st):PC 240 [.int .i64 c,.int .i64 b] st R:=by
 refine pB Tryz.func240 ?_
 repeat' ((conv=>whnf);first|(refine CM ?_;intros)|(refine DD ?_ ?_<;>intro _)|refine yb ?_)
 all_goals exact fin h (B9 (by unfold BQ;dsimp only;(repeat' split)<;>omega))
theorem ux (hl:s.length<4611686018427387904) (h:R (.ret (.int .i64 (BJ b s:Nat))) st):PC 328 [.str s,.int .i64 b] st R:=by
 refine pB Tryz.func328 ?_
 repeat' ((conv=>whnf);first|(refine CM ?_;intros)|(refine DD ?_ ?_<;>intro _)|fail)
 refine Lt (α:=Nat) (λ_=>[]) (λpos=>[(0,[.Qo s pos])]) [0,1,8] [] (λ_=>st) (λpos=>pos<=s.length/\BJ b s=pos+BJ b (s.drop pos)) (λpos=>s.length - pos) 0 ⟨Nat.zero_le _,Pi⟩ Yl (St.le_refl _) ?_
 rintro pos ⟨hp,hi⟩
 repeat' ((conv=>whnf);first|(refine CM ?_;intros)|(refine DD ?_ ?_<;>intro _)|refine NS ?_)
 .rename_i U c m hd hk
  have:=I7 U hd hk
  exact fin h (B9 H1)
 .rename_i U c m hd hk
  obtain ⟨e1,e2⟩:=Oq U hd hk
  conv=>whnf
  exact ⟨pos+m,⟨H1,GT⟩,H1,Yl,St.le_refl _⟩
 .rename_i U hls
  have:=J2 (base:=b) (s:=s) (pos:=pos) H1
  exact fin h (B9 H1)
theorem iB {i:Nat} (hl:s.length<=4611686018427387903) (h0:i<=4611686018427387905) (h:R (.ret (.int .i64 (i+BJ b (s.drop i):Nat))) st):PC 368 [.str s,.int .i64 i,.int .i64 b] st R:=by
 refine pB Tryz.func368 ?_
 repeat' ((conv=>whnf);first|(refine CM ?_;intros)|(refine DD ?_ ?_<;>intro _)|fail)
 refine O9 (α:=Nat) (λpos=>[(1,.int .i64 (pos:Int))]) [0,2] [] (λ_=>st) (λpos=>i<=pos/\i+BJ b (s.drop i)=pos+BJ b (s.drop pos)) (λpos=>s.length - pos) i ⟨Nat.le_refl _,rfl⟩ Yl (St.le_refl _) ?_
 rintro pos ⟨hp,hi⟩
 repeat' ((conv=>whnf);first|(refine CM ?_;intros)|(refine DD ?_ ?_<;>intro _)|refine gr ?_|refine YX ?_)
 .rename_i hlt e U hk
  have U:s[pos]? =some e:=U
  have:=QW (base:=b) U
  rw [if_neg H1] at this
  conv=>whnf
  exact ⟨pos+1,⟨H1,H1⟩,H1,Yl,St.le_refl _⟩
 .rename_i hlt e U hk
  have U:s[pos]? =some e:=U
  have:=QW (base:=b) U
  rw [if_pos H1] at this
  exact fin h (B9 H1)
 .rename_i hlt
  have:=J2 (base:=b) (s:=s) (pos:=pos) H1
  exact fin h (B9 H1)
end
end Go.Proofs.Z
namespace Go.Aw
open Go
theorem Qy (h:A6 (l.drop 1)=111\/A6 (l.drop 1)=79):Ex l=8:=if_pos h
theorem NJ (h:A6 (l.drop 1)=120\/A6 (l.drop 1)=88):Ex l=16:=by unfold Ex;rw [if_neg H1,if_pos h]
theorem XB (h:A6 (l.drop 1)≠111/\A6 (l.drop 1)≠79/\A6 (l.drop 1)≠120/\A6 (l.drop 1)≠88):Ex l=10:=by unfold Ex;rw [if_neg H1,if_neg H1]
theorem kC (l:List UInt8):Ex l=8\/Ex l=16\/Ex l=10:=by
 unfold Ex
 split
 .exact .inl rfl
 .split
  .exact .inr (.inl rfl)
  .exact .inr (.inr rfl)
theorem H2 (h:A6 l=48) (hb:Ex l=b) (hn:b≠10) (U:BJ b (l.drop 2)≠0):B7 l=(b,2):=by
 subst hb
 exact if_pos ⟨h,hn,U⟩
theorem Hu (h:A6 l≠48\/Ex l=10\/BJ (Ex l) (l.drop 2)=0):B7 l=(10,0):=if_neg H1
theorem Ir (l:List UInt8):B7 l=(10,0)\/(B7 l=(8,2)/\Ex l=8)\/(B7 l=(16,2)/\Ex l=16):=by
 by_cases h:A6 l=48/\Ex l≠10/\BJ (Ex l) (l.drop 2)≠0
 .rcases kC l with hb|hb|hb
  .exact .inr (.inl ⟨H2 h.1 hb IR (hb ▸ h.2.2),hb⟩)
  .exact .inr (.inr ⟨H2 h.1 hb IR (hb ▸ h.2.2),hb⟩)
  .exact absurd hb h.2.1
 .exact .inl (if_neg h)
theorem Q3 (h:A6 l=43\/A6 l=45):MM l=1:=if_pos h
theorem Q2 (h:¬(A6 l=43\/A6 l=45)):MM l=0:=if_neg h
theorem dP (h:¬(A6 l=101\/A6 l=69)):JG l=0:=if_neg λe=>h e.1
theorem Vk (h:A6 l=101\/A6 l=69) (hk:1+MM (l.drop 1)=j) (U:BJ 10 (l.drop j)=0):JG l=0:=by
 subst hk
 exact if_neg λe=>e.2 U
theorem Vl (h:A6 l=101\/A6 l=69) (hk:1+MM (l.drop 1)=j) (U:BJ 10 (l.drop j)≠0):JG l=j+BJ 10 (l.drop j):=by
 subst hk
 exact if_pos ⟨h,U⟩
end Go.Aw
namespace Go.Proofs.Z
open Go Go.Aw
section
variable {st:St} {R:AD->St->Prop}
theorem nZ {n:Nat} (U:s.length<=4611686018427387903) (h:R (.ret (.int .i64 (BJ b (s.drop n):Nat))) st):PC 328 [.str (s.drop (n:Int).toNat),.int .i64 b] st R:=
 ux So h
theorem cm (hl:s.length<=4611686018427387903) (h:R (.ret (.Bl [.int .i64 (B7 s).1,.int .i64 (B7 s).2])) st):PC 327 [.str s] st R:=by
 refine pB Tryz.func327 ?_
 repeat' ((conv=>whnf);first|(refine CM ?_;intros)|(refine DD ?_ ?_<;>intro _)|refine nZ (n:=2) hl ?_)
 all_goals try have U:=DG (show s[0]? =some _ by assumption)
 all_goals try rw [List.drop_zero] at U
 all_goals try have h1:=DG (show s[1]? =some _ by assumption)
 all_goals try have h1:=ET (s:=s) (i:=1) H1
 all_goals first
  |exact fin h (by rw [Hu (.inl H1)];rfl)
  |exact fin h (by rw [Hu (.inr (.inl (XB H1)))];rfl)
  |exact fin h (by rw [Hu (.inr (.inr (by rw [Qy H1];assumption)))];rfl)
  |exact fin h (by rw [Hu (.inr (.inr (by rw [NJ H1];assumption)))];rfl)
  |exact fin h (by rw [H2 H1 (Qy H1) IR ‹_›];rfl)
  |exact fin h (by rw [H2 H1 (NJ H1) IR ‹_›];rfl)
theorem aZ (hl:s.length<=4611686018427387903) (h:R (.ret (.int .i64 (JG s:Nat))) st):PC 329 [.str s] st R:=by
 refine pB Tryz.func329 ?_
 by_cases U:s=[]
 .subst U
  repeat' ((conv=>whnf);first|(refine CM ?_;intros)|(refine DD ?_ ?_<;>intro _)|fail)
  .exact fin h rfl
  .rename_i hn;exact absurd rfl hn
 have hlen:=List.length_pos_iff.2 U
 have r1:BJ 10 (s.drop 1)<=s.length:=Nat.le_trans (Du 10 _) So
 have r2:BJ 10 (s.drop 2)<=s.length:=Nat.le_trans (Du 10 _) So
 repeat' ((conv=>whnf);first|(refine CM ?_;intros)|(refine DD ?_ ?_<;>intro _)|refine nZ (n:=1) hl ?_|refine nZ (n:=2) hl ?_)
 all_goals try have h0:=DG (show s[0]? =some _ by assumption)
 all_goals try rw [List.drop_zero] at h0
 all_goals try have h1:=DG (show s[1]? =some _ by assumption)
 all_goals try have h1:=ET (s:=s) (i:=1) H1
 all_goals first
  |(have e:=dP (l:=s) H1;exact fin h (B9 H1))
  |(have e:=Vk (l:=s) (j:=1) H1 (by rw [Q2 H1]) ‹_›;exact fin h (B9 H1))
  |(have e:=Vl (l:=s) (j:=1) H1 (by rw [Q2 H1]) ‹_›;exact fin h (B9 H1))
  |(have e:=Vk (l:=s) (j:=2) H1 (by rw [Q3 H1]) ‹_›;exact fin h (B9 H1))
  |(have e:=Vl (l:=s) (j:=2) H1 (by rw [Q3 H1]) ‹_›;exact fin h (B9 H1))
end
end Go.Proofs.Z
namespace Go.Proofs.Z
open Go Go.Aw
open Rd (ret seq fail M6 look loop)
def Ha (base:Int):List UInt8->Int->Int×Int
 |[],v=>(v,0)
 |a::r,v=>if (4611686018427387904 - BQ (a.toNat:Nat) base) / base<v then (0,3) else Ha base r (v*base+BQ (a.toNat:Nat) base)
def Fs (s:List UInt8):Int×Int:=if (EA s).1=11/\(EA s).2=s.length then Ha (B7 s).1 (s.drop (B7 s).2) 0 else (0,40)
def FG (t:Tk):Bool:=t.kind==19||(t.kind==15&&t.text==[59])
def DI (t:Tk):Bool:=t.kind==1||t.kind==2||t.kind==3||t.kind==4||t.kind==11||t.kind==12||t.kind==13||t.kind==14||
 (t.kind==9&&t.text==[95])||(t.kind==10&&t.text==[126])||(t.kind==15&&(t.text==[40]||t.text==[91]))
abbrev Xf:List UInt8:=[108,101,116]
abbrev xj:List UInt8:=[105,102]
abbrev UL:List UInt8:=[99,97,115,101]
abbrev xi:List UInt8:=[100,111]
abbrev yl:List UInt8:=[105,110]
abbrev zt:List UInt8:=[111,102]
abbrev pt:List UInt8:=[116,104,101,110]
abbrev pq:List UInt8:=[101,108,115,101]
abbrev Xg:List UInt8:=[119,104,101,114,101]
def D2 (t:Tk):Bool:=(t.kind==9&&(t.text==Xf||t.text==xj||t.text==UL||t.text==xi))||(t.kind==10&&t.text==[92])||(t.kind==5&&t.text==[45])||DI t
def Fo (t:Tk):Bool:=t.kind==9&&(t.text==[105,110,102,105,120,108]||t.text==[105,110,102,105,120,114]||t.text==[105,110,102,105,120])
def HD (t:Tk):Bool:=t.kind==5||t.kind==6||t.kind==7||t.kind==8||(t.kind==10&&t.text==[58])
def Gp (t:Tk):Bool:=HD t||(t.kind==15&&t.text==[96])
def Jr (k:Int) (l:List Nd):Nd:=if l.length=1 then l.headD BC else Al k l
def Fi:Er:=⟨2,IR⟩
def Fj:Er:=⟨120,IR⟩
def Nx (n:Nd):Bool:=(n.kind==1||n.kind==3)&&((GX n).2==0&&(GX n).1.length==1)
def CY (m:Rd Nd) (U:Nd->Bool):Rd Nd:=.look λs0=>.seq m λn=>if U n=true then .ret n else .M6 s0 Fj
def EB:Rd Nd:=.look λs=>if HD (Aa s).1=true then .seq AB λt=>.ret (Al 18 [t])
 else .seq (Bo 15 [96]) λo=>.seq (Cm [1,2,3,4]) λn=>.seq (Bo 15 [96]) λc=>.ret (Al 18 [o,n,c])
def VK (l:List Nd):Rd (Sum (List Nd) (List Nd)):=.look λs=>if AP s 5 [45]=true then .seq AB λt=>.ret (.inl (l++[Al 19 [t]])) else .ret (.inr l)
def VL (l:List Nd):Rd (List Nd):=.loop VK l
def Zb (opd:Rd Nd) (U:Bool) (l:List Nd):Rd (Sum (List Nd) (List Nd×Bool)):=.seq (VL l) λl=>.seq opd λn=>.look λs=>
 if Gp (Aa s).1=true then .seq EB λo=>
  if U=true then .look λs=>if AP s 15 [41]=true then .ret (.inr (l++[n]++[o],true)) else .ret (.inl (l++[n]++[o]))
  else .ret (.inl (l++[n]++[o]))
 else .ret (.inr (l++[n],false))
def H8 (opd:Rd Nd) (U:Bool):Rd (List Nd×Bool):=.loop (Zb opd U) []
def Pg (opd:Rd Nd):Rd Nd:=.seq (H8 opd false) λp=>.ret (Jr 17 p.1)
def Jt (full:Rd Nd) (n:Nd):Rd Nd:=.look λs=>if AP s 10 [58,58]=true then .seq AB λc=>.seq full λt=>.ret (Al 22 [n,c,t]) else .ret n
def aY (opd full:Rd Nd):Rd Nd:=.seq (Pg opd) λn=>Jt full n
structure DL where
 atom:Rd Nd
 exp:Rd Nd
 ops:Rd Nd
 decls:Rd Nd
 stmts:Rd Nd
 alts:Rd Nd
 F1:Nd->Rd Nd
 list:Nd->Rd Nd
def Ii (L:DL) (lt block:Nd):Rd Nd:=.seq (Bo 9 yl) λi=>.seq L.exp λe=>.ret (Al 24 [lt,block,i,e])
def gW (L:DL):Rd Nd:=.seq AB λt=>.seq L.decls λb=>Ii L t b
def KA (atom:Rd Nd) (l:List Nd):Rd (Sum (List Nd) (List Nd)):=.seq (CY atom Hr) λn=>.ret (.inl (l++[n]))
def L7 (atom:Rd Nd) (l:List Nd):Rd (Sum (List Nd) (List Nd)):=
 if ((l.length:Int)==1)=true then KA atom l else .look λs=>if DI (Aa s).1=true then KA atom l else .ret (.inr l)
def Kz (L:DL) (atom:Rd Nd):Rd Nd:=.seq AB λb=>.seq (.loop (L7 atom) [b]) λl=>.seq (Bo 10 [45,62]) λa=>.seq L.exp λe=>.ret (Al 23 (l++[a]++[e]))
def P8 (w:List UInt8):Rd Unit:=.look λs=>if FG (Aa s).1=true then (if AP (Aa s).2.1 9 w=true then GN else .ret ()) else .ret ()
def Od (L:DL) (l:List Nd) (w:List UInt8):Rd (List Nd):=.seq (P8 w) λ_=>.seq (Bo 9 w) λa=>.seq L.exp λe=>.ret (l++[a]++[e])
def Km (L:DL):Rd Nd:=.seq AB λi=>.seq L.exp λc=>.seq (Od L [i,c] pt) λl=>.seq (Od L l pq) λl=>.ret (Al 25 l)
def TS (L:DL):Rd Nd:=.seq AB λc=>.seq L.exp λe=>.seq (Bo 9 zt) λo=>.seq L.alts λa=>.ret (Al 26 ([c,e,o]++[a]))
def IX (b:Nd):Bool:=match b.kids.getLast? with
 |none=>true
 |some x=>x.kind==32||x.kind==33
def Nr (L:DL):Rd Nd:=.seq AB λd=>.seq L.stmts λb=>if IX b=true then .fail Fj else .ret (Al 27 [d,b])
def MU (atom:Rd Nd) (l:List Nd):Rd (Sum (List Nd) (List Nd)):=.look λs=>if DI (Aa s).1=true then .seq atom λn=>.ret (.inl (l++[n])) else .ret (.inr l)
def MV (atom:Rd Nd):Rd Nd:=.seq atom λn=>.seq (.loop (MU atom) [n]) λl=>.ret (Jr 11 l)
def Iq (L:DL) (atom:Rd Nd):Rd Nd:=.look λs=>
 if ((Aa s).1.kind==10)=true then (if ((Aa s).1.text==[92])=true then Kz L atom else MV atom)
 else if ((Aa s).1.kind==9)=true then
  (if ((Aa s).1.text==Xf)=true then gW L
  else if ((Aa s).1.text==xj)=true then Km L
  else if ((Aa s).1.text==UL)=true then TS L
  else if ((Aa s).1.text==xi)=true then Nr L
  else MV atom)
 else MV atom
def NP (l:List Nd):Rd (Sum (List Nd) (List Nd)):=.look λs=>if AP s 15 [44]=true then .seq AB λc=>.ret (.inl (l++[c])) else .ret (.inr l)
def N1 (o:Nd):Rd Nd:=.seq (.loop NP [o]) λl=>.seq (Bo 15 [41]) λc=>.ret (Al 3 (l++[c]))
def KM (L:DL) (o:Nd):Rd Nd:=.look λs=>if Gp (Aa s).1=true then
 (if AP s 5 [45]=true then L.F1 o else .seq EB λp=>.seq L.ops λe=>.seq (Bo 15 [41]) λc=>.ret (Al 10 [o,p,e,c]))
 else L.F1 o
def Pn (L:DL) (o:Nd):Rd Nd:=.look λs=>if HD (Aa s).1=true then
 (if AP (Aa s).2.1 15 [41]=true then .seq AB λp=>.seq AB λc=>.ret (Al 3 [o,p,c]) else KM L o)
 else KM L o
def Po (L:DL):Rd Nd:=.seq AB λo=>.look λs=>if AP s 15 [41]=true then N1 o else if AP s 15 [44]=true then N1 o else Pn L o
def Mn (L:DL):Rd Nd:=.seq AB λo=>.look λs=>if AP s 15 [93]=true then .seq AB λc=>.ret (Al 3 [o,c]) else L.list o
def KT (L:DL):Rd Nd:=.look λs=>if DI (Aa s).1=true then
 (if ((Aa s).1.kind==15)=true then (if ((Aa s).1.text==[40])=true then Po L else Mn L)
 else if ((Aa s).1.kind==9)=true then .seq AB λw=>.ret (Al 14 [w])
 else if ((Aa s).1.kind==10)=true then .seq AB λw=>.seq L.atom λa=>.ret (Al 16 [w,a])
 else .seq AB λn=>if ((Aa s).1.kind==1)=true then .look λs=>if AP s 10 [64]=true then .seq AB λw=>.seq L.atom λa=>.ret (Al 15 [n,w,a]) else .ret n
  else .ret n)
 else MX
def O6 (L:DL) (l:List Nd):Rd (Sum (List Nd) (List Nd)):=.seq (Cm [1,3]) λU=>.seq (Bo 10 [61]) λq=>.seq L.exp λe=>.look λs=>
 if AP s 15 [44]=true then .seq AB λc=>.ret (.inl (l++[Al 13 [U,q,e]]++[c])) else .ret (.inr (l++[Al 13 [U,q,e]]))
def Oj (L:DL) (l:List Nd):Rd (Sum (List Nd) (List Nd)):=.look λs=>if AP s 15 [125]=true then (if 2<(l.length:Int) then O6 L l else .ret (.inr l)) else O6 L l
def HQ (L:DL) (n:Nd):Rd Nd:=.seq AB λb=>.seq (.loop (Oj L) [n,b]) λl=>.seq (Bo 15 [125]) λc=>.ret (Al 12 (l++[c]))
def Xw (L:DL) (n:Nd):Rd (Sum Nd Nd):=.look λs=>if AP s 15 [123]=true then .seq (HQ L n) λn=>.ret (.inl n) else .ret (.inr n)
def KS (L:DL):Rd Nd:=.seq (KT L) λn=>.loop (Xw L) n
def Ti (exp:Rd Nd) (p:Int×List Nd):Rd (Sum (Int×List Nd) (Int×List Nd)):=.look λs=>if AP s 15 [44]=true then .seq AB λc=>.seq exp λe=>.ret (.inl (5,p.2++[c]++[e])) else .ret (.inr p)
def ER (opd full exp:Rd Nd) (o:Nd):Rd Nd:=.seq (H8 opd true) λp=>if p.2=true then
 .seq AB λc=>.ret (Al 9 [o,Jr 17 (p.1.take (p.1.length - 1)),p.1.getLastD BC,c])
 else .seq (Jt full (Jr 17 p.1)) λe=>.seq (.loop (Ti exp) (4,[o,e])) λq=>.seq (Bo 15 [41]) λc=>.ret (Al q.1 (q.2++[c]))
def LA (stmt:Rd Nd) (l:List Nd):Rd (Sum (List Nd) (List Nd)):=.look λs=>if AP s 15 [44]=true then .seq AB λc=>.seq stmt λt=>.ret (.inl (l++[c]++[t])) else .ret (.inr l)
def Es (stmt:Rd Nd) (l:List Nd):Rd (List Nd):=.seq (Bo 10 [124]) λb=>.seq stmt λt=>.loop (LA stmt) (l++[b]++[t])
def Yk (exp:Rd Nd) (l:List Nd):Rd (Sum (List Nd) (Int×List Nd)):=.look λs=>if AP s 15 [44]=true then .seq AB λc=>.seq exp λe=>.ret (.inl (l++[c]++[e])) else .ret (.inr (6,l))
def Yj (exp:Rd Nd) (l:List Nd):Rd (Sum (List Nd) (Int×List Nd)):=if (l.length:Int)<5 then
 .look λs=>if AP s 10 [46,46]=true then .seq AB λd=>.look λs=>if AP s 15 [93]=true then .ret (.inr (7,l++[d])) else .seq exp λe=>.ret (.inr (7,l++[d]++[e]))
  else Yk exp l
 else Yk exp l
def PW (exp stmt:Rd Nd) (o:Nd):Rd Nd:=.seq exp λe=>.look λs=>if AP s 10 [124]=true then
 .seq (Es stmt [o,e]) λl=>.seq (Bo 15 [93]) λc=>.ret (Al 8 (l++[c]))
 else .seq (.loop (Yj exp) [o,e]) λq=>.seq (Bo 15 [93]) λc=>.ret (Al q.1 (q.2++[c]))
def TP (exp:Rd Nd) (n:Nd):Rd Nd:=.look λs=>if AP s 10 [60,45]=true then (if Hr n=true then .seq AB λa=>.seq exp λe=>.ret (Al 32 [n,a,e]) else .fail Fj) else .ret n
def Ta (L:DL) (exp:Rd Nd):Rd Nd:=.look λs=>if AP s 9 Xf=true then
 .seq AB λt=>.seq L.decls λb=>.look λs=>if AP s 9 yl=true then .seq (Ii L t b) λn=>TP exp n else .ret (Al 33 [t,b])
 else .seq exp λn=>TP exp n
def Nc (exp stmt:Rd Nd) (m:List UInt8) (l:List Nd):Rd (Sum (List Nd) (List Nd)):=.seq (Es stmt []) λg=>.seq (Bo 10 m) λq=>.seq exp λe=>.ret (.inl (l++[Al 30 (g++[q]++[e])]))
def Ib (exp stmt:Rd Nd) (m:List UInt8) (l:List Nd):Rd (Sum (List Nd) (List Nd)):=if ((l.length:Int)==0)=true then Nc exp stmt m l
 else if ((l.headD BC).kind==30)=true then .look λs=>if AP s 10 [124]=true then Nc exp stmt m l else .ret (.inr l)
 else .ret (.inr l)
def Pm (L:DL) (exp stmt:Rd Nd) (m:List UInt8) (l:List Nd):Rd Nd:=.seq (.loop (Ib exp stmt m) l) λl=>.look λs=>if AP s 9 Xg=true then
 .seq AB λw=>.seq L.decls λb=>.ret (Al 29 (l++[Al 31 [w,b]]))
 else .ret (Al 29 l)
def Y6 (L:DL) (exp stmt:Rd Nd) (m:List UInt8):Rd Nd:=.look λs=>if AP s 10 m=true then .seq AB λa=>.seq exp λe=>Pm L exp stmt m ([]++[a,e])
 else if AP s 10 [124]=true then Pm L exp stmt m [] else MX
def aE (L:DL) (ops exp stmt:Rd Nd):Rd Nd:=.seq ops λn=>if Hr n=true then .seq (Y6 L exp stmt [45,62]) λr=>.ret (Al 28 [n,r]) else .fail Fj
def OY (n:Nd):Bool:=(Fs n.text).2==0&&decide ((Fs n.text).1<=9)
def EH (n:Nd):Bool:=match n.kids[n.kids.length / 2]? with
 |some x=> !(x.form==7||x.form==8||x.form==3||x.form==4)
 |none=>false
def L3 (l:List Nd):Rd (Sum (List Nd) (List Nd)):=.look λs=>if AP s 15 [44]=true then .seq AB λc=>.seq (CY EB EH) λo=>.ret (.inl (l++[c]++[o])) else .ret (.inr l)
def Gl (l:List Nd):Rd Nd:=.seq (CY EB EH) λo=>.seq (.loop L3 (l++[o])) λl=>.ret (Al 35 l)
def HM:Rd Nd:=.seq AB λf=>.look λs=>if ((Aa s).1.kind==11)=true then .seq (CY AB OY) λd=>Gl ([f]++[d]) else Gl [f]
def oC (atom:Rd Nd) (l:List Nd):Rd (Sum (List Nd) (List Nd)):=.look λs=>if AP s 15 [44]=true then .seq AB λc=>.seq (CY atom Nx) λo=>.ret (.inl (l++[c]++[o])) else .ret (.inr l)
def Zs (atom full:Rd Nd) (n:Nd):Rd Nd:=if Nx n=true then .seq (.loop (oC atom) [n]) λl=>.seq (Bo 10 [58,58]) λc=>.seq full λt=>.ret (Al 34 (l++[c]++[t])) else .fail Fj
def RH (L:DL) (atom ops exp stmt full:Rd Nd):Rd Nd:=.look λs=>if Fo (Aa s).1=true then HM
 else .seq ops λn=>.look λs=>if AP s 15 [44]=true then Zs atom full n else if AP s 10 [58,58]=true then Zs atom full n
  else if ((VE n).2.2==0)=true then .seq (Y6 L exp stmt [61]) λr=>.ret (Al 36 [n,r]) else .fail Fj
def DX (s:Af):Af×Bool:=if Mx s=true/\¬s.wait=1/\¬Hy s=0 then (E5 s,true) else (FH,false)
theorem LY {s:Af} (h:(DX s).2=true):mu (DX s).1<=mu s:=by
 unfold DX at h |-
 split
 .rename_i hc
  have U:s.Cf≠[]:=λe=>hc.2.2 (by unfold Hy;rw [e];rfl)
  have:=Ko U
  simp only [mu,E5] at *
  omega
 .rename_i hc;rw [if_neg hc] at h;cases h
def OW:Rd Unit:=⟨λs=>if (DX s).2=true then .inr ((),(DX s).1) else .inl (⟨OO s,Kh s⟩,s),λs v s' h=>by
 split at h
 .cases h;exact LY ‹_›
 .cases h⟩
def Np (_:Unit):Rd (Sum Unit Unit):=.look λs=>if FG (Aa s).1=true then .seq GN λ_=>.ret (.inl ()) else .ret (.inr ())
def LK:Rd Unit:=.loop Np ()
def Gi (f:Bool) (U:Bool):Rd Bool:=.look λs=>if (if f then AP s 15 [125] else (Aa s).1.kind==20)=true then .seq GN λ_=>.ret true
 else if U=true then (if f=true then MX else .seq OW λ_=>.ret true) else .ret false
def Le (starts:Tk->Bool) (item:Rd Nd) (f:Bool) (l:List Nd):Rd (Sum (List Nd) (List Nd)):=.seq LK λ_=>.look λs=>.seq (Gi f (!starts (Aa s).1)) λe=>
 if e=true then .ret (.inr l) else .seq item λn=>.look λs=>.seq (Gi f (!FG (Aa s).1)) λe=>if e=true then .ret (.inr (l++[n])) else .ret (.inl (l++[n]))
def Dn (f:Bool) (l:List Nd):Nd:=.mk 2 (if f then 1 else 0) [] 0 0 l
def Dp (starts:Tk->Bool) (item:Rd Nd):Rd Nd:=.look λs=>if ((Aa s).1.kind==18)=true then .seq GN λ_=>.seq (.loop (Le starts item false) []) λl=>.ret (Dn false l)
 else .seq (Bo 15 [123]) λ_=>.seq (.loop (Le starts item true) []) λl=>.ret (Dn true l)
def kx (L:DL):Rd Nd:=KS L
def ca (L:DL):Rd Nd:=Iq L (KS L)
def opsL (L:DL):Rd Nd:=Pg (ca L)
def Qm (full:Rd Nd) (L:DL):Rd Nd:=aY (ca L) full
def K1 (full:Rd Nd) (L:DL):Rd Nd:=Ta L (Qm full L)
def aD (full:Rd Nd) (L:DL):Rd Nd:=aE L (opsL L) (Qm full L) (K1 full L)
def F2 (full:Rd Nd) (L:DL):Rd Nd:=RH L (KS L) (opsL L) (Qm full L) (K1 full L) full
def FT (t:Tk):Bool:=D2 t||Fo t
def zq (full:Rd Nd) (L:DL):DL where
 atom:=kx L
 exp:=Qm full L
 ops:=opsL L
 decls:=Dp FT (F2 full L)
 stmts:=Dp D2 (K1 full L)
 alts:=Dp D2 (aD full L)
 F1:=λo=>ER (ca L) full (Qm full L) o
 list:=λo=>PW (Qm full L) (K1 full L) o
def bL:DL:=⟨.fail Fi,.fail Fi,.fail Fi,.fail Fi,.fail Fi,.fail Fi,λ_=>.fail Fi,λ_=>.fail Fi⟩
theorem RY {A:Af->Rs} (U:AZ A):AZ (EJ A):=λs n s' h=>by
 unfold EJ at h
 split at h
 .cases h
 .rename_i p h1
  have h2:=DN U _ _ _ h1
  split at h
  .rename_i h3
   have h4:=C6 h3 IR IR
   split at h
   .cases h
   .rename_i q h5
    have:=IP U _ _ _ h5
    cases h
    omega
  .have:=TN h
   omega
def CH (d:Nat):Rd Nd:=Ly (EJ (BN (B8 (d - 1)))) λs v s' h=>Nat.le_of_lt (RY (BL (Bv _)) _ _ _ h)
def Jq:Nat->DL
 |0=>bL
 |d+1=>zq (CH (d+1)) (Jq d)
end Go.Proofs.Z
namespace Go.Proofs.Z
open Go Go.Aw
theorem AA {p:Env->Prop} (h:∀e,p e):∀e:Env,p e:=h
theorem aI {es:List (List V)} {e:List V} {K:List V->Prop} (U:0<=i) (h:es[i.toNat]? =some e) (k:K e):0<=i/\∃e,es[i.toNat]? =some e/\K e:=⟨U,e,h,k⟩
theorem l9 {l:List Int} {x:Int} {K:List V->Prop} (h:l[i.toNat]? =some x) (U:0<=i) (k:K [.int .i64 x]):0<=i/\∃e,(ints l)[i.toNat]? =some e/\K e:=⟨U,_,by simp [ints,h],k⟩
theorem vJ {α:Type} {es:List α} {n:Nat} {K:Nat->Prop} (h:es.length=n) (k:K n):∀m,m=es.length->m<Fk->K m:=λm U _=>by rw [h] at U;subst U;exact k
section
variable {st:St} {K:AD->St->Prop}
theorem J6 {t:Tk} (h:K (.ret (.bool (HD t))) st):PC 341 [DP t] st K:=by
 refine pB Tryz.func341 ?_
 repeat' ((conv=>whnf);first|  (refine BU ?_ ?_<;>intro _)|fail)
 all_goals conv=>whnf
 all_goals (refine An h ?_;clear h;simp_all [HD])
theorem rl {t:Tk} (h:K (.ret (.bool (Gp t))) st):PC 343 [DP t] st K:=by
 refine pB Tryz.func343 ?_
 repeat' ((conv=>whnf);first|  (refine BU ?_ ?_<;>intro _)|refine J6 ?_)
 all_goals conv=>whnf
 all_goals (refine An h ?_;clear h;simp_all [Gp])
theorem Xy {t:Tk} (h:K (.ret (.bool (DI t))) st):PC 207 [DP t] st K:=by
 refine pB Tryz.func207 ?_
 repeat' ((conv=>whnf);first|  (refine BU ?_ ?_<;>intro _)|fail)
 all_goals conv=>whnf
 all_goals (refine An h ?_;clear h;simp_all [DI])
theorem NK {t:Tk} (h:K (.ret (.bool (D2 t))) st):PC 142 [DP t] st K:=by
 refine pB Tryz.func142 ?_
 repeat' ((conv=>whnf);first|  (refine BU ?_ ?_<;>intro _)|refine Xy ?_)
 all_goals conv=>whnf
 all_goals (refine An h ?_;clear h;simp_all [D2,DI,Xf,xj,UL,xi])
theorem Vq {t:Tk} (h:K (.ret (.bool (Fo t))) st):PC 143 [DP t] st K:=by
 refine pB Tryz.func143 ?_
 repeat' ((conv=>whnf);first|  (refine BU ?_ ?_<;>intro _)|fail)
 all_goals conv=>whnf
 all_goals (refine An h ?_;clear h;simp_all [Fo])
theorem WH {t:Tk} (h:K (.ret (.bool (FG t))) st):PC 140 [DP t] st K:=by
 refine pB Tryz.func140 ?_
 repeat' ((conv=>whnf);first|  (refine BU ?_ ?_<;>intro _)|fail)
 all_goals conv=>whnf
 all_goals (refine An h ?_;clear h;simp_all [FG])
theorem Nj {k:Int} {l:List Nd} {own:Ay} (h:K (.ret (enc (Al k l))) st):PC 217 [.int .i64 k,.slice 6 (l.map Ap) own] st K:=by
 refine pB Tryz.func217 ?_
 repeat' ((conv=>whnf);first|  fail)
 all_goals exact CS (St.le_refl _) Ck h
theorem eu {k:Int} {a:Nd} {own:Ay} (h:K (.ret (enc (Al k [a]))) st):PC 217 [.int .i64 k,.slice 6 [Ap a] own] st K:=Nj (l:=[a]) h
theorem rV {k:Int} {a b:Nd} {own:Ay} (h:K (.ret (enc (Al k [a,b]))) st):PC 217 [.int .i64 k,.slice 6 [Ap a,Ap b] own] st K:=Nj (l:=[a,b]) h
theorem VQ {k:Int} {a b c:Nd} {own:Ay} (h:K (.ret (enc (Al k [a,b,c]))) st):PC 217 [.int .i64 k,.slice 6 [Ap a,Ap b,Ap c] own] st K:=Nj (l:=[a,b,c]) h
theorem rW {k:Int} {a b c d:Nd} {own:Ay} (h:K (.ret (enc (Al k [a,b,c,d]))) st):PC 217 [.int .i64 k,.slice 6 [Ap a,Ap b,Ap c,Ap d] own] st K:=Nj (l:=[a,b,c,d]) h
theorem vh {k:Int} {l:List Nd} {own:Ay} (h:K (.ret (enc (Jr k l))) st):PC 286 [.int .i64 k,.slice 6 (l.map Ap) own] st K:=by
 refine pB Tryz.func286 ?_
 match l with
 |[x]=>
  have h:K (.ret (enc x)) st:=h
  have hn:(([x]:List Nd).length:Int)=1:=rfl
  repeat' ((conv=>whnf);first|(refine AV ?_;intros)|refine BH (l:=[x]) (λ_=>?_)|refine aI H1 rfl ?_)
  all_goals exact AU rfl h
 |[]=>
  have h:K (.ret (enc (Al k []))) st:=h
  have hn:¬(([]:List Nd).length:Int)=1:=IR
  repeat' ((conv=>whnf);first|(refine AV ?_;intros)|refine BH (l:=[]) (λ_=>?_)|refine Nj (l:=[]) ?_)
  all_goals exact AU rfl h
 |x::y::r=>
  have h:K (.ret (enc (Al k (x::y::r)))) st:=h
  have hn:¬((x::y::r).length:Int)=1:=by simp only [List.length_cons];omega
  repeat' ((conv=>whnf);first|(refine AV ?_;intros)|refine BH (l:=x::y::r) (λ_=>?_)|refine Nj (l:=x::y::r) ?_)
  all_goals exact AU rfl h
theorem Vy (h:K (.ret (.bool (Hr n))) st):PC 403 [enc n] st K:=by
 refine pB Tryz.func403 ?_
 repeat' ((conv=>whnf);first|  (refine BU ?_ ?_<;>intro _)|refine kW ?_)
 all_goals conv=>whnf
 all_goals (refine An h ?_;clear h;simp_all [OS])
theorem dX (U:n.size<=1000000000) (h:K (.ret (.bool (Nx n))) st):PC 287 [enc n] st K:=by
 refine pB Tryz.func287 ?_
 have hs:(strs (GX n).1).length=(GX n).1.length:=by simp [strs]
 repeat' ((conv=>whnf);first|  (refine BU ?_ ?_<;>intro _)|refine mK U ?_|refine vJ hs ?_)
 all_goals conv=>whnf
 all_goals (refine An h ?_;clear h;simp_all [Nx])
end
def Ax (n:Nd) (s:Af) (e:Int):V:=.agg [.int .i64 n.kind,.int .i64 n.form,.str n.text,.int .i64 n.line,.int .i64 n.Da,.slice 6 (Co n.kids) .any,
 .slice 4 (Bb s.AR) .any,.int .i64 s.pos,.slice 1 (ints s.Cf) .any,.int .i64 s.wait,.int .i64 e]
section
variable {st:St} {R:AD->St->Prop}
attribute [local irreducible] Go.Aw.Ai
theorem KN {s:Af} (hb:s.Cf.length<=500000000) (h:R (.ret (DP (Aa s).1)) st):PC 35 [Am s] st R:=by
 refine pB Tryz.func35 ?_
 repeat' ((conv=>whnf);first|  refine LG (s:=s) hb ?_)
 all_goals exact AU rfl h
theorem Uw {t:Tk} (h:R (.ret (.bool (Ca t))) st):PC 233 [DP t] st R:=by
 refine pB Tryz.func233 ?_
 repeat' ((conv=>whnf);first|  (refine CD ?_ ?_<;>intro _)|fail)
 all_goals conv=>whnf
 all_goals (refine An h ?_;clear h;simp_all [Ca])
theorem Oh {s:Af} (h:R (.ret (Ax BC s 2)) st):PC 29 [Am s] st R:=by
 refine pB Tryz.func29 ?_
 repeat' ((conv=>whnf);first|  fail)
 all_goals exact AU rfl h
theorem QX {s:Af} (hb:s.Cf.length<=500000000) (h:R (.ret (if (Aa s).2.2=0 then Ax (AJ (Aa s).1) (Aa s).2.1 0 else Ax BC s (Aa s).2.2)) st):PC 74 [Am s] st R:=by
 refine pB Tryz.func74 ?_
 repeat' ((conv=>whnf);first|  (refine CD ?_ ?_<;>intro _)|refine LG (s:=s) hb ?_)
 all_goals first
  |(rw [if_pos ‹_›] at h;exact AU rfl h)
  |(rw [if_neg ‹_›] at h;exact AU rfl h)
theorem eV {s:Af} {k:Int} (U:k≠0) (hb:s.Cf.length<=500000000) (h:R (.ret (.bool (AP s k x))) st):PC 123 [Am s,.int .i64 k,.str x] st R:=by
 refine pB Tryz.func123 ?_
 have key:AP s k x=((Aa s).2.2==0&&AP s k x):=by
  cases hi:AP s k x with
  |false=>simp
  |true=>simp [Fp hi U]
 rw [key] at h
 clear key
 repeat' ((conv=>whnf);first|  (refine CD ?_ ?_<;>intro _)|refine LG (s:=s) hb ?_)
 all_goals conv=>whnf
 all_goals (refine An h ?_;clear h;simp_all [AP])
def F3:Rs->V
 | .inr (n,s)=>Ax n s 0
 | .inl (e,s)=>Ax BC s e
theorem oj {s:Af} (hb:s.Cf.length<=500000000) (h:R (.ret (F3 (CP s))) st):PC 74 [Am s] st R:=QX hb (by
 unfold CP at h
 split at h<;>rename_i e
 .rw [if_pos e];exact h
 .rw [if_neg e];exact h)
theorem V4 {s:Af} (hb:s.Cf.length<=500000000) (h:R (.ret (F3 (Ql s))) st):PC 106 [Am s] st R:=by
 refine pB Tryz.func106 ?_
 unfold Ql OO at h
 repeat' ((conv=>whnf);first|  (refine CD ?_ ?_<;>intro _)|refine LG (s:=s) hb ?_)
 all_goals first
  |(rw [if_pos ‹_›] at h;exact AU rfl h)
  |(rw [if_neg ‹_›] at h;exact AU rfl h)
theorem EY {s:Af} {k:Int} {v:Bool} (e:AP s k x=v) (U:k≠0) (hb:s.Cf.length<=500000000) (h:R (.ret (.bool v)) st):PC 123 [Am s,.int .i64 k,.str x] st R:=eV U hb (by rw [e];exact h)
theorem Eu {s:Af} {q:Rs} (e:CP s=q) (hb:s.Cf.length<=500000000) (h:R (.ret (F3 q)) st):PC 74 [Am s] st R:=oj hb (by rw [e];exact h)
theorem Ov {s:Af} {k:Int} (hk:k≠0) (hb:s.Cf.length<=500000000) (h:R (.ret (F3 (DB s k x))) st):PC 75 [Am s,.int .i64 k,.str x] st R:=by
 refine pB Tryz.func75 ?_
 unfold DB at h
 cases hi:AP s k x with
 |true=>
  rw [if_pos hi] at h
  cases U:CP s with
  |inl p=>
   rw [U] at h
   repeat' ((conv=>whnf);first|(refine Bc ?_;intros)|refine EY hi hk hb ?_|refine Eu U hb ?_)
   all_goals exact AU rfl h
  |inr p=>
   rw [U] at h
   repeat' ((conv=>whnf);first|(refine Bc ?_;intros)|refine EY hi hk hb ?_|refine Eu U hb ?_)
   all_goals exact AU rfl h
 |false=>
  rw [if_neg (by rw [hi];decide)] at h
  repeat' ((conv=>whnf);first|(refine Bc ?_;intros)|refine EY hi hk hb ?_|refine V4 hb ?_)
  all_goals exact AU rfl h
end
theorem Ak {k:Int} {l:List Nd} {own:Ay} {s:Af} {e:Int}:AD.ret (Ax (Al k l) s e)=(AD.ret (.agg [.int .i64 k,.int .i64 0,.str [],.int .i64 0,.int .i64 0,.slice 6 (l.map Ap) own,
 .slice 4 (Bb s.AR) .any,.int .i64 s.pos,.slice 1 (ints s.Cf) .any,.int .i64 s.wait,.int .i64 e])).wk:=by rw [<-BV];rfl
section
variable {st:St} {R:AD->St->Prop}
attribute [local irreducible] Go.Aw.Ai
theorem Ow {s:Af} {k:Int} {q:Rs} (e:DB s k x=q) (U:k≠0) (hb:s.Cf.length<=500000000) (h:R (.ret (F3 q)) st):PC 75 [Am s,.int .i64 k,.str x] st R:=Ov U hb (by rw [e];exact h)
theorem gp {l:List Nd} {own:Ay} {s:Af} (ho:own.B5 st) (hn:l.length+1<=1000000000) (hb:s.Cf.length<=500000000) (h:R (.ret (F3 (Ek 3 l s [41]))) st):
 PC 367 [.slice 6 (l.map Ap) own,Am s] (own.st st (l.length*6)) R:=by
 refine pB Tryz.func367 ?_
 unfold Ek at h
 cases U:DB s 15 [41] with
 |inl p=>
  obtain ⟨e,s'⟩:=p
  rw [U] at h
  have hne:¬e=0:=LR _ _ _ U
  repeat' ((conv=>whnf);first|(refine Bc ?_;intros)|refine Ow U IR hb ?_)
  all_goals exact CS (Ay.Bj ho) rfl h
 |inr p=>
  obtain ⟨n,s'⟩:=p
  rw [U] at h
  repeat' ((conv=>whnf);first|(refine Bc ?_;intros)|refine Ow U IR hb ?_|refine D8 (l:=l) (x:=n) ho hn (λown' ho'=>?_))
  all_goals exact CS (Ay.Bj ho') Ak h
theorem RA {s:Af} (h:R (.ret (Ax n s 0)) st):PC 80 [Ax n s 0] st R:=by
 refine pB Tryz.func80 ?_
 repeat' ((conv=>whnf);first|(refine Bc ?_;intros)|fail)
 all_goals exact AU rfl h
theorem OV {s:Af} {e:Int} (U:¬e=0) (h:R (.ret (Ax BC s e)) st):PC 80 [Ax n s e] st R:=by
 refine pB Tryz.func80 ?_
 repeat' ((conv=>whnf);first|(refine Bc ?_;intros)|fail)
 all_goals exact AU rfl h
theorem FQ {d:Int} (U:¬d<1) (h:R (.ret (.int .i64 (if 100<d then 100 else d))) st):PC 30 [.int .i64 d] st R:=by
 refine pB Tryz.func30 ?_
 have e:(if (0:Int)<(if 100<d then 100 else d) then (if 100<d then 100 else d) else 0)=(if 100<d then 100 else d):=by split<;>split<;>omega
 rw [<-e] at h
 clear e
 repeat' ((conv=>whnf);first|  refine ⟨_,rfl,?_⟩)
 all_goals exact fin h rfl
end
section
variable {st:St} {R:AD->St->Prop}
attribute [local irreducible] Go.Aw.Ai
theorem cW {A:Af->Rs} (U:¬deep<1->DW 297 (if 100<deep then 100 else deep) A):DV 220 deep A:=by
 intro s hm st R h
 refine pB Tryz.func220 ?_
 repeat' ((conv=>whnf);first|  refine QD (s:=s) (q:=A s) (λhd=>U hd s hm) ?_)
 all_goals exact AU rfl h
theorem qc {A:Af->Rs} (U:¬deep<1->DW 362 (if 100<deep then 100 else deep) A):DV 406 deep A:=by
 intro s hm st R h
 refine pB Tryz.func406 ?_
 repeat' ((conv=>whnf);first|  refine QD (s:=s) (q:=A s) (λhd=>U hd s hm) ?_)
 all_goals exact AU rfl h
theorem wE {A:Af->Rs} (U:¬deep<1->DW 296 (if 100<deep then 100 else deep) A):DV 219 deep A:=by
 intro s hm st R h
 refine pB Tryz.func219 ?_
 repeat' ((conv=>whnf);first|  refine QD (s:=s) (q:=A s) (λhd=>U hd s hm) ?_)
 all_goals exact AU rfl h
theorem qW {A:Af->Rs} (U:¬deep<1->DW 305 (if 100<deep then 100 else deep) A):DV 231 deep A:=by
 intro s hm st R h
 refine pB Tryz.func231 ?_
 repeat' ((conv=>whnf);first|  refine QD (s:=s) (q:=A s) (λhd=>U hd s hm) ?_)
 all_goals exact AU rfl h
end
def Nw (Y:Af->Rs) (n:Nd) (s:Af):Ls:=match Y s with
 | .inl e=>.inl e
 | .inr q=>CU Y [n,q.1] q.2
def jY (st:St) (b:Nat) (R:AD->St->Prop):Ls->Prop
 | .inr (l,s')=>∀st' U,II st st' b s'->U.B5 st'->R (.ret (.slice 6 (l.map Ap) U)) (U.st st' (l.length*6))
 | .inl (e,s')=>∀st',II st st' b s'->R (.Ci (fault e)) st'
theorem jz {Y:Af->Rs} {l:List Nd} {s:Af} {s':Af} (h:AP s 15 [44]=true) (U:Y (Aa s).2.1=.inr (n,s')) (hm:mu s'<mu s):CU Y l s=CU Y (l++[AJ (Aa s).1,n]) s':=by
 rw [CU,if_pos h,U]
 dsimp only
 rw [if_pos hm]
section
variable {st:St} {R:AD->St->Prop}
attribute [local irreducible] Go.Aw.Ai
theorem tj {Y:Af->Rs} (hY:DV 220 d Y) (h0:d=0->∀s,Y s=.inl (2,s)) (hB:C4 Y) (hF:AZ Y) {n1:Nd} {s:Af} {b:Nat} {x:Int} (hx:x=(d:Int)) (hm:mu s<=100000000) (hs:Has st b s) (h:jY st b R (Nw Y n1 s)):
 PC 423 [.ptr b 0,.slice 6 [Ap n1] .full,.int .i64 x] st R:=by
 refine pB Tryz.func423 ?_
 unfold Nw at h
 have hn1:[n1].length+1<=1000000000:=by show 1+1<=1000000000;decide
 repeat' ((conv=>whnf);first|  (refine CD ?_ ?_<;>intro _)|refine Sk hx hY h0 hB hm hs (EC (λn2 s2 hq2 st2 h2=>?_) (λe2 s2 hq2 st2 h2=>?_))|refine D8 (l:=[n1]) (x:=n2) (own:=.full) trivial hn1 (λown1 ho1=>?_))
 .rw [hq2] at h
  have hd2:=hF _ _ _ hq2
  dsimp only at h
  refine Gr (α:=List Nd×Af×St×Ay) (λx=>[(1,.slice 6 (x.1.map Ap) x.2.2.2)]) [0,2,6] (λx=>[]) [] (λx=>x.2.2.2.st x.2.2.1 (x.1.length*6))
   (λx=>x.2.2.2.B5 x.2.2.1/\II st x.2.2.1 b x.2.1/\x.1.length+2*mu x.2.1<=400000000/\mu x.2.1<=mu s/\CU Y x.1 x.2.1=CU Y [n1,n2] s2) (λx=>mu x.2.1) ([n1]++[n2],s2,st2,own1)
   ⟨ho1,h2,by show 2+2*mu s2<=_;omega,by show mu s2<=_;omega,rfl⟩ Yl (St.le_refl _) ?_
  rintro ⟨l,U,st3,own⟩ ⟨j1,j2,j5,j6,j7⟩
  dsimp only at j1 j2 j5 j6 j7
  have hm3:mu U<=100000000:=H1
  have hb3:=BT hm3
  have hl3:Has (st3.Ab b (Dy U)) b U:=.inl (St.As ..)
  have g3:own.B5 (st3.Ab b (Dy U)):=JM j1 j2.1
  have hn:l.length+2<=1000000000:=H1
  have hm4:AP U 15 [44]=true->mu (Aa U).2.1<=100000000:=λe=>by have:=C6 e IR IR;omega
  repeat' ((conv=>whnf);first|  (refine CD ?_ ?_<;>intro _)|refine vE j2.1 hb3 ?_|refine GD (hl3.hw own _) hb3 (Td g3 hl3 (DK ‹_› IR) (λst4 h4 g4=>?_))|refine Sk hx hY h0 hB (hm4 ‹_›) (h4.1.hw own _) (F8 g4 h4.1 (G6 (λn5 s5 hq5 st5 h5 g5=>?_) (λe5 s5 hq5 st5 h5 g5=>?_)))|refine kn (l:=l) (x:=AJ (Aa U).1) (y:=n5) g5 hn (λown' ho'=>?_))
  all_goals conv=>whnf
  .have hp:AP U 15 [44]=true:=Nm
   have hd:=hF _ _ _ hq5
   have hd3:=C6 hp IR IR
   have hd4:mu s5<mu U:=H1
   have hu:=(Bf (st:=st3) (b:=b) (s:=U)).trans (h4.trans h5)
   refine ⟨(l++[AJ (Aa U).1,n5],s5,st5,own'),⟨ho',j2.trans hu,?_,by show mu s5<=_;omega,?_⟩,hd4,Yl,St.le_refl _⟩
   .show (l++[AJ (Aa U).1,n5]).length+2*mu s5<=_
    rw [List.length_append]
    show l.length+2+2*mu s5<=_
    omega
   .show CU Y (l++[AJ (Aa U).1,n5]) s5=_
    rw [<-j7,jz (l:=l) hp hq5 hd4]
  .have hp:AP U 15 [44]=true:=Nm
   have hu:=(Bf (st:=st3) (b:=b) (s:=U)).trans (h4.trans h5)
   have hr:CU Y l U=.inl (e5,s5):=by rw [CU,if_pos hp,hq5]
   rw [<-j7,hr] at h
   exact CS (Ay.Bj g5) rfl (h st5 (j2.trans hu))
  .have hr:CU Y l U=.inr (l,U):=by rw [CU,if_neg (Bool.eq_false_iff.1 ‹_›)]
   rw [<-j7,hr] at h
   exact fin (h _ own (j2.trans Bf) g3) rfl
 .rw [hq2] at h
  exact fin (h st2 h2) rfl
end
section
variable {st:St} {R:AD->St->Prop}
attribute [local irreducible] Go.Aw.Ai
theorem vF {b:Nat} {s:Af} {k:Int} (e:AP s k x=true) (U:Has st b s) (hb:s.Cf.length<=500000000) (h:R (.ret (.bool true)) (st.Ab b (Dy s))):PC 156 [.ptr b 0,.int .i64 k,.str x] st R:=bC U hb lm
theorem gT {b:Nat} {s:Af} {k:Int} (e:AP s k x=false) (U:Has st b s) (hb:s.Cf.length<=500000000) (h:R (.ret (.bool false)) (st.Ab b (Dy s))):PC 156 [.ptr b 0,.int .i64 k,.str x] st R:=bC U hb lm
theorem FA {st:St} {b:Nat} {s:Af}:Has (st.Ab b (Dy s)) b s:=.inl (St.As ..)
theorem TT {l:List Nd} {s:Af} (h:AP s 15 [44]=true):CK l s=CK (l++[AJ (Aa s).1]) (Aa s).2.1:=by
 rw [CK,if_pos h,if_pos (C6 h IR IR)]
theorem M1 {l:List Nd} {s:Af} (h:AP s 15 [44]=false):CK l s=(l,s):=by
 rw [CK,if_neg lm]
theorem cY {Y:Af->Rs} (l:List Nd) (s:Af):∀q s',CU Y l s=.inr (q,s')->q.length+2*mu s'<=l.length+2*mu s:=by
 fun_induction CU Y l s with
 |case1 l s U e1 h2=>simp_all
 |case2 l s U p h2 h3 ih=>
  grind
 |case3 l s U p h2 h3=>simp_all
 |case4 l s U=>simp_all
theorem jA {Y:Af->Rs} (hF:AZ Y) {s:Af} {l:List Nd} {s':Af} (h:Nw Y n s=.inr (l,s')):mu s'<=mu s/\l.length<=2+2*mu s:=by
 unfold Nw at h
 split at h
 .cases h
 .rename_i U
  have h2:=hF _ _ _ U
  have h3:=UK _ _ _ _ h
  have h4:=cY _ _ _ _ h
  grind
theorem jm {st:St} {b:Nat} {K:AD->St->Prop} {q:Ls} (h:∀l s',q=.inr (l,s')->∀st' U,II st st' b s'->U.B5 st'->K (.ret (.slice 6 (l.map Ap) U)) (U.st st' (l.length*6)))
 (k:∀e s',q=.inl (e,s')->∀st',II st st' b s'->K (.Ci (fault e)) st'):jY st b K q:=by
 match q with
 | .inr (l,s')=>exact h l s' rfl
 | .inl (e,s')=>exact k e s' rfl
theorem sv {x:Int} (hx:x=((d+1:Nat):Int)) (hd:d<=1000000) {Y:Af->Rs} (hY:DV 220 d Y) (h0:d=0->∀s,Y s=.inl (2,s)) (hB:C4 Y) (hF:AZ Y):DW 404 x (G1 Y):=by
 intro s hm b st R hs h
 refine pB Tryz.func404 ?_
 have hb:=BT hm
 unfold G1 at h
 cases hq1:CP s with
 |inl q=>
  rw [hq1] at h
  obtain ⟨e,s'⟩:=q
  repeat' ((conv=>whnf);first|(refine Bc ?_;intros)|(refine CD ?_ ?_<;>intro _)|refine GD hs hb (Xa hq1 (λst1 h1=>?_)))
  all_goals exact fin (h st1 h1) rfl
 |inr q=>
  obtain ⟨n1,s1⟩:=q
  rw [hq1] at h
  have hm1:mu s1<=100000000:=by have:=(Q7 hq1).1;omega
  have hb1:=BT hm1
  have hn1:[n1].length+1<=1000000000:=by show 1+1<=1000000000;decide
  dsimp only at h
  cases hA:AP s1 10 [45,62] with
  |true=>
   rw [if_pos hA] at h
   have hb2:(Aa s1).2.1.Cf.length<=500000000:=BT (by have:=C6 hA IR IR;omega)
   have hn2:∀n2:Nd,([n1]++[n2]).length+1<=1000000000:=λ_=>by simp_all
   repeat' ((conv=>whnf);first|(refine Bc ?_;intros)|(refine CD ?_ ?_<;>intro _)|refine GD hs hb (HU hq1 (λst1 h1=>?_))|refine vF hA h1.1 hb1 ?_|refine GD FA hb1 (HU (DK hA IR) (λst2 h2=>?_))|refine D8 (l:=[n1]) (x:=AJ (Aa s1).1) (own:=.full) trivial hn1 (λown1 ho1=>?_)|refine Tm (h2.1.hw own1 _) hb2 (F8 ho1 h2.1 (G6 (λn3 s3 hq3 U h3 hg3=>?_) (λe3 s3 hq3 U h3 hg3=>?_)))|refine D8 (l:=[n1]++[AJ (Aa s1).1]) (x:=n3) hg3 (hn2 _) (λown2 ho2=>?_))
   all_goals unfold Ek at h
   all_goals rw [hq3] at h
   .exact CS (Ay.Bj ho2) Ck (h U ((h1.trans Bf).trans (h2.trans h3)))
   .exact CS (Ay.Bj hg3) rfl (h U ((h1.trans Bf).trans (h2.trans h3)))
  |false=>
  rw [if_neg lm] at h
  cases hC:AP s1 15 [41] with
  |true=>
   rw [if_pos hC] at h
   repeat' ((conv=>whnf);first|(refine Bc ?_;intros)|(refine CD ?_ ?_<;>intro _)|refine GD hs hb (HU hq1 (λst1 h1=>?_))|refine gT hA h1.1 hb1 ?_|refine vF hC FA hb1 ?_|refine Tm FA hb1 (EC (λn3 s3 hq3 U h3=>?_) (λe3 s3 hq3 U h3=>?_))|refine D8 (l:=[n1]) (x:=n3) (own:=.full) trivial hn1 (λown2 ho2=>?_))
   all_goals unfold Ek at h
   all_goals rw [hq3] at h
   .exact CS (Ay.Bj ho2) Ck (h U (((h1.trans Bf).trans Bf).trans h3))
   .exact fin (h U (((h1.trans Bf).trans Bf).trans h3)) rfl
  |false=>
  rw [if_neg lm] at h
  cases hE:AP s1 15 [44] with
  |true=>
   rw [if_pos hE] at h
   repeat' ((conv=>whnf);first|(refine Bc ?_;intros)|(refine CD ?_ ?_<;>intro _)|refine GD hs hb (HU hq1 (λst1 h1=>?_))|refine gT hA h1.1 hb1 ?_|refine gT hC FA hb1 ?_|refine vF hE FA hb1 ?_)
   refine Gr (α:=List Nd×Af×St×Ay) (λx=>[(5,.slice 6 (x.1.map Ap) x.2.2.2)]) [0,1,4,6] (λx=>[]) [0] (λx=>x.2.2.2.st x.2.2.1 (x.1.length*6))
    (λx=>x.2.2.2.B5 x.2.2.1/\II st x.2.2.1 b x.2.1/\x.1.length+mu x.2.1<=200000000/\mu x.2.1<=mu s1/\CK x.1 x.2.1=CK [n1] s1) (λx=>mu x.2.1) ([n1],s1,_,.full)
    ⟨trivial,((h1.trans Bf).trans Bf).trans Bf,GT,Nat.le_refl _,rfl⟩ Yl (St.le_refl _) ?_
   rintro ⟨l,s3,U,own⟩ ⟨j1,j2,j5,j6,j7⟩
   dsimp only at j1 j2 j5 j6 j7
   have hm3:mu s3<=100000000:=H1
   have hb3:=BT hm3
   have hl3:Has (U.Ab b (Dy s3)) b s3:=.inl (St.As ..)
   have g3:own.B5 (U.Ab b (Dy s3)):=JM j1 j2.1
   have hn:l.length+1<=1000000000:=H1
   repeat' ((conv=>whnf);first|(refine Bc ?_;intros)|(refine CD ?_ ?_<;>intro _)|refine vE j2.1 hb3 ?_|refine GD (hl3.hw own _) hb3 (Td g3 hl3 (DK ‹_› IR) (λst4 h4 g4=>?_))|refine D8 (l:=l) (x:=AJ (Aa s3).1) g4 hn (λown' ho'=>?_)|refine Tm (hl3.hw own _) hb3 (F8 g3 hl3 (G6 (λn5 s5 hq5 st5 h5 g5=>?_) (λe5 s5 hq5 st5 h5 g5=>?_)))|refine D8 (l:=l) (x:=n5) g5 hn (λown' ho'=>?_))
   all_goals conv=>whnf
   .have hp:AP s3 15 [44]=true:=Nm
    have hd3:=C6 hp IR IR
    refine ⟨(l++[AJ (Aa s3).1],(Aa s3).2.1,st4,own'),⟨ho',j2.trans (Bf.trans h4),?_,GT,?_⟩,hd3,Yl,St.le_refl _⟩
    .grind
    .show CK (l++[AJ (Aa s3).1]) (Aa s3).2.1=_
     rw [<-j7,TT (l:=l) hp]
   all_goals rw [<-j7,M1 ‹_›] at h
   all_goals unfold Ek at h
   all_goals dsimp only at h
   all_goals rw [hq5] at h
   .exact CS (Ay.Bj ho') Ck (h st5 (j2.trans (Bf.trans h5)))
   .exact CS (Ay.Bj g5) rfl (h st5 (j2.trans (Bf.trans h5)))
  |false=>
   rw [if_neg lm] at h
   replace h:Fv st b R (match Nw Y n1 s1 with
    | .inl e=>(.inl e:Rs)
    | .inr r=>Ek (if 2<r.1.length then 5 else 4) r.1 r.2 [41]):=by
    unfold Nw
    cases hy:Y s1 with
    |inl e=>simp_all
    |inr q=>grind
   have hbl:∀{l s2},Nw Y n1 s1=.inr (l,s2)->s2.Cf.length<=500000000/\l.length+1<=1000000000:=λe=>by
    have:=jA hF e
    exact ⟨BT H1,H1⟩
   repeat' ((conv=>whnf);first|(refine Bc ?_;intros)|(refine CD ?_ ?_<;>intro _)|refine GD hs hb (HU hq1 (λst1 h1=>?_))|refine gT hA h1.1 hb1 ?_|refine gT hC FA hb1 ?_|refine gT hE FA hb1 ?_|refine tj hY h0 hB hF (n1:=n1) H1 hm1 FA (jm (λl s2 hq2 st2 own1 h2 g2=>?_) (λe2 s2 hq2 st2 h2=>?_))|refine BH (λ_=>?_)|refine Tm (h2.1.hw own1 _) (hbl hq2).1 (F8 g2 h2.1 (G6 (λn3 s3 hq3 U h3 hg3=>?_) (λe3 s3 hq3 U h3 hg3=>?_)))|refine D8 (l:=l) (x:=n3) hg3 (hbl hq2).2 (λown2 ho2=>?_))
   all_goals rw [hq2] at h
   all_goals dsimp only at h
   all_goals try unfold Ek at h
   all_goals try rw [hq3] at h
   all_goals have hu:=(((h1.trans Bf).trans Bf).trans Bf).trans h2
   .rw [if_pos H1] at h
    exact CS (Ay.Bj ho2) Ck (h U (hu.trans h3))
   .exact CS (Ay.Bj hg3) rfl (h U (hu.trans h3))
   .rw [if_neg H1] at h
    exact CS (Ay.Bj ho2) Ck (h U (hu.trans h3))
   .exact CS (Ay.Bj hg3) rfl (h U (hu.trans h3))
   .exact fin (h st2 hu) rfl
end
section
variable {st:St} {R:AD->St->Prop}
attribute [local irreducible] Go.Aw.Ai
theorem ld {n1:Nd} {s:Af} (hm:mu s<=100000000) (h:R (.ret (F3 (Ek 3 (CK [n1] s).1 (CK [n1] s).2 [41]))) st):
 PC 366 [.slice 6 [Ap n1] .full,Am s] st R:=by
 refine pB Tryz.func366 ?_
 repeat' ((conv=>whnf);first|(refine Bc ?_;intros)|fail)
 refine Gr (α:=List Nd×Af×Ay) (λx=>[(0,.slice 6 (x.1.map Ap) x.2.2)]) [3,4] (λx=>[(0,x.2.1.cells)]) [1] (λx=>x.2.2.st st (x.1.length*6))
  (λx=>x.2.2.B5 st/\x.1.length+mu x.2.1<=200000000/\mu x.2.1<=mu s/\CK x.1 x.2.1=CK [n1] s) (λx=>mu x.2.1) ([n1],s,.full)
  ⟨trivial,by show 1+mu s<=_;omega,Nat.le_refl _,rfl⟩ Yl (St.le_refl _) ?_
 rintro ⟨l,s3,own⟩ ⟨j1,j5,j6,j7⟩
 dsimp only at j1 j5 j6 j7
 have hm3:mu s3<=100000000:=H1
 have U:=BT hm3
 have hn:l.length+1<=1000000000:=H1
 rw [<-j7] at h
 cases hE:AP s3 15 [44] with
 |true=>
  repeat' ((conv=>whnf);first|(refine Bc ?_;intros)|refine EY hE IR U ?_|refine Eu (DK hE IR) U ?_|refine D8 (l:=l) (x:=AJ (Aa s3).1) j1 hn (λown' ho'=>?_))
  all_goals conv=>whnf
  have hd3:=C6 hE IR IR
  refine ⟨(l++[AJ (Aa s3).1],(Aa s3).2.1,own'),⟨ho',?_,by show mu (Aa s3).2.1<=_;omega,?_⟩,hd3,Yl,St.le_refl _⟩
  .show (l++[AJ (Aa s3).1]).length+mu (Aa s3).2.1<=_
   rw [List.length_append,List.length_singleton]
   omega
  .show CK (l++[AJ (Aa s3).1]) (Aa s3).2.1=_
   rw [<-j7,TT (l:=l) hE]
 |false=>
  rw [M1 hE] at h
  unfold Ek at h
  cases hq:DB s3 15 [41] with
  |inl p=>
   obtain ⟨e,s'⟩:=p
   rw [hq] at h
   have hne:¬e=0:=LR _ _ _ hq
   repeat' ((conv=>whnf);first|(refine Bc ?_;intros)|refine EY hE IR U ?_|refine Ow hq IR U ?_)
   all_goals exact CS (Ay.Bj j1) rfl h
  |inr p=>
   obtain ⟨n,s'⟩:=p
   rw [hq] at h
   repeat' ((conv=>whnf);first|(refine Bc ?_;intros)|refine EY hE IR U ?_|refine Ow hq IR U ?_|refine D8 (l:=l) (x:=n) j1 hn (λown' ho'=>?_))
   all_goals exact CS (Ay.Bj ho') Ak h
end
theorem UJ (h:d=0) (s:Af):B8 d s=.inl (2,s):=by subst h;rfl
theorem Xx (U:d+1<=1000000) (h:DV 220 (d:Int) (B8 d)):DW 362 ((d+1:Nat):Int) (BN (B8 d)):=
 uW (sv rfl H1 h (λe s=>UJ e s) (B3 d) (Bv d)) (oH H1 h (λe s=>UJ e s) (B3 d) (Bv d))
theorem Ot (U:d+1<=1000000) (h:DV 220 (d:Int) (B8 d)):DW 296 ((d+1:Nat):Int) (A8 (BN (B8 d))):=
 wF (Xx U h) (BL (Bv d))
theorem PF (U:d+1<=1000000) (h:DV 220 (d:Int) (B8 d)):DW 297 ((d+1:Nat):Int) (C9 (BN (B8 d))):=
 tt (Ot U h) (Xu (Ot U h) (BL (Bv d))) (BL (Bv d))
theorem LN:∀d:Nat,d<=100->DV 220 (d:Int) (B8 d)
 |0,_=>cW λh=>absurd IR h
 |d+1,U=>cW λ_=>by
  rw [if_neg H1]
  exact PF H1 (LN d H1)
def B0 (deep:Int):Nat:=(if 100<deep then 100 else deep).toNat
theorem RJ (deep:Int):B0 deep<=100:=by unfold B0;split<;>omega
theorem RI (h:¬deep<1):(if 100<deep then 100 else deep)=((B0 deep - 1+1:Nat):Int):=by unfold B0;split<;>omega
theorem yj:DV 220 deep (C9 (BN (B8 (B0 deep - 1)))):=cW λh=>by
 rw [RI h]
 have:=RJ deep
 exact PF H1 (LN _ H1)
theorem xy:DV 406 deep (BN (B8 (B0 deep - 1))):=qc λh=>by
 rw [RI h]
 have:=RJ deep
 exact Xx H1 (LN _ H1)
theorem yX:DV 219 deep (A8 (BN (B8 (B0 deep - 1)))):=wE λh=>by
 rw [RI h]
 have:=RJ deep
 exact Ot H1 (LN _ H1)
end Go.Proofs.Z
