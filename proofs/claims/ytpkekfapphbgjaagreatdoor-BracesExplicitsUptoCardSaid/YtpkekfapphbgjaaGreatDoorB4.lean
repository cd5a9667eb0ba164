/-
  Parts of a proof: lemmas that the last text uses.
-/
import Derived.Test.YtpkekfapphbgjaaGreatDoorB3
set_option linter.unusedVariables false
set_option linter.unusedSimpArgs false
set_option maxHeartbeats 16000000
variable {s l x w r:List UInt8} {i k c base:Int} {pos m b j:Nat} {e:UInt8} {K:Go.Aw.At->Go.Aw.St->Prop} {P A B:Prop} {n:Go.Aw.Nd} {p:Int×Int} {ih:(Go.Aw.AD->Go.Aw.Env->Go.Aw.St->Prop)->Go.Aw.Env->Go.Aw.St->Prop} {α β:Type} {t:Go.Proofs.Z.Tk} {s':Go.Proofs.Z.Al} {cs args:List Go.Aw.V} {f g:Go.FuncId} {mk:Nat->List Go.Aw.V} {st0:Go.Aw.St} {rows:List (Go.Aw.AA×List Go.Aw.Nd)} {E:Go.Proofs.Z.Er->Go.Proofs.Z.Al->Prop}
namespace Go.Proofs.Z
open Go Go.Aw
def Mq (s:List UInt8) (i:Int):Int×Int:=if i<0\/s.length<=i then (0,0) else Tn (s.drop i.toNat)
def kq (s:List UInt8) (i U:Int):Int:=if i<0\/s.length<i then 0 else i+BQ (λc=>Ax c==U) (s.drop i.toNat)
def LP (s:List UInt8):Int×Int:=if Cd DV s<s.length then (Cd DV s,10) else (s.length,0)
theorem Sy (h:i<0\/s.length<=i):Mq s i=(0,0):=if_pos h
theorem Ms (h:0<=i) (k:i<s.length):Mq s i=Tn (s.drop i.toNat):=if_neg AC
theorem Xh (h:i<0\/s.length<i):kq s i k=0:=if_pos h
theorem I8 (h:0<=i) (U:i<=s.length):kq s i k=i+BQ (λc=>Ax c==k) (s.drop i.toNat):=if_neg AC
theorem Z3 (h:s≠[]):Tn s=((((AR s).1:Nat):Int),(((AR s).2:Nat):Int)):=by
 cases s with
 |nil=>exact absurd rfl h
 |cons a r=>rfl
theorem LU {c:Nat} (h:pos<s.length) (U:(c,m)=AR (s.drop pos)):Tn (s.drop (pos:Int).toNat)=((c:Int),(m:Int)):=by
 rw [show (pos:Int).toNat=pos by omega,Z3 (λe=>by have:=congrArg List.length e;rw [List.length_drop,List.length_nil] at this;omega),<-U]
theorem fO (h:pos<s.length) (k:Cd DV s=pos):LP s=(((pos:Nat):Int),10):=by
 unfold LP;rw [k,if_pos h]
theorem mb (h:¬pos<s.length) (k:Cd DV s=pos):LP s=((s.length:Int),0):=by
 unfold LP;rw [k,if_neg h]
section
variable {st:St} {R:At->St->Prop}
theorem rq (h:R (.ret (.int .i64 (F7 c))) st):PC 70 [.int .i32 c] st R:=by
 refine pB Tryz.func70 ?_
 repeat' ((conv=>whnf);first|  (refine BR ?_ ?_<;>intro _)|fail)
 all_goals exact fin h (Bq (by unfold F7;(repeat' split)<;>first|omega|rfl))
theorem fx (h:R (.ret (.int .i64 (J0 c))) st):PC 71 [.int .i32 c] st R:=by
 refine pB Tryz.func71 ?_
 repeat' ((conv=>whnf);first|(refine Br ?_;intros)|(refine BR ?_ ?_<;>intro _)|fail)
 all_goals exact fin h (Bq (by unfold J0;(repeat' split)<;>first|omega|rfl))
theorem J3 (h:R (.ret (.int .i64 (Ax c))) st):PC 46 [.int .i32 c] st R:=by
 refine pB Tryz.func46 ?_
 repeat' ((conv=>whnf);first|(refine Br ?_;intros)|(refine BR ?_ ?_<;>intro _)|refine rq ?_|refine fx ?_)
 all_goals exact fin h (Bq (by unfold Ax;(repeat' split)<;>first|omega|rfl))
theorem iX (U:s.length<4611686018427387904) (h:R (.ret (.Bj [.int .i32 (Mq s i).1,.int .i64 (Mq s i).2])) st):PC 105 [.str s,.int .i64 i] st R:=by
 refine pB Tryz.func105 ?_
 repeat' ((conv=>whnf);first|(refine Br ?_;intros)|(refine BR ?_ ?_<;>intro _)|refine pC ?_)
 all_goals exact fin h (by first|rw [Sy AC]|rw [Ms AC AC])
theorem p7 (hl:s.length<4611686018427387904) (h:R (.ret (.int .i64 (kq s i k))) st):PC 72 [.str s,.int .i64 i,.int .i64 k] st R:=by
 refine pB Tryz.func72 ?_
 repeat' ((conv=>whnf);first|(refine Br ?_;intros)|(refine BR ?_ ?_<;>intro _)|refine J3 ?_)
 all_goals try exact fin h (Bq (Xh AC))
 have hlen:(s.drop i.toNat).length=s.length - i.toNat:=List.length_drop
 generalize ht:s.drop i.toNat=t at hlen
 refine HN (α:=Nat) (λ_=>[]) (λpos=>[(0,[.OC t pos])]) [0,1,2,20] [] (λ_=>st) (λpos=>pos<=t.length/\BQ (λc=>Ax c==k) t=pos+BQ (λc=>Ax c==k) (t.drop pos)) (λpos=>t.length - pos) 0 ⟨Nat.zero_le _,GT⟩ Yl (St.le_refl _) ?_
 rintro pos ⟨hp,hi⟩
 repeat' ((conv=>whnf);first|(refine Br ?_;intros)|(refine BR ?_ ?_<;>intro _)|refine J3 ?_)
 .rename_i U c m hd hk
  have hr:=rune_le U hd
  conv=>whnf
  exact ⟨pos+m,⟨hr.1,MO U hd (beq_iff_eq.2 hk) hi⟩,AC,Yl,St.le_refl _⟩
 .rename_i U c m hd hk
  have:=O7 (p:=λd=>Ax (d.1:Nat)==k) hd (beq_eq_false_iff_ne.2 hk) hi
  exact fin h (Bq (by rw [I8 AC AC,ht,this]))
 .rename_i U hls
  have:=MN U hi
  exact fin h (Bq (by rw [I8 AC AC,ht,this];omega))
theorem Ti (h:R (.ret (.Bj [.int .i64 (LP s).1,.int .i64 (LP s).2])) st):PC 43 [.str s] st R:=by
 refine pB Tryz.func43 ?_
 repeat' ((conv=>whnf);first|(refine Br ?_;intros)|(refine BR ?_ ?_<;>intro _)|fail)
 refine HN (α:=Nat) (λ_=>[]) (λpos=>[(0,[.OC s pos])]) [0,9] [] (λ_=>st) (λpos=>pos<=s.length/\Cd DV s=pos+Cd DV (s.drop pos)) (λpos=>s.length - pos) 0 ⟨Nat.zero_le _,GT⟩ Yl (St.le_refl _) ?_
 rintro pos ⟨hp,hi⟩
 repeat' ((conv=>whnf);first|(refine Br ?_;intros)|(refine BR ?_ ?_<;>intro _)|refine pC ?_)
 .rename_i U c m hd hc hm
  rw [LU U hd] at hm
  have hk:=O7 hd (by simp only [DV];have h1:c=65533:=hc;have h2:m=1:=Int.ofNat.inj hm;rw [h1,h2];rfl) hi
  exact fin h (by rw [fO U hk])
 .rename_i U c m hd hc hm
  rw [LU U hd] at hm
  have hr:=rune_le U hd
  conv=>whnf
  exact ⟨pos+m,⟨hr.1,MO U hd (by simp only [DV];have:¬m=1:=λe=>hm (by subst e;rfl);simp [this]) hi⟩,AC,Yl,St.le_refl _⟩
 .rename_i U c m hd hc
  have hr:=rune_le U hd
  conv=>whnf
  exact ⟨pos+m,⟨hr.1,MO U hd (by simp only [DV];have:¬c=65533:=hc;simp [this]) hi⟩,AC,Yl,St.le_refl _⟩
 .rename_i U hls
  exact fin h (by rw [mb U (MN U hi)])
end
end Go.Proofs.Z
namespace Go.Aw
open Go
theorem J5 {K:Int->Prop} (k:K (e.toNat:Nat)):∃r,r=IntKind.i64.wrap ((e.toNat:Nat):Int)/\K r:=by
 have:=e.toNat_lt
 exact Wq AC AC k
def AE:List UInt8->Int
 |[]=> -1
 |a::_=>(a.toNat:Nat)
theorem Ns (l:List UInt8): -1<=AE l/\AE l<=255:=by
 cases l with
 |nil=>exact ⟨Do,Do⟩
 |cons a r=>have:=a.toNat_lt;simp only [AE];omega
def ER:Nat->List UInt8->Int->Option Int
 |0,_,c=>some c
 |k+1,l,c=>if AE l<128\/191<AE l then none else ER k (l.drop 1) (c*64+AE l - 128)
def PS (o:Option Int) (least n:Int):Int×Int:=match o with
 |none=>(65533,1)
 |some c=>if c<least\/1114111<c\/55296<=c/\c<=57343 then (65533,1) else (c,n)
theorem gy [Decidable P] {o:Option Int} {l n:Int}:PS (if P then none else o) l n=if P then (65533,1) else PS o l n:=by
 by_cases h:P
 .rw [if_pos h,if_pos h];rfl
 .rw [if_neg h,if_neg h]
theorem cJ {l n:Int}:PS (some c) l n=if c<l\/1114111<c\/55296<=c/\c<=57343 then (65533,1) else (c,n):=rfl
def lF (l:List UInt8):Int×Int:=
 if AE l<0 then (0,0)
 else if AE l<128 then (AE l,1)
 else if 194<=AE l/\AE l<=223 then PS (ER 1 (l.drop 1) (AE l - 192)) 128 2
 else if 224<=AE l/\AE l<=239 then PS (ER 2 (l.drop 1) (AE l - 224)) 2048 3
 else if 240<=AE l/\AE l<=244 then PS (ER 3 (l.drop 1) (AE l - 240)) 65536 4
 else (65533,1)
end Go.Aw
namespace Go.Proofs.Z
open Go Go.Aw
def uL (l:List UInt8):Int×Int:=match l with
 |[]=>(0,0)
 |a::r=>Tn (a::r)
set_option maxRecDepth 100000 in
theorem rY (l:List UInt8):lF l=uL l:=by
 cases l with
 |nil=>rfl
 |cons a r=>
  have U:=a.toNat_lt
  show lF (a::r)=((((AR (a::r)).1:Nat):Int),(((AR (a::r)).2:Nat):Int))
  rcases r with _|⟨b,_|⟨c,_|⟨d,t⟩⟩⟩
  all_goals try have hb:=b.toNat_lt
  all_goals try have hc:=c.toNat_lt
  all_goals try have hd:=d.toNat_lt
  all_goals unfold AR lF
  all_goals dsimp only
  all_goals simp only [ER,AE,gy,cJ,List.drop_succ_cons,List.drop_zero,List.drop_nil]
  all_goals simp only [List.getElem?_nil,List.getElem?_cons_zero,List.getElem?_cons_succ,List.getD_cons_zero,List.getD_cons_succ]
  all_goals simp only [Bool.and_eq_true,beq_iff_eq,Bool.false_eq_true,and_false,false_and,if_false]
  all_goals try simp only [decide_eq_true_eq,Utf8.valid,Bool.or_eq_true,Bool.and_eq_true]
  all_goals repeat' (first|rw [if_pos AC]|rw [if_neg AC]|split)
  all_goals first|rfl|omega|(simp only [Prod.mk.injEq];done)|(simp only [Prod.mk.injEq];omega)
def Jm (s:List UInt8) (i:Int):Int:=if i<0 then -1 else AE (s.drop i.toNat)
theorem lR (h:i<0\/s.length<=i):Jm s i= -1:=by
 unfold Jm
 split
 .rfl
 .rw [List.drop_eq_nil_iff.2 AC];rfl
theorem qt (U:¬i<0) (h:s[i.toNat]? =some e):Jm s i=(e.toNat:Nat):=by
 unfold Jm
 rw [if_neg U,drop_at h];rfl
def Ej (s:List UInt8) (i:Int):Int×Int:=if i<0 then (0,0) else lF (s.drop i.toNat)
theorem Nb {n k:Nat} {d:Int} (h:k<n) (U:d=AE (l.drop k)) (b:d<128\/191<d):ER (n - k) (l.drop k) c=none:=by
 obtain ⟨j,rfl⟩:∃j,n=k+1+j:=⟨n - (k+1),AC⟩
 rw [show k+1+j - k=j+1 by omega,ER,if_pos (U ▸ b)]
theorem PE {n k:Nat} {d:Int} (h:k<n) (U:d=AE (l.drop k)) (b:¬(d<128\/191<d)):ER (n - (k+1)) (l.drop (k+1)) (c*64+d - 128)=ER (n - k) (l.drop k) c:=by
 obtain ⟨j,rfl⟩:∃j,n=k+1+j:=⟨n - (k+1),AC⟩
 rw [show k+1+j - k=j+1 by omega,show k+1+j - (k+1)=j by omega,ER,if_neg (U ▸ b),List.drop_drop,U]
theorem GG {n k:Nat} (h:n - k=0):ER (n - k) l c=some c:=by rw [h];rfl
theorem Jp (h:¬Jm s i<0):0<=i/\Jm s i=AE (s.drop i.toNat):=by
 unfold Jm at h |-
 omega
theorem S9 {k:Nat} (h:0<=i):Jm s (i+k)=AE ((s.drop i.toNat).drop k):=by
 unfold Jm
 rw [if_neg AC,List.drop_drop,show (i+(k:Int)).toNat=i.toNat+k by omega]
theorem Xf (h:Jm s i<0):Ej s i=(0,0):=by
 unfold Ej
 split
 .rfl
 .rename_i U
  unfold Jm at h
  rw [if_neg U] at h
  unfold lF
  simp_all
theorem Zm (h:¬Jm s i<0) (k:Jm s i<128):Ej s i=(Jm s i,1):=by
 obtain ⟨U,e⟩:=Jp h
 rw [e] at h k |-
 unfold Ej lF
 grind
theorem Q3 (h:194<=Jm s i) (k:Jm s i<=223):Ej s i=PS (ER (2 - 1) ((s.drop i.toNat).drop 1) (Jm s i - 192)) 128 2:=by
 obtain ⟨U,e⟩:=Jp (s:=s) (i:=i) AC
 rw [e] at h k |-
 unfold Ej lF
 grind
theorem Q4 (h:224<=Jm s i) (k:Jm s i<=239):Ej s i=PS (ER (3 - 1) ((s.drop i.toNat).drop 1) (Jm s i - 224)) 2048 3:=by
 obtain ⟨U,e⟩:=Jp (s:=s) (i:=i) AC
 rw [e] at h k |-
 unfold Ej lF
 grind
theorem Q5 (h:240<=Jm s i) (k:Jm s i<=244):Ej s i=PS (ER (4 - 1) ((s.drop i.toNat).drop 1) (Jm s i - 240)) 65536 4:=by
 obtain ⟨U,e⟩:=Jp (s:=s) (i:=i) AC
 rw [e] at h k |-
 unfold Ej lF
 grind
theorem Zl (h:¬Jm s i<128) (k:¬(194<=Jm s i/\Jm s i<=244)):Ej s i=(65533,1):=by
 obtain ⟨U,e⟩:=Jp (s:=s) (i:=i) AC
 rw [e] at h k
 unfold Ej lF
 grind
theorem PT {l n:Int} (h:c<l\/1114111<c\/55296<=c/\c<=57343):PS (some c) l n=(65533,1):=if_pos h
theorem Ni {l n:Int} (h:¬(c<l\/1114111<c\/55296<=c/\c<=57343)):PS (some c) l n=(c,n):=if_neg h
section
variable {st:St} {R:At->St->Prop}
theorem bj (h:R (.ret (.int .i64 (Jm s i))) st):PC 301 [.str s,.int .i64 i] st R:=by
 refine pB Tryz.func301 ?_
 repeat' ((conv=>whnf);first|(refine Br ?_;intros)|(refine BR ?_ ?_<;>intro _)|refine J5 ?_)
 all_goals first|exact fin h (Bq (lR AC))|exact fin h (Bq (qt AC ‹_›))
theorem pY {a b:Int} (h:R (.ret (.bool (decide (a<=c/\c<=b)))) st):PC 261 [.int .i64 c,.int .i64 a,.int .i64 b] st R:=by
 refine pB Tryz.func261 ?_
 repeat' ((conv=>whnf);first|  (refine BR ?_ ?_<;>intro _)|fail)
 all_goals exact fin h (congrArg (λb=>At.ret (V.bool b)) (by first|exact decide_eq_true (by omega)|exact decide_eq_false AC))
theorem Xa (h:R (.ret (.int .i64 (Ax c))) st):PC 256 [.int .i64 c] st R:=by
 refine pB Tryz.func256 ?_
 repeat' ((conv=>whnf);first|(refine Br ?_;intros)|(refine BR ?_ ?_<;>intro _)|refine pY ?_)
 all_goals exact fin h (Bq (by unfold Ax F7 J0;repeat' (first|rfl|rw [if_pos AC]|rw [if_neg AC]|split)))
theorem oo (hl:s.length<4611686018427387904) (hi:i<4611686018427387904) (h:R (.ret (.Bj [.int .i64 (Ej s i).1,.int .i64 (Ej s i).2])) st):PC 255 [.str s,.int .i64 i] st R:=by
 refine pB Tryz.func255 ?_
 repeat' ((conv=>whnf);first|(refine Br ?_;intros)|(refine BR ?_ ?_<;>intro _)|refine bj ?_)
 .exact fin h (by rw [Xf ‹_›])
 .exact fin h (by rw [Zm ‹_› ‹_›])
 .have hi0:0<=i:=(Jp (s:=s) (i:=i) AC).1
  refine K7 (α:=Nat) (β:=Int) (λk c=>[(10,.int .i64 (k:Int)),(9,.int .i64 c)]) (λ_ _=>[]) [0,1,7,8] [] (λ_ _=>st)
   (λk c=>1<=k/\k<=2/\ER (2 - k) ((s.drop i.toNat).drop k) c=ER (2 - 1) ((s.drop i.toNat).drop 1) (Jm s i - 192)/\0<=c/\(k=1/\c<32\/k=2/\c<2048\/k=3/\c<131072\/k=4/\c<8388608))
   (λk _=>2 - k) 1 (Jm s i - 192) ⟨Nat.le_refl _,Do,rfl,AC,.inl ⟨rfl,AC⟩⟩ Yl (St.le_refl _) ?_
  rintro k c ⟨h1,h2,U,h4,h5⟩
  have hk:=S9 (s:=s) (k:=k) hi0
  have hlt:=Ns ((s.drop i.toNat).drop k)
  repeat' ((conv=>whnf);first|(refine Br ?_;intros)|(refine BR ?_ ?_<;>intro _)|refine bj ?_)
  all_goals first
   |exact fin h (by rw [Q3 AC AC,<-U,Nb AC hk AC];rfl)
   |exact fin h (by rw [Q3 AC AC,<-U,GG AC,PT AC])
   |exact fin h (by rw [Q3 AC AC,<-U,GG AC,Ni AC])
   |(conv=>whnf
     exact ⟨(k+1,c*64+Jm s (i+k) - 128),⟨AC,AC,(PE AC hk AC).trans U,So,So⟩,So,Yl,St.le_refl _⟩)
 .have hi0:0<=i:=(Jp (s:=s) (i:=i) AC).1
  refine K7 (α:=Nat) (β:=Int) (λk c=>[(10,.int .i64 (k:Int)),(9,.int .i64 c)]) (λ_ _=>[]) [0,1,7,8] [] (λ_ _=>st)
   (λk c=>1<=k/\k<=3/\ER (3 - k) ((s.drop i.toNat).drop k) c=ER (3 - 1) ((s.drop i.toNat).drop 1) (Jm s i - 224)/\0<=c/\(k=1/\c<32\/k=2/\c<2048\/k=3/\c<131072\/k=4/\c<8388608))
   (λk _=>3 - k) 1 (Jm s i - 224) ⟨Nat.le_refl _,Do,rfl,AC,.inl ⟨rfl,AC⟩⟩ Yl (St.le_refl _) ?_
  rintro k c ⟨h1,h2,U,h4,h5⟩
  have hk:=S9 (s:=s) (k:=k) hi0
  have hlt:=Ns ((s.drop i.toNat).drop k)
  repeat' ((conv=>whnf);first|(refine Br ?_;intros)|(refine BR ?_ ?_<;>intro _)|refine bj ?_)
  all_goals first
   |exact fin h (by rw [Q4 AC AC,<-U,Nb AC hk AC];rfl)
   |exact fin h (by rw [Q4 AC AC,<-U,GG AC,PT AC])
   |exact fin h (by rw [Q4 AC AC,<-U,GG AC,Ni AC])
   |(conv=>whnf
     exact ⟨(k+1,c*64+Jm s (i+k) - 128),⟨AC,AC,(PE AC hk AC).trans U,So,So⟩,So,Yl,St.le_refl _⟩)
 .have hi0:0<=i:=(Jp (s:=s) (i:=i) AC).1
  refine K7 (α:=Nat) (β:=Int) (λk c=>[(10,.int .i64 (k:Int)),(9,.int .i64 c)]) (λ_ _=>[]) [0,1,7,8] [] (λ_ _=>st)
   (λk c=>1<=k/\k<=4/\ER (4 - k) ((s.drop i.toNat).drop k) c=ER (4 - 1) ((s.drop i.toNat).drop 1) (Jm s i - 240)/\0<=c/\(k=1/\c<32\/k=2/\c<2048\/k=3/\c<131072\/k=4/\c<8388608))
   (λk _=>4 - k) 1 (Jm s i - 240) ⟨Nat.le_refl _,Do,rfl,AC,.inl ⟨rfl,AC⟩⟩ Yl (St.le_refl _) ?_
  rintro k c ⟨h1,h2,U,h4,h5⟩
  have hk:=S9 (s:=s) (k:=k) hi0
  have hlt:=Ns ((s.drop i.toNat).drop k)
  repeat' ((conv=>whnf);first|(refine Br ?_;intros)|(refine BR ?_ ?_<;>intro _)|refine bj ?_)
  all_goals first
   |exact fin h (by rw [Q5 AC AC,<-U,Nb AC hk AC];rfl)
   |exact fin h (by rw [Q5 AC AC,<-U,GG AC,PT AC])
   |exact fin h (by rw [Q5 AC AC,<-U,GG AC,Ni AC])
   |(conv=>whnf
     exact ⟨(k+1,c*64+Jm s (i+k) - 128),⟨AC,AC,(PE AC hk AC).trans U,So,So⟩,So,Yl,St.le_refl _⟩)
 all_goals exact fin h (by rw [Zl AC AC])
end
theorem dK {c:Nat} (U:(c,m)=AR (s.drop pos)) (h:pos<s.length):Ej s pos=((c:Int),(m:Int)):=by
 unfold Ej
 rw [if_neg AC,rY,<-LU h U,show (pos:Int).toNat=pos by omega,drop_at (List.getElem?_eq_getElem h)]
 rfl
section
variable {st:St} {R:At->St->Prop}
theorem bw {c:Nat} (hd:(c,m)=AR (s.drop pos)) (U:pos<s.length) (hl:s.length<4611686018427387904) (h:R (.ret (.Bj [.int .i64 c,.int .i64 m])) st):PC 255 [.str s,.int .i64 pos] st R:=
 oo hl AC (by rw [dK hd U];exact h)
theorem se (hl:s.length<4611686018427387904) (h:R (.ret (.int .i64 (kq s i k))) st):PC 206 [.str s,.int .i64 i,.int .i64 k] st R:=by
 refine pB Tryz.func206 ?_
 repeat' ((conv=>whnf);first|(refine Br ?_;intros)|(refine BR ?_ ?_<;>intro _)|fail)
 all_goals try exact fin h (Bq (Xh AC))
 have h0:0<=i/\i<=s.length:=AC
 refine QA (α:=Nat) (λpos=>[(1,.int .i64 (pos:Int))]) [0,2] [] (λ_=>st) (λpos=>pos<=s.length/\i.toNat+BQ (λc=>Ax c==k) (s.drop i.toNat)=pos+BQ (λc=>Ax c==k) (s.drop pos)) (λpos=>s.length - pos) i.toNat ⟨AC,rfl⟩ (by rw [Int.toNat_of_nonneg h0.1];exact Yl) (St.le_refl _) ?_
 rintro pos ⟨hp,hi⟩
 rcases U:AR (s.drop pos) with ⟨c,m⟩
 have U:=U.symm
 have hr:=oA U
 repeat' ((conv=>whnf);first|(refine Br ?_;intros)|(refine BR ?_ ?_<;>intro _)|refine bw U AC hl ?_|refine Xa ?_)
 .conv=>whnf
  exact ⟨pos+m,⟨AC,MO AC U (beq_iff_eq.2 ‹_›) hi⟩,AC,Yl,St.le_refl _⟩
 .have:=O7 (p:=λd=>Ax (d.1:Nat)==k) U (beq_eq_false_iff_ne.2 ‹_›) hi
  exact fin h (Bq (by rw [I8 h0.1 h0.2];omega))
 .have:=MN AC hi
  exact fin h (Bq (by rw [I8 h0.1 h0.2];omega))
end
end Go.Proofs.Z
namespace Go.Aw
open Go
def HS (l:List UInt8):Nat:=if AE l=13/\AE (l.drop 1)=10 then 2 else if AE l=13\/AE l=10\/AE l=12 then 1 else 0
def bI (Cp:Int):Int:=(Cp - 1) / 8*8+9
def AU (l:List UInt8):Nat:=if 0<HS l then HS l else (AR l).2
def Fi (l:List UInt8) (line:Int):Int:=if 0<HS l then line+1 else line
def Gq (l:List UInt8) (Cp:Int):Int:=if 0<HS l then 1 else if AE l=9 then bI Cp else Cp+1
theorem Ck {i:Nat} (h:s[i]? =some e):AE (s.drop i)=(e.toNat:Nat):=by rw [drop_at h];rfl
theorem De {i:Nat} (h:s.length<=i):AE (s.drop i)= -1:=by rw [List.drop_eq_nil_iff.2 h];rfl
theorem Y4 (l:List UInt8):HS l<=l.length:=by
 rcases l with _|⟨a,_|⟨b,r⟩⟩
 .decide
 .have e:¬(AE [a]=13/\AE ([a].drop 1)=10):=λh=>absurd (show (-1:Int)=10 from h.2) Do
  unfold HS
  rw [if_neg e,List.length_singleton]
  by_cases h:AE [a]=13\/AE [a]=10\/AE [a]=12
  .rw [if_pos h];omega
  .rw [if_neg h];omega
 .unfold HS
  simp only [List.length_cons]
  by_cases U:AE (a::b::r)=13/\AE ((a::b::r).drop 1)=10
  .rw [if_pos U];omega
  .rw [if_neg U]
   by_cases h:AE (a::b::r)=13\/AE (a::b::r)=10\/AE (a::b::r)=12
   .rw [if_pos h];omega
   .rw [if_neg h];omega
theorem F9 (h:l≠[]):AU l<=l.length/\1<=AU l:=by
 unfold AU
 split
 .exact ⟨Y4 l,FS⟩
 .exact ⟨Hj h,FX l⟩
theorem bH (s:List UInt8) (pos:Nat):¬pos<s.length\/(pos+AU (s.drop pos)<=s.length/\1<=AU (s.drop pos)):=by
 by_cases h:pos<s.length
 .have:=F9 (l:=s.drop pos) (λe=>by have:=congrArg List.length e;rw [List.length_drop,List.length_nil] at this;omega)
  rw [List.length_drop] at this
  exact .inr ⟨AC,this.2⟩
 .exact .inl h
end Go.Aw
namespace Go.Proofs.Z
open Go Go.Aw
def spot (pos:Nat) (line Cp:Int):V:=.agg [.int .i64 pos,.int .i64 line,.int .i64 Cp]
theorem Ro {p:Nat} {p' l l' U:Int} (e1:(p:Int)=p') (e2:l=l') (e3:c=U):At.ret (spot p l c)=At.ret (.agg [.int .i64 p',.int .i64 l',.int .i64 U]):=by subst e1;subst e2;subst e3;rfl
section
variable {st:St} {R:At->St->Prop}
theorem aO {c:Nat} (U:s.length<4611686018427387904) (hx:Mq s i=((c:Int),(m:Int))) (h:R (.ret (.Bj [.int .i32 c,.int .i64 m])) st):PC 105 [.str s,.int .i64 i] st R:=iX U (by rw [hx];exact h)
theorem Sx (hl:s.length<4611686018427387904) (hp:pos<s.length) (h:R (.ret (.int .i64 (HS (s.drop pos):Nat))) st):PC 104 [.str s,.int .i64 pos] st R:=by
 obtain ⟨e,U⟩:∃e,s[pos]? =some e:=⟨s[pos],List.getElem?_eq_getElem hp⟩
 have he':s[(pos:Int).toNat]? =some e:=U
 have h0:=Ck U
 have h1:AE ((s.drop pos).drop 1)=AE (s.drop (pos+1)):=by rw [List.drop_drop]
 refine pB Tryz.func104 ?_
 repeat' ((conv=>whnf);first|(refine Br ?_;intros)|(refine BR ?_ ?_<;>intro _)|fail)
 all_goals try have h2:=Ck (show s[pos+1]? =some _ by assumption)
 all_goals try have h3:=De (s:=s) (i:=pos+1) AC
 all_goals exact fin h (Bq (by unfold HS;rw [h1];(repeat' split)<;>omega))
theorem sn {Cp:Int} (U:1<=Cp) (h1:Cp<=4000000000000000000) (h:R (.ret (.int .i64 (bI Cp))) st):PC 106 [.int .i64 Cp] st R:=by
 refine pB Tryz.func106 ?_
 repeat' ((conv=>whnf);first|(refine Br ?_;intros)|fail)
 exact fin h (Bq (by unfold bI;omega))
theorem bb {line Cp:Int} (hl:s.length<4611686018427387904) (hp:pos<s.length) (h0:1<=line) (h1:line<=4000000000000000000) (h2:1<=Cp) (h3:Cp<=4000000000000000000)
 (h:R (.ret (spot (pos+AU (s.drop pos)) (Fi (s.drop pos) line) (Gq (s.drop pos) Cp))) st):PC 63 [.str s,spot pos line Cp] st R:=by
 obtain ⟨e,he⟩:∃e,s[pos]? =some e:=⟨s[pos],List.getElem?_eq_getElem hp⟩
 have he':s[(pos:Int).toNat]? =some e:=he
 have hh:=Ck he
 have hn:=Y4 (s.drop pos)
 rw [List.length_drop] at hn
 rcases hd:AR (s.drop pos) with ⟨c,m⟩
 have hr:=rune_le hp hd.symm
 have hx:Mq s pos=((c:Int),(m:Int)):=by rw [Ms AC AC,LU hp hd.symm]
 refine pB Tryz.func63 ?_
 repeat' ((conv=>whnf);first|(refine Br ?_;intros)|(refine BR ?_ ?_<;>intro _)|refine Sx hl hp ?_|refine aO hl hx ?_|refine sn h2 h3 ?_)
 .have U:0<HS (s.drop pos):=AC
  exact fin h (Ro (by unfold AU;rw [if_pos U];omega) (by unfold Fi;rw [if_pos U]) (by unfold Gq;rw [if_pos U]))
 .have U:¬0<HS (s.drop pos):=AC
  exact fin h (Ro (by unfold AU;rw [if_neg U,hd];omega) (by unfold Fi;rw [if_neg U]) (by unfold Gq;rw [if_neg U,if_pos AC]))
 .have U:¬0<HS (s.drop pos):=AC
  exact fin h (Ro (by unfold AU;rw [if_neg U,hd];omega) (by unfold Fi;rw [if_neg U]) (by unfold Gq;rw [if_neg U,if_neg AC]))
end
end Go.Proofs.Z
namespace Go.Aw
open Go
def BZ (l:List UInt8) (k:Nat) (p:Int×Int):Int×Int:=
 match l with
 |[]=>p
 |a::r=>if k<AU (a::r) then p else BZ ((a::r).drop (AU (a::r))) (k - AU (a::r)) (Fi (a::r) p.1,Gq (a::r) p.2)
termination_by l.length
decreasing_by
 have:=F9 (l:=a::r) GT
 simp only [List.length_drop,List.length_cons]
 omega
theorem FM (k:Nat) (p:Int×Int):BZ [] k p=p:=by rw [BZ]
theorem EM {k:Nat} (h:k<AU l):BZ l k p=p:=by
 cases l with
 |nil=>exact FM k p
 |cons a r=>rw [BZ,if_pos h]
theorem EA {k:Nat} (U:l≠[]) (h:¬k<AU l):BZ l k p=BZ (l.drop (AU l)) (k - AU l) (Fi l p.1,Gq l p.2):=by
 cases l with
 |nil=>exact absurd rfl U
 |cons a r=>rw [BZ,if_neg h]
theorem FN:BZ l 0 p=p:=by
 cases l with
 |nil=>exact FM 0 p
 |cons a r=>exact EM (F9 GT).2
theorem Ka (h:pos<s.length):s.drop pos≠[]:=λe=>by
 have:=congrArg List.length e;rw [List.length_drop,List.length_nil] at this;omega
theorem RG {k:Nat} {line Cp:Int} (h:pos<s.length) (U:¬pos+k<pos+AU (s.drop pos)):
 BZ (s.drop pos) k (line,Cp)=BZ (s.drop (pos+AU (s.drop pos))) (k - AU (s.drop pos)) (Fi (s.drop pos) line,Gq (s.drop pos) Cp):=by
 rw [EA (Ka h) AC,List.drop_drop]
theorem UG (l:List UInt8) (line:Int):line<=Fi l line/\Fi l line<=line+1:=by unfold Fi;split<;>omega
theorem UF (l:List UInt8) {Cp:Int} (h:1<=Cp):1<=Gq l Cp/\Gq l Cp<=Cp+8:=by
 unfold Gq bI
 by_cases U:0<HS l
 .rw [if_pos U];omega
 .rw [if_neg U]
  by_cases h2:AE l=9
  .rw [if_pos h2];omega
  .rw [if_neg h2];omega
end Go.Aw
namespace Go.Proofs.Z
open Go Go.Aw
section
variable {st:St} {R:At->St->Prop}
theorem tE {k:Nat} (hl:s.length<=100000000) (hk:k<=s.length) (h:R (.ret (.Bj [.int .i64 (BZ s k (1,1)).1,.int .i64 (BZ s k (1,1)).2,.int .i64 0])) st):PC 39 [.str s,.int .i64 k] st R:=by
 refine pB Tryz.func39 ?_
 repeat' ((conv=>whnf);first|exact Du|(refine Br ?_;intros)|(refine Dw ?_ ?_ ?_;rotate_left)|(refine BR ?_ ?_<;>intro _)|refine An GE ?_|fail)
 refine K8 (α:=Nat) (β:=Int) (γ:=Int) (λ_ _ _=>[]) (λpos line Cp=>[(0,[.int .i64 (pos:Int),.int .i64 line,.int .i64 Cp])]) [0,1,7] [] (λ_ _ _=>st)
  (λpos line Cp=>pos<=k/\1<=line/\line<=1+(pos:Int)/\1<=Cp/\Cp<=1+8*(pos:Int)/\BZ s k (1,1)=BZ (s.drop pos) (k - pos) (line,Cp)) (λpos _ _=>k - pos) 0 1 1 ⟨AC,AC,AC,AC,AC,rfl⟩ Yl (St.le_refl _) ?_
 rintro pos line Cp ⟨h1,h2,h3,h4,h5,U⟩
 have hr:=bH s pos
 have hL:=UG (s.drop pos) line
 have hC:=UF (s.drop pos) h4
 repeat' ((conv=>whnf);first|exact Du|(refine Br ?_;intros)|(refine Dw ?_ ?_ ?_;rotate_left)|(refine BR ?_ ?_<;>intro _)|refine bb AC AC AC AC AC AC ?_|refine An GE ?_|fail)
 .exact fin h (by rw [U,EM AC])
 .conv=>whnf
  exact ⟨(pos+AU (s.drop pos),Fi (s.drop pos) line,Gq (s.drop pos) Cp),⟨So,So,So,So,So,by dsimp only;rw [U,RG AC AC,Nat.sub_sub]⟩,So,Yl,St.le_refl _⟩
 .have hz:k - pos=0:=AC
  exact fin h (by rw [U,hz,FN])
theorem pc {U:Int} (hl:s.length<=100000000) (h0:1<=U) (h1:U<=2147483648) (h:R (.ret (.Bj [.int .i64 (BZ s s.length (1,U)).2,.int .i64 0])) st):PC 121 [.str s,.int .i64 U] st R:=by
 refine pB Tryz.func121 ?_
 repeat' ((conv=>whnf);first|(refine Br ?_;intros)|(refine BR ?_ ?_<;>intro _)|fail)
 refine K8 (α:=Nat) (β:=Int) (γ:=Int) (λ_ _ _=>[]) (λpos line Cp=>[(0,[.int .i64 (pos:Int),.int .i64 line,.int .i64 Cp])]) [0,6] [] (λ_ _ _=>st)
  (λpos line Cp=>pos<=s.length/\1<=line/\line<=1+(pos:Int)/\1<=Cp/\Cp<=U+8*(pos:Int)/\BZ s s.length (1,U)=BZ (s.drop pos) (s.length - pos) (line,Cp)) (λpos _ _=>s.length - pos) 0 1 U ⟨AC,AC,AC,AC,AC,rfl⟩ Yl (St.le_refl _) ?_
 rintro pos line Cp ⟨h1,h2,h3,h4,h5,h6⟩
 have hr:=bH s pos
 have hL:=UG (s.drop pos) line
 have hC:=UF (s.drop pos) h4
 repeat' ((conv=>whnf);first|(refine Br ?_;intros)|(refine BR ?_ ?_<;>intro _)|refine bb AC AC AC AC AC AC ?_)
 .conv=>whnf
  exact ⟨(pos+AU (s.drop pos),Fi (s.drop pos) line,Gq (s.drop pos) Cp),⟨So,So,So,So,So,by dsimp only;rw [h6,RG AC AC,Nat.sub_sub]⟩,So,Yl,St.le_refl _⟩
 .have hz:s.length - pos=0:=AC
  exact fin h (by rw [h6,hz,FN])
end
end Go.Proofs.Z
namespace Go.Aw
open Go
theorem rn {Q:AD->Env->St->Prop} {env:Env} {st:St} {γ δ:Type} (f:α->β->γ->δ->List (Nat×V)) (g:α->β->γ->δ->List (Nat×List V)) (keep kb:List Nat) (S:α->β->γ->δ->St) (J:α->β->γ->δ->Prop) (U:α->β->γ->δ->Nat) (x0:α) (y0:β) (z0:γ) (u0:δ) (h0:J x0 y0 z0 u0)
 (he:(env.KV (f x0 y0 z0 u0) (g x0 y0 z0 u0) keep kb).Ek env) (hs:St.le (S x0 y0 z0 u0) st)
 (hb:∀x y z u,J x y z u->ih (BF (λenv' st'=>∃p:α×β×γ×δ,J p.1 p.2.1 p.2.2.1 p.2.2.2/\U p.1 p.2.1 p.2.2.1 p.2.2.2<U x y z u/\(env.KV (f p.1 p.2.1 p.2.2.1 p.2.2.2) (g p.1 p.2.1 p.2.2.1 p.2.2.2) keep kb).Ek env'/\St.le (S p.1 p.2.1 p.2.2.1 p.2.2.2) st') Q) (env.KV (f x y z u) (g x y z u) keep kb) (S x y z u)):
 ∃(α:Type) (E:α->Env) (S:α->St) (J:α->Prop) (U:α->Nat) (x0:α),J x0/\(E x0).Ek env/\St.le (S x0) st/\
  ∀x,J x->ih (BF (λenv' st'=>∃y,J y/\U y<U x/\(E y).Ek env'/\St.le (S y) st') Q) (E x) (S x):=
 ⟨α×β×γ×δ,λp=>env.KV (f p.1 p.2.1 p.2.2.1 p.2.2.2) (g p.1 p.2.1 p.2.2.1 p.2.2.2) keep kb,λp=>S p.1 p.2.1 p.2.2.1 p.2.2.2,λp=>J p.1 p.2.1 p.2.2.1 p.2.2.2,λp=>U p.1 p.2.1 p.2.2.1 p.2.2.2,(x0,y0,z0,u0),h0,he,hs,λp h=>hb p.1 p.2.1 p.2.2.1 p.2.2.2 h⟩
def Ds (s:List UInt8) (U pos:Nat):List (List UInt8):=
 if h:pos<s.length then
  if 0<HS (s.drop pos) then (s.take pos).drop U::Ds s (pos+HS (s.drop pos)) (pos+HS (s.drop pos)) else Ds s U (pos+1)
 else [s.drop U]
termination_by s.length - pos
decreasing_by all_goals omega
theorem tA {a b:Int} {K:Int->Prop} (h:¬a<b) (k:K a):∃r,r=(if a<b then b else a)/\K r:=⟨a,(if_neg h).symm,k⟩
theorem tB {a b:Int} {K:Int->Prop} (h:a<b) (k:K b):∃r,r=(if a<b then b else a)/\K r:=⟨b,(if_pos h).symm,k⟩
theorem fh {l:List (List UInt8)} {own:AA} {st:St} {K:V->St->Prop} (h:own.Bw st) (hb:l.length<=999999999)
 (k:∀U:AA,U.Bw st->K (.slice 1 (strs (l++[x])) U) (U.st st (l++[x]).length)):Ag 1 16 (strs l) own [[.str x]] (own.st st l.length) K:=
 JO (new:=[x]) h kw k
theorem dh {U:Nat} (h:pos<s.length) (k:0<HS (s.drop pos)):Ds s U pos=(s.take pos).drop U::Ds s (pos+HS (s.drop pos)) (pos+HS (s.drop pos)):=by
 rw [Ds,dif_pos h,if_pos k]
theorem de {U:Nat} (h:pos<s.length) (k:¬0<HS (s.drop pos)):Ds s U pos=Ds s U (pos+1):=by
 rw [Ds,dif_pos h,if_neg k]
theorem YO {U:Nat} (h:¬pos<s.length):Ds s U pos=[s.drop U]:=by
 rw [Ds,dif_neg h]
end Go.Aw
namespace Go.Proofs.Z
open Go Go.Aw
section
variable {st:St} {R:At->St->Prop}
attribute [local irreducible] Go.Aw.Ag
theorem aI (hl:s.length<=100000000) (h:∀own:AA,own.Bw st->R (.ret (.slice 1 (strs (Ds s 0 0)) own)) (own.st st (Ds s 0 0).length)):PC 120 [.str s] st R:=by
 refine pB Tryz.func120 ?_
 repeat' ((conv=>whnf);first|(refine Br ?_;intros)|(refine BR ?_ ?_<;>intro _)|fail)
 refine rn (α:=Nat) (β:=Nat) (γ:=List (List UInt8)) (δ:=AA) (λpos U l own=>[(5,.int .i64 (pos:Int)),(4,.int .i64 (U:Int)),(3,.slice 1 (strs l) own)]) (λ_ _ _ _=>[]) [0] [] (λ_ _ l own=>own.st st l.length)
  (λpos U l own=>U<=pos/\pos<=s.length/\l.length<=pos/\own.Bw st/\Ds s 0 0=l++Ds s U pos) (λpos _ _ _=>s.length - pos) 0 0 [] .full ⟨AC,AC,GT,trivial,rfl⟩ Yl (St.le_refl _) ?_
 rintro pos U l own ⟨h1,h2,h3,h4,h5⟩
 have hn:=Y4 (s.drop pos)
 rw [List.length_drop] at hn
 repeat' ((conv=>whnf);first|(refine Br ?_;intros)|(refine BR ?_ ?_<;>intro _)|refine Sx AC AC ?_|refine tA AC ?_|refine tB AC ?_|refine fh h4 AC (λown' ho=>?_))
 .conv=>whnf
  exact ⟨(pos+HS (s.drop pos),pos+HS (s.drop pos),l++[(s.take pos).drop U],own'),⟨Nat.le_refl _,AC,by grind,ho,by dsimp only;rw [h5,dh AC AC,List.append_assoc];rfl⟩,AC,Yl,St.le_refl _⟩
 .conv=>whnf
  exact ⟨(pos+1,U,l,own),⟨by grind,AC,by grind,h4,by dsimp only;rw [h5,de AC AC]⟩,AC,Yl,St.le_refl _⟩
 .exact fin (by have:=h own' ho;rw [h5,YO AC] at this;grind) rfl
end
end Go.Proofs.Z
namespace Go.Aw
open Go
def tI:List (List UInt8):=[[95],[99,97,115,101],[99,108,97,115,115],[100,97,116,97],[100,101,102,97,117,108,116],[100,101,114,105,118,105,110,103],[100,111],[101,108,115,101],[102,111,114,101,105,103,110],[105,102],[105,109,112,111,114,116],[105,110],[105,110,102,105,120],[105,110,102,105,120,108],[105,110,102,105,120,114],[105,110,115,116,97,110,99,101],[108,101,116],[109,111,100,117,108,101],[110,101,119,116,121,112,101],[111,102],[116,104,101,110],[116,121,112,101],[119,104,101,114,101]]
def iG:List (List UInt8):=[[46,46],[58],[58,58],[61],[92],[124],[60,45],[45,62],[64],[126],[61,62]]
def rV (w:List UInt8):Bool:=tI.contains w
def XB (w:List UInt8):Int:=if iG.contains w then 10 else if AE w=58 then 6 else 5
def HK (c:Int):Bool:=Ax c==2||Ax c==3||Ax c==4||c==39
def KL (l:List UInt8):Nat:=BQ HK l
def GV (l:List UInt8):Int:=match l with
 |[]=>0
 |a::r=>Ax ((AR (a::r)).1:Nat)
def Be (l:List UInt8):Int×Nat:=
 if GV l=6 then (15,1)
 else if GV l=5 then (XB (l.take (BQ (λc=>Ax c==5) l)),BQ (λc=>Ax c==5) l)
 else if GV l=3 then (2,KL l)
 else if GV l=2 then (if rV (l.take (KL l)) then 9 else 1,KL l)
 else (0,0)
def Io (k:Int):Int:=if k=1 then 3 else if k=2 then 4 else if k=5 then 7 else if k=6 then 8 else 0
theorem CS (c:UInt8) (l:List UInt8):[c].isPrefixOf l=decide (AE l=(c.toNat:Nat)):=by
 cases l with
 |nil=>exact (decide_eq_false (λe=>by have h:(-1:Int)=(c.toNat:Nat):=e;omega)).symm
 |cons a r=>
  show (c==a&&true)=decide (((a.toNat:Nat):Int)=(c.toNat:Nat))
  rw [Bool.and_true,Bool.eq_iff_iff,beq_iff_eq,decide_eq_true_iff]
  exact ⟨λe=>by rw [e],λe=>UInt8.toNat_inj.1 AC⟩
end Go.Aw
namespace Go.Proofs.Z
open Go Go.Aw
section
variable {st:St} {R:At->St->Prop}
theorem Zj (h:R (.ret (.bool (rV w))) st):PC 249 [.str w] st R:=by
 refine pB Tryz.func249 ?_
 repeat' ((conv=>whnf);first|  (refine BR ?_ ?_<;>intro _)|fail)
 all_goals exact fin h (congrArg (λb=>At.ret (V.bool b)) (by first|(subst_vars;decide)|(simp only [rV,tI];simp_all)))
theorem ej (h:R (.ret (.int .i64 (XB w))) st):PC 247 [.str w] st R:=by
 refine pB Tryz.func247 ?_
 repeat' ((conv=>whnf);first|  (refine BR ?_ ?_<;>intro _)|refine Il ?_)
 all_goals try rename_i U
 all_goals try rw [CS,decide_eq_true_eq] at U
 all_goals try rw [CS,decide_eq_false_iff_not] at U
 all_goals exact fin h (Bq (by first|(subst_vars;decide)|(have U:AE w=58:=U;simp only [XB,iG];simp_all)|(have U:¬AE w=58:=U;simp only [XB,iG];simp_all)))
theorem lu (h:R (.ret (.bool (HK c))) st):PC 298 [.int .i32 c] st R:=by
 refine pB Tryz.func298 ?_
 repeat' ((conv=>whnf);first|  (refine BR ?_ ?_<;>intro _)|refine J3 ?_)
 all_goals exact fin h (congrArg (λb=>At.ret (V.bool b)) (by simp only [HK];simp_all))
theorem W5 (h:R (.ret (.int .i64 (Io k))) st):PC 203 [.int .i64 k] st R:=by
 refine pB Tryz.func203 ?_
 repeat' ((conv=>whnf);first|  (refine BR ?_ ?_<;>intro _)|fail)
 all_goals exact fin h (Bq (by unfold Io;(repeat' split)<;>omega))
end
theorem N6 (s:List UInt8):GV s=if (Mq s 0).2=0 then 0 else Ax (Mq s 0).1:=by
 cases s with
 |nil=>rw [Sy GT];rfl
 |cons a r=>
  have U:=FX (a::r)
  rw [Ms AC GT,show (0:Int).toNat=0 from rfl,List.drop_zero,Z3 GT,if_neg So]
  rfl
section
variable {st:St} {R:At->St->Prop}
theorem rA (hl:s.length<4611686018427387904) (h:R (.ret (.str (s.take (KL s)))) st):PC 248 [.str s] st R:=by
 refine pB Tryz.func248 ?_
 repeat' ((conv=>whnf);first|(refine Br ?_;intros)|(refine BR ?_ ?_<;>intro _)|fail)
 refine HN (α:=Nat) (λ_=>[]) (λpos=>[(0,[.OC s pos])]) [0,6] [] (λ_=>st) (λpos=>pos<=s.length/\KL s=pos+BQ HK (s.drop pos)) (λpos=>s.length - pos) 0 ⟨Nat.zero_le _,by simp [KL]⟩ Yl (St.le_refl _) ?_
 rintro pos ⟨hp,hi⟩
 repeat' ((conv=>whnf);first|(refine Br ?_;intros)|(refine BR ?_ ?_<;>intro _)|refine lu ?_)
 .rename_i U c m hd hk
  have hr:=rune_le U hd
  conv=>whnf
  exact ⟨pos+m,⟨hr.1,MO U hd hk hi⟩,AC,Yl,St.le_refl _⟩
 .rename_i U c m hd hk
  have:=O7 (p:=λd=>HK (d.1:Nat)) hd hk hi
  exact fin h (by rw [this];rfl)
 .rename_i U
  have:=MN U hi
  exact fin h (by rw [this,List.take_of_length_le AC])
theorem mJ (U:s.length<4611686018427387904) (h:R (.ret (.int .i64 (GV s))) st):PC 246 [.str s] st R:=by
 refine pB Tryz.func246 ?_
 repeat' ((conv=>whnf);first|  (refine BR ?_ ?_<;>intro _)|refine iX U ?_|refine J3 ?_)
 .exact fin h (Bq (by rw [N6,if_pos ‹_›]))
 .exact fin h (Bq (by rw [N6,if_neg ‹_›]))
end
theorem ud:kq s 0 k=(BQ (λc=>Ax c==k) s:Nat):=by
 rw [I8 AC AC];simp
theorem cN (h:¬GV s=0):0<s.length:=by
 cases s with
 |nil=>exact absurd rfl h
 |cons a r=>simp
section
variable {st:St} {R:At->St->Prop}
theorem p8 (U:s.length<4611686018427387904) (h:R (.ret (.int .i64 (BQ (λc=>Ax c==k) s:Nat))) st):PC 72 [.str s,.int .i64 0,.int .i64 k] st R:=p7 U (by rw [ud];exact h)
theorem aZ (U:s.length<4611686018427387904) (h:R (.ret (.Bj [.int .i64 (Be s).1,.str (s.take (Be s).2)])) st):PC 202 [.str s] st R:=by
 have hr:=Ew (λc=>Ax c==5) s
 have hne:GV s=0\/0<s.length:=by
  by_cases h0:GV s=0
  .exact .inl h0
  .exact .inr (cN h0)
 refine pB Tryz.func202 ?_
 repeat' ((conv=>whnf);first|exact Du|(refine Br ?_;intros)|(refine Dw ?_ ?_ ?_;rotate_left)|(refine BR ?_ ?_<;>intro _)|refine mJ U ?_|refine p8 U ?_|refine ej ?_|refine rA U ?_|refine Zj ?_|refine An GE ?_|fail)
 .exact fin h (by unfold Be;rw [if_pos ‹_›];rfl)
 .exact fin h (by unfold Be;rw [if_neg AC,if_pos AC];rfl)
 .exact fin h (by unfold Be;rw [if_neg AC,if_neg AC,if_pos AC])
 .exact fin h (by unfold Be;rw [if_neg AC,if_neg AC,if_neg AC,if_pos AC,if_pos ‹_›])
 .exact fin h (by unfold Be;rw [if_neg AC,if_neg AC,if_neg AC,if_pos AC,if_neg kw])
 .exact fin h (by unfold Be;rw [if_neg AC,if_neg AC,if_neg AC,if_neg AC];rfl)
end
end Go.Proofs.Z
namespace Go.Aw
open Go
def Hz (s:List UInt8) (n:Nat) (k:Int):Int×Nat:=
 if h:n<s.length then
  if (k=2\/k=4)/\AE (s.drop n)=46/\Io (Be (s.drop (n+1))).1≠0 then Hz s (n+1+(Be (s.drop (n+1))).2) (Io (Be (s.drop (n+1))).1) else (k,n)
 else (k,n)
termination_by s.length - n
decreasing_by omega
def D3 (s:List UInt8):Int×Nat:=Hz s (Be s).2 (Be s).1
theorem Xm {n:Nat} (h:¬(n<s.length/\(k=2\/k=4)/\AE (s.drop n)=46/\Io (Be (s.drop (n+1))).1≠0)):Hz s n k=(k,n):=by
 rw [Hz]
 split
 .rw [if_neg (λe=>h ⟨FS,e⟩)]
 .rfl
theorem kt {n:Nat} (h:n<s.length) (e:(k=2\/k=4)/\AE (s.drop n)=46/\Io (Be (s.drop (n+1))).1≠0):Hz s n k=Hz s (n+1+(Be (s.drop (n+1))).2) (Io (Be (s.drop (n+1))).1):=by
 rw [Hz,dif_pos h,if_pos e]
def Jo (s:List UInt8) (n:Nat) (k a:Int):Int:=
 if h:n<s.length/\(k=2\/k=4)/\AE (s.drop n)=46/\Io (Be (s.drop (n+1))).1≠0 then Jo s (n+1+(Be (s.drop (n+1))).2) (Io (Be (s.drop (n+1))).1) (n+1) else a
termination_by s.length - n
def eY (s:List UInt8):Int:=Jo s (Be s).2 (Be s).1 0
theorem bR {n:Nat} {a:Int} (h:¬(n<s.length/\(k=2\/k=4)/\AE (s.drop n)=46/\Io (Be (s.drop (n+1))).1≠0)):Jo s n k a=a:=by rw [Jo,dif_neg h]
theorem bQ {n:Nat} {a:Int} (h:n<s.length) (e:(k=2\/k=4)/\AE (s.drop n)=46/\Io (Be (s.drop (n+1))).1≠0):Jo s n k a=Jo s (n+1+(Be (s.drop (n+1))).2) (Io (Be (s.drop (n+1))).1) (n+1):=by rw [Jo,dif_pos ⟨h,e⟩]
theorem ef (w:List UInt8):XB w=10\/XB w=6\/XB w=5:=by
 unfold XB
 (repeat' split)<;>simp
theorem WX (s:List UInt8):(Be s).1≠3/\(Be s).1≠4/\(Be s).1≠7/\(Be s).1≠8:=by
 have h:=ef (s.take (BQ (λc=>Ax c==5) s))
 unfold Be
 (repeat' split)<;>first|omega|(dsimp only;omega)
theorem Kl (s:List UInt8):(Be s).2<=s.length:=by
 have hf:GV s=0\/0<s.length:=by
  cases s with
  |nil=>exact .inl rfl
  |cons a r=>exact .inr GT
 have U:=Ew (λc=>Ax c==5) s
 have h2:KL s<=s.length:=Ew _ s
 unfold Be
 (repeat' split)<;>first|omega|(dsimp only;omega)
end Go.Aw
namespace Go.Proofs.Z
open Go Go.Aw
section
variable {st:St} {R:At->St->Prop}
theorem sV {n:Nat} (U:w.length=n) (h:R (.ret (.bool (decide (AE (s.drop n)=46)))) st):PC 73 [.str (s.drop ((w.length:Nat):Int).toNat),.str [46]] st R:=by
 refine Il ?_
 rw [CS,U,show ((n:Nat):Int).toNat=n by omega]
 exact h
theorem jw {n:Nat} (hl:s.length<=100000000) (U:w.length=n) (h:R (.ret (.Bj [.int .i64 (Be (s.drop (n+1))).1,.str ((s.drop (n+1)).take (Be (s.drop (n+1))).2)])) st):PC 202 [.str (s.drop (((w.length:Nat):Int)+1).toNat)] st R:=by
 rw [U,show (((n:Nat):Int)+1).toNat=n+1 by omega]
 exact aZ IR h
theorem oG {v:List UInt8} {n:Nat} {K:List UInt8->Prop} (U:w.length=n) (h2:v.length=m) (h:n+1+m<=s.length) (k:K (s.take (n+1+m))):
 ((0:Int)<=0/\0<=((w.length:Nat):Int)+1+((v.length:Nat):Int)/\((w.length:Nat):Int)+1+((v.length:Nat):Int)<=s.length)/\∀s',s'=(s.take (((w.length:Nat):Int)+1+((v.length:Nat):Int)).toNat).drop (0:Int).toNat->K s':=by
 subst U;subst h2
 refine WO AC AC ?_
 rw [show (((w.length:Nat):Int)+1+((v.length:Nat):Int)).toNat=w.length+1+v.length by omega]
 exact k
theorem fZ (s:List UInt8) (n:Nat):¬AE (s.drop n)=46\/n<s.length:=by
 by_cases h:n<s.length
 .exact .inr h
 .rw [De AC];exact .inl Do
theorem lx (hl:s.length<=100000000) (h:∀a:Int,eY s=a->0<=a->a<=(D3 s).2->((D3 s).1=3\/(D3 s).1=4\/(D3 s).1=7\/(D3 s).1=8->1<=a)->R (.ret (.Bj [.int .i64 (D3 s).1,.str (s.take (D3 s).2),.int .i64 a])) st):PC 167 [.str s] st R:=by
 refine pB Tryz.func167 ?_
 repeat' ((conv=>whnf);first|exact Du|(refine Br ?_;intros)|(refine Dw ?_ ?_ ?_;rotate_left)|(refine BR ?_ ?_<;>intro _)|refine aZ AC ?_|refine An GE ?_|fail)
 have hk0:=WX s
 refine K8 (α:=Nat) (β:=Int) (γ:=Int) (λn k a=>[(2,.int .i64 k),(3,.str (s.take n)),(4,.int .i64 a)]) (λ_ _ _=>[]) [0] [] (λ_ _ _=>st) (λn k a=>n<=s.length/\D3 s=Hz s n k/\eY s=Jo s n k a/\0<=a/\a<=n/\(k=3\/k=4\/k=7\/k=8->1<=a)) (λn _ _=>s.length - n) (Be s).2 (Be s).1 0 ⟨Kl s,rfl,rfl,Int.le_refl _,AC,λe=>by omega⟩ Yl (St.le_refl _) ?_
 rintro n k a ⟨h1,h2,h3,h4,h5,h6⟩
 have U:(s.take n).length=n:=Nm
 have hp:=Kl (s.drop (n+1))
 rw [List.length_drop] at hp
 have hdl:=fZ s n
 have ht2:((s.drop (n+1)).take (Be (s.drop (n+1))).2).length=(Be (s.drop (n+1))).2:=by rw [List.length_take,List.length_drop];omega
 repeat' ((conv=>whnf);first|with_reducible refine oG U ht2 AC ?_|exact Du|(refine Br ?_;intros)|(refine Dw ?_ ?_ ?_;rotate_left)|(refine BR ?_ ?_<;>intro _)|refine sV U ?_|refine jw hl U ?_|refine W5 ?_|refine An GE ?_|fail)
 all_goals first
  |exact fin (by have h:=h a;rw [h2,h3,Xm AC,bR AC] at h;exact h rfl h4 h5 h6) rfl
  |(conv=>whnf
    exact ⟨(n+1+(Be (s.drop (n+1))).2,Io (Be (s.drop (n+1))).1,(((s.take n).length:Nat):Int)+1),⟨So,by dsimp only;rw [h2,kt AC ⟨AC,AC,AC⟩],by dsimp only;rw [h3,bQ AC ⟨AC,AC,AC⟩,U],So,So,λ_=>by dsimp only;omega⟩,So,Yl,St.le_refl _⟩)
theorem pf (U:s.length<=100000000) (h:∀ahead:Int,R (.ret (.Bj [.int .i64 (D3 s).1,.str (s.take (D3 s).2),.int .i64 ahead])) st):PC 167 [.str s] st R:=lx U λa _ _ _ _=>h a
end
end Go.Proofs.Z
namespace Go.Aw
open Go
def G8 (s:List UInt8) (pos:Nat):Int×Int:=if (D3 (s.drop pos)).1=0 then (0,0) else ((D3 (s.drop pos)).1,(pos+(D3 (s.drop pos)).2:Nat))
theorem ku {n:Nat} (h:n<=s.length):(Hz s n k).2<=s.length:=by
 fun_induction Hz s n k with
 |case1 n k hn U ih=>
  have:=Kl (s.drop (n+1))
  rw [List.length_drop] at this
  exact ih AC
 |case2 n k hn U=>exact h
 |case3 n k hn=>exact h
theorem XT (s:List UInt8):(D3 s).2<=s.length:=ku (Kl s)
end Go.Aw
namespace Go.Proofs.Z
open Go Go.Aw
section
variable {st:St} {R:At->St->Prop}
theorem ly (hl:s.length<=100000000) (hp:pos<s.length) (h:R (.ret (.Bj [.int .i64 (G8 s pos).1,.int .i64 (G8 s pos).2])) st):PC 124 [.str s,.int .i64 pos] st R:=by
 have ht:((s.drop pos).take (D3 (s.drop pos)).2).length=(D3 (s.drop pos)).2:=by rw [List.length_take];have:=XT (s.drop pos);omega
 have hw:=XT (s.drop pos)
 rw [List.length_drop] at hw
 have U:(s.drop pos).length<=100000000:=IR
 refine pB Tryz.func124 ?_
 repeat' ((conv=>whnf);first|(refine Br ?_;intros)|(refine BR ?_ ?_<;>intro _)|refine pf U (λ_=>?_))
 .exact fin h (by unfold G8;rw [if_pos ‹_›];simp_all)
 .exact fin h (by unfold G8;rw [if_neg ‹_›];simp only [];rw [show (pos:Int).toNat=pos by omega] at *;rw [ht];rfl)
end
end Go.Proofs.Z
namespace Go.Aw
open Go
def Bt (base:Int):List UInt8->Nat
 |[]=>0
 |a::r=>if Bo ((a.toNat:Nat):Int) base<0 then 0 else Bt base r+1
def Ee (l:List UInt8):Int:=if AE (l.drop 1)=111\/AE (l.drop 1)=79 then 8 else if AE (l.drop 1)=120\/AE (l.drop 1)=88 then 16 else 10
def Cs (l:List UInt8):Int×Nat:=if AE l=48/\Ee l≠10/\Bt (Ee l) (l.drop 2)≠0 then (Ee l,2) else (10,0)
def KN (l:List UInt8):Nat:=if AE l=43\/AE l=45 then 1 else 0
def L3 (l:List UInt8):Nat:=
 if (AE l=101\/AE l=69)/\Bt 10 (l.drop (1+KN (l.drop 1)))≠0 then 1+KN (l.drop 1)+Bt 10 (l.drop (1+KN (l.drop 1))) else 0
def H4 (l:List UInt8):Nat:=if AE l=46/\Bt 10 (l.drop 1)≠0 then 1+Bt 10 (l.drop 1) else 0
def Ei (l:List UInt8):Int×Nat:=
 if (Cs l).1≠10 then (11,2+Bt (Cs l).1 (l.drop 2))
 else if Bt 10 l=0 then (0,0)
 else
  (if 0<H4 (l.drop (Bt 10 l))\/0<L3 (l.drop (Bt 10 l+H4 (l.drop (Bt 10 l)))) then 12 else 11,
    Bt 10 l+H4 (l.drop (Bt 10 l))+L3 (l.drop (Bt 10 l+H4 (l.drop (Bt 10 l)))))
theorem BS {k:Nat} (h:0<=AE (l.drop k)):k<l.length:=by
 by_cases U:k<l.length
 .exact U
 .rw [List.drop_eq_nil_iff.2 AC] at h;exact absurd h Do
theorem J6 {a:UInt8} (h:a.toNat<128):AR (a::r)=(a.toNat,1):=by
 unfold AR;simp_all
theorem OR {a:UInt8} (h:¬a.toNat<128):128<=(AR (a::r)).1:=by
 unfold AR;grind
theorem HY (h:128<=c):Bo c base<0:=by
 have U:(if 48<=c/\c<=57 then c - 48 else if 97<=c/\c<=102 then c - 87 else if 65<=c/\c<=70 then c - 55 else 16)=16:=by
  rw [if_neg AC,if_neg AC,if_neg AC]
 unfold Bo;grind
theorem Ec (base:Int) (l:List UInt8):Bt base l<=l.length:=by
 induction l with
 |nil=>exact Nat.le_refl _
 |cons a r ih=>unfold Bt;grind
theorem ME {c:Nat} (h:pos<s.length) (U:(c,m)=AR (s.drop pos)) (k:¬Bo (c:Int) base<0):m=1/\Bt base (s.drop pos)=Bt base (s.drop (pos+1))+1:=by
 rw [List.drop_eq_getElem_cons h] at U |-
 by_cases hb:s[pos].toNat<128
 .rw [J6 hb] at U
  injection U with h1 h2
  subst h1;subst h2
  exact ⟨rfl,by rw [Bt,if_neg k]⟩
 .have:=OR (r:=s.drop (pos+1)) hb
  rw [<-U] at this
  exact absurd (HY (c:=(c:Int)) (base:=base) AC) k
theorem Hy {c:Nat} (h:pos<s.length) (U:(c,m)=AR (s.drop pos)) (k:Bo (c:Int) base<0):Bt base (s.drop pos)=0:=by
 rw [List.drop_eq_getElem_cons h] at U |-
 by_cases hb:s[pos].toNat<128
 .rw [J6 hb] at U
  injection U with h1 h2
  subst h1
  rw [Bt,if_pos k]
 .rw [Bt,if_pos (HY AC)]
theorem FH (h:s.length<=pos):Bt base (s.drop pos)=0:=by rw [List.drop_eq_nil_iff.2 h];rfl
theorem Gu (h:s[pos]? =some e):Bt base (s.drop pos)=if Bo ((e.toNat:Nat):Int) base<0 then 0 else Bt base (s.drop (pos+1))+1:=by
 rw [drop_at h,Bt]
theorem VI (l:List UInt8):H4 l<=l.length:=by
 have:=Ec 10 (l.drop 1)
 rw [List.length_drop] at this
 unfold H4;grind
theorem al (l:List UInt8):L3 l<=l.length:=by
 have:=Ec 10 (l.drop (1+KN (l.drop 1)))
 rw [List.length_drop] at this
 unfold L3;grind
theorem Uf (l:List UInt8):(Ei l).2<=l.length:=by
 have h1:=Ec 10 l
 have U:=Ec (Cs l).1 (l.drop 2)
 have h3:=VI (l.drop (Bt 10 l))
 have h4:=al (l.drop (Bt 10 l+H4 (l.drop (Bt 10 l))))
 rw [List.length_drop] at U h3 h4
 have h5:(Cs l).1≠10->2<=l.length:=λe=>by
  unfold Cs at e
  split at e
  .rename_i hc
   have:=Ec (Ee l) (l.drop 2)
   grind
  omega
 unfold Ei
 grind
theorem cL {a:Int} {K:Int->Prop} (U: -2147483648<=a) (h2:a<=2147483647) (k:K a):∃r,r=IntKind.i32.wrap a/\K r:=⟨a,(IntWalk.i32_in _ ⟨U,h2⟩).symm,k⟩
end Go.Aw
namespace Go.Proofs.Z
open Go Go.Aw
section
variable {st:St} {R:At->St->Prop}
theorem LY {b:Int} (h:R (.ret (.int .i64 (Bo c b))) st):PC 242 [.int .i32 c,.int .i64 b] st R:=by
 refine pB Tryz.func242 ?_
 repeat' ((conv=>whnf);first|(refine Br ?_;intros)|(refine BR ?_ ?_<;>intro _)|refine cL AC AC ?_)
 all_goals exact fin h (Bq (by unfold Bo;dsimp only;(repeat' split)<;>omega))
theorem QZ {b:Int} (h:R (.ret (.int .i64 (Bo c b))) st):PC 217 [.int .i64 c,.int .i64 b] st R:=by
 refine pB Tryz.func217 ?_
 repeat' ((conv=>whnf);first|(refine Br ?_;intros)|(refine BR ?_ ?_<;>intro _)|refine pY ?_)
 all_goals exact fin h (Bq (by unfold Bo;dsimp only;(repeat' split)<;>omega))
theorem p5 {b:Int} (hl:s.length<4611686018427387904) (h:R (.ret (.int .i64 (Bt b s:Nat))) st):PC 198 [.str s,.int .i64 b] st R:=by
 refine pB Tryz.func198 ?_
 repeat' ((conv=>whnf);first|(refine Br ?_;intros)|(refine BR ?_ ?_<;>intro _)|fail)
 refine HN (α:=Nat) (λ_=>[]) (λpos=>[(0,[.OC s pos])]) [0,1,8] [] (λ_=>st) (λpos=>pos<=s.length/\Bt b s=pos+Bt b (s.drop pos)) (λpos=>s.length - pos) 0 ⟨Nat.zero_le _,GT⟩ Yl (St.le_refl _) ?_
 rintro pos ⟨hp,hi⟩
 repeat' ((conv=>whnf);first|(refine Br ?_;intros)|(refine BR ?_ ?_<;>intro _)|refine LY ?_)
 .rename_i U c m hd hk
  have:=Hy U hd hk
  exact fin h (Bq AC)
 .rename_i U c m hd hk
  obtain ⟨e1,e2⟩:=ME U hd hk
  conv=>whnf
  exact ⟨pos+m,⟨AC,by grind⟩,AC,Yl,St.le_refl _⟩
 .rename_i U hls
  have:=FH (base:=b) (s:=s) (pos:=pos) AC
  exact fin h (Bq AC)
end
end Go.Proofs.Z
namespace Go.Aw
open Go
theorem ZU (h:AE (l.drop 1)=111\/AE (l.drop 1)=79):Ee l=8:=if_pos h
theorem U9 (h:AE (l.drop 1)=120\/AE (l.drop 1)=88):Ee l=16:=by unfold Ee;rw [if_neg AC,if_pos h]
theorem fp (h:AE (l.drop 1)≠111/\AE (l.drop 1)≠79/\AE (l.drop 1)≠120/\AE (l.drop 1)≠88):Ee l=10:=by unfold Ee;rw [if_neg AC,if_neg AC]
theorem fq (l:List UInt8):Ee l=8\/Ee l=16\/Ee l=10:=by
 unfold Ee
 split
 .exact .inl rfl
 .split
  .exact .inr (.inl rfl)
  .exact .inr (.inr rfl)
theorem Km {b:Int} (h:AE l=48) (hb:Ee l=b) (hn:b≠10) (U:Bt b (l.drop 2)≠0):Cs l=(b,2):=by
 subst hb
 exact if_pos ⟨h,hn,U⟩
theorem My (h:AE l≠48\/Ee l=10\/Bt (Ee l) (l.drop 2)=0):Cs l=(10,0):=if_neg AC
theorem Mz (l:List UInt8):Cs l=(10,0)\/(Cs l=(8,2)/\Ee l=8)\/(Cs l=(16,2)/\Ee l=16):=by
 by_cases h:AE l=48/\Ee l≠10/\Bt (Ee l) (l.drop 2)≠0
 .rcases fq l with hb|hb|hb
  .exact .inr (.inl ⟨Km h.1 hb Do (hb ▸ h.2.2),hb⟩)
  .exact .inr (.inr ⟨Km h.1 hb Do (hb ▸ h.2.2),hb⟩)
  .exact absurd hb h.2.1
 .exact .inl (if_neg h)
theorem bF (h:AE l=43\/AE l=45):KN l=1:=if_pos h
theorem bE (h:¬(AE l=43\/AE l=45)):KN l=0:=if_neg h
theorem mF (h:¬(AE l=101\/AE l=69)):L3 l=0:=if_neg λe=>h e.1
theorem gF (h:AE l=101\/AE l=69) (hk:1+KN (l.drop 1)=j) (U:Bt 10 (l.drop j)=0):L3 l=0:=by
 subst hk
 exact if_neg λe=>e.2 U
theorem gG (h:AE l=101\/AE l=69) (hk:1+KN (l.drop 1)=j) (U:Bt 10 (l.drop j)≠0):L3 l=j+Bt 10 (l.drop j):=by
 subst hk
 exact if_pos ⟨h,U⟩
end Go.Aw
namespace Go.Proofs.Z
open Go Go.Aw
section
variable {st:St} {R:At->St->Prop}
theorem jX {n:Nat} {b:Int} (U:s.length<=4611686018427387903) (h:R (.ret (.int .i64 (Bt b (s.drop n):Nat))) st):PC 198 [.str (s.drop (n:Int).toNat),.int .i64 b] st R:=
 p5 IR h
theorem Zg (hl:s.length<=4611686018427387903) (h:R (.ret (.Bj [.int .i64 (Cs s).1,.int .i64 (Cs s).2])) st):PC 197 [.str s] st R:=by
 refine pB Tryz.func197 ?_
 repeat' ((conv=>whnf);first|(refine Br ?_;intros)|(refine BR ?_ ?_<;>intro _)|refine jX (n:=2) hl ?_)
 all_goals try have U:=Ck (show s[0]? =some _ by assumption)
 all_goals try rw [List.drop_zero] at U
 all_goals try have h1:=Ck (show s[1]? =some _ by assumption)
 all_goals try have h1:=De (s:=s) (i:=1) AC
 all_goals first
  |exact fin h (by rw [My (.inl AC)];rfl)
  |exact fin h (by rw [My (.inr (.inl (fp AC)))];rfl)
  |exact fin h (by rw [My (.inr (.inr (by rw [ZU AC];assumption)))];rfl)
  |exact fin h (by rw [My (.inr (.inr (by rw [U9 AC];assumption)))];rfl)
  |exact fin h (by rw [Km AC (ZU AC) Do ‹_›];rfl)
  |exact fin h (by rw [Km AC (U9 AC) Do ‹_›];rfl)
theorem Yo (hl:s.length<=4611686018427387903) (h:R (.ret (.int .i64 (L3 s:Nat))) st):PC 199 [.str s] st R:=by
 refine pB Tryz.func199 ?_
 by_cases U:s=[]
 .subst U
  repeat' ((conv=>whnf);first|(refine Br ?_;intros)|(refine BR ?_ ?_<;>intro _)|fail)
  .exact fin h rfl
  .rename_i hn;exact absurd rfl hn
 have hlen:=List.length_pos_iff.2 U
 have r1:Bt 10 (s.drop 1)<=s.length:=Nat.le_trans (Ec 10 _) IR
 have r2:Bt 10 (s.drop 2)<=s.length:=Nat.le_trans (Ec 10 _) IR
 repeat' ((conv=>whnf);first|(refine Br ?_;intros)|(refine BR ?_ ?_<;>intro _)|refine jX (n:=1) hl ?_|refine jX (n:=2) hl ?_)
 all_goals try have h0:=Ck (show s[0]? =some _ by assumption)
 all_goals try rw [List.drop_zero] at h0
 all_goals try have h1:=Ck (show s[1]? =some _ by assumption)
 all_goals try have h1:=De (s:=s) (i:=1) AC
 all_goals first
  |(have e:=mF (l:=s) AC;exact fin h (Bq AC))
  |(have e:=gF (l:=s) (j:=1) AC (by rw [bE AC]) ‹_›;exact fin h (Bq AC))
  |(have e:=gG (l:=s) (j:=1) AC (by rw [bE AC]) ‹_›;exact fin h (Bq AC))
  |(have e:=gF (l:=s) (j:=2) AC (by rw [bF AC]) ‹_›;exact fin h (Bq AC))
  |(have e:=gG (l:=s) (j:=2) AC (by rw [bF AC]) ‹_›;exact fin h (Bq AC))
end
end Go.Proofs.Z
namespace Go.Proofs.Z
open Go Go.Aw
open Rd (ret seq fail Ge look loop)
def JV (base:Int):List UInt8->Int->Int×Int
 |[],v=>(v,0)
 |a::r,v=>if (4611686018427387904 - Bo (a.toNat:Nat) base) / base<v then (0,3) else JV base r (v*base+Bo (a.toNat:Nat) base)
def JU (s:List UInt8):Int×Int:=if (Ei s).1=11/\(Ei s).2=s.length then JV (Cs s).1 (s.drop (Cs s).2) 0 else (0,40)
def KM (t:Tk):Bool:=t.kind==19||(t.kind==15&&t.text==[59])
def E3 (t:Tk):Bool:=t.kind==1||t.kind==2||t.kind==3||t.kind==4||t.kind==11||t.kind==12||t.kind==13||t.kind==14||
 (t.kind==9&&t.text==[95])||(t.kind==10&&t.text==[126])||(t.kind==15&&(t.text==[40]||t.text==[91]))
abbrev o7:List UInt8:=[108,101,116]
abbrev uk:List UInt8:=[105,102]
abbrev ll:List UInt8:=[99,97,115,101]
abbrev uj:List UInt8:=[100,111]
abbrev uG:List UInt8:=[105,110]
abbrev uN:List UInt8:=[111,102]
abbrev tQ:List UInt8:=[116,104,101,110]
abbrev tO:List UInt8:=[101,108,115,101]
abbrev Je:List UInt8:=[119,104,101,114,101]
def FP (t:Tk):Bool:=(t.kind==9&&(t.text==o7||t.text==uk||t.text==ll||t.text==uj))||(t.kind==10&&t.text==[92])||(t.kind==5&&t.text==[45])||E3 t
def K4 (t:Tk):Bool:=t.kind==9&&(t.text==[105,110,102,105,120,108]||t.text==[105,110,102,105,120,114]||t.text==[105,110,102,105,120])
def NP (t:Tk):Bool:=t.kind==5||t.kind==6||t.kind==7||t.kind==8||(t.kind==10&&t.text==[58])
def Qn (t:Tk):Bool:=NP t||(t.kind==15&&t.text==[96])
def Y8 (k:Int) (l:List Nd):Nd:=if l.length=1 then l.headD Kj else Az k l
def Jg:Er:=⟨2,Do⟩
def Hl:Er:=⟨120,Do⟩
def eJ (n:Nd):Bool:=(n.kind==1||n.kind==3)&&((Gh n).2==0&&(Gh n).1.length==1)
def Dr (m:Rd Nd) (U:Nd->Bool):Rd Nd:=.look λs0=>.seq m λn=>if U n=true then .ret n else .Ge s0 Hl
def Ii:Rd Nd:=.look λs=>if NP (Ac s).1=true then .seq AO λt=>.ret (Az 18 [t])
 else .seq (BA 15 [96]) λo=>.seq (Df [1,2,3,4]) λn=>.seq (BA 15 [96]) λc=>.ret (Az 18 [o,n,c])
def YX (l:List Nd):Rd (Sum (List Nd) (List Nd)):=.look λs=>if Bp s 5 [45]=true then .seq AO λt=>.ret (.inl (l++[Az 19 [t]])) else .ret (.inr l)
def YY (l:List Nd):Rd (List Nd):=.loop YX l
def jR (U:Rd Nd) (br:Bool) (l:List Nd):Rd (Sum (List Nd) (List Nd×Bool)):=.seq (YY l) λl=>.seq U λn=>.look λs=>
 if Qn (Ac s).1=true then .seq Ii λo=>
  if br=true then .look λs=>if Bp s 15 [41]=true then .ret (.inr (l++[n]++[o],true)) else .ret (.inl (l++[n]++[o]))
  else .ret (.inl (l++[n]++[o]))
 else .ret (.inr (l++[n],false))
def Sp (U:Rd Nd) (br:Bool):Rd (List Nd×Bool):=.loop (jR U br) []
def Za (U:Rd Nd):Rd Nd:=.seq (Sp U false) λp=>.ret (Y8 17 p.1)
def NU (full:Rd Nd) (n:Nd):Rd Nd:=.look λs=>if Bp s 10 [58,58]=true then .seq AO λc=>.seq full λt=>.ret (Az 22 [n,c,t]) else .ret n
def cM (U full:Rd Nd):Rd Nd:=.seq (Za U) λn=>NU full n
structure EN where
 atom:Rd Nd
 exp:Rd Nd
 ops:Rd Nd
 decls:Rd Nd
 stmts:Rd Nd
 alts:Rd Nd
 GP:Nd->Rd Nd
 list:Nd->Rd Nd
def Nx (L:EN) (lt block:Nd):Rd Nd:=.seq (BA 9 uG) λi=>.seq L.exp λe=>.ret (Az 24 [lt,block,i,e])
def nw (L:EN):Rd Nd:=.seq AO λt=>.seq L.decls λb=>Nx L t b
def OW (atom:Rd Nd) (l:List Nd):Rd (Sum (List Nd) (List Nd)):=.seq (Dr atom KK) λn=>.ret (.inl (l++[n]))
def T0 (atom:Rd Nd) (l:List Nd):Rd (Sum (List Nd) (List Nd)):=
 if ((l.length:Int)==1)=true then OW atom l else .look λs=>if E3 (Ac s).1=true then OW atom l else .ret (.inr l)
def Mk (L:EN) (atom:Rd Nd):Rd Nd:=.seq AO λb=>.seq (.loop (T0 atom) [b]) λl=>.seq (BA 10 [45,62]) λa=>.seq L.exp λe=>.ret (Az 23 (l++[a]++[e]))
def bB (w:List UInt8):Rd Unit:=.look λs=>if KM (Ac s).1=true then (if Bp (Ac s).2.1 9 w=true then JM else .ret ()) else .ret ()
def Of (L:EN) (l:List Nd) (w:List UInt8):Rd (List Nd):=.seq (bB w) λ_=>.seq (BA 9 w) λa=>.seq L.exp λe=>.ret (l++[a]++[e])
def LM (L:EN):Rd Nd:=.seq AO λi=>.seq L.exp λc=>.seq (Of L [i,c] tQ) λl=>.seq (Of L l tO) λl=>.ret (Az 25 l)
def ZX (L:EN):Rd Nd:=.seq AO λc=>.seq L.exp λe=>.seq (BA 9 uN) λo=>.seq L.alts λa=>.ret (Az 26 ([c,e,o]++[a]))
def II (b:Nd):Bool:=match b.kids.getLast? with
 |none=>true
 |some x=>x.kind==32||x.kind==33
def Rr (L:EN):Rd Nd:=.seq AO λd=>.seq L.stmts λb=>if II b=true then .fail Hl else .ret (Az 27 [d,b])
def Yb (atom:Rd Nd) (l:List Nd):Rd (Sum (List Nd) (List Nd)):=.look λs=>if E3 (Ac s).1=true then .seq atom λn=>.ret (.inl (l++[n])) else .ret (.inr l)
def M4 (atom:Rd Nd):Rd Nd:=.seq atom λn=>.seq (.loop (Yb atom) [n]) λl=>.ret (Y8 11 l)
def Ij (L:EN) (atom:Rd Nd):Rd Nd:=.look λs=>
 if ((Ac s).1.kind==10)=true then (if ((Ac s).1.text==[92])=true then Mk L atom else M4 atom)
 else if ((Ac s).1.kind==9)=true then
  (if ((Ac s).1.text==o7)=true then nw L
  else if ((Ac s).1.text==uk)=true then LM L
  else if ((Ac s).1.text==ll)=true then ZX L
  else if ((Ac s).1.text==uj)=true then Rr L
  else M4 atom)
 else M4 atom
def Tl (l:List Nd):Rd (Sum (List Nd) (List Nd)):=.look λs=>if Bp s 15 [44]=true then .seq AO λc=>.ret (.inl (l++[c])) else .ret (.inr l)
def VL (o:Nd):Rd Nd:=.seq (.loop Tl [o]) λl=>.seq (BA 15 [41]) λc=>.ret (Az 3 (l++[c]))
def Q6 (L:EN) (o:Nd):Rd Nd:=.look λs=>if Qn (Ac s).1=true then
 (if Bp s 5 [45]=true then L.GP o else .seq Ii λp=>.seq L.ops λe=>.seq (BA 15 [41]) λc=>.ret (Az 10 [o,p,e,c]))
 else L.GP o
def Ut (L:EN) (o:Nd):Rd Nd:=.look λs=>if NP (Ac s).1=true then
 (if Bp (Ac s).2.1 15 [41]=true then .seq AO λp=>.seq AO λc=>.ret (Az 3 [o,p,c]) else Q6 L o)
 else Q6 L o
def Q7 (L:EN):Rd Nd:=.seq AO λo=>.look λs=>if Bp s 15 [41]=true then VL o else if Bp s 15 [44]=true then VL o else Ut L o
def MP (L:EN):Rd Nd:=.seq AO λo=>.look λs=>if Bp s 15 [93]=true then .seq AO λc=>.ret (Az 3 [o,c]) else L.list o
def Sd (L:EN):Rd Nd:=.look λs=>if E3 (Ac s).1=true then
 (if ((Ac s).1.kind==15)=true then (if ((Ac s).1.text==[40])=true then Q7 L else MP L)
 else if ((Ac s).1.kind==9)=true then .seq AO λw=>.ret (Az 14 [w])
 else if ((Ac s).1.kind==10)=true then .seq AO λw=>.seq L.atom λa=>.ret (Az 16 [w,a])
 else .seq AO λn=>if ((Ac s).1.kind==1)=true then .look λs=>if Bp s 10 [64]=true then .seq AO λw=>.seq L.atom λa=>.ret (Az 15 [n,w,a]) else .ret n
  else .ret n)
 else RR
def TE (L:EN) (l:List Nd):Rd (Sum (List Nd) (List Nd)):=.seq (Df [1,3]) λU=>.seq (BA 10 [61]) λq=>.seq L.exp λe=>.look λs=>
 if Bp s 15 [44]=true then .seq AO λc=>.ret (.inl (l++[Az 13 [U,q,e]]++[c])) else .ret (.inr (l++[Az 13 [U,q,e]]))
def Up (L:EN) (l:List Nd):Rd (Sum (List Nd) (List Nd)):=.look λs=>if Bp s 15 [125]=true then (if 2<(l.length:Int) then TE L l else .ret (.inr l)) else TE L l
def Ko (L:EN) (n:Nd):Rd Nd:=.seq AO λb=>.seq (.loop (Up L) [n,b]) λl=>.seq (BA 15 [125]) λc=>.ret (Az 12 (l++[c]))
def fk (L:EN) (n:Nd):Rd (Sum Nd Nd):=.look λs=>if Bp s 15 [123]=true then .seq (Ko L n) λn=>.ret (.inl n) else .ret (.inr n)
def Lz (L:EN):Rd Nd:=.seq (Sd L) λn=>.loop (fk L) n
def ZD (exp:Rd Nd) (p:Int×List Nd):Rd (Sum (Int×List Nd) (Int×List Nd)):=.look λs=>if Bp s 15 [44]=true then .seq AO λc=>.seq exp λe=>.ret (.inl (5,p.2++[c]++[e])) else .ret (.inr p)
def EH (U full exp:Rd Nd) (o:Nd):Rd Nd:=.seq (Sp U true) λp=>if p.2=true then
 .seq AO λc=>.ret (Az 9 [o,Y8 17 (p.1.take (p.1.length - 1)),p.1.getLastD Kj,c])
 else .seq (NU full (Y8 17 p.1)) λe=>.seq (.loop (ZD exp) (4,[o,e])) λq=>.seq (BA 15 [41]) λc=>.ret (Az q.1 (q.2++[c]))
def ND (stmt:Rd Nd) (l:List Nd):Rd (Sum (List Nd) (List Nd)):=.look λs=>if Bp s 15 [44]=true then .seq AO λc=>.seq stmt λt=>.ret (.inl (l++[c]++[t])) else .ret (.inr l)
def FF (stmt:Rd Nd) (l:List Nd):Rd (List Nd):=.seq (BA 10 [124]) λb=>.seq stmt λt=>.loop (ND stmt) (l++[b]++[t])
def aJ (exp:Rd Nd) (l:List Nd):Rd (Sum (List Nd) (Int×List Nd)):=.look λs=>if Bp s 15 [44]=true then .seq AO λc=>.seq exp λe=>.ret (.inl (l++[c]++[e])) else .ret (.inr (6,l))
def iB (exp:Rd Nd) (l:List Nd):Rd (Sum (List Nd) (Int×List Nd)):=if (l.length:Int)<5 then
 .look λs=>if Bp s 10 [46,46]=true then .seq AO λd=>.look λs=>if Bp s 15 [93]=true then .ret (.inr (7,l++[d])) else .seq exp λe=>.ret (.inr (7,l++[d]++[e]))
  else aJ exp l
 else aJ exp l
def Qz (exp stmt:Rd Nd) (o:Nd):Rd Nd:=.seq exp λe=>.look λs=>if Bp s 10 [124]=true then
 .seq (FF stmt [o,e]) λl=>.seq (BA 15 [93]) λc=>.ret (Az 8 (l++[c]))
 else .seq (.loop (iB exp) [o,e]) λq=>.seq (BA 15 [93]) λc=>.ret (Az q.1 (q.2++[c]))
def Vc (exp:Rd Nd) (n:Nd):Rd Nd:=.look λs=>if Bp s 10 [60,45]=true then (if KK n=true then .seq AO λa=>.seq exp λe=>.ret (Az 32 [n,a,e]) else .fail Hl) else .ret n
def SO (L:EN) (exp:Rd Nd):Rd Nd:=.look λs=>if Bp s 9 o7=true then
 .seq AO λt=>.seq L.decls λb=>.look λs=>if Bp s 9 uG=true then .seq (Nx L t b) λn=>Vc exp n else .ret (Az 33 [t,b])
 else .seq exp λn=>Vc exp n
def Ql (exp stmt:Rd Nd) (m:List UInt8) (l:List Nd):Rd (Sum (List Nd) (List Nd)):=.seq (FF stmt []) λg=>.seq (BA 10 m) λq=>.seq exp λe=>.ret (.inl (l++[Az 30 (g++[q]++[e])]))
def TQ (exp stmt:Rd Nd) (m:List UInt8) (l:List Nd):Rd (Sum (List Nd) (List Nd)):=if ((l.length:Int)==0)=true then Ql exp stmt m l
 else if ((l.headD Kj).kind==30)=true then .look λs=>if Bp s 10 [124]=true then Ql exp stmt m l else .ret (.inr l)
 else .ret (.inr l)
def jK (L:EN) (exp stmt:Rd Nd) (m:List UInt8) (l:List Nd):Rd Nd:=.seq (.loop (TQ exp stmt m) l) λl=>.look λs=>if Bp s 9 Je=true then
 .seq AO λw=>.seq L.decls λb=>.ret (Az 29 (l++[Az 31 [w,b]]))
 else .ret (Az 29 l)
def Zk (L:EN) (exp stmt:Rd Nd) (m:List UInt8):Rd Nd:=.look λs=>if Bp s 10 m=true then .seq AO λa=>.seq exp λe=>jK L exp stmt m ([]++[a,e])
 else if Bp s 10 [124]=true then jK L exp stmt m [] else RR
def bU (L:EN) (ops exp stmt:Rd Nd):Rd Nd:=.seq ops λn=>if KK n=true then .seq (Zk L exp stmt [45,62]) λr=>.ret (Az 28 [n,r]) else .fail Hl
def Ts (n:Nd):Bool:=(JU n.text).2==0&&decide ((JU n.text).1<=9)
def Ld (n:Nd):Bool:=match n.kids[n.kids.length / 2]? with
 |some x=> !(x.form==7||x.form==8||x.form==3||x.form==4)
 |none=>false
def TI (l:List Nd):Rd (Sum (List Nd) (List Nd)):=.look λs=>if Bp s 15 [44]=true then .seq AO λc=>.seq (Dr Ii Ld) λo=>.ret (.inl (l++[c]++[o])) else .ret (.inr l)
def L6 (l:List Nd):Rd Nd:=.seq (Dr Ii Ld) λo=>.seq (.loop TI (l++[o])) λl=>.ret (Az 35 l)
def L7:Rd Nd:=.seq AO λf=>.look λs=>if ((Ac s).1.kind==11)=true then .seq (Dr AO Ts) λd=>L6 ([f]++[d]) else L6 [f]
def sl (atom:Rd Nd) (l:List Nd):Rd (Sum (List Nd) (List Nd)):=.look λs=>if Bp s 15 [44]=true then .seq AO λc=>.seq (Dr atom eJ) λo=>.ret (.inl (l++[c]++[o])) else .ret (.inr l)
def dS (atom full:Rd Nd) (n:Nd):Rd Nd:=if eJ n=true then .seq (.loop (sl atom) [n]) λl=>.seq (BA 10 [58,58]) λc=>.seq full λt=>.ret (Az 34 (l++[c]++[t])) else .fail Hl
def Sl (L:EN) (atom ops exp stmt full:Rd Nd):Rd Nd:=.look λs=>if K4 (Ac s).1=true then L7
 else .seq ops λn=>.look λs=>if Bp s 15 [44]=true then dS atom full n else if Bp s 10 [58,58]=true then dS atom full n
  else if ((iA n).2.2==0)=true then .seq (Zk L exp stmt [61]) λr=>.ret (Az 36 [n,r]) else .fail Hl
def DJ (s:Al):Al×Bool:=if T7 s=true/\¬s.wait=1/\¬Jc s=0 then (E5 s,true) else (Ex,false)
theorem Na {s:Al} (h:(DJ s).2=true):mu (DJ s).1<=mu s:=by
 unfold DJ at h |-
 split
 .rename_i U
  have hne:s.DS≠[]:=λe=>U.2.2 (by unfold Jc;rw [e];rfl)
  have:=IA hne
  simp only [mu,E5] at *
  omega
 .rename_i U;rw [if_neg U] at h;cases h
def M9:Rd Unit:=⟨λs=>if (DJ s).2=true then .inr ((),(DJ s).1) else .inl (⟨Tb s,Tc s⟩,s),λs v s' h=>by
 split at h
 .cases h;exact Na ‹_›
 .cases h⟩
def Uy (_:Unit):Rd (Sum Unit Unit):=.look λs=>if KM (Ac s).1=true then .seq JM λ_=>.ret (.inl ()) else .ret (.inr ())
def Rc:Rd Unit:=.loop Uy ()
def IF (f:Bool) (U:Bool):Rd Bool:=.look λs=>if (if f then Bp s 15 [125] else (Ac s).1.kind==20)=true then .seq JM λ_=>.ret true
 else if U=true then (if f=true then RR else .seq M9 λ_=>.ret true) else .ret false
def Te (starts:Tk->Bool) (item:Rd Nd) (f:Bool) (l:List Nd):Rd (Sum (List Nd) (List Nd)):=.seq Rc λ_=>.look λs=>.seq (IF f (!starts (Ac s).1)) λe=>
 if e=true then .ret (.inr l) else .seq item λn=>.look λs=>.seq (IF f (!KM (Ac s).1)) λe=>if e=true then .ret (.inr (l++[n])) else .ret (.inl (l++[n]))
def Fy (f:Bool) (l:List Nd):Nd:=.mk 2 (if f then 1 else 0) [] 0 0 l
def E4 (starts:Tk->Bool) (item:Rd Nd):Rd Nd:=.look λs=>if ((Ac s).1.kind==18)=true then .seq JM λ_=>.seq (.loop (Te starts item false) []) λl=>.ret (Fy false l)
 else .seq (BA 15 [123]) λ_=>.seq (.loop (Te starts item true) []) λl=>.ret (Fy true l)
def pw (L:EN):Rd Nd:=Lz L
def jq (L:EN):Rd Nd:=Ij L (Lz L)
def opsL (L:EN):Rd Nd:=Za (jq L)
def PX (full:Rd Nd) (L:EN):Rd Nd:=cM (jq L) full
def MQ (full:Rd Nd) (L:EN):Rd Nd:=SO L (PX full L)
def lN (full:Rd Nd) (L:EN):Rd Nd:=bU L (opsL L) (PX full L) (MQ full L)
def Sk (full:Rd Nd) (L:EN):Rd Nd:=Sl L (Lz L) (opsL L) (PX full L) (MQ full L) full
def Nc (t:Tk):Bool:=FP t||K4 t
def ui (full:Rd Nd) (L:EN):EN where
 atom:=pw L
 exp:=PX full L
 ops:=opsL L
 decls:=E4 Nc (Sk full L)
 stmts:=E4 FP (MQ full L)
 alts:=E4 FP (lN full L)
 GP:=λo=>EH (jq L) full (PX full L) o
 list:=λo=>Qz (PX full L) (MQ full L) o
def ub:EN:=⟨.fail Jg,.fail Jg,.fail Jg,.fail Jg,.fail Jg,.fail Jg,λ_=>.fail Jg,λ_=>.fail Jg⟩
theorem P1 {A:Al->Rs} (U:A7 A):A7 (Gn A):=λs n s' h=>by
 unfold Gn at h
 split at h
 .cases h
 .rename_i p h1
  have h2:=ET U _ _ _ h1
  split at h
  .rename_i h3
   have h4:=Eh h3 Do Do
   split at h
   .cases h
   .rename_i q h5
    have:=FZ U _ _ _ h5
    cases h
    omega
  .have:=R9 h
   omega
def JC (d:Nat):Rd Nd:=IQ (Gn (Dj (Dk (d - 1)))) λs v s' h=>Nat.le_of_lt (P1 (BC (Bv _)) _ _ _ h)
def dm:Nat->EN
 |0=>ub
 |d+1=>ui (JC (d+1)) (dm d)
end Go.Proofs.Z
namespace Go.Proofs.Z
open Go Go.Aw
def lG (k:Int):Nat:=if k=1 then 3 else if k=30 then 2 else 1
def OD:List Nd->Nat
 |[]=>0
 |n::r=>lG n.kind+OD r
theorem oH (k:Int):1<=lG k:=by
 unfold lG
 grind
theorem Ja:∀{a b:List Nd},OD (a++b)=OD a+OD b
 |[],b=>by rw [List.nil_append,OD,Nat.zero_add]
 |n::r,b=>by rw [List.cons_append,OD,OD,Ja];omega
theorem O6:∀{l:List Nd},l.length<=OD l
 |[]=>Nat.le_refl _
 |n::r=>by have:=O6 (l:=r);have:=oH n.kind;rw [OD,List.length_cons];omega
def Hq (t:Tk):Bool:=t.kind==18||t.kind==19||t.kind==20||(t.kind==15&&(t.text==[123]||t.text==[125]||t.text==[59]))
inductive A8:List Nd->Al->Al->Prop where
 |nil (s:Al):A8 [] s s
 |app {l m:List Nd} {s s1 s2:Al}:A8 l s s1->A8 m s1 s2->A8 (l++m) s s2
 |tok {s:Al}:(Ac s).2.2=0->(Ac s).1.kind<18->(Ac s).1.kind≠0->A8 [BJ (Ac s).1] s (Ac s).2.1
 |skip {s:Al}:(Ac s).2.2=0->Hq (Ac s).1=true->A8 [] s (Ac s).2.1
 |close {s:Al}:(DJ s).2=true->A8 [] s (DJ s).1
 |node {k:Int} {l:List Nd} {s s':Al}:A8 l s s'->k≠1->1+lG k<=OD l->A8 [Az k l] s s'
 |block {f:Bool} {l:List Nd} {s s':Al}:(Ac s).2.2=0->Hq (Ac s).1=true->A8 l (Ac s).2.1 s'->A8 [Fy f l] s s'
theorem OU (h:Hq t=true):t.kind≠0/\t.kind≠21:=by
 unfold Hq at h
 grind
theorem A8.size {l:List Nd} {s s':Al} (h:A8 l s s'):Bn l+OD l+4*mu s'<=4*mu s:=by
 induction h with
 |nil s=>simp only [Bn,OD];omega
 |app _ _ U h2=>rw [UB,Ja];omega
 |tok U h2 h3=>
  rename_i s
  have:=(EC U).2 AC
  have e:Bn [BJ (Ac s).1]+OD [BJ (Ac s).1]=4:=rfl
  omega
 |skip U h2=>have:=(EC U).1;simp only [Bn,OD];omega
 |close U=>have:=Na U;simp only [Bn,OD];omega
 |node U h2 h3 ih=>
  rename_i k l s s'
  have e:Bn [Az k l]+OD [Az k l]=(1+Bn l+0)+(lG k+0):=by simp only [Az,Bn,Nd.size,OD];rfl
  omega
 |block U h2 h3 ih=>
  rename_i f l s s'
  have:=(EC U).2 (OU h2).2
  have e:Bn [Fy f l]+OD [Fy f l]=(1+Bn l+0)+(1+0):=by simp only [Fy,Bn,Nd.size,OD];rfl
  omega
theorem A8.tJ {s:Al} (h:A8 [n] s s'):n.size+4*mu s'<=4*mu s:=by
 have:=h.size
 simp only [Bn] at this
 omega
theorem A8.two {l:List Nd} {s:Al} (h:A8 l s s') (hk:k≠1) (U:k≠30) (hl:2<=l.length):A8 [Az k l] s s':=
 .node h hk (by have:=O6 (l:=l);unfold lG;grind)
theorem A8.is {s:Al} (h:Bp s k x=true) (U:k≠0) (h1:k<18):A8 [BJ (Ac s).1] s (Ac s).2.1:=by
 have e:(Ac s).1.kind=k:=by
  unfold Bp at h
  simp only [Bool.and_eq_true,beq_iff_eq] at h
  exact h.1
 exact .tok (GX h U) AC AC
theorem A8.cons {l:List Nd} {s s1 s2:Al} (h:A8 [n] s s1) (k:A8 l s1 s2):A8 (n::l) s s2:=.app h k
theorem A8.snoc {l:List Nd} {s s1 s2:Al} (h:A8 l s s1) (k:A8 [n] s1 s2):A8 (l++[n]) s s2:=.app h k
theorem A8.one {l:List Nd} {s:Al} (h:A8 l s s') (hk:k≠1) (U:k≠30) (hl:1<=l.length):A8 [Y8 k l] s s':=by
 unfold Y8
 split
 .match l,‹l.length=1› with
  |[x],_=>exact h
 .exact h.two hk U AC
def C8 (A:Al->Rs):Prop:=∀s n s',A s=.inr (n,s')->A8 [n] s s'
variable {A:Al->Rs}
theorem ee (h:DO t=true):t.kind≠0/\t.kind<18:=by
 unfold DO at h
 grind
theorem Tv {s:Al} (hs:DO (Ac s).1=true) (h:CQ s=.inr (n,s')):A8 [n] s s':=by
 have U:=ee hs
 unfold CQ at h
 split at h
 .rename_i e;cases h;exact .tok e U.2 U.1
 grind
theorem mq {s:Al} (U:k≠0) (h1:k<18) (h:KQ s k x=.inr (n,s')):A8 [n] s s':=by
 unfold KQ at h
 split at h
 .rename_i e
  rw [Jb e U] at h
  cases h
  exact .is e U h1
 .cases h
theorem PI {s:Al} {l:List Nd} {s0:Al} (hk:k≠1) (U:k≠30) (hl:1<=l.length) (h0:A8 l s0 s) (h:H3 k l s x=.inr (n,s')):A8 [n] s0 s':=by
 unfold H3 at h
 split at h
 .cases h
 .rename_i p hp
  cases h
  exact (h0.snoc (mq Do Do hp)).two hk U kw
theorem mo (hA:C8 A) (l:List Nd) (s:Al):∀s0 q s',A8 l s0 s->Gl A l s=.inr (q,s')->A8 q s0 s':=by
 fun_induction Gl A l s with
 |case1 l s U e1 h2=>simp_all
 |case2 l s U p h2 h3 ih=>intro s0 q s' h0 h;exact ih s0 q s' (h0.snoc (hA s p.1 p.2 h2)) h
 |case3 l s U p h2 h3=>simp_all
 |case4 l s U=>simp_all
theorem Yk (U:C8 A):C8 (Gm A):=λs n s' h=>by
 unfold Gm at h
 split at h
 .cases h
 .rename_i p hp
  have h1:=U s p.1 p.2 hp
  split at h
  .cases h
  .rename_i q hq
   have h2:=mo U _ _ _ _ _ h1 hq
   obtain ⟨r,hr⟩:=jT _ _ _ _ hq
   split at h
   .simp_all
   .rename_i hl
    cases h
    exact h2.two Do Do (by grind)
theorem ml (hA:C8 A) (l:List Nd) (s:Al):∀s0 q s',A8 l s0 s->GN A l s=.inr (q,s')->A8 q s0 s'/\∃r,q=l++r:=by
 fun_induction GN A l s with
 |case1 l s U e1 h2=>simp_all
 |case2 l s U p h2 h3 ih=>
  intro s0 q s' h0 h
  obtain ⟨k1,r,k2⟩:=ih s0 q s' (.app h0 (.cons (.is U Do Do) (Yk hA _ p.1 p.2 h2))) h
  simp_all
 |case3 l s U p h2 h3=>simp_all
 |case4 l s U=>simp_all
theorem Sm (hA:C8 A) {U:Nd} {s0 s:Al} (h0:A8 [n] s0 s) (h:DL A n s=.inr (U,s')):A8 [U] s0 s':=by
 unfold DL at h
 split at h
 .cases h
 .rename_i q hq
  obtain ⟨k1,r,k3⟩:=ml hA _ _ _ _ _ h0 hq
  split at h
  .simp_all
  .rename_i hl
   cases h
   exact k1.two Do Do (by grind)
theorem Vl (U:C8 A):C8 (D2 A):=λs n s' h=>by
 unfold D2 at h
 split at h
 .cases h
 .rename_i p hp
  exact Sm U (Yk U _ p.1 p.2 hp) h
theorem mn (U:C8 A):C8 (Gn A):=λs n s' h=>by
 unfold Gn at h
 split at h
 .cases h
 .rename_i p hp
  have h1:=Yk U _ p.1 p.2 hp
  split at h
  .rename_i hi
   split at h
   .cases h
   .rename_i q hq
    cases h
    exact (h1.cons (.cons (.is hi Do Do) (Vl U _ q.1 q.2 hq))).two Do Do (Nat.le_of_ble_eq_true rfl)
  .exact Sm U h1 h
theorem cz (hA:C8 A) (l:List Nd) (s:Al):∀s0 q s',A8 l s0 s->1<=l.length->CC A l s=.inr (q,s')->A8 q s0 s'/\1<=q.length:=by
 fun_induction CC A l s with
 |case1 l s U e1 h2=>simp_all
 |case2 l s U p h2 h3 ih=>
  intro s0 q s' h0 hl h
  exact ih s0 q s' (.app h0 (.cons (.is U Do Do) (hA _ p.1 p.2 h2))) kw h
 |case3 l s U p h2 h3=>simp_all
 |case4 l s U=>grind
theorem gb (l:List Nd) (s:Al):∀s0,A8 l s0 s->1<=l.length->A8 (Dn l s).1 s0 (Dn l s).2/\1<=(Dn l s).1.length:=by
 fun_induction Dn l s with
 |case1 l s U h2 ih=>intro s0 h0 hl;exact ih s0 (h0.snoc (.is U Do Do)) kw
 |case2 l s U h2=>simp_all
 |case3 l s U=>simp_all
theorem gh (hA:C8 A) {s:Al} (hs:DO (Ac s).1=true) (h:Gk A s=.inr (n,s')):A8 [n] s s':=by
 unfold Gk at h
 split at h
 .cases h
 .rename_i p hp
  have U:=Tv hs (n:=p.1) (s':=p.2) hp
  split at h
  .rename_i hi
   exact PI Do Do (Nat.le_of_ble_eq_true rfl) (U.cons (.is hi Do Do)) h
  split at h
  .exact PI Do Do (Nat.le_of_ble_eq_true rfl) U h
  split at h
  .obtain ⟨k1,k2⟩:=gb [p.1] p.2 s U (Nat.le_of_ble_eq_true rfl)
   exact PI Do Do k2 k1 h
  split at h
  .cases h
  .rename_i q hq
   have h2:=hA _ q.1 q.2 hq
   split at h
   .cases h
   .rename_i r hr
    obtain ⟨k1,k2⟩:=cz hA _ _ _ _ _ (U.cons h2) (Nat.le_of_ble_eq_true rfl) hr
    exact PI AC AC k2 k1 h
theorem cw (hA:C8 A) {s:Al} (hs:DO (Ac s).1=true) (h:EF A s=.inr (n,s')):A8 [n] s s':=by
 unfold EF at h
 split at h
 .cases h
 .rename_i p hp
  have U:=Tv hs (n:=p.1) (s':=p.2) hp
  split at h
  .rename_i hi
   cases h
   exact (U.cons (.is hi Do Do)).two Do Do (Nat.le_of_ble_eq_true rfl)
  split at h
  .cases h
  .rename_i q hq
   exact PI Do Do (Nat.le_of_ble_eq_true rfl) (U.cons (hA _ q.1 q.2 hq)) h
theorem Z5 (hA:C8 A):C8 (Dj A):=λs n s' h=>by
 unfold Dj at h
 split at h
 .rename_i U
  split at h
  .split at h
   .exact gh hA U h
   .exact cw hA U h
  .exact Tv U h
 .cases h
theorem Z6:∀d,C8 (Dk d)
 |0=>λs n s' h=>by cases h
 |d+1=>Vl (Z5 (Z6 d))
def pk (st0 st:St):AA×List Nd->Prop
 |(.any,_)=>False
 |(.full,_)=>True
 |(.tok t,l)=>st0.fresh t/\st.hw t=some (l.length*6)
def sI:AA×List Nd->AA×List Nd->Prop
 |(.tok t,_),(.tok u,_)=>t≠u
 |_,_=>True
structure Rx (st0 st:St) (rows:List (AA×List Nd)):Prop where
 le:st0.le st
 ok:∀r ∈ rows,pk st0 st r
 ap:rows.Pairwise sI
section
variable {st0 st:St} {r q:AA×List Nd} {rows:List (AA×List Nd)}
theorem Rx.start:Rx st st []:=⟨St.le_refl _,λr U=>absurd U List.not_mem_nil,List.Pairwise.nil⟩
theorem Rx.drop (h:Rx st0 st (r::rows)):Rx st0 st rows:=⟨h.le,λq U=>h.ok q (List.mem_cons_of_mem _ U),(List.pairwise_cons.1 h.ap).2⟩
theorem Rx.push (h:Rx st0 st rows) (l:List Nd):Rx st0 st ((.full,l)::rows):=⟨h.le,λq U=>by
 rcases List.mem_cons.1 U with e|e
 .subst e;exact trivial
 .exact h.ok q e,List.pairwise_cons.2 ⟨λq U=>trivial,h.ap⟩⟩
theorem Rx.fresh {t:Nat} (h:Rx st0 st rows) (U:st.fresh t):st0.fresh t:=by
 refine ⟨?_,?_⟩
 .cases e:st0.box t with
  |none=>rfl
  |some c=>
   have:=h.le.1 t c e
   rw [U.1] at this;grind
 .cases e:st0.hw t with
  |none=>rfl
  |some c=>
   have:=h.le.2 t c e
   rw [U.2] at this;grind
theorem Rx.kF {t:Nat} (h:Rx st0 st rows) (ht:st.fresh t):∀r ∈ rows,r.1≠.tok t:=λr U e=>by
 have:=h.ok r U
 obtain ⟨o,l⟩:=r
 dsimp only at e
 subst e
 have:=this.2
 rw [ht.2] at this;grind
theorem Rx.app {own:AA} {l new:List Nd} {K:V->St->Prop} (h:Rx st0 st ((own,l)::rows)) (hb:l.length+new.length<=1000000000)
 (k:∀own' st',st'.box=st.box->Rx st0 st' ((own',l++new)::rows)->K (.slice 6 ((l++new).map AB) own') st'):Ag 6 72 (l.map AB) own (new.map AB) st K:=by
 have hw:(new.map AB).map (·.map V.Jl)=new.map AB:=by
  rw [List.map_map]
  exact List.map_congr_left λx _=>rfl
 have hsc:((new.map AB).all λv=>v.all V.sc)=true:=by
  rw [List.all_map,List.all_eq_true]
  intro x _;rfl
 have hlen:(l.map AB).length+(new.map AB).length=(l++new).length:=GT
 have hap:=List.pairwise_cons.1 h.ap
 have mk:∀(t:Nat) (m:St),(∀r ∈ rows,pk st0 m r)->st0.fresh t->st0.le m->(∀r ∈ rows,r.1≠.tok t)->m.hw t=some ((l++new).length*6)->Rx st0 m ((.tok t,l++new)::rows):=by
  intro t m h1 h2 h4 h5 h6
  refine ⟨h4,λr U=>?_,List.pairwise_cons.2 ⟨λr U=>?_,hap.2⟩⟩
  .rcases List.mem_cons.1 U with e|e
   .subst e;exact ⟨h2,h6⟩
   simp_all
  .obtain ⟨o,q⟩:=r
   cases o with
   |tok u=>exact λe=>h5 _ U kw
   |any=>exact trivial
   |full=>exact trivial
 refine ⟨by grind,by rw [hlen,List.length_append];unfold C9;omega,AL hsc ?_⟩
 cases own with
 |any=>exact (h.ok _ (List.mem_cons_self ..)).elim
 |full=>
  refine ⟨λe=>?_,λ_=>.inl λt ht=>?_⟩
  .simp_all
  .rw [hw,hlen,<-List.map_append]
   refine k (.tok t) _ rfl (mk t _ (λr U=>?_) (h.fresh ht) (St.Fb h.le (h.fresh ht).2 _) (h.drop.kF ht) (by simp [St.BB]))
   have h1:=h.ok r (List.mem_cons_of_mem _ U)
   have h2:=h.drop.kF ht r U
   obtain ⟨o,q⟩:=r
   cases o with
   |tok u=>
    have:u≠t:=λe=>h2 kw
    exact ⟨h1.1,by simp only [St.BB];rw [if_neg this];exact h1.2⟩
   |any=>exact h1
   |full=>exact h1
 |tok t0=>
  have h0:=h.ok _ (List.mem_cons_self ..)
  refine ⟨by rw [List.length_map];exact h0.2,.inl λt ht=>?_⟩
  rw [hw,hlen,<-List.map_append]
  have hne:∀r ∈ rows,r.1≠.tok t0:=λr U e=>by
   have:=hap.1 r U
   obtain ⟨o,q⟩:=r
   dsimp only at e
   subst e
   exact this rfl
  have hst:∀r ∈ rows,r.1≠.tok t:=λr U=>by
   rcases ht with rfl|ht
   .grind
   .exact h.drop.kF ht r U
  have hf:st0.fresh t:=by
   rcases ht with rfl|ht
   .exact h0.1
   .exact h.fresh ht
  refine k (.tok t) _ rfl (mk t _ (λr U=>?_) hf ⟨h.le.1,λx n hx=>?_⟩ hst (by simp [St.BB]))
  .have h1:=h.ok r (List.mem_cons_of_mem _ U)
   have h2:=hst r U
   have h3:=hne r U
   obtain ⟨o,q⟩:=r
   cases o with
   |tok u=>
    have e1:u≠t:=λe=>h2 kw
    have e2:u≠t0:=λe=>h3 kw
    exact ⟨h1.1,by simp only [St.BB,St.Dd];rw [if_neg e1,if_neg e2];exact h1.2⟩
   |any=>exact h1
   |full=>exact h1
  .simp only [St.BB,St.Dd]
   split
   .rename_i e;subst e
    rw [hf.2] at hx;cases hx
   .split
    .rename_i e;subst e
     rw [h0.1.2] at hx;cases hx
    .exact h.le.2 x n hx
theorem Rx.Aa {b:Nat} {cs cs':List V} (h:Rx (st0.Aa b cs) st rows):Rx (st0.Aa b cs') (st.Aa b cs') rows:=by
 refine ⟨⟨λx c U=>?_,λx n U=>h.le.2 x n U⟩,λr hr=>?_,h.ap⟩
 .by_cases e:x=b
  .subst e;rw [St.Ai] at U |-;exact U
  .rw [St.Ak (Ne.symm e)] at U |-
   exact h.le.1 x c (by rw [St.Ak (Ne.symm e)];exact U)
 .have:=h.ok r hr
  obtain ⟨o,l⟩:=r
  cases o with
  |any=>exact this
  |full=>exact this
  |tok t=>
   have hb:b≠t:=by
    rintro rfl
    have:=this.1.1
    rw [St.Ai] at this;cases this
   exact ⟨⟨by rw [St.Ak hb];have:=this.1.1;rw [St.Ak hb] at this;omega,this.1.2⟩,this.2⟩
end
structure Cx (st0:St) (b:Nat) (s:Al) (st:St) (rows:List (AA×List Nd)):Prop where
 has:Has st b s
 rx:∃cs,Rx (st0.Aa b cs) st rows
 mu:mu s<=100000000
structure Cy (st0:St) (b:Nat) (s:Al) (st:St) (rows:List (AA×List Nd)):Prop where
 has:Has st b s
 rx:∃cs,Rx (st0.Aa b cs) st rows
section
variable {st0 st st':St} {b:Nat} {s s':Al} {r q:AA×List Nd} {rows:List (AA×List Nd)}
theorem Cx.y (h:Cx st0 b s st rows):Cy st0 b s st rows:=⟨h.has,h.rx⟩
theorem Cy.drop (h:Cy st0 b s st (r::rows)):Cy st0 b s st rows:=⟨h.has,h.rx.imp λ_ e=>e.drop⟩
theorem Cx.ue (h:Cx st0 b s st rows) (hu:Hf st st' b s'):Cy st0 b s' st' rows:=by
 obtain ⟨U,cs,rfl⟩:=hu
 obtain ⟨c0,hr⟩:=h.rx
 exact ⟨U,⟨cs,hr.Aa⟩⟩
theorem Cx.hb (h:Cx st0 b s st rows):s.DS.length<=500000000:=EK h.mu
theorem Cx.start (h:Has st b s) (U:Proofs.Z.mu s<=100000000):Cx st b s st []:=
 ⟨h,by
   rcases h with e|⟨_,_,_,_,_,e⟩
   all_goals exact ⟨_,by rw [St.MJ e];exact Rx.start⟩,U⟩
theorem Cx.drop (h:Cx st0 b s st (r::rows)):Cx st0 b s st rows:=⟨h.has,h.rx.imp λ_ e=>e.drop,h.mu⟩
theorem Cx.push (h:Cx st0 b s st rows) (l:List Nd):Cx st0 b s st ((.full,l)::rows):=⟨h.has,h.rx.imp λ_ e=>e.push l,h.mu⟩
theorem Cx.set (h:Cx st0 b s st rows) (hu:Hf st st' b s') (hm:Proofs.Z.mu s'<=100000000):Cx st0 b s' st' rows:=by
 obtain ⟨U,cs,rfl⟩:=hu
 obtain ⟨c0,hr⟩:=h.rx
 exact ⟨U,⟨cs,hr.Aa⟩,hm⟩
theorem Cx.NV (h:Cx st0 b s st rows) (hu:Hf st st' b s') (U:Proofs.Z.mu s'<=Proofs.Z.mu s):Cx st0 b s' st' rows:=h.set hu (Nat.le_trans U h.mu)
theorem Cx.look (h:Cx st0 b s st rows):Cx st0 b s (st.Aa b (CF s)) rows:=h.NV AX (Nat.le_refl _)
theorem Cx.TL {t:Nat} (h:Cx st0 b s st rows) (U:st.fresh t):st0.box t=none/\t≠b:=by
 obtain ⟨c0,hr⟩:=h.rx
 have hb:t≠b:=by
  rintro rfl
  rcases h.has with e|⟨_,_,_,_,_,e⟩<;>(rw [U.1] at e;cases e)
 have:=(hr.fresh U).1
 rw [St.Ak hb.symm] at this
 simp_all
theorem Cx.rT {c:Nat} {z:List V} (h:Cx st0 b s st rows) (hf:st.fresh c):Cx (st0.Aa c cs) b s ((st.Aa c z).Aa c cs) rows:=by
 have hb:=(h.TL hf).2
 rw [St.set_set]
 obtain ⟨c0,hr⟩:=h.rx
 refine ⟨?_,⟨c0,⟨λx v U=>?_,λx n U=>hr.le.2 x n U⟩,λr hr'=>?_,hr.ap⟩,h.mu⟩
 .rcases h.has with e|⟨q1,q2,q3,q4,q5,e⟩
  .exact .inl (by rw [St.Ak hb];exact e)
  .exact .inr ⟨q1,q2,q3,q4,q5,by rw [St.Ak hb];exact e⟩
 .by_cases e:x=c
  .subst e
   rw [St.Ak hb.symm,St.Ai] at U
   rw [St.Ai];exact U
  .rw [St.Ak (Ne.symm e)]
   by_cases e2:x=b
   .subst e2
    rw [St.Ai] at U
    exact hr.le.1 x v (by rw [St.Ai];exact U)
   .rw [St.Ak (Ne.symm e2),St.Ak (Ne.symm e)] at U
    exact hr.le.1 x v (by rw [St.Ak (Ne.symm e2)];exact U)
 .have hk:=hr.ok r hr'
  obtain ⟨o,l⟩:=r
  cases o with
  |any=>exact hk
  |full=>exact hk
  |tok t=>
   have htc:t≠c:=by
    rintro rfl
    have:=hk.2
    rw [hf.2] at this;cases this
   have h1:=hk.1.1
   have htb:t≠b:=by
    rintro rfl
    rw [St.Ai] at h1;cases h1
   rw [St.Ak htb.symm] at h1
   exact ⟨⟨by rw [St.Ak htb.symm,St.Ak htc.symm];exact h1,hk.1.2⟩,hk.2⟩
theorem Cx.Uo {c:Nat} (h:Cx st0 b s st rows) (hf:st.fresh c):Cx (st0.Aa c cs) b s (st.Aa c cs) rows:=by
 have:=h.rT (z:=cs) (cs:=cs) hf
 rw [St.set_set] at this;omega
theorem Rx.unbox {c:Nat} (h:Rx (st0.Aa c cs) st rows) (hf:st0.box c=none):Rx st0 st rows:=by
 refine ⟨⟨λx v hx=>?_,h.le.2⟩,λr hr=>?_,h.ap⟩
 .have:x≠c:=by rintro rfl;rw [hf] at hx;cases hx
  exact h.le.1 x v (by rw [St.Ak this.symm];exact hx)
 .have U:=h.ok r hr
  obtain ⟨o,l⟩:=r
  cases o with
  |any=>exact U
  |full=>exact U
  |tok t=>
   have h1:=U.1.1
   have:t≠c:=by rintro rfl;rw [St.Ai] at h1;cases h1
   rw [St.Ak this.symm] at h1
   exact ⟨⟨h1,U.1.2⟩,U.2⟩
theorem Rt {c:Nat} {cs':List V} (h:c≠b):(st0.Aa c cs).Aa b cs'=(st0.Aa b cs').Aa c cs:=by
 simp only [St.Aa,St.mk.injEq,and_true]
 grind
theorem Cx.unbox {c:Nat} {cs:List V} (h:Cx (st0.Aa c cs) b s st rows) (hf:st0.box c=none/\c≠b):Cx st0 b s st rows:=
 ⟨h.has,h.rx.imp λc0 U=>by rw [Rt hf.2] at U;exact U.unbox (by rw [St.Ak hf.2.symm];grind),h.mu⟩
theorem Cy.unbox {c:Nat} {cs:List V} (h:Cy (st0.Aa c cs) b s st rows) (hf:st0.box c=none/\c≠b):Cy st0 b s st rows:=
 ⟨h.has,h.rx.imp λc0 U=>by rw [Rt hf.2] at U;exact U.unbox (by rw [St.Ak hf.2.symm];grind)⟩
theorem Cx.boxed {c:Nat} (h:Cx (st0.Aa c cs) b s st rows) (hf:st0.box c=none/\c≠b):st.box c=some cs:=by
 obtain ⟨c0,U⟩:=h.rx
 exact U.le.1 c cs (by rw [St.Ak hf.2.symm,St.Ai])
theorem Has.eq (h:Has st b s) (e:st'.box=st.box):Has st' b s:=by unfold Has at h |-;simp_all
theorem Cx.app {own:AA} {l new:List Nd} {K:V->St->Prop} (h:Cx st0 b s st ((own,l)::rows)) (hb:l.length+new.length<=1000000000)
 (k:∀U st',Cx st0 b s st' ((U,l++new)::rows)->K (.slice 6 ((l++new).map AB) U) st'):Ag 6 72 (l.map AB) own (new.map AB) st K:=by
 obtain ⟨c0,hr⟩:=h.rx
 exact hr.app hb λU st' e hr'=>k U st' ⟨h.has.eq e,⟨c0,hr'⟩,h.mu⟩
theorem Cx.Fo {own:AA} {l:List Nd} {x:Nd} {K:V->St->Prop} (h:Cx st0 b s st ((own,l)::rows)) (hb:l.length+1<=1000000000)
 (k:∀U st',Cx st0 b s st' ((U,l++[x])::rows)->K (.slice 6 ((l++[x]).map AB) U) st'):Ag 6 72 (l.map AB) own [AB x] st K:=h.app (new:=[x]) hb k
theorem Cx.qp {own:AA} {l:List Nd} {x y:Nd} {K:V->St->Prop} (h:Cx st0 b s st ((own,l)::rows)) (hb:l.length+2<=1000000000)
 (k:∀U st',Cx st0 b s st' ((U,l++[x,y])::rows)->K (.slice 6 ((l++[x,y]).map AB) U) st'):Ag 6 72 (l.map AB) own [AB x,AB y] st K:=h.app (new:=[x,y]) hb k
theorem Rx.Fo {own:AA} {l:List Nd} {x:Nd} {K:V->St->Prop} (h:Rx st0 st ((own,l)::rows)) (hb:l.length+1<=1000000000)
 (k:∀U st',Rx st0 st' ((U,l++[x])::rows)->K (.slice 6 ((l++[x]).map AB) U) st'):Ag 6 72 (l.map AB) own [AB x] st K:=h.app (new:=[x]) hb λU st' _ c=>k U st' c
end
structure AY {α:Type} (en:α->V) (f:FuncId) (mk:Nat->List V) (A:Rd α):Prop where
 ap:∀{st0:St} {b:Nat} {s:Al} {st:St} {rows:List (AA×List Nd)} {K:At->St->Prop},Cx st0 b s st rows->
 Rd.wp A s (λv s'=>∀st',Cx st0 b s' st' rows->K (.ret (en v)) st') (λe s'=>∀st',Cy st0 b s' st' rows->K (.BK (fault e.1)) st')->PC f (mk b) st K
theorem AY.go {U:α->V} {A:Rd α} {s:Al} {st:St} {Q:α->Al->Prop} (hf:AY U f mk A) (hc:Cx st0 b s st rows) (h:Rd.wp A s Q E)
 (k:∀v s' st',A.run s=.inr (v,s')->mu s'<=mu s->Cx st0 b s' st' rows->Q v s'->K (.ret (U v)) st') (kb:∀e s' st',Cy st0 b s' st' rows->E e s'->K (.BK (fault e.1)) st'):PC f (mk b) st K:=
 hf.ap hc (Rd.wp_mono h (λv s' r q st' c=>k v s' st' r (A.le _ _ _ r) c q) (λe s' _ q st' c=>kb e s' st' c q))
theorem AY.pK {U:α->V} {A:Rd α} {s:Al} {st:St} {Q:α->Al->Prop} (hf:AY U f mk A) (hF:Rd.A7 A) (hc:Cx st0 b s st rows) (h:Rd.wp A s Q E)
 (k:∀v s' st',A.run s=.inr (v,s')->mu s'<mu s->Cx st0 b s' st' rows->Q v s'->K (.ret (U v)) st') (kb:∀e s' st',Cy st0 b s' st' rows->E e s'->K (.BK (fault e.1)) st'):PC f (mk b) st K:=
 hf.go hc h (λv s' st' r m c q=>k v s' st' r (hF _ _ _ r) c q) kb
structure lD {α:Type} (en:α->AA->V) (ls:α->List Nd) (f:FuncId) (mk:Nat->List V) (A:Rd α):Prop where
 ap:∀{st0:St} {b:Nat} {s:Al} {st:St} {rows:List (AA×List Nd)} {K:At->St->Prop},Cx st0 b s st rows->
 Rd.wp A s (λv s'=>∀own st',Cx st0 b s' st' ((own,ls v)::rows)->K (.ret (en v own)) st') (λe s'=>∀st',Cy st0 b s' st' rows->K (.BK (fault e.1)) st')->PC f (mk b) st K
theorem lD.go {U:α->AA->V} {ls:α->List Nd} {A:Rd α} {s:Al} {st:St} {Q:α->Al->Prop} (hf:lD U ls f mk A) (hc:Cx st0 b s st rows) (h:Rd.wp A s Q E)
 (k:∀v own s' st',A.run s=.inr (v,s')->mu s'<=mu s->Cx st0 b s' st' ((own,ls v)::rows)->Q v s'->K (.ret (U v own)) st') (kb:∀e s' st',Cy st0 b s' st' rows->E e s'->K (.BK (fault e.1)) st'):PC f (mk b) st K:=
 hf.ap hc (Rd.wp_mono h (λv s' r q own st' c=>k v own s' st' r (A.le _ _ _ r) c q) (λe s' _ q st' c=>kb e s' st' c q))
structure pj (f:FuncId) (mk:Nat->V->List V) (A:List Nd->Rd (List Nd)):Prop where
 ap:∀{st0:St} {b:Nat} {s:Al} {st:St} {rows:List (AA×List Nd)} {K:At->St->Prop} {own:AA} {l:List Nd},l.length<=90000000->Cx st0 b s st ((own,l)::rows)->
 Rd.wp (A l) s (λl' s'=>∀own' st',Cx st0 b s' st' ((own',l')::rows)->K (.ret (.slice 6 (l'.map AB) own')) st') (λe s'=>∀st',Cy st0 b s' st' rows->K (.BK (fault e.1)) st')->PC f (mk b (.slice 6 (l.map AB) own)) st K
theorem pj.go {mk:Nat->V->List V} {A:List Nd->Rd (List Nd)} {s:Al} {st:St} {Q:List Nd->Al->Prop} {own:AA} {l:List Nd} (hf:pj f mk A) (hl:l.length<=90000000) (hc:Cx st0 b s st ((own,l)::rows)) (h:Rd.wp (A l) s Q E)
 (k:∀l' U s' st',(A l).run s=.inr (l',s')->mu s'<=mu s->Cx st0 b s' st' ((U,l')::rows)->Q l' s'->K (.ret (.slice 6 (l'.map AB) U)) st') (kb:∀e s' st',Cy st0 b s' st' rows->E e s'->K (.BK (fault e.1)) st'):PC f (mk b (.slice 6 (l.map AB) own)) st K:=
 hf.ap hl hc (Rd.wp_mono h (λv s' r q own st' c=>k v own s' st' r ((A l).le _ _ _ r) c q) (λe s' _ q st' c=>kb e s' st' c q))
def Fm {α:Type} (U:α->V) (f:FuncId) (args:List V) (b:Nat) (A:Rd α):Prop:=∀{st0:St} {s:Al} {st:St} {rows:List (AA×List Nd)} {K:At->St->Prop},Cx st0 b s st rows->
 Rd.wp A s (λv s'=>∀st',Cx st0 b s' st' rows->K (.ret (U v)) st') (λe s'=>∀st',Cy st0 b s' st' rows->K (.BK (fault e.1)) st')->PC f args st K
theorem AY.a {U:α->V} {A:Rd α} (h:AY U f mk A):Fm U f (mk b) b A:=h.ap
theorem AY.q {U:α->V} {A:Rd α} (h:AY U f mk A:=by assumption) (e:args=mk b:=by rfl):Fm U f args b A:=e ▸ h.a
theorem Fm.go {U:α->V} {A:Rd α} {s:Al} {st:St} {Q:α->Al->Prop} (hf:Fm U f args b A)
 (k:∀v s' st',A.run s=.inr (v,s')->mu s'<=mu s->Cx st0 b s' st' rows->Q v s'->K (.ret (U v)) st') (kb:∀e s' st',Cy st0 b s' st' rows->E e s'->K (.BK (fault e.1)) st') (hc:Cx st0 b s st rows:=by assumption) (h:Rd.wp A s Q E:=by assumption):PC f args st K:=
 hf hc (Rd.wp_mono h (λv s' r q st' c=>k v s' st' r (A.le _ _ _ r) c q) (λe s' _ q st' c=>kb e s' st' c q))
theorem pI {s:Al} {st:St} {F:AA->List (AA×List Nd)} {r:AA->At} {r':At} {o:AA} (h:∀o st',Cx st0 b s st' (F o)->K (r o) st') (hc:Cx st0 b s st (F o)) (e:r o=r'):∃r2 U,(r2=r'\/r2=r'.wk)/\St.le U st/\K r2 U:=⟨r o,st,.inl e,St.le_refl _,h o st hc⟩
theorem CL {s:Al} {st:St} {r r':At} (hc:Cx st0 b s st rows) (h:∀st',Cx st0 b s st' rows->K r st') (e:r=r'.wk):∃r2 U,(r2=r'\/r2=r'.wk)/\St.le U st/\K r2 U:=⟨r,st,.inr e,St.le_refl _,h st hc⟩
theorem BO {s:Al} {st:St} {e:Int} (hc:Cy st0 b s st rows) (h:∀st',Cy st0 b s st' rows->K (.BK (fault e)) st'):∃r2 U,(r2=.BK (fault e)\/r2=(At.BK (fault e)).wk)/\St.le U st/\K r2 U:=⟨_,st,.inl rfl,St.le_refl _,h st hc⟩
theorem Va {c:Bool} {Q p q:Prop} (h:if c=true then P else Q) (k1:c=true->P->p) (U:c=false->Q->q):Bk c p q:=Wk (λe=>k1 e kw) (λe=>U e kw)
theorem Fx [BEq α] [LawfulBEq α] {a b:α} {Q p q:Prop} (h:if (a==b)=true then P else Q) (k1:a=b->P->p) (U:¬a=b->Q->q):Bk (a==b) p q:=
 Wg (λe=>k1 e kw) (λe=>U e kw)
theorem bZ {c:Prop} [Decidable c] {Q p q:Prop} (h:if c then P else Q) (k1:c->P->p) (U:¬c->Q->q):Bk (decide c) p q:=
 Wh (λe=>k1 e kw) (λe=>U e kw)
theorem qw {b:Bool} {p q:Prop} (h:b=true) (k:p):Bk b p q:=Wk (λ_=>k) (λe=>by simp_all)
theorem ft {b:Bool} {p q:Prop} (h:b=false) (k:q):Bk b p q:=Wk (λe=>by simp_all) (λ_=>k)
structure LS (σ:Type) where
 x:σ
 s:Al
 m:St
 o:AA
theorem Cn {σ:Type} {Q0:AD->Env->St->Prop} {env:Env} {st:St} {s:Al} {Q:β->Al->Prop} {body:σ->Rd (Sum σ β)} {x0:σ}
 (f:σ->AA->List (Nat×V)) (g:σ->AA->List (Nat×List V)) (keep kb:List Nat) (rw:σ->AA->List (AA×List Nd)) (wt:σ->Nat) (U:AA) (hc:Cx st0 b s st (rw x0 U)) (h:Rd.wp (Rd.loop body x0) s Q E) (hl:wt x0+4*mu s<=500000000)
 (he:(env.KV (f x0 U) (g x0 U) keep kb).Ek env)
 (hb:∀x s1 st1 own1,Cx st0 b s1 st1 (rw x own1)->Rd.wp (body x) s1 (Rd.again body s1 Q E) E->wt x+4*mu s1<=500000000->mu s1<=mu s->
   ih (BF (λenv' st'=>∃y:LS σ,(Cx st0 b y.s y.m (rw y.x y.o)/\Rd.wp (Rd.loop body y.x) y.s Q E/\wt y.x+4*mu y.s<=500000000/\mu y.s<=mu s)/\mu y.s<mu s1/\(env.KV (f y.x y.o) (g y.x y.o) keep kb).Ek env'/\St.le y.m st') Q0)
    (env.KV (f x own1) (g x own1) keep kb) st1):
 ∃(α:Type) (E:α->Env) (S:α->St) (J:α->Prop) (μ:α->Nat) (x0:α),J x0/\(E x0).Ek env/\St.le (S x0) st/\
  ∀x,J x->ih (BF (λenv' st'=>∃y,J y/\μ y<μ x/\(E y).Ek env'/\St.le (S y) st') Q0) (E x) (S x):=
 ⟨LS σ,λy=>env.KV (f y.x y.o) (g y.x y.o) keep kb,λy=>y.m,
   λy=>Cx st0 b y.s y.m (rw y.x y.o)/\Rd.wp (Rd.loop body y.x) y.s Q E/\wt y.x+4*mu y.s<=500000000/\mu y.s<=mu s,λy=>mu y.s,⟨x0,s,st,U⟩,⟨hc,h,hl,Nat.le_refl _⟩,he,St.le_refl _,
   λy ⟨j1,j2,j3,j4⟩=>hb y.x y.s y.m y.o j1 (by rw [<-Rd.wp_loop];exact j2) j3 j4⟩
section
variable {st0 st:St} {b:Nat} {s:Al} {rows:List (AA×List Nd)} {K:At->St->Prop}
theorem QT (U:Cx st0 b s st rows) (k:∀st',Cx st0 b s st' rows->K (.ret (E7 (Ac s).1)) st'):PC 112 [.ptr b 0] st K:=Gj U.has U.hb (k _ U.look)
theorem mY (U:Cx st0 b s st rows) (kk:∀st',Cx st0 b s st' rows->K (.ret (.bool (Bp s k x))) st'):PC 149 [.ptr b 0,.int .i64 k,.str x] st K:=YF U.has U.hb (kk _ U.look)
theorem YG (U:Cx st0 b s st rows) (e:Bp s k x=true) (kk:∀st',Cx st0 b s st' rows->K (.ret (.bool true)) st'):PC 149 [.ptr b 0,.int .i64 k,.str x] st K:=mY U kw
theorem hH (U:Cx st0 b s st rows) (e:Bp s k x=false) (kk:∀st',Cx st0 b s st' rows->K (.ret (.bool false)) st'):PC 149 [.ptr b 0,.int .i64 k,.str x] st K:=mY U kw
theorem gZ {Q:Prop} (U:Cx st0 b s st rows) (h:if Bp s k x=true then P else Q) (k1:∀st',Cx st0 b s st' rows->Bp s k x=true->P->K (.ret (.bool true)) st') (k2:∀st',Cx st0 b s st' rows->Bp s k x=false->Q->K (.ret (.bool false)) st'):
 PC 149 [.ptr b 0,.int .i64 k,.str x] st K:=by
 cases e:Bp s k x with
 |true=>exact YG U e λst' c=>k1 st' c e kw
 |false=>exact hH U e λst' c=>k2 st' c e kw
theorem Gy:AY enc 150 (λb=>[.ptr b 0]) AO:=by
 refine ⟨λ{st0 b s st rows K} U h=>?_⟩
 refine Ll U.has U.hb (λe st' hu=>?_) (λe=>?_)
 .unfold Rd.wp at h;rw [Ey e] at h;exact h st' (U.NV hu (EC e).1)
 .unfold Rd.wp at h;rw [MT e] at h;exact h _ U.look.y
theorem UJ {Q:Nd->Al->Prop} (hc:Cx st0 b s st rows) (h:Rd.wp AO s Q E) (e:Bp s k x=true) (hk:k≠0/\k≠21) (kk:∀s' st',(Ac s).2.1=s'->mu s'<mu s->Cx st0 b s' st' rows->Q (BJ (Ac s).1) s'->K (.ret (enc (BJ (Ac s).1))) st'):
 PC 150 [.ptr b 0] st K:=by
 unfold Rd.wp at h
 rw [kK e hk.1] at h
 have U:=Eh e hk.1 hk.2
 exact Ll hc.has hc.hb (λ_ st' hu=>kk _ st' rfl U (hc.NV hu (Nat.le_of_lt U)) h) (λn=>absurd (GX e hk.1) n)
theorem O8 {Q:Nd->Al->Prop} (hc:Cx st0 b s st rows) (h:Rd.wp AO s Q E) (hk:(Ac s).1.kind≠0/\(Ac s).1.kind≠21) (kk:∀s' st',(Ac s).2.1=s'->mu s'<mu s->Cx st0 b s' st' rows->Q (BJ (Ac s).1) s'->K (.ret (enc (BJ (Ac s).1))) st'):
 PC 150 [.ptr b 0] st K:=by
 have e:=Ht hk.1
 unfold Rd.wp at h
 rw [Ey e] at h
 have U:=(EC e).2 hk.2
 exact Ll hc.has hc.hb (λ_ st' hu=>kk _ st' rfl U (hc.NV hu (Nat.le_of_lt U)) h) (λn=>absurd e n)
theorem Sb {Q:α->Al->Prop} (U:Cx st0 b s st rows) (h:Rd.wp (RR:Rd α) s Q E) (kb:∀e s' st',Cy st0 b s' st' rows->E e s'->K (.BK (fault e.1)) st'):PC 113 [.ptr b 0] st K:=
 fo U.has U.hb (kb _ _ _ U.look.y h)
theorem UW:AY enc 153 (λb=>[.ptr b 0,.int .i64 k,.str x]) (BA k x):=by
 refine ⟨λ{st0 b s st rows K} U h=>?_⟩
 unfold BA at h
 rw [Rd.Ap,Rd.AF] at h
 refine lr U.has U.hb (λe1 e2 st' hu=>?_) (λe1 e2=>?_) (λe1=>?_)
 .rw [if_pos e1] at h
  unfold Rd.wp at h;rw [Ey e2] at h;exact h st' (U.NV hu (EC e2).1)
 .rw [if_pos e1] at h
  unfold Rd.wp at h;rw [MT e2] at h;exact h _ U.look.y
 .rw [if_neg kw] at h
  exact h _ U.look.y
theorem ti (U:Cx st0 b s st rows) (hm:mu s'<=100000000) (k:∀st',Cx st0 b s' st' rows->K (.ret (.Bj [])) st'):PC 154 [.ptr b 0,Dz s'] st K:=mP U.has λst' hu=>k st' (U.set hu hm)
theorem Kt {Q:Unit->Al->Prop} (hc:Cx st0 b s st rows) (h:Rd.wp JM s Q E) (hk:(Ac s).1.kind≠0/\(Ac s).1.kind≠21) (kk:∀s' st',(Ac s).2.1=s'->mu s'<mu s->Cx st0 b s' st' rows->Q () s'->K (.ret (E7 (Ac s).1)) st'):
 PC 186 [.ptr b 0] st K:=by
 have e:=Ht hk.1
 unfold JM at h
 rw [Rd.wp_seq] at h
 unfold Rd.wp at h
 rw [Ey e] at h
 have U:=(EC e).2 hk.2
 exact UC hc.has hc.hb (λ_ st' hu=>kk _ st' rfl U (hc.NV hu (Nat.le_of_lt U)) h) (λn=>absurd e n)
theorem bG {Q:Unit->Al->Prop} (hc:Cx st0 b s st rows) (h:if Bp (Ac s).2.1 k x=true then Rd.wp JM s Q E else P) (hk:(Ac s).1.kind≠0/\(Ac s).1.kind≠21)
 (kk:∀s' st',mu s'<mu s->Cx st0 b s' st' rows->(if Bp s' k x=true then Q () s' else P)->K (.ret (E7 (Ac s).1)) st'):PC 186 [.ptr b 0] st K:=by
 have e:=Ht hk.1
 have U:=(EC e).2 hk.2
 refine UC hc.has hc.hb (λ_ st' hu=>kk _ st' U (hc.NV hu (Nat.le_of_lt U)) ?_) (λn=>absurd e n)
 split
 .rename_i hi
  rw [if_pos hi] at h
  unfold JM at h
  rw [Rd.wp_seq] at h
  unfold Rd.wp at h
  rw [Ey e] at h
  exact h
 simp_all
theorem FU {s0:Al} (U:Cx st0 b s st rows) (hm:mu s0<=100000000) (k:∀st',Cx st0 b s0 st' rows->K (.ret (.Bj [])) st'):PC 154 [.ptr b 0,.agg s0.cells] st K:=ti U hm k
theorem ss (hc:Cx st0 b s st rows) (hk:(Ac s).1.kind≠0/\(Ac s).1.kind≠21) (kk:∀s' st',(Ac s).2.1=s'->mu s'<mu s->Cx st0 b s' st' rows->K (.ret (enc (BJ (Ac s).1))) st'):PC 150 [.ptr b 0] st K:=by
 have e:=Ht hk.1
 have U:=(EC e).2 hk.2
 exact Ll hc.has hc.hb (λ_ st' hu=>kk _ st' rfl U (hc.NV hu (Nat.le_of_lt U))) (λn=>absurd e n)
end
theorem C4 (h:P:=by with_reducible first|(show _/\_;first|exact Wa)|(show Bk _ _ _;first|exact Wb|exact Wc)|fail):P:=h
theorem BM {A:Prop} (k:A) (h:A->P:=by intro k;with_reducible first|(show _/\_;first|  exact Wm ‹_› AC k|exact Wn AC AC k|exact Wo AC AC k|exact Wp AC AC AC k|exact Wr Do AC AC k|exact Ws Do k|exact WB ‹_› AC k|exact WC AC AC k|exact WD AC AC k|exact WE AC AC AC k)|(show Bk _ _ _;first|exact Wt H9 k|exact Wu H9 k|exact Wv AC k|exact Ww AC k|exact qw ‹_› k|exact ft ‹_› k|exact Wi k|exact Wj k)|(intro x y z;exact Wl k x y z)|(intro x y z;exact Wz k x y z)|(intro x y z;exact WA k x y z)|(show Exists _;first|exact Wq AC AC k)|fail):P:=h k
theorem C5 {B C:V->Prop} (k:V) (l:B k) (m:C k) (h:∀k,B k->C k->P:=by intro k l m;with_reducible first|(show Exists _;first|  exact W8 GE k l m|exact W0 GE k l m|exact W9 k l m)|fail):P:=h k l m
theorem Fq {A:Prop} (k:A) (l:B) (h:A->B->P:=by intro k l;with_reducible first|(show Bk _ _ _;first|exact Fx ‹_› k l|exact bZ ‹_› k l|exact Va ‹_› k l)|fail):P:=h k l
theorem Dh {A:Prop} (k:A) (l:B) (h:A->B->P:=by intro k l;with_reducible first|(show Bk _ _ _;first|exact Wf Do k l|exact Wg k l|exact Wh k l|exact Wk k l)|fail):P:=h k l
theorem Aq {p:Env->Prop} (h:∀e,p e):∀e:Env,p e:=h
theorem X9 {es:List (List V)} {e:List V} {K:List V->Prop} (U:0<=i) (h:es[i.toNat]? =some e) (k:K e):0<=i/\∃e,es[i.toNat]? =some e/\K e:=⟨U,e,h,k⟩
theorem gV {l:List Int} {x:Int} {K:List V->Prop} (h:l[i.toNat]? =some x) (U:0<=i) (k:K [.int .i64 x]):0<=i/\∃e,(ints l)[i.toNat]? =some e/\K e:=⟨U,_,by simp [ints,h],k⟩
theorem rf {es:List α} {n:Nat} {K:Nat->Prop} (h:es.length=n) (k:K n):∀m,m=es.length->m<C9->K m:=λm U _=>by rw [h] at U;subst U;exact k
section
variable {st:St} {K:At->St->Prop}
theorem It (h:K (.ret (.bool (NP t))) st):PC 369 [E7 t] st K:=by
 refine pB Tryz.func369 ?_
 repeat' ((conv=>whnf);first|  (refine Dh ?_ ?_<;>intro _)|fail)
 all_goals conv=>whnf
 all_goals (refine Au h ?_;clear h;simp_all [NP])
theorem mV (h:K (.ret (.bool (Qn t))) st):PC 371 [E7 t] st K:=by
 refine pB Tryz.func371 ?_
 repeat' ((conv=>whnf);first|  (refine Dh ?_ ?_<;>intro _)|refine It ?_)
 all_goals conv=>whnf
 all_goals (refine Au h ?_;clear h;simp_all [Qn])
theorem U6 (h:K (.ret (.bool (E3 t))) st):PC 270 [E7 t] st K:=by
 refine pB Tryz.func270 ?_
 repeat' ((conv=>whnf);first|  (refine Dh ?_ ?_<;>intro _)|fail)
 all_goals conv=>whnf
 all_goals (refine Au h ?_;clear h;simp_all [E3])
theorem LD (h:K (.ret (.bool (FP t))) st):PC 224 [E7 t] st K:=by
 refine pB Tryz.func224 ?_
 repeat' ((conv=>whnf);first|  (refine Dh ?_ ?_<;>intro _)|refine U6 ?_)
 all_goals conv=>whnf
 all_goals (refine Au h ?_;clear h;simp_all [FP,E3,o7,uk,ll,uj])
theorem TH (h:K (.ret (.bool (K4 t))) st):PC 225 [E7 t] st K:=by
 refine pB Tryz.func225 ?_
 repeat' ((conv=>whnf);first|  (refine Dh ?_ ?_<;>intro _)|fail)
 all_goals conv=>whnf
 all_goals (refine Au h ?_;clear h;simp_all [K4])
theorem Ux (h:K (.ret (.bool (KM t))) st):PC 222 [E7 t] st K:=by
 refine pB Tryz.func222 ?_
 repeat' ((conv=>whnf);first|  (refine Dh ?_ ?_<;>intro _)|fail)
 all_goals conv=>whnf
 all_goals (refine Au h ?_;clear h;simp_all [KM])
theorem Lc {l:List Nd} {own:AA} (h:K (.ret (enc (Az k l))) st):PC 315 [.int .i64 k,.slice 6 (l.map AB) own] st K:=by
 refine pB Tryz.func315 ?_
 repeat' ((conv=>whnf);first|  fail)
 all_goals exact DK (St.le_refl _) BV h
theorem aP {a:Nd} {own:AA} (h:K (.ret (enc (Az k [a]))) st):PC 315 [.int .i64 k,.slice 6 [AB a] own] st K:=Lc (l:=[a]) h
theorem nV {a b:Nd} {own:AA} (h:K (.ret (enc (Az k [a,b]))) st):PC 315 [.int .i64 k,.slice 6 [AB a,AB b] own] st K:=Lc (l:=[a,b]) h
theorem Ue {a b c:Nd} {own:AA} (h:K (.ret (enc (Az k [a,b,c]))) st):PC 315 [.int .i64 k,.slice 6 [AB a,AB b,AB c] own] st K:=Lc (l:=[a,b,c]) h
theorem nW {a b c d:Nd} {own:AA} (h:K (.ret (enc (Az k [a,b,c,d]))) st):PC 315 [.int .i64 k,.slice 6 [AB a,AB b,AB c,AB d] own] st K:=Lc (l:=[a,b,c,d]) h
theorem qJ {l:List Nd} {own:AA} (h:K (.ret (enc (Y8 k l))) st):PC 347 [.int .i64 k,.slice 6 (l.map AB) own] st K:=by
 refine pB Tryz.func347 ?_
 match l with
 |[x]=>
  have h:K (.ret (enc x)) st:=h
  have hn:(([x]:List Nd).length:Int)=1:=rfl
  repeat' ((conv=>whnf);first|(refine BM ?_;intros)|refine B5 (l:=[x]) (λ_=>?_)|refine X9 AC rfl ?_)
  all_goals exact Bm rfl h
 |[]=>
  have h:K (.ret (enc (Az k []))) st:=h
  have hn:¬(([]:List Nd).length:Int)=1:=Do
  repeat' ((conv=>whnf);first|(refine BM ?_;intros)|refine B5 (l:=[]) (λ_=>?_)|refine Lc (l:=[]) ?_)
  all_goals exact Bm rfl h
 |x::y::r=>
  have h:K (.ret (enc (Az k (x::y::r)))) st:=h
  have hn:¬((x::y::r).length:Int)=1:=by simp only [List.length_cons];omega
  repeat' ((conv=>whnf);first|(refine BM ?_;intros)|refine B5 (l:=x::y::r) (λ_=>?_)|refine Lc (l:=x::y::r) ?_)
  all_goals exact Bm rfl h
theorem TV (h:K (.ret (.bool (KK n))) st):PC 409 [enc n] st K:=by
 refine pB Tryz.func409 ?_
 repeat' ((conv=>whnf);first|  (refine Dh ?_ ?_<;>intro _)|refine fN ?_)
 all_goals conv=>whnf
 all_goals (refine Au h ?_;clear h;simp_all [Ye])
theorem aD (U:n.size<=1000000000) (h:K (.ret (.bool (eJ n))) st):PC 348 [enc n] st K:=by
 refine pB Tryz.func348 ?_
 have hs:(strs (Gh n).1).length=(Gh n).1.length:=by simp [strs]
 repeat' ((conv=>whnf);first|  (refine Dh ?_ ?_<;>intro _)|refine iQ U ?_|refine rf hs ?_)
 all_goals conv=>whnf
 all_goals (refine Au h ?_;clear h;simp_all [eJ])
end
theorem Sa (h:E3 t=true):t.kind≠0/\t.kind≠21:=by
 unfold E3 at h
 simp only [Bool.or_eq_true,Bool.and_eq_true,beq_iff_eq] at h
 omega
theorem UI (h:NP t=true):t.kind≠0/\t.kind≠21:=by
 unfold NP at h
 simp only [Bool.or_eq_true,Bool.and_eq_true,beq_iff_eq] at h
 omega
theorem O5 (h:KM t=true):t.kind≠0/\t.kind≠21:=by
 unfold KM at h
 simp only [Bool.or_eq_true,Bool.and_eq_true,beq_iff_eq] at h
 omega
abbrev pv (b d:Nat):V:=.agg [.ptr b 0,.int .i64 (d:Int)]
section
variable {st0 st:St} {b d:Nat} {s:Al} {rows:List (AA×List Nd)} {K:At->St->Prop}
theorem bh (U:Cx st0 b s st rows) (kk:∀st',Cx st0 b s st' rows->K (.ret (.bool (Bp s 15 x))) st'):PC 311 [pv b d,.str x] st K:=by
 refine pB Tryz.func311 ?_
 repeat' ((conv=>whnf);first|  (refine Dh ?_ ?_<;>intro _)|refine mY U (λst1 U=>?_))
 all_goals conv=>whnf
 all_goals exact Au (kk st1 U) ‹_›
theorem Un (U:Cx st0 b s st rows) (e:Bp s 15 x=true) (kk:∀st',Cx st0 b s st' rows->K (.ret (.bool true)) st'):PC 311 [pv b d,.str x] st K:=bh U (by rw [e];exact kk)
theorem Zh (U:Cx st0 b s st rows) (e:Bp s 15 x=false) (kk:∀st',Cx st0 b s st' rows->K (.ret (.bool false)) st'):PC 311 [pv b d,.str x] st K:=bh U (by rw [e];exact kk)
theorem rO {Q:Prop} (U:Cx st0 b s st rows) (h:if Bp s 15 x=true then P else Q) (k1:∀st',Cx st0 b s st' rows->Bp s 15 x=true->P->K (.ret (.bool true)) st') (k2:∀st',Cx st0 b s st' rows->Bp s 15 x=false->Q->K (.ret (.bool false)) st'):
 PC 311 [pv b d,.str x] st K:=by
 cases e:Bp s 15 x with
 |true=>exact Un U e λst' c=>k1 st' c e (by rw [if_pos e] at h;exact h)
 |false=>exact Zh U e λst' c=>k2 st' c e (by rw [if_neg (by rw [e];decide)] at h;exact h)
theorem DM {ks:List Int} {own:AA} (h0:ks.contains 0=false):AY enc 151 (λb=>[.ptr b 0,.slice 1 (ints ks) own]) (Df ks):=by
 refine ⟨λ{st0 b s st rows K} U h=>?_⟩
 unfold Df at h
 simp only [Rd.Ap,Rd.AF] at h
 refine pB Tryz.func151 ?_
 repeat' ((conv=>whnf);first|(refine BM ?_;intros)|refine QT ‹_› (λst1 U=>?_)|refine Gy.go ‹_› ‹_› (λn s1 st1 hr hm U h=>?_) (λe s1 st1 U h=>?_)|refine Sb ‹_› ‹_› (λe s1 st1 U h=>?_)|exact BO (Cx.y ‹_›) ‹_›|exact BO (Cx.y (Cx.drop ‹_›)) ‹_›|exact ⟨⟨_,_,_,_⟩,⟨‹_›,Rd.En ‹_› WF,cb,WF⟩,WF,(by refine ⟨rfl,?_,?_,rfl⟩<;>repeat' (first|exact trivial|exact rfl|refine And.intro ?_ ?_)),St.le_refl _⟩|exact CL ‹_› ‹_› rfl|exact CL ‹_› ‹_› BV|exact CL (Cx.drop ‹_›) ‹_› rfl|exact CL (Cx.drop ‹_›) ‹_› BV|exact BO ‹_› ‹_›|exact BO (Cy.drop ‹_›) ‹_›|exact BO (Cy.drop (Cy.drop ‹_›)) ‹_›|refine WA (λ_=>?_))
 refine QA (α:=Nat×St) (λx=>[(12,.int .i64 (x.1:Int))]) [0,4,5,10,11] [0,1] (λx=>x.2) (λx=>x.1<=ks.length/\Cx st0 b s x.2 rows/\ks.contains (Ac s).1.kind=(ks.drop x.1).contains (Ac s).1.kind) (λx=>ks.length - x.1) (0,_) ⟨Nat.zero_le _,U,rfl⟩ Yl (St.le_refl _) ?_
 rintro ⟨k,st2⟩ ⟨hk,hc2,hi⟩
 dsimp only at hk hc2 hi |-
 by_cases hlt:k<ks.length
 .obtain ⟨x,hx⟩:∃x,ks[(k:Int).toNat]? =some x:=⟨_,List.getElem?_eq_getElem hlt⟩
  have hx':ks[k]? =some x:=hx
  rw [drop_at hx',List.contains_cons] at hi
  have hx1:=hx
  by_cases e:(Ac s).1.kind=x
  .rw [beq_iff_eq.2 e,Bool.true_or] at hi
   rw [if_pos hi] at h
   have hkd:(Ac s).1.kind≠0:=λz=>by rw [z] at hi;rw [h0] at hi;cases hi
   have U:=hc2
   repeat' ((conv=>whnf);first|refine gV hx AC ?_|(refine BM ?_;intros)|refine Gy.go U h (λn s1 st1 hr hm U h=>?_) (λe s1 st1 U h=>?_)|exact CL U h rfl|exact BO U h)
  .rw [beq_eq_false_iff_ne.2 e,Bool.false_or] at hi
   repeat' ((conv=>whnf);first|refine gV hx AC ?_|(refine BM ?_;intros)|fail)
   all_goals conv=>whnf
   all_goals exact ⟨(k+1,st2),⟨hlt,hc2,hi⟩,Nat.sub_lt_sub_left hlt (Nat.lt_succ_self k),Yl,St.le_refl _⟩
 .rw [List.drop_eq_nil_iff.2 AC] at hi
  rw [if_neg (by rw [hi];exact Bool.false_ne_true)] at h
  have U:=hc2
  repeat' ((conv=>whnf);first|(refine BM ?_;intros)|refine Sb U h (λe s1 st1 U h=>?_)|exact BO U h)
theorem hZ:AY enc 151 (λb=>[.ptr b 0,.slice 1 [[.int .i64 1],[.int .i64 2],[.int .i64 3],[.int .i64 4]] .full]) (Df [1,2,3,4]):=DM (ks:=[1,2,3,4]) Do
theorem O1:AY enc 344 (λb=>[pv b d]) Ii:=by
 refine ⟨λ{st0 b s st rows K} hc h=>?_⟩
 unfold Ii at h
 simp only [Rd.Ap,Rd.AF,Rd.wp_seq,Rd.wp_ret] at h
 refine pB Tryz.func344 ?_
 repeat' ((conv=>whnf);first|exact C4|(refine C5 ?_ ?_ ?_;rotate_left)|(refine Fq ?_ ?_<;>intro e h)|refine QT ‹_› (λU hc=>?_)|refine O8 ‹_› ‹_› (by first|  exact UI ‹_›|omega) (λs1 U hz hm hc h=>?_)|refine Gy.go ‹_› ‹_› (λn s1 U hr hm hc h=>?_) (λe s1 U hc h=>?_)|refine UW.go ‹_› ‹_› (λn s1 U hr hm hc h=>?_) (λe s1 U hc h=>?_)|exact BO (Cx.y ‹_›) ‹_›|exact BO (Cx.y (Cx.drop ‹_›)) ‹_›|refine It ?_|refine aP ?_|refine Ue ?_|refine Aq (λe1=>?_)|exact ⟨⟨_,_,_,_⟩,⟨‹_›,Rd.En ‹_› WF,cb,WF⟩,WF,(by refine ⟨rfl,?_,?_,rfl⟩<;>repeat' (first|exact trivial|exact rfl|refine And.intro ?_ ?_)),St.le_refl _⟩|exact CL ‹_› ‹_› rfl|exact CL ‹_› ‹_› BV|exact CL (Cx.drop ‹_›) ‹_› rfl|exact CL (Cx.drop ‹_›) ‹_› BV|exact BO ‹_› ‹_›|exact BO (Cy.drop ‹_›) ‹_›|exact BO (Cy.drop (Cy.drop ‹_›)) ‹_›|refine hZ.go hc h (λn s1 U hr hm hc h=>?_) (λe s1 U hc h=>?_)|refine Ad 8 [4,6,7] [1] ?_|fail)
end
theorem EZ (h:P:=by (with_reducible show ∃_,_);first|exact ⟨⟨_,_,_,_⟩,⟨‹_›,Rd.En ‹_› WF,cb,WF⟩,WF,Yl,St.le_refl _⟩|exact BO (Cx.y ‹_›) ‹_›|exact BO (Cx.y (Cx.drop ‹_›)) ‹_›|exact pI ‹_› ‹_› rfl|exact CL ‹_› ‹_› rfl|exact CL ‹_› ‹_› BV|exact CL (Cx.drop ‹_›) ‹_› rfl|exact CL (Cx.drop ‹_›) ‹_› BV|exact BO ‹_› ‹_›|exact BO (Cy.drop ‹_›) ‹_›|exact BO (Cy.drop (Cy.drop ‹_›)) ‹_›|fail):P:=h
theorem KE {A:Prop} (k:A) (h:A->P:=by intro k;(with_reducible show Ag _ _ _ _ _ _ _);first|exact Cx.Fo ‹_› f8 k|exact Cx.Fo (Cx.push ‹_› _) f8 k|fail):P:=h k
theorem S4 {A:Prop} (k:A) (h:A->P:=by intro k;(with_reducible show PC _ _ _ _);first|((with_reducible show PC 149 _ _ _);exact YG ‹_› ‹_› k)|((with_reducible show PC 149 _ _ _);exact hH ‹_› ‹_› k)|((with_reducible show PC 311 _ _ _);exact Un ‹_› ‹_› k)|((with_reducible show PC 311 _ _ _);exact Zh ‹_› ‹_› k)|((with_reducible show PC 112 _ _ _);exact QT ‹_› k)|fail):P:=h k
theorem KT {A:Prop} (k:A) (l:B) (h:A->B->P:=by intro k l;(with_reducible show PC _ _ _ _);first|((with_reducible show PC 149 _ _ _);exact gZ ‹_› ‹_› k l)|((with_reducible show PC 311 _ _ _);exact rO ‹_› ‹_› k l)|fail):P:=h k l
theorem Lv {A:Prop} (k:A) (h:A->P:=by intro k;(with_reducible show PC _ _ _ _);first|((with_reducible show PC 150 _ _ _);exact UJ ‹_› ‹_› ‹_› Do k)|((with_reducible show PC 150 _ _ _);exact O8 ‹_› ‹_› (by first|exact Sa ‹_›|exact UI ‹_›|omega) k)|fail):P:=h k
theorem KA {A:Prop} (k:A) (l:B) (h:A->B->P:=by intro k l;(with_reducible show PC _ _ _ _);first|((with_reducible show PC 150 _ _ _);exact Gy.go ‹_› ‹_› k l)|((with_reducible show PC 153 _ _ _);exact UW.go ‹_› ‹_› k l)|fail):P:=h k l
theorem sC {A:Prop} (k:A) (h:A->P:=by intro k;(with_reducible show PC _ _ _ _);first|((with_reducible show PC 113 _ _ _);exact Sb ‹_› ‹_› k)|fail):P:=h k
theorem Jn {A:Prop} (k:A) (h:A->P:=by intro k;(with_reducible show PC _ _ _ _);first|((with_reducible show PC 369 _ _ _);exact It k)|((with_reducible show PC 371 _ _ _);exact mV k)|((with_reducible show PC 270 _ _ _);exact U6 k)|((with_reducible show PC 315 _ _ _);exact aP k)|((with_reducible show PC 315 _ _ _);exact nV k)|((with_reducible show PC 315 _ _ _);exact Ue k)|((with_reducible show PC 315 _ _ _);exact nW k)|((with_reducible show PC 315 _ _ _);exact Lc k)|((with_reducible show PC 347 _ _ _);exact qJ k)|fail):P:=h k
theorem sr (h:NP t=true):t.kind≠21:=(UI h).2
theorem P2:Rd.A7 Ii:=Rd.A7.look λs v s' h=>by
 split at h
 .rename_i U
  exact Rd.A7.at (λv s' e=>G6 e (sr U)) h
 .exact Rd.A7.seq (K1 Do) s v s' h
section
variable {st0 st:St} {b d:Nat} {s:Al} {rows:List (AA×List Nd)} {K:At->St->Prop}
attribute [local irreducible] Go.Aw.Ag
theorem jZ {br:Bool} {U:Rd Nd} (ho:AY enc 370 (λb=>[pv b d]) U):lD (λp own=>.Bj [.slice 6 (p.1.map AB) own,.bool p.2]) (·.1) 346 (λb=>[pv b d,.bool br]) (Sp U br):=by
 refine ⟨λ{st0 b s st rows K} hc h=>?_⟩
 unfold Sp at h
 refine pB Tryz.func346 ?_
 have hmu:=hc.mu
 repeat' ((conv=>whnf);(first|refine BM ?_|refine Fq ?_ ?_|fail)<;>intros)
 refine Cn (λl own=>[(4,.slice 6 (l.map AB) own)]) (λ_ _=>[]) [1,2] [0] (λl own=>(own,l)::rows) (λl=>l.length) .full (Cx.push ‹_› []) ‹_› i7 Yl ?_
 intro l s1 st1 own1 hc h hl hm1
 simp only [jR,Rd.Ap,Rd.AF,Rd.wp_seq,Rd.wp_ret,Rd.Bu] at h
 repeat' ((conv=>whnf);(first|refine BM ?_|refine Fq ?_ ?_|fail)<;>intros)
 unfold YY at h
 refine Cn (λl own=>[(4,.slice 6 (l.map AB) own)]) (λ_ _=>[]) [1,2] [0] (λl own=>(own,l)::rows) (λl=>l.length) own1 ‹_› ‹_› hl Yl ?_
 intro l2 s2 st2 own2 hc h hl hm2
 simp only [YX,Rd.Ap,Rd.AF,Rd.wp_seq,Rd.wp_ret,Rd.Bu] at h
 cases br
 .simp only [Bool.false_eq_true,if_false] at h
  repeat' ((conv=>whnf);(first|refine BM ?_|refine Fq ?_ ?_|refine S4 ?_|refine KT ?_ ?_|refine Lv ?_|exact EZ|refine Jn ?_|refine KE ?_|refine ho.go ‹_› ‹_› ?_ ?_|refine O1.pK P2 ‹_› ‹_› ?_ ?_)<;>intros)
 .simp only [if_true] at h
  repeat' ((conv=>whnf);(first|refine BM ?_|refine Fq ?_ ?_|refine S4 ?_|refine KT ?_ ?_|refine Lv ?_|exact EZ|refine Jn ?_|refine KE ?_|refine ho.go ‹_› ‹_› ?_ ?_|refine O1.pK P2 ‹_› ‹_› ?_ ?_)<;>intros)
end
section
variable {st0 st:St} {b d:Nat} {s:Al} {rows:List (AA×List Nd)} {K:At->St->Prop}
attribute [local irreducible] Go.Aw.Ag
theorem js {U:Rd Nd} (ho:AY enc 370 (λb=>[pv b d]) U):AY enc 310 (λb=>[pv b d]) (Za U):=by
 refine ⟨λ{st0 b s st rows K} hc h=>?_⟩
 simp only [Za,Rd.wp_seq,Rd.wp_ret] at h
 refine pB Tryz.func310 ?_
 repeat' ((conv=>whnf);(first|  refine Dh ?_ ?_|exact EZ|refine Jn ?_|refine lD.go (jZ ho) ‹_› ‹_› ?_ ?_)<;>intros)
theorem Ry {A:Al->Rs} {hle:∀s v s',A s=.inr (v,s')->mu s'<=mu s} (hB:El A) (hc:Cx st0 b s st rows) (h:Rd.wp (IQ A hle) s (λv s'=>∀st',Cx st0 b s' st' rows->K (.ret (enc v)) st') (λe s'=>∀st',Cy st0 b s' st' rows->K (.BK (fault e.1)) st')):Em st b K (A s):=by
 cases U:A s with
 |inl p=>
  obtain ⟨e,s'⟩:=p
  unfold Rd.wp at h
  rw [WS hB U] at h
  exact λst' hu=>h st' (hc.ue hu)
 |inr p=>
  obtain ⟨n,s'⟩:=p
  unfold Rd.wp at h
  rw [Ug U] at h
  exact λst' hu=>h st' (hc.NV hu (hle _ _ _ U))
theorem mW {A:Rd Nd} (hd:d<=1000000) (h0:d=0->A=.fail Jg) (hc:Cx st0 b s st rows)
 (h:Rd.wp A s (λv s'=>∀st',Cx st0 b s' st' rows->K (.ret (enc v)) st') (λe s'=>∀st',Cy st0 b s' st' rows->K (.BK (fault e.1)) st'))
 (hg:d≠0->∀K:At->St->Prop,Rd.wp A s (λv s'=>∀st',Cx st0 b s' st' rows->K (.ret (enc v)) st') (λe s'=>∀st',Cy st0 b s' st' rows->K (.BK (fault e.1)) st')->PC g [pv b d] st K):
 PC 355 [pv b (d+1),.func g [] []] st K:=by
 refine pB Tryz.func355 ?_
 by_cases hz:d=0
 .have U:((d+1:Nat):Int)<2:=AC
  rw [h0 hz,Rd.DP] at h
  repeat' ((conv=>whnf);(first|refine BM ?_|refine Cf ?_|exact BO (Cx.y ‹_›) ‹_›)<;>intros)
 .have U:¬((d+1:Nat):Int)<2:=AC
  repeat' ((conv=>whnf);(first|refine SE hd ?_|refine BM ?_|refine hg hz _ (Rd.wp_mono ‹_› ?_ ?_)|refine Cf ?_|exact EZ|fail)<;>intros)
theorem OV {c:Nat} {A:Rd Nd} (hd:d<=1000000) (h0:d=0->A=.fail Jg) (hc:Cx st0 b s st rows)
 (h:Rd.wp A s (λv s'=>∀st',Cx st0 b s' st' rows->K (.ret (enc v)) st') (λe s'=>∀st',Cy st0 b s' st' rows->K (.BK (fault e.1)) st'))
 (hg:d≠0->∀K:At->St->Prop,Rd.wp A s (λv s'=>∀st',Cx st0 b s' st' rows->K (.ret (enc v)) st') (λe s'=>∀st',Cy st0 b s' st' rows->K (.BK (fault e.1)) st')->PC g [pv b d,.ptr c 0] st K):
 PC 355 [pv b (d+1),.func g [] [.ptr c 0]] st K:=by
 refine pB Tryz.func355 ?_
 by_cases hz:d=0
 .have U:((d+1:Nat):Int)<2:=AC
  rw [h0 hz,Rd.DP] at h
  repeat' ((conv=>whnf);(first|refine BM ?_|refine Cf ?_|exact BO (Cx.y ‹_›) ‹_›)<;>intros)
 .have U:¬((d+1:Nat):Int)<2:=AC
  repeat' ((conv=>whnf);(first|refine SE hd ?_|refine BM ?_|refine hg hz _ (Rd.wp_mono ‹_› ?_ ?_)|refine Cf ?_|exact EZ|fail)<;>intros)
theorem DA {A:Rd Nd} (hd:d<=1000000) (h0:d=0->A=.fail Jg) (hg:d≠0->AY enc g (λb=>[pv b d]) A):AY enc 355 (λb=>[pv b (d+1),.func g [] []]) A:=by
 refine ⟨λ{st0 b s st rows K} U h=>?_⟩
 exact mW hd h0 U h λhz K h=>(hg hz).ap U h
end
section
variable {st0 st:St} {b d:Nat} {s:Al} {rows:List (AA×List Nd)} {K:At->St->Prop}
attribute [local irreducible] Go.Aw.Ag
theorem YA (U:d+1<=100):C1 329 ((d+1:Nat):Int) (Gn (Dj (Dk (d+1 - 1)))):=by
 have:=pJ (deep:=((d+1:Nat):Int))
 have e:Dp ((d+1:Nat):Int) - 1=d+1 - 1:=by unfold Dp;split<;>omega
 rw [e] at this;exact this
theorem ar (hd:d+1<=100):AY enc 350 (λb=>[pv b (d+1)]) (JC (d+1)):=by
 refine ⟨λ{st0 b s st rows K} U h=>?_⟩
 have hB:El (Gn (Dj (Dk (d+1 - 1)))):=Sc (GF (EP _))
 have hi:∀{K:At->St->Prop},Rd.wp (JC (d+1)) s (λv s'=>∀st',Cx st0 b s' st' rows->K (.ret (enc v)) st') (λe s'=>∀st',Cy st0 b s' st' rows->K (.BK (fault e.1)) st')->
  PC 110 [.ptr b 0,.func 329 [] [],.int .i64 ((d+1:Nat):Int)] st K:=λh=>
  Qp (d:=d+1) rfl (YA hd) (λe=>by omega) hB U.mu U.has (Ry hB U h)
 refine pB Tryz.func350 ?_
 repeat' ((conv=>whnf);(first|  refine hi (Rd.wp_mono ‹_› ?_ ?_)|exact EZ|fail)<;>intros)
theorem XN {full:Rd Nd} (hf:AY enc 350 (λb=>[pv b d]) full):AY enc 387 (λb=>[pv b d,enc n]) (NU full n):=by
 refine ⟨λ{st0 b s st rows K} U h=>?_⟩
 simp only [NU,Rd.Ap,Rd.AF,Rd.wp_seq,Rd.wp_ret] at h
 refine pB Tryz.func387 ?_
 repeat' ((conv=>whnf);(first|exact C4|refine BM ?_|(refine C5 ?_ ?_ ?_;rotate_left)|refine KT ?_ ?_|refine Lv ?_|exact EZ|refine Jn ?_|refine Aq ?_|refine Fm.go (by first|exact AY.q) ?_ ?_|refine AM [1,3,5,9,6,10,13,14,16] [2] ?_|fail)<;>intros)
theorem qL {U full:Rd Nd} (ho:AY enc 370 (λb=>[pv b d]) U) (hf:AY enc 350 (λb=>[pv b d]) full):AY enc 353 (λb=>[pv b d]) (cM U full):=by
 refine ⟨λ{st0 b s st rows K} hc h=>?_⟩
 simp only [cM,Rd.wp_seq] at h
 refine pB Tryz.func353 ?_
 repeat' ((conv=>whnf);(first|exact C4|(refine C5 ?_ ?_ ?_;rotate_left)|exact EZ|refine Aq ?_|refine Fm.go (by first|  exact (js ho).a|exact (XN hf).a) ?_ ?_|refine Ad 5 [2,3,4] [1] ?_|fail)<;>intros)
theorem V2 {L:EN} {lt U:Nd} (he:AY enc 355 (λb=>[pv b d,.func 353 [] []]) L.exp):AY enc 395 (λb=>[pv b d,enc lt,enc U]) (Nx L lt U):=by
 refine ⟨λ{st0 b s st rows K} hc h=>?_⟩
 simp only [Nx,Rd.wp_seq,Rd.wp_ret] at h
 refine pB Tryz.func395 ?_
 repeat' ((conv=>whnf);(first|exact C4|(refine C5 ?_ ?_ ?_;rotate_left)|refine KA ?_ ?_|exact EZ|refine Jn ?_|refine Aq ?_|refine Fm.go (by first|exact AY.q) ?_ ?_|refine Ad 8 [4,6,7] [3] ?_|fail)<;>intros)
theorem aX {L:EN} (he:AY enc 355 (λb=>[pv b d,.func 353 [] []]) L.exp):pj 413 (λb v=>[pv b d,v,.str w]) (λl=>Of L l w):=by
 refine ⟨λ{st0 b s st rows K own l} hl hc h=>?_⟩
 simp only [Of,bB,Rd.Ap,Rd.AF,Rd.wp_seq,Rd.wp_ret] at h
 refine pB Tryz.func413 ?_
 have U:=hc.mu
 rcases hc.has with hs|⟨t,u,o1,o2,e0,hs⟩
 .skip
  repeat' ((conv=>whnf);(first|refine BM ?_|refine Fq ?_ ?_|refine Ah hs ?_|refine S4 ?_|refine KT ?_ ?_|refine KA ?_ ?_|exact EZ|refine KE ?_|refine Ux ?_|refine bG ‹_› ‹_› (O5 ‹_›) ?_|refine FU ‹_› U ?_|refine Fm.go (by first|exact AY.q) ?_ ?_)<;>intros)
 .skip
  repeat' ((conv=>whnf);(first|refine BM ?_|refine Fq ?_ ?_|refine Ah hs ?_|refine S4 ?_|refine KT ?_ ?_|refine KA ?_ ?_|exact EZ|refine KE ?_|refine Ux ?_|refine bG ‹_› ‹_› (O5 ‹_›) ?_|refine FU ‹_› U ?_|refine Fm.go (by first|exact AY.q) ?_ ?_)<;>intros)
theorem Kd {p:FuncId} {A:Rd Nd} {may:Nd->Bool} (hg:AY enc g (λb=>[pv b d]) A) (hp:∀{s s' n} {st:St} {K:At->St->Prop},A.run s=.inr (n,s')->mu s<=100000000->K (.ret (.bool (may n))) st->PC p [enc n] st K):
 AY enc 341 (λb=>[pv b d,.func g [] [],.func p [] []]) (Dr A may):=by
 refine ⟨λ{st0 b s st rows K} hc h=>?_⟩
 simp only [Dr,Rd.Ap,Rd.AF,Rd.wp_seq,Rd.wp_ret,Rd.GK] at h
 refine pB Tryz.func341 ?_
 have U:=hc.mu
 rcases hc.has with hs|⟨t,u,o1,o2,e0,hs⟩
 .skip
  repeat' ((conv=>whnf);(first|  refine Fq ?_ ?_|refine Ah hs ?_|refine Cf ?_|exact EZ|refine FU ‹_› U ?_|refine Fm.go (by first|exact AY.q) ?_ ?_|refine hp ‹_› U ?_)<;>intros)
 .skip
  repeat' ((conv=>whnf);(first|  refine Fq ?_ ?_|refine Ah hs ?_|refine Cf ?_|exact EZ|refine FU ‹_› U ?_|refine Fm.go (by first|exact AY.q) ?_ ?_|refine hp ‹_› U ?_)<;>intros)
end
structure KS (D:Nat) (L:EN):Prop where
 atom:AY enc 355 (λb=>[pv b D,.func 349 [] []]) L.atom
 exp:AY enc 355 (λb=>[pv b D,.func 353 [] []]) L.exp
 ops:AY enc 355 (λb=>[pv b D,.func 310 [] []]) L.ops
 decls:AY enc 355 (λb=>[pv b D,.func 356 [] []]) L.decls
 stmts:AY enc 355 (λb=>[pv b D,.func 415 [] []]) L.stmts
 alts:AY enc 355 (λb=>[pv b D,.func 397 [] []]) L.alts
 GP:∀{o:Nd} {c:Nat} {st0:St} {b:Nat} {s:Al} {st:St} {rows:List (AA×List Nd)} {K:At->St->Prop},st.box c=some (AB o)->Cx st0 b s st rows->
  Rd.wp (L.GP o) s (λv s'=>∀st',Cx st0 b s' st' rows->K (.ret (enc v)) st') (λe s'=>∀st',Cy st0 b s' st' rows->K (.BK (fault e.1)) st')->PC 355 [pv b D,.func 417 [] [.ptr c 0]] st K
 list:∀{o:Nd} {c:Nat} {st0:St} {b:Nat} {s:Al} {st:St} {rows:List (AA×List Nd)} {K:At->St->Prop},st.box c=some (AB o)->Cx st0 b s st rows->
  Rd.wp (L.list o) s (λv s'=>∀st',Cx st0 b s' st' rows->K (.ret (enc v)) st') (λe s'=>∀st',Cy st0 b s' st' rows->K (.BK (fault e.1)) st')->PC 355 [pv b D,.func 419 [] [.ptr c 0]] st K
theorem tn (h:n.kids.length=0):II n=true:=by
 unfold II;rw [List.length_eq_zero_iff.1 h];rfl
theorem aG {x:Nd} (h:n.kids[((n.kids.length:Nat) - 1:Int).toNat]? =some x):n.kids.getLast? =some x:=by
 rw [List.getLast?_eq_getElem?,<-h];congr 1;omega
theorem tp {x:Nd} (h:n.kids[((n.kids.length:Nat) - 1:Int).toNat]? =some x) (k:x.kind=32\/x.kind=33):II n=true:=by
 unfold II;rw [aG h];simpa using k
theorem tq {x:Nd} (h:n.kids[((n.kids.length:Nat) - 1:Int).toNat]? =some x) (k:¬x.kind=32) (U:¬x.kind=33):¬II n=true:=by
 unfold II;rw [aG h];simp [k,U]
theorem Bb {m:Rd α} {k:α->Rd β} {s:Al} {v:β} (h:(Rd.seq m k).run s=.inr (v,s')):∃a s1,m.run s=.inr (a,s1)/\(k a).run s1=.inr (v,s'):=by
 unfold Rd.seq at h
 dsimp only at h
 split at h
 .cases h
 .exact ⟨_,_,‹_›,h⟩
theorem jt {L:EN} {a b:Nd} {l:List Nd} {s:Al} {n:Nat} (h:(Of L [a,b] w).run s=.inr (l,s')) (U:n<=100000000):l.length<=90000000:=by
 unfold Of at h
 obtain ⟨_,_,_,h⟩:=Bb h
 obtain ⟨_,_,_,h⟩:=Bb h
 obtain ⟨_,_,_,h⟩:=Bb h
 cases h
 exact Nat.le_of_ble_eq_true rfl
section
variable {st0 st:St} {b d:Nat} {s:Al} {rows:List (AA×List Nd)} {K:At->St->Prop} {L:EN} {atom:Rd Nd}
attribute [local irreducible] Go.Aw.Ag
theorem cn (U:KS d L):AY enc 396 (λb=>[pv b d]) (LM L):=by
 refine ⟨λ{st0 b s st rows K} hc h=>?_⟩
 simp only [LM,Rd.wp_seq,Rd.wp_ret] at h
 have hmu:=hc.mu
 refine pB Tryz.func396 ?_
 repeat' ((conv=>whnf);(first|exact C4|(refine C5 ?_ ?_ ?_;rotate_left)|refine KA ?_ ?_|exact EZ|refine Jn ?_|refine Aq ?_|refine Fm.go (by first|  exact (U.exp).a) ?_ ?_|refine pj.go (l:=[_,_]) (aX U.exp) (Nat.le_of_ble_eq_true rfl) (Cx.push ‹_› _) ‹_› ?_ ?_|refine pj.go (aX U.exp) (jt ‹_› hmu) ‹_› ‹_› ?_ ?_|refine AM [1,3,7,4,8,11,13] [] ?_|refine Ad 7 [3,4,5,6] [1] ?_|fail)<;>intros)
theorem kI (hL:KS d L):AY enc 398 (λb=>[pv b d]) (Rr L):=by
 refine ⟨λ{st0 b s st rows K} U h=>?_⟩
 simp only [Rr,Rd.wp_seq,Rd.wp_ret,Rd.AF,Rd.DP] at h
 refine pB Tryz.func398 ?_
 repeat' ((conv=>whnf);first|(refine BM ?_;intros)|(refine Dh ?_ ?_<;>intro _)|(refine KA ?_ ?_<;>(first|intro n s1 st1 hr hm U h|intro e s1 st1 U h))|refine Cf ?_|exact EZ|refine Jn ?_|refine AY.go hL.stmts U h (λn s1 st1 hr hm U h=>?_) (λe s1 st1 U h=>?_))
 all_goals conv=>whnf
 all_goals first
  |(rw [if_pos (tn AC)] at h;exact BO U.y h)
  |(rw [if_pos (tp ‹_› AC)] at h;exact BO U.y h)
  |(rw [if_neg (tq ‹_› AC AC)] at h;exact CL U h rfl)
end
end Go.Proofs.Z
