/-
  Parts of a proof: lemmas that the last text uses.
-/
import Derived.Test.YtpaiiicnhgoijaaGreatDoorS3
import Derived.RangeFuncRecord
import Derived.RangeFuncSeq
import Derived.OrdersIn
set_option linter.unusedVariables false
set_option linter.unusedSimpArgs false
set_option maxHeartbeats 16000000
variable {d b p c id d':Nat} {l:List Go.Aw.Nd} {r s x w:List UInt8} {n:Go.Aw.Nd} {k i v:Int} {t:Go.Proofs.Z.Tk} {o:Option (List (Int×List UInt8))} {s':Go.Proofs.Z.Ag} {f g:Go.FuncId} {ks:List Int} {item A stmt:Go.Proofs.Z.Rd Go.Aw.Nd} {Q:List Go.Aw.Nd->Go.Proofs.Z.Ag->Prop} {B P:Prop} {E:Go.Proofs.Z.Er->Go.Proofs.Z.Ag->Prop} {K:Go.Aw.Ay->Go.Aw.St->Prop} {cs:List Go.Aw.V} {α σ β:Type} {mk:Nat->List Go.Aw.V} {st0 st':Go.Aw.St} {rows:List (Go.Aw.AB×List Go.Aw.Nd)} {args:Array Go.Value} {ih:(Go.Aw.AG->Go.Aw.Env->Go.Aw.St->Prop)->Go.Aw.Env->Go.Aw.St->Prop} {Q0:Go.Aw.AG->Go.Aw.Env->Go.Aw.St->Prop} {env:Go.Aw.Env} {br:Bool} {ops:Array Go.Oper} {w':Go.World}
namespace Go.Aw
open Go
theorem Ya (l:List UInt8):0<G2 l↔(AU l=13\/AU l=10\/AU l=12):=by
 rcases EN l with ⟨e,h⟩|⟨e,h,_⟩|⟨e,h,_⟩
 .omega
 .omega
 omega
theorem lZ {l:List UInt8} {m n:Nat} (hm:m<=l.length) (h:Cc d l=some n) (hn:n<=m):Cc d (tr l m r)=some n:=by
 fun_induction Cc d l generalizing m n with
 |case1=>cases h
 |case2 d a l hc ih=>
  obtain ⟨k,hk,rfl⟩:=Option.map_eq_some_iff.1 h
  have h2:=GU _ _ _ hk
  obtain ⟨m,rfl⟩:∃j,m=j+1:=⟨m - 1,AC⟩
  have hl:m<=l.length:=by simpa using hm
  show Cc d (a::tr l m r)=_
  rw [Cc,if_pos ⟨hc.1,by rw [NZ AC hl];omega⟩,I7 AC hl,ih (by grind) hk AC]
  rfl
 |case3 d a l hc hk hd=>
  injection h with h
  subst h
  obtain ⟨m,rfl⟩:∃j,m=j+1:=⟨m - 1,AC⟩
  have hl:m<=l.length:=by simpa using hm
  show Cc d (a::tr l m r)=_
  rw [Cc,if_neg AC,if_pos ⟨hk.1,by rw [NZ AC hl];omega⟩,if_pos hd]
 |case4 d a l hc hk hd ih=>
  obtain ⟨k,U,rfl⟩:=Option.map_eq_some_iff.1 h
  have h2:=GU _ _ _ U
  obtain ⟨m,rfl⟩:∃j,m=j+1:=⟨m - 1,AC⟩
  have hl:m<=l.length:=by simpa using hm
  show Cc d (a::tr l m r)=_
  rw [Cc,if_neg AC,if_pos ⟨hk.1,by rw [NZ AC hl];omega⟩,if_neg hd,I7 AC hl,ih (by grind) U AC]
  rfl
 |case5 d a l hc hk ih=>
  obtain ⟨k,U,rfl⟩:=Option.map_eq_some_iff.1 h
  have h2:=GU _ _ _ U
  obtain ⟨m,rfl⟩:∃j,m=j+1:=⟨m - 1,AC⟩
  have hl:m<=l.length:=by simpa using hm
  show Cc d (a::tr l m r)=_
  rw [Cc,if_neg (by rw [NZ AC hl];exact hc),if_neg (by rw [NZ AC hl];exact hk),ih hl U AC]
  rfl
def oe (r:List UInt8):Prop:=AU r= -1\/AU r=10
theorem oe.sf (h:oe r):rh r:=by unfold oe at h;unfold rh;omega
theorem oO {l:List UInt8} {m:Nat} (hr:oe r) (U:m<=l.length) (h:Dk l<=m):Dk (tr l m r)=Dk l:=by
 have e0:Dk r=0:=by
  cases r with
  |nil=>rfl
  |cons a r=>
   unfold oe at hr
   have:((a.toNat:Nat):Int)=AU (a::r):=rfl
   rw [Dk,if_pos ((Ya _).2 AC)]
 induction l generalizing m with
 |nil=>
  have:m=0:=by simpa using U
  subst this
  rw [OT,e0];rfl
 |cons a l ih=>
  cases m with
  |zero=>rw [OT,e0];omega
  |succ m=>
   have hl:m<=l.length:=by simpa using U
   show Dk (a::tr l m r)=_
   have hp:0<G2 (a::tr l m r)↔0<G2 (a::l):=by rw [Ya,Ya];exact Iff.rfl
   unfold Dk at h |-
   grind
theorem cG {l:List UInt8} {m:Nat} (hr:oe r) (hv:Vd l) (hb:Bd l m) (U:m<=l.length) (h:0<Ep l) (hn:Ep l<=m):Ep (tr l m r)=Ep l:=by
 unfold Ep at h hn |-
 dsimp only at h hn |-
 split at h
 .rename_i hc
  rw [if_pos hc] at hn |-
  have e:BS (λc=>AH c==5) (tr l m r)=BS (λc=>AH c==5) l:=mr hv hb U (iQ (p:=λc=>AH c==5) hr.sf Do Do) (show Bs _ l<=m by show BS (λc=>AH c==5) l<=m;omega)
  rw [e,mI AC U,if_pos hc,I7 AC U,oO hr (by grind) AC]
 .omega
theorem l7 {l:List UInt8} {m n:Nat} (hr:oe r) (hv:Vd l) (hb:Bd l m) (U:m<=l.length) (h0:0<n) (h:Dt l=n) (hn:n<=m):Dt (tr l m r)=n:=by
 unfold Dt at h |-
 split at h
 .rename_i hc
  cases ht:Cc 1 (l.drop 2) with
  |none=>rw [ht] at h;simp only [Ei] at h;omega
  |some k=>
   rw [ht] at h
   simp only [Ei] at h
   have h2:=GU _ _ _ ht
   rw [NZ AC U,jr AC U,if_pos hc,I7 AC U,lZ (by grind) ht AC]
   simp only [Ei];omega
 .rename_i hc
  split at h
  .rename_i hd
   have h:Ep l=n:=AC
   rw [NZ AC U,if_neg,if_pos hd,cG hr hv hb U AC AC,h]
   omega
  .omega
theorem ct {l:List UInt8} {n:Nat} (U:Vd l) (h0:0<n) (h:Dt l=n):Dt (l.take n)=(l.take n).length/\(l.take n).length=n:=by
 have hle:=U9 l
 have hc:=BG.note U h
 have e:=l7 (r:=[]) (.inl rfl) U hc.bd AC h0 h (Nat.le_refl _)
 unfold tr at e
 simp_all
end Go.Aw
namespace Go.Proofs.Z
open Go Go.Aw
def rF (t:Tk):Int×Int:=(t.line,t.Ce)
def rA (n:Nt):Int×Int:=(n.line,n.Ce)
def nk (t:List UInt8):Prop:=t≠[]/\Dt t=(t.length:Nat)
structure N3 (s:List UInt8) (p:Nat) (x:Lx):Prop where
 t:x.AA.Pairwise λa b=>cg (rF a) (rF b)
 tp:∀a ∈ x.AA,cg (rF a) (CY s p)
 n:x.notes.Pairwise λa b=>cg (rA a) (rA b)/\a.Ds<=b.Ds
 np:∀a ∈ x.notes,cg (rA a) (CY s p)/\0<=a.Ds/\a.Ds<=x.Ds/\(a.wh=1\/a.wh=2\/a.wh=3)/\nk a.text
 g:0<=x.Ds/\x.Ds<=x.AA.length
theorem hZ {a:Nat}:AY s a b=(s.drop a).take (b - a):=by unfold AY;rw [List.drop_take]
theorem N3.le {q:Nat} {x:Lx} (h:N3 s p x) (hp:BG s p) (hq:BG s q) (hpq:p<q):N3 s q x:=
 have l:=dX hp hq hpq
 ⟨h.t,λa U=>(h.tp a U).trans l,h.n,λa U=>⟨(h.np a U).1.trans l,(h.np a U).2⟩,h.g⟩
theorem N3.tok {q:Nat} {x:Lx} (h:N3 s p x) (hp:BG s p) (hq:BG s q) (hpq:p<q):N3 s q (Oe s p q k x):=by
 have h':=h.le hp hq hpq
 have hg:=h.g
 have hgg:x.Ds<=(Oe s p q k x).Ds/\(Oe s p q k x).Ds<=x.Ds+1:=by
  show x.Ds<=(if cntF k (AY s p q) then x.Ds+1 else x.Ds)/\(if cntF k (AY s p q) then x.Ds+1 else x.Ds)<=x.Ds+1
  split<;>omega
 refine ⟨?_,?_,h.n,λa U=>?_,?_⟩
 .refine List.pairwise_append.2 ⟨h.t,List.pairwise_singleton _ _,λa U b hb=>?_⟩
  rw [List.mem_singleton] at hb;subst hb
  exact h.tp a U
 .intro a U
  rcases List.mem_append.1 U with U|U
  .exact h'.tp a U
  .rw [List.mem_singleton] at U;subst U
   exact dX hp hq hpq
 .have:=h'.np a U
  grind
 .have:(Oe s p q k x).AA.length=x.AA.length+1:=by simp [Oe]
  omega
theorem N3.note {q:Nat} {x:Lx} (hv:Vd s) (h:N3 s p x) (hp:BG s p) (hq:BG s q) (hpq:p<q) (hn:Dt (s.drop p)=(q - p:Nat)):N3 s q (RJ s p q x):=by
 have h':=h.le hp hq hpq
 have hg:=h.g
 refine ⟨h.t,h'.tp,?_,?_,h.g⟩
 .refine List.pairwise_append.2 ⟨h.n,List.pairwise_singleton _ _,λa U b hb=>?_⟩
  rw [List.mem_singleton] at hb;subst hb
  exact ⟨(h.np a U).1,(h.np a U).2.2.1⟩
 .intro a U
  rcases List.mem_append.1 U with U|U
  .exact h'.np a U
  .rw [List.mem_singleton] at U;subst U
   refine ⟨dX hp hq hpq,hg.1,Int.le_refl _,?_,?_⟩
   .grind
   .show nk (AY s p q)
    rw [hZ]
    have e:=ct (hp.bd.vd hv) AC hn
    refine ⟨λe0=>?_,e.1⟩
    grind
theorem N3.qa {s:List UInt8} {p:Nat} {x:Lx} (hv:Vd s) (h:N3 s p x) (U:BG s p):N3 s (DB s p) x:=by
 by_cases e:p=DB s p
 .grind
 .exact h.le U (U.qa hv) (by have:=(LC U.le).1;omega)
end Go.Proofs.Z
namespace Go.Aw
open Go
def oD (l:List UInt8):Nat:=BS (λc=>AH c==1) l
def rk (l:List UInt8):List UInt8:=l.drop (oD l)
def Cl (l:List UInt8):Prop:=Bs (λd=> !(AH (d.1:Nat)==0)) l=l.length
theorem WT {p:Nat×Nat->Bool} {l:List UInt8} {k:Nat} (hv:Vd l) (hb:Bd l k) (hk:k<=l.length) (h:Bs p l=l.length):Bs p (l.take k)=(l.take k).length/\Bs p (l.drop k)=(l.drop k).length:=by
 have e:l.take k=tr l k []:=by unfold tr;rw [List.append_nil]
 rw [e]
 induction hb with
 |zero l=>exact ⟨by rw [OT,Eb];rfl,h⟩
 |@step l k U hb ih=>
  have hd:=eM (r:=[]) hv (by have:=DR l;omega) hk (.step U hb)
  have hl:=Gd U
  have hp:=DR l
  have hc:p (AJ l)=true:=by
   cases hc:p (AJ l) with
   |true=>rfl
   |false=>rw [EC hc] at h;omega
  have hne':tr l ((AJ l).2+k) []≠[]:=λe=>by simp_all
  rw [Cs U hc] at h
  have ih:=ih (hv.rune U).2 (by grind) (by grind) (by unfold tr;simp_all)
  rw [Cs hne' ke,hd.1,I7 AC hk,show (AJ l).2+k - (AJ l).2=k by omega,ih.1]
  rw [List.drop_drop] at ih
  refine ⟨?_,ih.2⟩
  rw [YH hk,YH (by grind)]
  rfl
theorem Vd.take {l:List UInt8} {k:Nat} (U:Vd l) (hb:Bd l k) (hk:k<=l.length):Vd (l.take k):=(WT (p:=Dd) U hb hk U).1
theorem Cl.take {l:List UInt8} {k:Nat} (h:Cl l) (hv:Vd l) (hb:Bd l k) (U:k<=l.length):Cl (l.take k):=(WT hv hb U h).1
theorem Cl.drop {l:List UInt8} {k:Nat} (h:Cl l) (hv:Vd l) (hb:Bd l k) (U:k<=l.length):Cl (l.drop k):=(WT hv hb U h).2
theorem Cl.app {l t:List UInt8} (h:Cl l) (U:Vd l) (k:Cl t):Cl (l++t):=by
 unfold Cl at *
 rw [RV l t U,if_pos h,k,List.length_append]
theorem kf (l:List UInt8):oD (rk l)=0:=by
 by_cases h:oD l<l.length
 .have:=Qs (λc=>AH c==1) l h
  exact Qr this
 .have:rk l=[]:=List.drop_eq_nil_iff.2 AC
  rw [this];exact RW _
theorem Vd.sp:Vd [32]:=by unfold Vd;rw [Cs GT Do];rw [show (([32]:List UInt8).drop (AJ [32]).2)=[] from by rfl,Eb,EY Do];rfl
theorem Vd.nl:Vd [10]:=by unfold Vd;rw [Cs GT Do];rw [show (([10]:List UInt8).drop (AJ [10]).2)=[] from by rfl,Eb,EY Do];rfl
theorem Cl.sp:Cl [32]:=by unfold Cl;rw [Cs GT Do];rw [show (([32]:List UInt8).drop (AJ [32]).2)=[] from by rfl,Eb,EY Do];rfl
theorem Cl.nl:Cl [10]:=by unfold Cl;rw [Cs GT Do];rw [show (([10]:List UInt8).drop (AJ [10]).2)=[] from by rfl,Eb,EY Do];rfl
end Go.Aw
namespace Go.Proofs.Z
open Go Go.Aw
def ry (l:List Tk):List (Int×List UInt8):=l.map λt=>(t.kind,t.text)
def Q2 (is:Option (List (Int×List UInt8))) (x:Lx) (r:Sum (Int×Int) Lx):Prop:=match is with
 |none=>∃e,r=.inl e
 |some is=>∃y,r=.inr y/\ry y.AA=ry x.AA++is.filter (λt=>t.1 !=0)/\y.notes.map (·.text)=x.notes.map (·.text)++(is.filter (λt=>t.1==0)).map (·.2)
theorem Q2.tok {q:Nat} {x:Lx} {r:Sum (Int×Int) Lx} (h:Q2 o (Oe s p q k x) r) (hk:k≠0) {t:List UInt8} (ht:t=AY s p q):Q2 (o.map ((k,t)::·)) x r:=by
 subst ht
 cases o with
 |none=>exact h
 |some is=>
  obtain ⟨y,h1,h2,h3⟩:=h
  refine ⟨y,h1,?_,?_⟩
  .have U:(((k,AY s p q)::is).filter λt:Int×List UInt8=>t.1 !=0)=(k,AY s p q)::is.filter λt=>t.1 !=0:=List.filter_cons_of_pos ke
   rw [U,h2]
   simp [ry,Oe]
  .have U:(((k,AY s p q)::is).filter λt:Int×List UInt8=>t.1==0)=is.filter λt=>t.1==0:=List.filter_cons_of_neg ke
   rw [U,h3];rfl
theorem Q2.note {q:Nat} {x:Lx} {r:Sum (Int×Int) Lx} (h:Q2 o (RJ s p q x) r) {t:List UInt8} (ht:t=AY s p q):Q2 (o.map ((0,t)::·)) x r:=by
 subst ht
 cases o with
 |none=>exact h
 |some is=>
  obtain ⟨y,h1,h2,h3⟩:=h
  refine ⟨y,h1,?_,?_⟩
  .have U:(((0,AY s p q)::is).filter λt:Int×List UInt8=>t.1 !=0)=is.filter λt=>t.1 !=0:=List.filter_cons_of_neg GT
   rw [U,h2];rfl
  .have U:(((0,AY s p q)::is).filter λt:Int×List UInt8=>t.1==0)=(0,AY s p q)::is.filter λt=>t.1==0:=List.filter_cons_of_pos GT
   rw [U,h3]
   simp [RJ]
theorem ga {x:Lx} (h:¬p<s.length):Jn s p x=.inr x:=by rw [Jn,dif_neg h]
theorem fZ {x:Lx} (h:p<s.length) (U:(CE s p).2≠0):Jn s p x=.inl ((p:Nat),(CE s p).2):=by rw [Jn,dif_pos h,if_pos U]
theorem bU {q:Nat} {x:Lx} (h:p<s.length) (U:(CE s p).2=0) (h2:(CE s p).1=(q:Nat)) (h3:p<q):Jn s p x=Jn s (DB s q) (RJ s p q x):=by
 rw [Jn,dif_pos h,if_neg (λe=>e U),if_pos AC,h2,Int.toNat_natCast,dif_pos h3]
theorem gb {x:Lx} (h:p<s.length) (U:(CE s p).2=0) (h2:¬0<(CE s p).1) (h3:(C6 s p).2.2≠0):Jn s p x=.inl ((C6 s p).2.1,(C6 s p).2.2):=by
 rw [Jn,dif_pos h,if_neg (λe=>e U),if_neg h2,if_pos h3]
theorem gh {q:Nat} {x:Lx} (h:p<s.length) (U:(CE s p).2=0) (h2:¬0<(CE s p).1) (h3:(C6 s p).2.2=0) (h4:(C6 s p).2.1=(q:Nat)) (h5:p<q):Jn s p x=Jn s (DB s q) (Oe s p q (C6 s p).1 x):=by
 rw [Jn,dif_pos h,if_neg (λe=>e U),if_neg h2,if_neg (λe=>e h3),h4,Int.toNat_natCast,dif_pos h5]
structure LW where
 p:Nat
 sp:Nat
 x:Lx
 w1:AB
 w2:AB
 m:St
theorem di (l:List Tk) (t:Tk):AD (l++[t])=AD l++[t.cells]:=by simp [AD]
theorem Yb (l:List Nt) (t:Nt):KF (l++[t])=KF l++[t.cells]:=by simp [KF]
theorem IE (l:List Nt):(KF l).length=l.length:=by simp [KF]
theorem ko (s:List UInt8) (p:Nat):DB s (DB s p)=DB s p:=by
 have h:=kf (s.drop p)
 have e:rk (s.drop p)=s.drop (DB s p):=by unfold rk;rw [List.drop_drop];rfl
 rw [e] at h
 exact Nat.add_eq_left.2 h
section
variable {st:St} {R:Ay->St->Prop}
attribute [local irreducible] Go.Aw.Ah
theorem UL (c:Nat) (U:c<=1114111):PC 57 [.int .i32 (c:Int)] pz λr _=>r=.ret (.bool (AH (c:Int)==0)):=by
 refine pB Tryz.func57 ?_
 repeat' ((conv=>whnf);first|(refine Bp ?_;intros)|(refine Bq ?_ ?_<;>intro _)|refine J4 ?_)
 all_goals first|exact Aq rfl (by simp [*])|(conv=>whnf;simp [*])
theorem qG (h1:∀i e,Iz s=.inl (i,e)->R (.ret (.Bu [.slice 4 [] .full,.slice 5 [] .full,.int .i64 i,.int .i64 e])) st)
 (h1':∀i e st',st.le st'->Iz s=.inl (i,e)->R (.ret (.Bu [.slice 4 [] .full,.slice 5 [] .full,.int .i64 i,.int .i64 e])) st')
 (h2:∀x w1 w2 st',Iz s=.inr x->st.le st'->R (.ret (.Bu [.slice 4 (AD x.AA) w1,.slice 5 (KF x.notes) w2,.int .i64 0,.int .i64 0])) st'):PC 22 [.str s] st R:=by
 refine A1 Ad [30] Tryz.func22 rfl Do rfl ?_
 by_cases hl:16777216<s.length
 .have e:Iz s=.inl (0,3):=by unfold Iz;rw [if_pos hl]
  refine Am Ad ?_
  repeat' ((conv=>whnf);first|exact CL|(refine Bp ?_;intros)|(refine CM ?_ ?_ ?_;rotate_left)|(refine Bq ?_ ?_<;>intro _)|refine Kt (λ_=>?_) ?_|refine WJ (λ_=>?_)|with_reducible refine WF ?_)
  exact fin (h1 _ _ e) rfl
 .by_cases hk:(ML s).2=0
  .by_cases hx:0<=bM (λc=>AH (c:Nat)==0) s
   .have e:Iz s=.inl (bM (λc=>AH (c:Nat)==0) s,70):=by unfold Iz;rw [if_neg hl,if_neg (λx=>x hk),if_pos hx]
    refine Am Ad ?_
    repeat' ((conv=>whnf);first|exact CL|(refine Bp ?_;intros)|(refine CM ?_ ?_ ?_;rotate_left)|(refine Bq ?_ ?_<;>intro _)|refine Kt (λ_=>?_) ?_|refine WJ (λ_=>?_)|refine Sl ?_|refine Zv (p:=λc=>AH (c:Nat)==0) UL ?_|with_reducible refine WF ?_)
    exact fin (h1 _ _ e) rfl
   .have e:Iz s=Jn s (DB s 0) qJ:=by unfold Iz;rw [if_neg hl,if_neg (λx=>x hk),if_neg hx]
    have hv:=oG hk
    refine Ak (Am Ad ?_)
    repeat' ((conv=>whnf);first|exact CL|(refine Bp ?_;intros)|(refine CM ?_ ?_ ?_;rotate_left)|(refine Bq ?_ ?_<;>intro _)|refine Kt (λ_=>?_) ?_|with_reducible refine WF ?_)
    refine Ak (Am Ad ?_)
    repeat' ((conv=>whnf);first|exact CL|(refine Bp ?_;intros)|(refine CM ?_ ?_ ?_;rotate_left)|(refine Bq ?_ ?_<;>intro _)|refine Kt (λ_=>?_) ?_|refine WJ (λ_=>?_)|with_reducible refine WF ?_)
    refine Ak (Am Ad ?_)
    repeat' ((conv=>whnf);first|exact CL|(refine Bp ?_;intros)|(refine CM ?_ ?_ ?_;rotate_left)|(refine Bq ?_ ?_<;>intro _)|refine Kt (λ_=>?_) ?_|refine Sl ?_|with_reducible refine WF ?_)
    refine Ak (Am Ad ?_)
    repeat' ((conv=>whnf);first|exact CL|(refine Bp ?_;intros)|(refine CM ?_ ?_ ?_;rotate_left)|(refine Bq ?_ ?_<;>intro _)|refine Kt (λ_=>?_) ?_|refine Zv (p:=λc=>AH (c:Nat)==0) UL ?_|with_reducible refine WF ?_)
    refine Ak (Am Ad ?_)
    repeat' ((conv=>whnf);first|exact CL|(refine Bp ?_;intros)|(refine CM ?_ ?_ ?_;rotate_left)|(refine Bq ?_ ?_<;>intro _)|refine Kt (λ_=>?_) ?_|refine Si (λb fb=>?_)|with_reducible refine WF ?_)
    have hb0:=fb.1
    have hq0:=LC (s:=s) (p:=0) AC
    refine Am Ad ?_
    repeat' ((conv=>whnf);first|exact CL|(refine Bp ?_;intros)|(refine CM ?_ ?_ ?_;rotate_left)|(refine Bq ?_ ?_<;>intro _)|refine Kt (λ_=>?_) ?_|refine LB (p:=0) AC AC (St.AK _ _ _) ?_|with_reducible refine WF ?_)
    refine S0 (α:=LW) (λ_=>[]) [0,6] [] (λy=>y.m) (λy=>y.m.box b=some (OB s y.p y.sp (CY s y.sp).1 (CY s y.sp).2 (AD y.x.AA) (KF y.x.notes) y.w1 y.w2 y.x.Ds y.x.ends y.x.j)/\B0 st y.m y.w1 (y.x.AA.length*4) y.w2 (y.x.notes.length*5)/\
     BG s y.sp/\BG s y.p/\y.sp<=y.p/\0<=y.x.Ds/\y.x.Ds<=y.p/\y.x.AA.length<=y.p/\y.x.notes.length<=y.p/\Jn s (DB s 0) qJ=Jn s y.p y.x)
     (λy=>s.length - y.p) ⟨DB s 0,0,qJ,.full,.full,_⟩ ⟨?_,⟨trivial,trivial,trivial,trivial,trivial,St.An (St.An (St.le_refl _) hb0 _) hb0 _⟩,.zero s,BG.qa hv (.zero s),by simp only [];omega,Int.le_refl _,by simp only [qJ];omega,Nat.zero_le _,Nat.zero_le _,rfl⟩ Yl (St.le_refl _) ?_
    .have e0:CY s 0=(1,1):=EK
     dsimp only
     rw [e0]
     exact St.AK _ _ _
    rintro ⟨p,sp,x,w1,w2,m⟩ ⟨j1,j2,j3,j4,j5,j6,j7,j8,j9,U⟩
    dsimp only at j1 j2 j3 j4 j5 j6 j7 j8 j9 U |-
    have hp:=j4.le
    by_cases hpl:p<s.length
    .have hns:=λ{R:Ay->St->Prop}=>l6 (st:=m) (R:=R) (s:=s) (pos:=p) AC hpl
     by_cases n2:(CE s p).2=0
     .rw [n2] at hns
      by_cases n1:0<(CE s p).1
      .obtain ⟨q,e1,e2,e3,e4⟩:=gP hv j4 n2 n1
       rw [e1] at hns
       rw [bU hpl n2 e1 e2] at U
       have hq:=LC e3
       have hnt:=λ{R:Ay->St->Prop}=>pA (st:=m) (R:=R) (st0:=st) AC hv j3 j4 e4 j5 AC ⟨j6,AC⟩ (by rw [IE];omega) hb0 (by rw [IE];exact j2) j1
       repeat' ((conv=>whnf);first|exact CL|(refine Bp ?_;intros)|(refine CM ?_ ?_ ?_;rotate_left)|(refine Bq ?_ ?_<;>intro _)|refine Kt (λ_=>?_) ?_|refine hns ?_|refine Al j1 ?_|refine WJ (λ_=>?_)|refine hnt (λv2 st' sp' c' hs' hR hB=>?_)|refine LB (p:=DB s q) AC AC hB ?_|with_reducible refine WF ?_)
       all_goals conv=>whnf
       have eb:=ko s q
       refine ⟨⟨DB s q,sp',RJ s p q x,w1,v2,_⟩,⟨?_,?_,c',e4.qa hv,hs',j6,by show x.Ds<=_;simp only [];omega,by show x.AA.length<=_;simp only [];omega,by show (x.notes++[_]).length<=_;rw [List.length_append,List.length_singleton];simp only [];omega,U⟩,by simp only [];omega,Yl,St.le_refl _⟩
       .refine (St.AK _ _ _).trans ?_
        show _=some (OB s (DB s q) sp' _ _ (AD x.AA) (KF (x.notes++[_])) w1 v2 x.Ds (CY s q).1 _)
        rw [Yb]
        exact congrArg (λz=>some (OB s z sp' _ _ _ _ _ _ _ _ _)) eb
       .show B0 st _ w1 (x.AA.length*4) v2 ((x.notes++[_]).length*5)
        rw [List.length_append,List.length_singleton]
        rw [IE] at hR
        exact hR.set hb0 _
      .have hlx:=λ{R:Ay->St->Prop}=>gi (st:=m) (R:=R) AC hpl j1
       by_cases k2:(C6 s p).2.2=0
       .obtain ⟨k1,q,e1,e2,e3,e4⟩:=gj hv j4 k2
        rw [k2,e1] at hlx
        rw [gh hpl n2 n1 k2 e1 e2] at U
        have hq:=LC e3
        have htk:=λ{R:Ay->St->Prop}=>jm (st:=m) (R:=R) (st0:=st) (k:=(C6 s p).1) (e0:=0) AC hv j3 j4 e4 j5 AC ⟨j6,AC⟩ (by rw [F1];omega) hb0 (by rw [F1];exact j2) j1
        repeat' ((conv=>whnf);first|exact CL|(refine Bp ?_;intros)|(refine CM ?_ ?_ ?_;rotate_left)|(refine Bq ?_ ?_<;>intro _)|refine Kt (λ_=>?_) ?_|refine hns ?_|refine Al j1 ?_|refine WJ (λ_=>?_)|refine hlx ?_|refine htk (λv1 st' hR hB=>?_)|refine LB (p:=q) AC e3 hB ?_|with_reducible refine WF ?_)
        all_goals conv=>whnf
        have hgap:(Oe s p q (C6 s p).1 x).Ds=x.Ds\/(Oe s p q (C6 s p).1 x).Ds=x.Ds+1:=by
         show (if cntF (C6 s p).1 (AY s p q) then x.Ds+1 else x.Ds)=_\/(if cntF (C6 s p).1 (AY s p q) then x.Ds+1 else x.Ds)=_
         split
         .exact .inr rfl
         .exact .inl rfl
        refine ⟨⟨DB s q,q,Oe s p q (C6 s p).1 x,v1,w2,_⟩,⟨?_,?_,e4,e4.qa hv,hq.1,by simp only [];omega,by simp only [];omega,by show (x.AA++[_]).length<=_;rw [List.length_append,List.length_singleton];simp only [];omega,by show x.notes.length<=_;simp only [];omega,U⟩,by simp only [];omega,Yl,St.le_refl _⟩
        .refine (St.AK _ _ _).trans ?_
         show _=some (OB s (DB s q) q _ _ (AD (x.AA++[_])) (KF x.notes) v1 w2 _ (CY s q).1 true)
         rw [di]
         rfl
        .show B0 st _ v1 ((x.AA++[_]).length*4) w2 (x.notes.length*5)
         rw [List.length_append,List.length_singleton]
         rw [F1] at hR
         exact hR.set hb0 _
       .rw [gb hpl n2 n1 k2] at U
        repeat' ((conv=>whnf);first|exact CL|(refine Bp ?_;intros)|(refine CM ?_ ?_ ?_;rotate_left)|(refine Bq ?_ ?_<;>intro _)|refine Kt (λ_=>?_) ?_|refine hns ?_|refine Al j1 ?_|refine WJ (λ_=>?_)|refine hlx ?_|with_reducible refine WF ?_)
        exact fin (h1' _ _ _ j2.le (e.trans U)) rfl
     .rw [fZ hpl n2] at U
      repeat' ((conv=>whnf);first|exact CL|(refine Bp ?_;intros)|(refine CM ?_ ?_ ?_;rotate_left)|(refine Bq ?_ ?_<;>intro _)|refine Kt (λ_=>?_) ?_|refine hns ?_|refine Al j1 ?_|refine WJ (λ_=>?_)|with_reducible refine WF ?_)
      exact fin (h1' _ _ _ j2.le (e.trans U)) rfl
    .rw [ga hpl] at U
     repeat' ((conv=>whnf);first|exact CL|(refine Bp ?_;intros)|(refine CM ?_ ?_ ?_;rotate_left)|(refine Bq ?_ ?_<;>intro _)|refine Kt (λ_=>?_) ?_|refine Al j1 ?_|refine WJ (λ_=>?_)|with_reducible refine WF ?_)
     exact fin (h2 x w1 w2 m (e.trans U) j2.le) rfl
  .have e:Iz s=.inl ((ML s).1,(ML s).2):=by unfold Iz;rw [if_neg hl,if_pos hk]
   refine Am Ad ?_
   repeat' ((conv=>whnf);first|exact CL|(refine Bp ?_;intros)|(refine CM ?_ ?_ ?_;rotate_left)|(refine Bq ?_ ?_<;>intro _)|refine Kt (λ_=>?_) ?_|refine WJ (λ_=>?_)|refine Sl ?_|with_reducible refine WF ?_)
   exact fin (h1 _ _ e) rfl
end
section
variable {st:St} {R:Ay->St->Prop}
def Qg (k:Int) (t:List UInt8):Bool:=decide (¬k=15)||(!(t==[123])&& !(t==[125])&& !(t==[59]))
theorem RQ {ln Ce:Int} {t:List UInt8} (h:R (.ret (.bool (Qg k t))) st):PC 65 [.agg [.int .i64 k,.str t,.int .i64 ln,.int .i64 Ce]] st R:=by
 refine pB Tryz.func65 ?_
 unfold Qg at h
 repeat' ((conv=>whnf);first|(refine Bp ?_;intros)|(refine Bq ?_ ?_<;>intro _)|fail)
 all_goals first
  |(refine Aq h ?_;simp only [*];rfl)
  |(refine Aq h ?_;simp [*])
  |(rename_i U;refine Aq h ?_;simp [U])
  |(rename_i U h2;refine Aq h ?_;simp [U,h2])
  |(rename_i U h2 h3;refine Aq h ?_;simp [U,h2,h3])
  |(rename_i U h2 h3 h4;refine Aq h ?_;simp [U,h2,h3,h4])
end
def QI (t:Tk):Bool:= !(t.kind==16)&&(!(t.kind==17)&&Qg t.kind t.text)
def BW (l:List Tk):List Tk:=l.filter QI
def KZ (l:List Tk) (a b:Int):List Tk:=(l.take b.toNat).drop a.toNat
theorem LG {l:List Tk} {a:Int}:KZ l a a=[]:=by
 unfold KZ
 exact List.drop_eq_nil_iff.2 NE
theorem kB {l:List Tk} {a:Int} (U:0<=a) (h:l[a.toNat]? =some t):KZ l a (a+1)=[t]:=by
 unfold KZ
 rw [show (a+1).toNat=a.toNat+1 by omega,List.take_add_one,h]
 have hl:=(List.getElem?_eq_some_iff.1 h).1
 rw [List.drop_append,List.drop_eq_nil_iff.2 NE,List.length_take,Nat.min_eq_left AC,Nat.sub_self]
 rfl
theorem kA {l:List Tk} {a b c:Int} (h0:0<=a) (h1:a<=b) (h2:b<=c):KZ l a b++KZ l b c=KZ l a c:=by
 unfold KZ
 obtain ⟨x,rfl⟩:∃x:Nat,a=x:=⟨a.toNat,AC⟩
 obtain ⟨y,rfl⟩:∃y:Nat,b=y:=⟨b.toNat,AC⟩
 obtain ⟨z,rfl⟩:∃z:Nat,c=z:=⟨c.toNat,AC⟩
 simp only [Int.toNat_natCast]
 have e:l.take y=(l.take z).take y:=by rw [List.take_take,Nat.min_eq_left AC]
 rw [e]
 generalize l.take z=m
 have hx:m.drop x=(m.take y).drop x++m.drop y:=by
  have U:m=m.take y++m.drop y:=(List.take_append_drop y m).symm
  by_cases hy:y<=m.length
  .conv=>lhs;rw [U]
   rw [List.drop_append,List.length_take,Nat.min_eq_left hy,show x - y=0 by omega,List.drop_zero]
  .rw [List.drop_eq_nil_iff.2 (show m.length<=y by omega),List.append_nil,List.take_of_length_le AC]
 exact hx.symm
structure Ps (s s':Ag) (m:List Tk):Prop where
 tk:s'.AA=s.AA
 le:s.pos<=s'.pos
 ok:s'=s\/(0<=s.pos/\s'.pos<=s.AA.length)
 eq:BW m=BW (KZ s.AA s.pos s'.pos)
theorem Ps.nil (s:Ag):Ps s s []:=⟨rfl,Int.le_refl _,.inl rfl,by rw [LG]⟩
theorem Ps.trans {s s1 s2:Ag} {m n:List Tk} (h:Ps s s1 m) (k:Ps s1 s2 n):Ps s s2 (m++n):=by
 have ht:=k.tk.trans h.tk
 have hw:BW (m++n)=BW m++BW n:=by unfold BW;rw [List.filter_append]
 rcases h.ok with rfl|⟨U,a2⟩
 .refine ⟨ht,k.le,k.ok,?_⟩
  rw [hw,h.eq,LG,k.eq];rfl
 .have hle:=h.le
  rcases k.ok with rfl|⟨b1,b2⟩
  .refine ⟨ht,hle,.inr ⟨U,a2⟩,?_⟩
   rw [hw,h.eq,k.eq,LG];exact List.append_nil _
  .have kle:=k.le
   refine ⟨ht,AC,.inr ⟨U,by rw [<-h.tk];exact b2⟩,?_⟩
   rw [hw,h.eq,k.eq,h.tk,<-kA U hle kle]
   unfold BW;rw [List.filter_append]
theorem Ps.still {s:Ag} {m:List Tk} (U:0<=s.pos) (h1:s.pos<=s.AA.length) (ht:s'.AA=s.AA) (hp:s'.pos=s.pos) (hm:BW m=[]):Ps s s' m:=⟨ht,AC,.inr ⟨U,AC⟩,by rw [hm,hp,LG];rfl⟩
theorem Ps.step {s s':Ag} {m:List Tk} {t:Tk} (U:0<=s.pos) (h:s.AA[s.pos.toNat]? =some t) (ht:s'.AA=s.AA) (hp:s'.pos=s.pos+1) (hm:BW m=BW [t]):Ps s s' m:=by
 have hl:=(List.getElem?_eq_some_iff.1 h).1
 exact ⟨ht,AC,.inr ⟨U,AC⟩,by rw [hm,hp,kB U h]⟩
theorem Nq (h:t.kind=16\/t.kind=17):BW [t]=[]:=by
 unfold BW QI
 rcases h with h|h<;>simp [h]
def nt (t:Tk):List Tk:=if t.kind<18 then [t] else []
theorem U5:∀(n:Nat) (s:Ag),(∀t ∈ s.AA,t.kind<18)->0<=s.pos->s.pos<=s.AA.length->(E8 n s).2.2=0->Ps s (E8 n s).2.1 (nt (E8 n s).1)
 |n,s,hN,U,h1,h=>by
  have hend:∀{x:Tk×Ag×Int},x=GF s->x.2.2=0->Ps s x.2.1 (nt x.1):=λ{x} e hx=>by
   subst e
   unfold GF at hx |-
   split
   .exact .still U h1 rfl rfl rfl
   .rename_i e1
    rw [if_neg e1] at hx
    split
    .exact .still U h1 rfl rfl rfl
    .rename_i e2;rw [if_neg e2] at hx;cases hx
  cases n with
  |zero=>exact hend rfl h
  |succ n=>
   cases ht:s.AA[s.pos.toNat]? with
   |none=>exact hend (by rw [E8,ht]) h
   |some t=>
    have e:E8 (n+1) s=if t.kind=16/\s.wait<2 then ((Gx t s).1,(Gx t s).2,0)
     else if t.kind=16\/t.kind=17 then if (DV t s).1.kind=0 then E8 n (DV t s).2 else ((DV t s).1,(DV t s).2,0) else F4 t s:=by rw [E8,ht]
    have hl:=(List.getElem?_eq_some_iff.1 ht).1
    rw [e] at h |-
    clear e
    split
    .rename_i hk
     unfold Gx
     split
     .exact .still U h1 rfl rfl rfl
     .split
      .exact .step U ht rfl rfl (by rw [Nq (.inl hk.1)];rfl)
      .exact .still U h1 rfl rfl rfl
    .rename_i hk
     rw [if_neg hk] at h
     split
     .rename_i hk2
      rw [if_pos hk2] at h
      split
      .rename_i hz
       rw [if_pos hz] at h
       rw [Fw hz] at h |-
       have h3:Ps s {s with pos:=s.pos+1,wait:=0} []:=.step U ht rfl rfl (by rw [Nq hk2];rfl)
       exact h3.trans (U5 n {s with pos:=s.pos+1,wait:=0} hN (by show 0<=s.pos+1;omega) (by show s.pos+1<=(s.AA.length:Int);omega) h)
      .rename_i hz
       unfold DV at hz |-
       split
       .exact .still U h1 rfl rfl rfl
       .rename_i e1
        rw [if_neg e1] at hz
        split
        .exact .step U ht rfl rfl (by rw [Nq hk2];rfl)
        .rename_i e2;rw [if_neg e2] at hz;exact absurd rfl hz
     .rename_i hk2
      rw [if_neg hk2] at h
      have ha:BW (nt t)=BW [t]:=by unfold nt;rw [if_pos (hN t (List.mem_of_getElem? ht))]
      unfold F4 at h |-
      split
      .exact .step U ht rfl rfl ha
      .rename_i e1
       rw [if_neg e1] at h
       split
       .rename_i e2
        rw [if_pos e2] at h
        split
        .rename_i e3;rw [if_pos e3] at h;cases h
        .exact .step U ht rfl rfl ha
       .exact .step U ht rfl rfl ha
theorem S4 {s:Ag} (h:M0 s=true):0<=s.pos/\s.pos<=s.AA.length:=by
 unfold M0 at h
 simp only [Bool.and_eq_true,decide_eq_true_eq] at h
 omega
theorem Ta {s:Ag} (hN:∀t ∈ s.AA,t.kind<18) (h:(Ab s).2.2=0):Ps s (Ab s).2.1 (nt (Ab s).1):=by
 unfold Ab at h |-
 cases U:M0 s with
 |false=>rw [U] at h;cases h
 |true=>
  rw [U,if_pos rfl] at h
  rw [if_pos rfl]
  obtain ⟨h0,h1⟩:=S4 U
  exact U5 _ s hN h0 h1 h
theorem Rw (h:Ey t=true):BW (nt t)=[]:=by
 unfold nt
 split
 .rename_i hk
  unfold Ey at h
  have h:t.kind=15/\(t.text=[123]\/t.text=[125]\/t.text=[59]):=by
   simp only [Bool.or_eq_true,Bool.and_eq_true,beq_iff_eq] at h
   rcases h with h|h
   .omega
   .exact ⟨h.1,by rcases h.2 with (h|h)|h<;>simp [h]⟩
  unfold BW QI Qg
  rcases h with ⟨h1,U|U|U⟩<;>simp [h1,U]
 .rfl
theorem KH {f:Bool}:BQ (Dx f l)=Be l:=by unfold Dx;rw [BQ,if_neg Do]
theorem Ps.words {s:Ag} {m n:List Tk} (h:Ps s s' m) (e:BW n=BW m):Ps s s' n:=⟨h.tk,h.le,h.ok,e.trans h.eq⟩
theorem A7.ps {s:Ag} (h:A7 l s s'):(∀t ∈ s.AA,t.kind<18)->Ps s s' (Be l):=by
 induction h with
 |nil s=>intro _;exact Ps.nil s
 |app _ _ U h2=>
   intro hN
   have k1:=U hN
   rw [DE]
   exact k1.trans (h2 (by rw [k1.tk];exact hN))
 |tok U h2 h3=>
   intro hN
   rw [C5,SW]
   exact (Ta hN U).words (by unfold nt;rw [if_pos h2])
 |skip U h2=>intro hN;exact (Ta hN U).words (by rw [Rw h2];rfl)
 |close U=>
   intro hN
   rename_i s
   unfold EG at U |-
   split
   .rename_i hc
    obtain ⟨h0,U⟩:=S4 hc.1
    exact .still h0 U rfl rfl rfl
   .rename_i hc;rw [if_neg hc] at U;cases U
 |node U h2 h3 ih=>
   intro hN
   rw [C5,L2 h2]
   exact ih hN
 |block U h2 h3 ih=>
   intro hN
   rename_i f l s s'
   have k1:=Ta hN U
   rw [C5,KH]
   have:=k1.trans (ih (by rw [k1.tk];exact hN))
   refine this.words ?_
   unfold BW
   rw [List.filter_append]
   have e:=Rw h2
   unfold BW at e
   rw [e];rfl
mutual
theorem SX:∀n:Nd,(BQ n).length<=n.size
 | .mk k f t l c ks=>by
   have:=Hx ks
   rw [BQ,Nd.size]
   split
   .rw [List.length_singleton];omega
   .omega
theorem Hx:∀l:List Nd,(Be l).length<=De l
 |[]=>Nat.le_refl _
 |n::r=>by
  have:=SX n
  have:=Hx r
  rw [Be,De,List.length_append];omega
end
def Lf (l:List Nd) (s s':Ag):Prop:=(Be l).length+4*mu s'<=4*mu s/\((∀t ∈ s.AA,t.kind<18)->Ps s s' (Be l))
def Fm (A:Rd Nd):Prop:=∀s,Rd.wp A s (λn s'=>Lf [n] s s') Dc
section
variable {A B C D E F:Rd Nd} {s s0 s1 s2 s':Ag} {Q:Nd->Ag->Prop} {l m:List Nd}
theorem Lf.nil (s:Ag):Lf [] s s:=⟨i7,λ_=>Ps.nil s⟩
theorem Lf.app (h:Lf l s s1) (k:Lf m s1 s2):Lf (l++m) s s2:=by
 unfold Lf
 rw [DE]
 refine ⟨by have:=h.1;have:=k.1;rw [List.length_append];omega,λhN=>?_⟩
 have U:=h.2 hN
 exact U.trans (k.2 (by rw [U.tk];exact hN))
theorem Lf.Ci {m:Nd} (h:Lf [n] s s1) (k:Lf (m::l) s1 s2):Lf (n::m::l) s s2:=.app h k
theorem Lf.node (U:k≠1) (h:Lf l s s'):Lf [Au k l] s s':=by
 unfold Lf
 rw [C5,L2 U];exact h
theorem Lf.of (h:A7 l s s'):Lf l s s':=⟨by have:=h.size;have:=Hx l;omega,h.ps⟩
theorem Lf.block {f:Bool} (U:Lf [] s s1) (h:Lf l s1 s'):Lf [Dx f l] s s':=by
 unfold Lf
 rw [C5,KH];exact Lf.app U h
theorem Fm.of (h:Dv A):Fm A:=λs=>Rd.wp_mono (h s) (λn s' _ h=>.of h) (λ_ _ _ _=>trivial)
theorem N7 (U:Fm A) (k:∀n s1,Lf [n] s s1->Q n s1):Rd.wp A s Q Dc:=Rd.wp_mono (U s) (λn s1 _ h=>k n s1 h) (λ_ _ _ _=>trivial)
theorem EM (U:Real s) (k:Lf [Bv (Ab s).1] s (Ab s).2.1->Q (Bv (Ab s).1) (Ab s).2.1):Rd.wp AO s Q Dc:=Cz U λh=>k (.of h)
theorem Ry (U:k≠0) (h1:k<18) (kk:∀n s1,Lf [n] s s1->Q n s1):Rd.wp (BA k x) s Q Dc:=QL U h1 λn s1 h=>kk n s1 (.of h)
theorem QM (U:(ks.all λk=>decide (k≠0)&&decide (k<18))=true) (kk:∀n s1,Lf [n] s s1->Q n s1):Rd.wp (Dm ks) s Q Dc:=Zc U λn s1 h=>kk n s1 (.of h)
theorem NI {b:Bool} {Q:Unit->Ag->Prop} (k:Q () s):Rd.wp (F9 b) s Q Dc:=by
 unfold F9
 rw [Rd.As]
 exact A6 (λ_=>k) λ_=>trivial
theorem Kd {Q:List Nd->Ag->Prop} (hi:Fm item) (U:Lf l s0 s) (k:∀l s1,Lf l s0 s1->Q l s1):Rd.wp (FK item x l) s Q Dc:=by
 simp only [FK,Rd.wp_seq,Rd.wp_ret]
 refine Db (P:=λp s1=>Lf p.2 s0 s1) (λp s1 U=>?_) U
 simp only [Xf,Rd.Af,Rd.As,Rd.wp_seq,Rd.wp_ret]
 repeat' (first
  |exact trivial
  |assumption
  |refine A6 (λe=>?_) (λe=>?_)
  |refine EM (AL ‹_› Do Do) (λhn=>?_)
  |refine EM (Bl ‹_› Do Do) (λhn=>?_)
  |refine EM ‹_› (λhn=>?_)
  |refine Ry Do Do (λn s1 hn=>?_)
  |refine QM Do (λn s1 hn=>?_)
  |refine NI ?_
  |refine N7 ‹_› (λn s1 hn=>?_)
  |exact k _ _ (.app ‹_› ‹_›)
  |exact k _ _ (.app (.app ‹_› ‹_›) ‹_›)
  |refine Lf.node Do ?_
  |apply Lf.app
  |apply Lf.Ci)
theorem Ke (U:(ks.all λk=>decide (k≠0)&&decide (k<18))=true):Fm (Fg ks):=λs=>by
 simp only [Fg,Rd.wp_seq,Rd.wp_ret]
 repeat' (first
  |exact trivial
  |assumption
  |refine A6 (λe=>?_) (λe=>?_)
  |refine EM (AL ‹_› Do Do) (λhn=>?_)
  |refine EM (Bl ‹_› Do Do) (λhn=>?_)
  |refine EM ‹_› (λhn=>?_)
  |refine Ry Do Do (λn s1 hn=>?_)
  |refine QM Do (λn s1 hn=>?_)
  |refine NI ?_
  |refine N7 ‹_› (λn s1 hn=>?_)
  |refine QM U (λn s1 hn=>?_)
  |refine Lf.node Do ?_
  |apply Lf.app
  |apply Lf.Ci)
theorem UQ:Fm Lg:=λs=>by
 have U:=Ke (ks:=[5,6]) Do
 simp only [Lg,Rd.Af,Rd.As,Rd.wp_seq,Rd.wp_ret,Rd.Eg]
 repeat' (first
  |exact trivial
  |assumption
  |refine A6 (λe=>?_) (λe=>?_)
  |refine EM (AL ‹_› Do Do) (λhn=>?_)
  |refine EM (Bl ‹_› Do Do) (λhn=>?_)
  |refine EM ‹_› (λhn=>?_)
  |refine Ry Do Do (λn s1 hn=>?_)
  |refine QM Do (λn s1 hn=>?_)
  |refine NI ?_
  |refine N7 ‹_› (λn s1 hn=>?_)
  |refine Lf.node Do ?_
  |apply Lf.app
  |apply Lf.Ci)
theorem bW:Fm L7:=λs=>by
 have U:=Ke (ks:=[5,6]) Do
 simp only [L7,Rd.Af,Rd.As]
 repeat' (first
  |exact trivial
  |assumption
  |refine A6 (λe=>?_) (λe=>?_)
  |refine EM (AL ‹_› Do Do) (λhn=>?_)
  |refine EM (Bl ‹_› Do Do) (λhn=>?_)
  |refine EM ‹_› (λhn=>?_)
  |refine Ry Do Do (λn s1 hn=>?_)
  |refine QM Do (λn s1 hn=>?_)
  |refine NI ?_
  |refine N7 ‹_› (λn s1 hn=>?_)
  |refine Lf.node Do ?_
  |apply Lf.app
  |apply Lf.Ci)
theorem gp (U:Lf l s0 s) (k:∀n s1,Lf [n] s0 s1->Q n s1):Rd.wp (U0 l) s Q Dc:=by
 have hm:=bW
 simp only [U0,Rd.Af,Rd.As,Rd.wp_seq,Rd.wp_ret]
 repeat' (first
  |exact trivial
  |assumption
  |refine A6 (λe=>?_) (λe=>?_)
  |refine EM (AL ‹_› Do Do) (λhn=>?_)
  |refine EM (Bl ‹_› Do Do) (λhn=>?_)
  |refine EM ‹_› (λhn=>?_)
  |refine Ry Do Do (λn s1 hn=>?_)
  |refine QM Do (λn s1 hn=>?_)
  |refine NI ?_
  |refine N7 ‹_› (λn s1 hn=>?_)
  |refine Kd hm (.app U ‹_›) (λl s1 h=>k _ _ (.node Do h))
  |refine k _ _ ?_
  |refine Lf.node Do ?_
  |apply Lf.app
  |apply Lf.Ci)
theorem lJ {o:Bool}:Fm (U1 o):=λs=>by
 have hs:=Ke (ks:=mA o) (by cases o<;>decide)
 have U:((MX o).all λk=>decide (k≠0)&&decide (k<18))=true:=by cases o<;>decide
 have h2:((Tz o).all λk=>decide (k≠0)&&decide (k<18))=true:=by cases o<;>decide
 simp only [U1,ZJ,Rd.Af,Rd.As,Rd.wp_seq,Rd.wp_ret]
 repeat' (first
  |exact trivial
  |assumption
  |refine A6 (λe=>?_) (λe=>?_)
  |refine EM (AL ‹_› Do Do) (λhn=>?_)
  |refine EM (Bl ‹_› Do Do) (λhn=>?_)
  |refine EM ‹_› (λhn=>?_)
  |refine Ry Do Do (λn s1 hn=>?_)
  |refine QM Do (λn s1 hn=>?_)
  |refine NI ?_
  |refine N7 ‹_› (λn s1 hn=>?_)
  |refine QM U (λn s1 hn=>?_)
  |refine QM h2 (λn s1 hn=>?_)
  |exact gp ‹_› (λn s1 h=>h)
  |refine Lf.node Do ?_
  |apply Lf.app
  |apply Lf.Ci)
theorem gq {o:Bool}:Fm (P7 o):=λs=>by
 have hi:=lJ (o:=o)
 simp only [P7,Rd.wp_seq,Rd.wp_ret]
 refine Ry Do Do λn s1 U=>?_
 refine Db (P:=λl s1=>Lf l s s1) (λl s1 U=>?_) U
 simp only [X6,Xh,Rd.Af,Rd.As,Rd.wp_seq,Rd.wp_ret]
 repeat' (first
  |exact trivial
  |assumption
  |refine A6 (λe=>?_) (λe=>?_)
  |refine EM (AL ‹_› Do Do) (λhn=>?_)
  |refine EM (Bl ‹_› Do Do) (λhn=>?_)
  |refine EM ‹_› (λhn=>?_)
  |refine Ry Do Do (λn s1 hn=>?_)
  |refine QM Do (λn s1 hn=>?_)
  |refine NI ?_
  |refine N7 ‹_› (λn s1 hn=>?_)
  |refine Lf.node Do ?_
  |apply Lf.app
  |apply Lf.Ci)
theorem XS (U:Real s) (k:∀n s1,Lf [n] s s1->Q n s1):Rd.wp HU s Q Dc:=by
 have hi:=gq (o:=true)
 simp only [HU,Ov,Ow,Ox,Rd.Af,Rd.As,Rd.wp_seq,Rd.wp_ret]
 repeat' (first
  |exact trivial
  |assumption
  |refine A6 (λe=>?_) (λe=>?_)
  |refine EM (AL ‹_› Do Do) (λhn=>?_)
  |refine EM (Bl ‹_› Do Do) (λhn=>?_)
  |refine EM ‹_› (λhn=>?_)
  |refine Ry Do Do (λn s1 hn=>?_)
  |refine QM Do (λn s1 hn=>?_)
  |refine NI ?_
  |refine N7 ‹_› (λn s1 hn=>?_)
  |refine k _ _ ?_
  |refine Lf.node Do ?_
  |apply Lf.app
  |apply Lf.Ci)
theorem mb {a b:List UInt8} (h:(if Bn s 1 a=true then true else Bn s 1 b)=true):Real s:=by
 split at h
 .exact AL ‹_› Do Do
 .exact AL h Do Do
theorem XR (U:Fm D) (hr:Real s) (k:∀n s1,Lf [n] s s1->Q n s1):Rd.wp (HN D) s Q Dc:=by
 have hi:=UQ
 simp only [HN,LY,PM,JE,LZ,Rd.Af,Rd.As,Rd.wp_seq,Rd.wp_ret]
 repeat' (first
  |exact trivial
  |assumption
  |refine A6 (λe=>?_) (λe=>?_)
  |refine EM (AL ‹_› Do Do) (λhn=>?_)
  |refine EM (Bl ‹_› Do Do) (λhn=>?_)
  |refine EM ‹_› (λhn=>?_)
  |refine Ry Do Do (λn s1 hn=>?_)
  |refine QM Do (λn s1 hn=>?_)
  |refine NI ?_
  |refine N7 ‹_› (λn s1 hn=>?_)
  |refine EM (mb ‹_›) (λhn=>?_)
  |refine k _ _ ?_
  |refine Lf.node Do ?_
  |apply Lf.app
  |apply Lf.Ci)
theorem UM (U:Fm A) (hr:Real s) (k:∀n s1,Lf [n] s s1->Q n s1):Rd.wp (Gr A) s Q Dc:=by
 simp only [Gr,Rd.wp_seq,Rd.wp_ret]
 repeat' (first
  |exact trivial
  |assumption
  |refine A6 (λe=>?_) (λe=>?_)
  |refine EM (AL ‹_› Do Do) (λhn=>?_)
  |refine EM (Bl ‹_› Do Do) (λhn=>?_)
  |refine EM ‹_› (λhn=>?_)
  |refine Ry Do Do (λn s1 hn=>?_)
  |refine QM Do (λn s1 hn=>?_)
  |refine NI ?_
  |refine N7 ‹_› (λn s1 hn=>?_)
  |refine Kd U ?_ (λl s1 h=>k _ _ (.node Do h))
  |refine Lf.node Do ?_
  |apply Lf.app
  |apply Lf.Ci)
theorem Oz {Q:List Nd×Nd->Ag->Prop} (hA:Fm A) (U:Lf l s0 s) (k:∀l n s1,Lf (l++[n]) s0 s1->Q (l,n) s1):Rd.wp (Je A l) s Q Dc:=by
 simp only [Je,Rd.Af,Rd.As,Rd.wp_seq,Rd.wp_ret]
 repeat' (first
  |exact trivial
  |assumption
  |refine A6 (λe=>?_) (λe=>?_)
  |refine EM (AL ‹_› Do Do) (λhn=>?_)
  |refine EM (Bl ‹_› Do Do) (λhn=>?_)
  |refine EM ‹_› (λhn=>?_)
  |refine Ry Do Do (λn s1 hn=>?_)
  |refine QM Do (λn s1 hn=>?_)
  |refine NI ?_
  |refine N7 ‹_› (λn s1 hn=>?_)
  |refine k _ _ _ ?_
  |refine Lf.node Do ?_
  |apply Lf.app
  |apply Lf.Ci)
theorem XU (U:Fm A) (hB:Fm B) (hr:Real s) (k:∀n s1,Lf [n] s s1->Q n s1):Rd.wp (Ib A B) s Q Dc:=by
 simp only [Ib,Rd.wp_seq,Rd.wp_ret]
 repeat' (first
  |exact trivial
  |assumption
  |refine A6 (λe=>?_) (λe=>?_)
  |refine EM (AL ‹_› Do Do) (λhn=>?_)
  |refine EM (Bl ‹_› Do Do) (λhn=>?_)
  |refine EM ‹_› (λhn=>?_)
  |refine Ry Do Do (λn s1 hn=>?_)
  |refine QM Do (λn s1 hn=>?_)
  |refine NI ?_
  |refine N7 ‹_› (λn s1 hn=>?_)
  |refine k _ _ ?_
  |refine Lf.node Do ?_
  |apply Lf.app
  |apply Lf.Ci)
theorem RA (U:Fm A) (hr:Real s) (k:∀n s1,Lf [n] s s1->Q n s1):Rd.wp (IV A) s Q Dc:=by
 simp only [IV,Rd.wp_seq,Rd.wp_ret]
 repeat' (first
  |exact trivial
  |assumption
  |refine A6 (λe=>?_) (λe=>?_)
  |refine EM (AL ‹_› Do Do) (λhn=>?_)
  |refine EM (Bl ‹_› Do Do) (λhn=>?_)
  |refine EM ‹_› (λhn=>?_)
  |refine Ry Do Do (λn s1 hn=>?_)
  |refine QM Do (λn s1 hn=>?_)
  |refine NI ?_
  |refine N7 ‹_› (λn s1 hn=>?_)
  |refine k _ _ ?_
  |refine Lf.node Do ?_
  |apply Lf.app
  |apply Lf.Ci)
theorem lK (U:Fm A):Fm (HD A):=λs=>by
 have hs:=Ke (ks:=[6]) Do
 simp only [HD,Rd.Af,Rd.As]
 repeat' (first
  |exact trivial
  |assumption
  |refine A6 (λe=>?_) (λe=>?_)
  |refine EM (AL ‹_› Do Do) (λhn=>?_)
  |refine EM (Bl ‹_› Do Do) (λhn=>?_)
  |refine EM ‹_› (λhn=>?_)
  |refine Ry Do Do (λn s1 hn=>?_)
  |refine QM Do (λn s1 hn=>?_)
  |refine NI ?_
  |refine N7 ‹_› (λn s1 hn=>?_)
  |exact RA U (AL ‹_› Do Do) (λn s1 h=>h)
  |refine Lf.node Do ?_
  |apply Lf.app
  |apply Lf.Ci)
theorem UP {Q:List Nd->Ag->Prop} (hA:Fm A) (k:∀l s1,Lf l s s1->Q l s1):Rd.wp (JO A) s Q Dc:=by
 have hp:=lK hA
 simp only [JO,Rd.wp_seq]
 refine N7 hp λn s1 U=>Db (P:=λl s1=>Lf l s s1) (λl s1 U=>?_) U
 simp only [Tm,Rd.Af,Rd.As,Rd.wp_seq,Rd.wp_ret]
 repeat' (first
  |exact trivial
  |assumption
  |refine A6 (λe=>?_) (λe=>?_)
  |refine EM (AL ‹_› Do Do) (λhn=>?_)
  |refine EM (Bl ‹_› Do Do) (λhn=>?_)
  |refine EM ‹_› (λhn=>?_)
  |refine Ry Do Do (λn s1 hn=>?_)
  |refine QM Do (λn s1 hn=>?_)
  |refine NI ?_
  |refine N7 ‹_› (λn s1 hn=>?_)
  |refine k _ _ ?_
  |refine Lf.node Do ?_
  |apply Lf.app
  |apply Lf.Ci)
theorem ZE (U:Lf l s0 s) (k:∀n,Lf [n] s0 s->Q n s):Rd.wp (RT l) s Q Dc:=by
 unfold RT
 rw [Rd.As]
 refine A6 (λe=>?_) λ_=>?_
 .match l,e with
  |[x],_=>exact k _ U
 .rw [Rd.wp_seq]
  exact NI (k _ (.node Do U))
theorem gn (hA:Fm A) (hB:Fm B):Fm (IX A B):=λs=>by
 have hs:=UQ
 simp only [IX,Rd.wp_seq]
 refine N7 hs λn s1 U=>Db (P:=λl s1=>Lf l s s1) (λl s1 U=>?_) U
 simp only [Xy,Rd.Af,Rd.As,Rd.wp_seq,Rd.wp_ret]
 repeat' (first
  |exact trivial
  |assumption
  |refine A6 (λe=>?_) (λe=>?_)
  |refine EM (AL ‹_› Do Do) (λhn=>?_)
  |refine EM (Bl ‹_› Do Do) (λhn=>?_)
  |refine EM ‹_› (λhn=>?_)
  |refine Ry Do Do (λn s1 hn=>?_)
  |refine QM Do (λn s1 hn=>?_)
  |refine NI ?_
  |refine N7 ‹_› (λn s1 hn=>?_)
  |refine RA hA (AL ‹_› Do Do) (λn s1 hn=>?_)
  |refine Lf.node Do ?_
  |apply Lf.app
  |apply Lf.Ci)
theorem gr (U:Real s) (k:∀n s1,Lf [n] s s1->Q n s1):Rd.wp QD s Q Dc:=by
 simp only [QD,Rd.Af,Rd.As,Rd.wp_seq,Rd.wp_ret,Rd.Eg]
 repeat' (first
  |exact trivial
  |assumption
  |refine A6 (λe=>?_) (λe=>?_)
  |refine EM (AL ‹_› Do Do) (λhn=>?_)
  |refine EM (Bl ‹_› Do Do) (λhn=>?_)
  |refine EM ‹_› (λhn=>?_)
  |refine Ry Do Do (λn s1 hn=>?_)
  |refine QM Do (λn s1 hn=>?_)
  |refine NI ?_
  |refine N7 ‹_› (λn s1 hn=>?_)
  |refine k _ _ ?_
  |refine Lf.node Do ?_
  |apply Lf.app
  |apply Lf.Ci)
theorem PW (hA:Fm A) (hr:Real s) (U:Lf l s0 s) (k:∀n s1,Lf [n] s0 s1->Q n s1):Rd.wp (G9 A l) s Q Dc:=by
 simp only [G9,Rd.wp_seq,Rd.wp_ret]
 exact ZE U λa h1=>gr hr λo s1 h2=>UP hA λr s2 h3=>ZE h3 λb h4=>k _ _ (.node Do (.Ci h1 (.Ci h2 h4)))
theorem Rz (hA:Fm A) (hB:Fm B):Fm (Gc A B):=λs=>by
 have hf:=gn hA hB
 have hb:∀{l:List Nd} {s1:Ag},Lf l s s1->Rd.wp (Ip A l) s1 (λn s'=>Lf [n] s s') Dc:=λU=>by
  simp only [Ip,Rd.Af,Rd.As,Rd.wp_seq,Rd.wp_ret]
  exact A6 (λe=>PW hA (Bl e Do Do) U λ_ _ h=>h) λ_=>A6 (λe=>PW hA (AL e Do Do) U λ_ _ h=>h) λ_=>NI (.node Do U)
 simp only [Gc,Rd.Af,Rd.As,Rd.wp_seq,Rd.wp_ret]
 refine UP hA λl s1 U=>A6 (λ_=>A6 (λe=>?_) λ_=>hb U) λ_=>hb U
 exact EM (AL e Do Do) λh1=>Kd hf (.app U h1) λl s2 h=>.node Do h
theorem UN (U:Real s) (k:∀n s1,Lf [n] s s1->Q n s1):Rd.wp Gs s Q Dc:=by
 have hi:Fm (Dm [2,4]):=λs=>QM Do λn s1 h=>h
 simp only [Gs,Rd.Af,Rd.As,Rd.wp_seq,Rd.wp_ret]
 repeat' (first
  |exact trivial
  |assumption
  |refine A6 (λe=>?_) (λe=>?_)
  |refine EM (AL ‹_› Do Do) (λhn=>?_)
  |refine EM (Bl ‹_› Do Do) (λhn=>?_)
  |refine EM ‹_› (λhn=>?_)
  |refine Ry Do Do (λn s1 hn=>?_)
  |refine QM Do (λn s1 hn=>?_)
  |refine NI ?_
  |refine N7 ‹_› (λn s1 hn=>?_)
  |refine Kd hi ?_ (λl s1 h=>k _ _ (.node Do h))
  |refine k _ _ ?_
  |refine Lf.node Do ?_
  |apply Lf.app
  |apply Lf.Ci)
theorem PX {c:Int} (hc:c≠1) (U:Lf l s0 s) (k:∀n s1,Lf [n] s0 s1->Q n s1):Rd.wp (HL c l) s Q Dc:=by
 simp only [HL,Rd.Af,Rd.As,Rd.wp_seq,Rd.wp_ret]
 exact A6 (λe=>UN (AL e Do Do) λn s1 h=>k _ _ (.node hc (.app U h))) λ_=>k _ _ (.node hc U)
theorem lH (hA:Fm A) (hB:Fm B) (hC:Fm C) (hr:Real s) (k:∀n s1,Lf [n] s s1->Q n s1):Rd.wp (Rh A B C) s Q Dc:=by
 have hn:=Rz hA hC
 simp only [Rh,Rd.wp_seq]
 refine EM hr λU=>Oz hB U λl n s1 h1=>NI (Db (P:=λp s1=>Lf p.2 s s1) (λp s1 U=>?_) h1)
 simp only [eK,Rd.Af,Rd.As,Rd.wp_seq,Rd.wp_ret]
 exact A6 (λe=>EM (AL e Do Do) λh2=>N7 hn λc s2 h3=>.app (.app U h2) h3) λ_=>PX Do U k
theorem XT (hA:Fm A) (hB:Fm B) (hC:Fm C) (hr:Real s) (k:∀n s1,Lf [n] s s1->Q n s1):Rd.wp (H0 A B C) s Q Dc:=by
 have hn:=Rz hA hC
 simp only [H0,Rd.wp_seq]
 exact EM hr λU=>Oz hB U λl n s1 h1=>NI (Ry Do Do λe s2 h2=>N7 hn λc s3 h3=>NI (PX Do (.app (.app h1 h2) h3) k))
theorem ZD {c:Int} {U:Nd->Bool} (hA:Fm A) (hc:c≠1) (h0:Lf l s0 s) (k:∀n s1,Lf [n] s0 s1->Q n s1):Rd.wp (Re A c l U) s Q Dc:=by
 simp only [Re,Rd.Af,Rd.As,Rd.wp_seq,Rd.wp_ret]
 exact A6 (λe=>EM (AL e Do Do) λh1=>N7 hA λb s1 h2=>NI (k _ _ (.node hc (.app h0 (.node Do (.Ci h1 h2)))))) λ_=>k _ _ (.node hc h0)
theorem gk (hA:Fm A) (hB:Fm B) (hr:Real s) (k:∀n s1,Lf [n] s s1->Q n s1):Rd.wp (MM A B) s Q Dc:=by
 simp only [MM,Rd.wp_seq]
 exact EM hr λU=>Oz hA U λl n s1 h1=>NI (ZD hB Do h1 k)
theorem UO (hA:Fm A) (hB:Fm B) (hr:Real s) (k:∀n s1,Lf [n] s s1->Q n s1):Rd.wp (Gu A B) s Q Dc:=by
 simp only [Gu,Rd.wp_seq]
 exact EM hr λU=>Oz hA U λl n s1 h1=>NI (ZD hB Do h1 k)
theorem pd (hA:Fm A) (hB:Fm B) (hC:Fm C) (hD:Fm D) (hE:Fm E) (hF:Fm F):Fm (My A B C D E F):=λs=>by
 simp only [My,Rd.Af,Rd.As]
 refine A6 (λe=>?_) λ_=>hE s
 have U:=Bl e Do Do
 exact A6 (λ_=>XS U λ_ _ h=>h) λ_=>A6 (λ_=>XU hB hC U λ_ _ h=>h) λ_=>A6 (λ_=>lH hA hB hC U λ_ _ h=>h) λ_=>A6 (λ_=>XT hA hB hC U λ_ _ h=>h) λ_=>
  A6 (λ_=>gk hB hF U λ_ _ h=>h) λ_=>A6 (λ_=>UO hB hF U λ_ _ h=>h) λ_=>A6 (λ_=>UM hC U λ_ _ h=>h) λ_=>A6 (λ_=>XR hD U λ_ _ h=>h) λ_=>hE s
end
end Go.Proofs.Z
namespace Go.Proofs.Z
open Go Go.Aw
open Rd (Ap)
section
attribute [local irreducible] Rd.ret Rd.seq Rd.look Rd.loop Rd.fail Rd.GH
theorem jP {A' B B' C C' D D' E E' F U:Rd Nd} (h1:Ap A A') (h2:Ap B B') (h3:Ap C C') (h4:Ap D D') (h5:Ap E E') (h6:Ap F U):Ap (My A B C D E F) (My A' B' C' D' E' U):=by
 repeat' (first|assumption|with_reducible exact Ap.A9|refine Ap.look λ_=>?_|refine Ap.ite ?_ ?_|refine Ap.seq ?_ λ_=>?_|refine Ap.loop (λ_=>?_) _)
end
end Go.Proofs.Z
namespace Go.Proofs.Z
open Go Go.Aw
def ns (st0 st:St):AB×List Nd->Prop
 |(.any,_)=>False
 |(.full,_)=>True
 |(.tok t,l)=>st0.fresh t/\st.hw t=some (l.length*6)
def YV:AB×List Nd->AB×List Nd->Prop
 |(.tok t,_),(.tok u,_)=>t≠u
 |_,_=>True
theorem YV.symm {r q:AB×List Nd} (h:YV r q):YV q r:=by
 obtain ⟨o1,U⟩:=r;obtain ⟨o2,l2⟩:=q
 cases o1<;>cases o2<;>first|exact trivial|exact Ne.symm h
structure Rx (st0 st:St) (rows:List (AB×List Nd)):Prop where
 le:st0.le st
 ok:∀r ∈ rows,ns st0 st r
 ap:rows.Pairwise YV
section
variable {st0 st:St} {r q:AB×List Nd} {rows:List (AB×List Nd)}
theorem Rx.start:Rx st st []:=⟨St.le_refl _,λr U=>absurd U List.not_mem_nil,List.Pairwise.nil⟩
theorem Rx.drop (h:Rx st0 st (r::rows)):Rx st0 st rows:=⟨h.le,λq U=>h.ok q (List.mem_cons_of_mem _ U),(List.pairwise_cons.1 h.ap).2⟩
theorem Rx.push (h:Rx st0 st rows) (l:List Nd):Rx st0 st ((.full,l)::rows):=⟨h.le,λq U=>by
 rcases List.mem_cons.1 U with e|e
 .subst e;exact trivial
 .exact h.ok q e,List.pairwise_cons.2 ⟨λq U=>trivial,h.ap⟩⟩
theorem Rx.swap (h:Rx st0 st (r::q::rows)):Rx st0 st (q::r::rows):=by
 have h1:=List.pairwise_cons.1 h.ap
 have h2:=List.pairwise_cons.1 h1.2
 refine ⟨h.le,λx U=>h.ok x ?_,List.pairwise_cons.2 ⟨λx U=>?_,List.pairwise_cons.2 ⟨λx U=>h1.1 x (List.mem_cons_of_mem _ U),h2.2⟩⟩⟩
 .grind
 .rcases List.mem_cons.1 U with e|e
  .subst e;exact (h1.1 q (List.mem_cons_self ..)).symm
  simp_all
theorem Rx.fresh {t:Nat} (h:Rx st0 st rows) (U:st.fresh t):st0.fresh t:=by
 refine ⟨?_,?_⟩
 .cases e:st0.box t with
  |none=>rfl
  |some c=>
   have:=h.le.1 t c e
   rw [U.1] at this;grind
 .cases e:st0.hw t with
  |none=>rfl
  |some c=>
   have:=h.le.2 t c e
   rw [U.2] at this;grind
theorem Rx.iS {t:Nat} (h:Rx st0 st rows) (ht:st.fresh t):∀r ∈ rows,r.1≠.tok t:=λr U e=>by
 have:=h.ok r U
 obtain ⟨o,l⟩:=r
 dsimp only at e
 subst e
 have:=this.2
 rw [ht.2] at this;grind
theorem Rx.app {own:AB} {new:List Nd} {K:V->St->Prop} (h:Rx st0 st ((own,l)::rows)) (hb:l.length+new.length<=1000000000)
 (k:∀own' st',st'.box=st.box->Rx st0 st' ((own',l++new)::rows)->K (.slice 6 ((l++new).map AM) own') st'):Ah 6 72 (l.map AM) own (new.map AM) st K:=by
 have hw:(new.map AM).map (·.map V.Jq)=new.map AM:=by
  rw [List.map_map]
  exact List.map_congr_left λx _=>rfl
 have hsc:((new.map AM).all λv=>v.all V.sc)=true:=by
  rw [List.all_map,List.all_eq_true]
  intro x _;rfl
 have hlen:(l.map AM).length+(new.map AM).length=(l++new).length:=GT
 have hap:=List.pairwise_cons.1 h.ap
 have mk:∀(t:Nat) (m:St),(∀r ∈ rows,ns st0 m r)->st0.fresh t->st0.le m->(∀r ∈ rows,r.1≠.tok t)->m.hw t=some ((l++new).length*6)->Rx st0 m ((.tok t,l++new)::rows):=by
  intro t m h1 h2 h4 h5 h6
  refine ⟨h4,λr U=>?_,List.pairwise_cons.2 ⟨λr U=>?_,hap.2⟩⟩
  .rcases List.mem_cons.1 U with e|e
   .subst e;exact ⟨h2,h6⟩
   simp_all
  .obtain ⟨o,q⟩:=r
   cases o with
   |tok u=>exact λe=>h5 _ U ke
   |any=>exact trivial
   |full=>exact trivial
 refine ⟨by grind,by rw [hlen,List.length_append];unfold En;omega,AP hsc ?_⟩
 cases own with
 |any=>exact (h.ok _ (List.mem_cons_self ..)).elim
 |full=>
  refine ⟨λe=>?_,λ_=>.inl λt ht=>?_⟩
  .simp_all
  .rw [hw,hlen,<-List.map_append]
   refine k (.tok t) _ rfl (mk t _ (λr U=>?_) (h.fresh ht) (St.HW h.le (h.fresh ht).2 _) (h.drop.iS ht) (by simp [St.B1]))
   have h1:=h.ok r (List.mem_cons_of_mem _ U)
   have h2:=h.drop.iS ht r U
   obtain ⟨o,q⟩:=r
   cases o with
   |tok u=>
    have:u≠t:=λe=>h2 ke
    exact ⟨h1.1,by simp only [St.B1];rw [if_neg this];exact h1.2⟩
   |any=>exact h1
   |full=>exact h1
 |tok t0=>
  have h0:=h.ok _ (List.mem_cons_self ..)
  refine ⟨by rw [List.length_map];exact h0.2,.inl λt ht=>?_⟩
  rw [hw,hlen,<-List.map_append]
  have hne:∀r ∈ rows,r.1≠.tok t0:=λr U e=>by
   have:=hap.1 r U
   obtain ⟨o,q⟩:=r
   dsimp only at e
   subst e
   exact this rfl
  have hst:∀r ∈ rows,r.1≠.tok t:=λr U=>by
   rcases ht with rfl|ht
   .grind
   .exact h.drop.iS ht r U
  have hf:st0.fresh t:=by
   rcases ht with rfl|ht
   .exact h0.1
   .exact h.fresh ht
  refine k (.tok t) _ rfl (mk t _ (λr U=>?_) hf ⟨h.le.1,λx n hx=>?_⟩ hst (by simp [St.B1]))
  .have h1:=h.ok r (List.mem_cons_of_mem _ U)
   have h2:=hst r U
   have h3:=hne r U
   obtain ⟨o,q⟩:=r
   cases o with
   |tok u=>
    have e1:u≠t:=λe=>h2 ke
    have e2:u≠t0:=λe=>h3 ke
    exact ⟨h1.1,by simp only [St.B1,St.Em];rw [if_neg e1,if_neg e2];exact h1.2⟩
   |any=>exact h1
   |full=>exact h1
  .simp only [St.B1,St.Em]
   split
   .rename_i e;subst e
    rw [hf.2] at hx;cases hx
   .split
    .rename_i e;subst e
     rw [h0.1.2] at hx;cases hx
    .exact h.le.2 x n hx
theorem Rx.Aa {b:Nat} {cs cs':List V} (h:Rx (st0.Aa b cs) st rows):Rx (st0.Aa b cs') (st.Aa b cs') rows:=by
 refine ⟨⟨λx c U=>?_,λx n U=>h.le.2 x n U⟩,λr hr=>?_,h.ap⟩
 .by_cases e:x=b
  .subst e;rw [St.Ai] at U |-;exact U
  .rw [St.Ar (Ne.symm e)] at U |-
   exact h.le.1 x c (by rw [St.Ar (Ne.symm e)];exact U)
 .have:=h.ok r hr
  obtain ⟨o,l⟩:=r
  cases o with
  |any=>exact this
  |full=>exact this
  |tok t=>
   have hb:b≠t:=by
    rintro rfl
    have:=this.1.1
    rw [St.Ai] at this;cases this
   exact ⟨⟨by rw [St.Ar hb];have:=this.1.1;rw [St.Ar hb] at this;omega,this.1.2⟩,this.2⟩
end
structure Cx (st0:St) (b:Nat) (s:Ag) (st:St) (rows:List (AB×List Nd)):Prop where
 has:Has st b s
 rx:∃cs,Rx (st0.Aa b cs) st rows
 mu:mu s<=100000000
structure Cy (st0:St) (b:Nat) (s:Ag) (st:St) (rows:List (AB×List Nd)):Prop where
 has:Has st b s
 rx:∃cs,Rx (st0.Aa b cs) st rows
section
variable {st0 st st':St} {b:Nat} {s s':Ag} {r q:AB×List Nd} {rows:List (AB×List Nd)}
theorem Cx.y (h:Cx st0 b s st rows):Cy st0 b s st rows:=⟨h.has,h.rx⟩
theorem Cy.drop (h:Cy st0 b s st (r::rows)):Cy st0 b s st rows:=⟨h.has,h.rx.imp λ_ e=>e.drop⟩
theorem Cx.rE (h:Cx st0 b s st rows) (hu:G5 st st' b s'):Cy st0 b s' st' rows:=by
 obtain ⟨U,cs,rfl⟩:=hu
 obtain ⟨c0,hr⟩:=h.rx
 exact ⟨U,⟨cs,hr.Aa⟩⟩
theorem Cx.hb (h:Cx st0 b s st rows):s.Dg.length<=500000000:=EH h.mu
theorem Cx.start (h:Has st b s) (U:Proofs.Z.mu s<=100000000):Cx st b s st []:=
 ⟨h,by
   rcases h with e|⟨_,_,_,_,_,e⟩
   all_goals exact ⟨_,by rw [St.Ms e];exact Rx.start⟩,U⟩
theorem Cx.drop (h:Cx st0 b s st (r::rows)):Cx st0 b s st rows:=⟨h.has,h.rx.imp λ_ e=>e.drop,h.mu⟩
theorem Cx.push (h:Cx st0 b s st rows) (l:List Nd):Cx st0 b s st ((.full,l)::rows):=⟨h.has,h.rx.imp λ_ e=>e.push l,h.mu⟩
theorem Cx.swap (h:Cx st0 b s st (r::q::rows)):Cx st0 b s st (q::r::rows):=⟨h.has,h.rx.imp λ_ e=>e.swap,h.mu⟩
theorem Cx.set (h:Cx st0 b s st rows) (hu:G5 st st' b s') (hm:Proofs.Z.mu s'<=100000000):Cx st0 b s' st' rows:=by
 obtain ⟨U,cs,rfl⟩:=hu
 obtain ⟨c0,hr⟩:=h.rx
 exact ⟨U,⟨cs,hr.Aa⟩,hm⟩
theorem Cx.Nl (h:Cx st0 b s st rows) (hu:G5 st st' b s') (U:Proofs.Z.mu s'<=Proofs.Z.mu s):Cx st0 b s' st' rows:=h.set hu (Nat.le_trans U h.mu)
theorem Cx.look (h:Cx st0 b s st rows):Cx st0 b s (st.Aa b (CD s)) rows:=h.Nl AX (Nat.le_refl _)
theorem Cx.SN {t:Nat} (h:Cx st0 b s st rows) (U:st.fresh t):st0.box t=none/\t≠b:=by
 obtain ⟨c0,hr⟩:=h.rx
 have hb:t≠b:=by
  rintro rfl
  rcases h.has with e|⟨_,_,_,_,_,e⟩<;>(rw [U.1] at e;cases e)
 have:=(hr.fresh U).1
 rw [St.Ar hb.symm] at this
 simp_all
theorem Cx.pK {z:List V} (h:Cx st0 b s st rows) (hf:st.fresh c):Cx (st0.Aa c cs) b s ((st.Aa c z).Aa c cs) rows:=by
 have hb:=(h.SN hf).2
 rw [St.set_set]
 obtain ⟨c0,hr⟩:=h.rx
 refine ⟨?_,⟨c0,⟨λx v U=>?_,λx n U=>hr.le.2 x n U⟩,λr hr'=>?_,hr.ap⟩,h.mu⟩
 .rcases h.has with e|⟨q1,q2,q3,q4,q5,e⟩
  .exact .inl (by rw [St.Ar hb];exact e)
  .exact .inr ⟨q1,q2,q3,q4,q5,by rw [St.Ar hb];exact e⟩
 .by_cases e:x=c
  .subst e
   rw [St.Ar hb.symm,St.Ai] at U
   rw [St.Ai];exact U
  .rw [St.Ar (Ne.symm e)]
   by_cases e2:x=b
   .subst e2
    rw [St.Ai] at U
    exact hr.le.1 x v (by rw [St.Ai];exact U)
   .rw [St.Ar (Ne.symm e2),St.Ar (Ne.symm e)] at U
    exact hr.le.1 x v (by rw [St.Ar (Ne.symm e2)];exact U)
 .have hk:=hr.ok r hr'
  obtain ⟨o,l⟩:=r
  cases o with
  |any=>exact hk
  |full=>exact hk
  |tok t=>
   have htc:t≠c:=by
    rintro rfl
    have:=hk.2
    rw [hf.2] at this;cases this
   have h1:=hk.1.1
   have htb:t≠b:=by
    rintro rfl
    rw [St.Ai] at h1;cases h1
   rw [St.Ar htb.symm] at h1
   exact ⟨⟨by rw [St.Ar htb.symm,St.Ar htc.symm];exact h1,hk.1.2⟩,hk.2⟩
theorem Cx.Tq (h:Cx st0 b s st rows) (U:st.fresh c):Cx (st0.Aa c cs) b s (st.Aa c cs) rows:=by
 have:=h.pK (z:=cs) (cs:=cs) U
 rw [St.set_set] at this;omega
theorem Rx.unbox (h:Rx (st0.Aa c cs) st rows) (hf:st0.box c=none):Rx st0 st rows:=by
 refine ⟨⟨λx v hx=>?_,h.le.2⟩,λr hr=>?_,h.ap⟩
 .have:x≠c:=by rintro rfl;rw [hf] at hx;cases hx
  exact h.le.1 x v (by rw [St.Ar this.symm];exact hx)
 .have U:=h.ok r hr
  obtain ⟨o,l⟩:=r
  cases o with
  |any=>exact U
  |full=>exact U
  |tok t=>
   have h1:=U.1.1
   have:t≠c:=by rintro rfl;rw [St.Ai] at h1;cases h1
   rw [St.Ar this.symm] at h1
   exact ⟨⟨h1,U.1.2⟩,U.2⟩
theorem Qw {cs':List V} (h:c≠b):(st0.Aa c cs).Aa b cs'=(st0.Aa b cs').Aa c cs:=by
 simp only [St.Aa,St.mk.injEq,and_true]
 grind
theorem Cx.unbox {c:Nat} {cs:List V} (h:Cx (st0.Aa c cs) b s st rows) (U:st0.box c=none/\c≠b):Cx st0 b s st rows:=
 ⟨h.has,h.rx.imp λc0 hr=>by rw [Qw U.2] at hr;exact hr.unbox (by rw [St.Ar U.2.symm];grind),h.mu⟩
theorem Cy.unbox {c:Nat} {cs:List V} (h:Cy (st0.Aa c cs) b s st rows) (U:st0.box c=none/\c≠b):Cy st0 b s st rows:=
 ⟨h.has,h.rx.imp λc0 hr=>by rw [Qw U.2] at hr;exact hr.unbox (by rw [St.Ar U.2.symm];grind)⟩
theorem Cx.boxed (h:Cx (st0.Aa c cs) b s st rows) (U:st0.box c=none/\c≠b):st.box c=some cs:=by
 obtain ⟨c0,hr⟩:=h.rx
 exact hr.le.1 c cs (by rw [St.Ar U.2.symm,St.Ai])
theorem Has.eq (h:Has st b s) (e:st'.box=st.box):Has st' b s:=by unfold Has at h |-;simp_all
theorem Cx.app {own:AB} {l new:List Nd} {K:V->St->Prop} (h:Cx st0 b s st ((own,l)::rows)) (hb:l.length+new.length<=1000000000)
 (k:∀U st',Cx st0 b s st' ((U,l++new)::rows)->K (.slice 6 ((l++new).map AM) U) st'):Ah 6 72 (l.map AM) own (new.map AM) st K:=by
 obtain ⟨c0,hr⟩:=h.rx
 exact hr.app hb λU st' e hr'=>k U st' ⟨h.has.eq e,⟨c0,hr'⟩,h.mu⟩
theorem Cx.G1 {own:AB} {x:Nd} {K:V->St->Prop} (h:Cx st0 b s st ((own,l)::rows)) (hb:l.length+1<=1000000000)
 (k:∀U st',Cx st0 b s st' ((U,l++[x])::rows)->K (.slice 6 ((l++[x]).map AM) U) st'):Ah 6 72 (l.map AM) own [AM x] st K:=h.app (new:=[x]) hb k
theorem Cx.ow {own:AB} {x y:Nd} {K:V->St->Prop} (h:Cx st0 b s st ((own,l)::rows)) (hb:l.length+2<=1000000000)
 (k:∀U st',Cx st0 b s st' ((U,l++[x,y])::rows)->K (.slice 6 ((l++[x,y]).map AM) U) st'):Ah 6 72 (l.map AM) own [AM x,AM y] st K:=h.app (new:=[x,y]) hb k
theorem Rx.G1 {own:AB} {x:Nd} {K:V->St->Prop} (h:Rx st0 st ((own,l)::rows)) (hb:l.length+1<=1000000000)
 (k:∀U st',Rx st0 st' ((U,l++[x])::rows)->K (.slice 6 ((l++[x]).map AM) U) st'):Ah 6 72 (l.map AM) own [AM x] st K:=h.app (new:=[x]) hb λU st' _ c=>k U st' c
end
structure AQ {α:Type} (en:α->V) (f:FuncId) (mk:Nat->List V) (A:Rd α):Prop where
 ap:∀{st0:St} {b:Nat} {s:Ag} {st:St} {rows:List (AB×List Nd)} {K:Ay->St->Prop},Cx st0 b s st rows->
 Rd.wp A s (λv s'=>∀st',Cx st0 b s' st' rows->K (.ret (en v)) st') (λe s'=>∀st',Cy st0 b s' st' rows->K (.BX (fault e.1)) st')->PC f (mk b) st K
theorem AQ.go {U:α->V} {A:Rd α} {s:Ag} {st:St} {Q:α->Ag->Prop} (hf:AQ U f mk A) (hc:Cx st0 b s st rows) (h:Rd.wp A s Q E)
 (k:∀v s' st',A.run s=.inr (v,s')->mu s'<=mu s->Cx st0 b s' st' rows->Q v s'->K (.ret (U v)) st') (kb:∀e s' st',Cy st0 b s' st' rows->E e s'->K (.BX (fault e.1)) st'):PC f (mk b) st K:=
 hf.ap hc (Rd.wp_mono h (λv s' r q st' c=>k v s' st' r (A.le _ _ _ r) c q) (λe s' _ q st' c=>kb e s' st' c q))
theorem AQ.nD {U:α->V} {A:Rd α} {s:Ag} {st:St} {Q:α->Ag->Prop} (hf:AQ U f mk A) (hF:Rd.AZ A) (hc:Cx st0 b s st rows) (h:Rd.wp A s Q E)
 (k:∀v s' st',A.run s=.inr (v,s')->mu s'<mu s->Cx st0 b s' st' rows->Q v s'->K (.ret (U v)) st') (kb:∀e s' st',Cy st0 b s' st' rows->E e s'->K (.BX (fault e.1)) st'):PC f (mk b) st K:=
 hf.go hc h (λv s' st' r m c q=>k v s' st' r (hF _ _ _ r) c q) kb
structure nn {α:Type} (en:α->AB->V) (ls:α->List Nd) (f:FuncId) (mk:Nat->List V) (A:Rd α):Prop where
 ap:∀{st0:St} {b:Nat} {s:Ag} {st:St} {rows:List (AB×List Nd)} {K:Ay->St->Prop},Cx st0 b s st rows->
 Rd.wp A s (λv s'=>∀own st',Cx st0 b s' st' ((own,ls v)::rows)->K (.ret (en v own)) st') (λe s'=>∀st',Cy st0 b s' st' rows->K (.BX (fault e.1)) st')->PC f (mk b) st K
theorem nn.go {U:α->AB->V} {ls:α->List Nd} {A:Rd α} {s:Ag} {st:St} {Q:α->Ag->Prop} (hf:nn U ls f mk A) (hc:Cx st0 b s st rows) (h:Rd.wp A s Q E)
 (k:∀v own s' st',A.run s=.inr (v,s')->mu s'<=mu s->Cx st0 b s' st' ((own,ls v)::rows)->Q v s'->K (.ret (U v own)) st') (kb:∀e s' st',Cy st0 b s' st' rows->E e s'->K (.BX (fault e.1)) st'):PC f (mk b) st K:=
 hf.ap hc (Rd.wp_mono h (λv s' r q own st' c=>k v own s' st' r (A.le _ _ _ r) c q) (λe s' _ q st' c=>kb e s' st' c q))
structure nq (f:FuncId) (mk:Nat->V->List V) (A:List Nd->Rd (List Nd)):Prop where
 ap:∀{st0:St} {b:Nat} {s:Ag} {st:St} {rows:List (AB×List Nd)} {K:Ay->St->Prop} {own:AB} {l:List Nd},l.length<=90000000->Cx st0 b s st ((own,l)::rows)->
 Rd.wp (A l) s (λl' s'=>∀own' st',Cx st0 b s' st' ((own',l')::rows)->K (.ret (.slice 6 (l'.map AM) own')) st') (λe s'=>∀st',Cy st0 b s' st' rows->K (.BX (fault e.1)) st')->PC f (mk b (.slice 6 (l.map AM) own)) st K
theorem nq.go {mk:Nat->V->List V} {A:List Nd->Rd (List Nd)} {s:Ag} {st:St} {own:AB} (hf:nq f mk A) (hl:l.length<=90000000) (hc:Cx st0 b s st ((own,l)::rows)) (h:Rd.wp (A l) s Q E)
 (k:∀l' U s' st',(A l).run s=.inr (l',s')->mu s'<=mu s->Cx st0 b s' st' ((U,l')::rows)->Q l' s'->K (.ret (.slice 6 (l'.map AM) U)) st') (kb:∀e s' st',Cy st0 b s' st' rows->E e s'->K (.BX (fault e.1)) st'):PC f (mk b (.slice 6 (l.map AM) own)) st K:=
 hf.ap hl hc (Rd.wp_mono h (λv s' r q own st' c=>k v own s' st' r ((A l).le _ _ _ r) c q) (λe s' _ q st' c=>kb e s' st' c q))
def Fj {α:Type} (U:α->V) (f:FuncId) (args:List V) (b:Nat) (A:Rd α):Prop:=∀{st0:St} {s:Ag} {st:St} {rows:List (AB×List Nd)} {K:Ay->St->Prop},Cx st0 b s st rows->
 Rd.wp A s (λv s'=>∀st',Cx st0 b s' st' rows->K (.ret (U v)) st') (λe s'=>∀st',Cy st0 b s' st' rows->K (.BX (fault e.1)) st')->PC f args st K
theorem AQ.a {U:α->V} {A:Rd α} (h:AQ U f mk A):Fj U f (mk b) b A:=h.ap
theorem AQ.q {U:α->V} {args:List V} {A:Rd α} (h:AQ U f mk A:=by assumption) (e:args=mk b:=by rfl):Fj U f args b A:=e ▸ h.a
theorem Fj.go {U:α->V} {args:List V} {A:Rd α} {s:Ag} {st:St} {Q:α->Ag->Prop} (hf:Fj U f args b A)
 (k:∀v s' st',A.run s=.inr (v,s')->mu s'<=mu s->Cx st0 b s' st' rows->Q v s'->K (.ret (U v)) st') (kb:∀e s' st',Cy st0 b s' st' rows->E e s'->K (.BX (fault e.1)) st') (hc:Cx st0 b s st rows:=by assumption) (h:Rd.wp A s Q E:=by assumption):PC f args st K:=
 hf hc (Rd.wp_mono h (λv s' r q st' c=>k v s' st' r (A.le _ _ _ r) c q) (λe s' _ q st' c=>kb e s' st' c q))
theorem Zo {s:Ag} {st:St} {F:AB->List (AB×List Nd)} {r:AB->Ay} {r':Ay} {o:AB} (h:∀o st',Cx st0 b s st' (F o)->K (r o) st') (hc:Cx st0 b s st (F o)) (e:r o=r'):∃r2 U,(r2=r'\/r2=r'.wk)/\St.le U st/\K r2 U:=⟨r o,st,.inl e,St.le_refl _,h o st hc⟩
theorem C2 {s:Ag} {st:St} {r r':Ay} (hc:Cx st0 b s st rows) (h:∀st',Cx st0 b s st' rows->K r st') (e:r=r'.wk):∃r2 U,(r2=r'\/r2=r'.wk)/\St.le U st/\K r2 U:=⟨r,st,.inr e,St.le_refl _,h st hc⟩
theorem BL {s:Ag} {st:St} {e:Int} (hc:Cy st0 b s st rows) (h:∀st',Cy st0 b s st' rows->K (.BX (fault e)) st'):∃r2 U,(r2=.BX (fault e)\/r2=(Ay.BX (fault e)).wk)/\St.le U st/\K r2 U:=⟨_,st,.inl rfl,St.le_refl _,h st hc⟩
theorem T2 {c:Bool} {Q p q:Prop} (h:if c=true then P else Q) (U:c=true->P->p) (k2:c=false->Q->q):Bg c p q:=Wk (λe=>U e ke) (λe=>k2 e ke)
theorem Gq [BEq α] [LawfulBEq α] {a b:α} {Q p q:Prop} (h:if (a==b)=true then P else Q) (U:a=b->P->p) (k2:¬a=b->Q->q):Bg (a==b) p q:=
 Wg (λe=>U e ke) (λe=>k2 e ke)
theorem aN {c:Prop} [Decidable c] {Q p q:Prop} (h:if c then P else Q) (U:c->P->p) (k2:¬c->Q->q):Bg (decide c) p q:=
 Wh (λe=>U e ke) (λe=>k2 e ke)
theorem oC {b:Bool} {p q:Prop} (h:b=true) (k:p):Bg b p q:=Wk (λ_=>k) (λe=>by simp_all)
theorem ei {b:Bool} {p q:Prop} (h:b=false) (k:q):Bg b p q:=Wk (λe=>by simp_all) (λ_=>k)
structure LS (σ:Type) where
 x:σ
 s:Ag
 m:St
 o:AB
theorem Cg {st:St} {s:Ag} {Q:β->Ag->Prop} {body:σ->Rd (Sum σ β)} {x0:σ}
 (f:σ->AB->List (Nat×V)) (g:σ->AB->List (Nat×List V)) (keep kb:List Nat) (rw:σ->AB->List (AB×List Nd)) (wt:σ->Nat) (U:AB) (hc:Cx st0 b s st (rw x0 U)) (h:Rd.wp (Rd.loop body x0) s Q E) (hl:wt x0+4*mu s<=500000000)
 (he:(env.Oj (f x0 U) (g x0 U) keep kb).ES env)
 (hb:∀x s1 st1 own1,Cx st0 b s1 st1 (rw x own1)->Rd.wp (body x) s1 (Rd.again body s1 Q E) E->wt x+4*mu s1<=500000000->mu s1<=mu s->
   ih (B2 (λenv' st'=>∃y:LS σ,(Cx st0 b y.s y.m (rw y.x y.o)/\Rd.wp (Rd.loop body y.x) y.s Q E/\wt y.x+4*mu y.s<=500000000/\mu y.s<=mu s)/\mu y.s<mu s1/\(env.Oj (f y.x y.o) (g y.x y.o) keep kb).ES env'/\St.le y.m st') Q0)
    (env.Oj (f x own1) (g x own1) keep kb) st1):
 ∃(α:Type) (E:α->Env) (S:α->St) (J:α->Prop) (μ:α->Nat) (x0:α),J x0/\(E x0).ES env/\St.le (S x0) st/\
  ∀x,J x->ih (B2 (λenv' st'=>∃y,J y/\μ y<μ x/\(E y).ES env'/\St.le (S y) st') Q0) (E x) (S x):=
 ⟨LS σ,λy=>env.Oj (f y.x y.o) (g y.x y.o) keep kb,λy=>y.m,
   λy=>Cx st0 b y.s y.m (rw y.x y.o)/\Rd.wp (Rd.loop body y.x) y.s Q E/\wt y.x+4*mu y.s<=500000000/\mu y.s<=mu s,λy=>mu y.s,⟨x0,s,st,U⟩,⟨hc,h,hl,Nat.le_refl _⟩,he,St.le_refl _,
   λy ⟨j1,j2,j3,j4⟩=>hb y.x y.s y.m y.o j1 (by rw [<-Rd.wp_loop];exact j2) j3 j4⟩
section
variable {st0 st:St} {b:Nat} {s:Ag} {rows:List (AB×List Nd)} {K:Ay->St->Prop}
theorem Qf (U:Cx st0 b s st rows) (k:∀st',Cx st0 b s st' rows->K (.ret (EZ (Ab s).1)) st'):PC 83 [.ptr b 0] st K:=F7 U.has U.hb (k _ U.look)
theorem lA (U:Cx st0 b s st rows) (kk:∀st',Cx st0 b s st' rows->K (.ret (.bool (Bn s k x))) st'):PC 156 [.ptr b 0,.int .i64 k,.str x] st K:=XJ U.has U.hb (kk _ U.look)
theorem XK (U:Cx st0 b s st rows) (e:Bn s k x=true) (kk:∀st',Cx st0 b s st' rows->K (.ret (.bool true)) st'):PC 156 [.ptr b 0,.int .i64 k,.str x] st K:=lA U ke
theorem fS (U:Cx st0 b s st rows) (e:Bn s k x=false) (kk:∀st',Cx st0 b s st' rows->K (.ret (.bool false)) st'):PC 156 [.ptr b 0,.int .i64 k,.str x] st K:=lA U ke
theorem fR {Q:Prop} (U:Cx st0 b s st rows) (h:if Bn s k x=true then P else Q) (k1:∀st',Cx st0 b s st' rows->Bn s k x=true->P->K (.ret (.bool true)) st') (k2:∀st',Cx st0 b s st' rows->Bn s k x=false->Q->K (.ret (.bool false)) st'):
 PC 156 [.ptr b 0,.int .i64 k,.str x] st K:=by
 cases e:Bn s k x with
 |true=>exact XK U e λst' c=>k1 st' c e ke
 |false=>exact fS U e λst' c=>k2 st' c e ke
theorem Gk:AQ enc 121 (λb=>[.ptr b 0]) AO:=by
 refine ⟨λ{st0 b s st rows K} U h=>?_⟩
 refine Lk U.has U.hb (λe st' hu=>?_) (λe=>?_)
 .unfold Rd.wp at h;rw [Fh e] at h;exact h st' (U.Nl hu (EF e).1)
 .unfold Rd.wp at h;rw [Qy e] at h;exact h _ U.look.y
theorem Mt {Q:Nd->Ag->Prop} (hc:Cx st0 b s st rows) (h:Rd.wp AO s Q E) (e:Bn s k x=true) (hk:k≠0/\k≠21) (kk:∀s' st',(Ab s).2.1=s'->mu s'<mu s->Cx st0 b s' st' rows->Q (Bv (Ab s).1) s'->K (.ret (enc (Bv (Ab s).1))) st'):
 PC 121 [.ptr b 0] st K:=by
 unfold Rd.wp at h
 rw [iW e hk.1] at h
 have U:=DU e hk.1 hk.2
 exact Lk hc.has hc.hb (λ_ st' hu=>kk _ st' rfl U (hc.Nl hu (Nat.le_of_lt U)) h) (λn=>absurd (GQ e hk.1) n)
theorem Mu {Q:Nd->Ag->Prop} (hc:Cx st0 b s st rows) (h:Rd.wp AO s Q E) (hk:(Ab s).1.kind≠0/\(Ab s).1.kind≠21) (kk:∀s' st',(Ab s).2.1=s'->mu s'<mu s->Cx st0 b s' st' rows->Q (Bv (Ab s).1) s'->K (.ret (enc (Bv (Ab s).1))) st'):
 PC 121 [.ptr b 0] st K:=by
 have e:=FO hk.1
 unfold Rd.wp at h
 rw [Fh e] at h
 have U:=(EF e).2 hk.2
 exact Lk hc.has hc.hb (λ_ st' hu=>kk _ st' rfl U (hc.Nl hu (Nat.le_of_lt U)) h) (λn=>absurd e n)
theorem Rb {Q:α->Ag->Prop} (U:Cx st0 b s st rows) (h:Rd.wp (Sg:Rd α) s Q E) (kb:∀e s' st',Cy st0 b s' st' rows->E e s'->K (.BX (fault e.1)) st'):PC 171 [.ptr b 0] st K:=
 ec U.has U.hb (kb _ _ _ U.look.y h)
theorem TN:AQ enc 118 (λb=>[.ptr b 0,.int .i64 k,.str x]) (BA k x):=by
 refine ⟨λ{st0 b s st rows K} U h=>?_⟩
 unfold BA at h
 rw [Rd.Af,Rd.As] at h
 refine jv U.has U.hb (λe1 e2 st' hu=>?_) (λe1 e2=>?_) (λe1=>?_)
 .rw [if_pos e1] at h
  unfold Rd.wp at h;rw [Fh e2] at h;exact h st' (U.Nl hu (EF e2).1)
 .rw [if_pos e1] at h
  unfold Rd.wp at h;rw [Qy e2] at h;exact h _ U.look.y
 .rw [if_neg ke] at h
  exact h _ U.look.y
theorem qy (U:Cx st0 b s st rows) (hm:mu s'<=100000000) (k:∀st',Cx st0 b s' st' rows->K (.ret (.Bu [])) st'):PC 72 [.ptr b 0,CV s'] st K:=lk U.has λst' hu=>k st' (U.set hu hm)
theorem Ko {Q:Unit->Ag->Prop} (hc:Cx st0 b s st rows) (h:Rd.wp Ji s Q E) (hk:(Ab s).1.kind≠0/\(Ab s).1.kind≠21) (kk:∀s' st',(Ab s).2.1=s'->mu s'<mu s->Cx st0 b s' st' rows->Q () s'->K (.ret (EZ (Ab s).1)) st'):
 PC 139 [.ptr b 0] st K:=by
 have e:=FO hk.1
 unfold Ji at h
 rw [Rd.wp_seq] at h
 unfold Rd.wp at h
 rw [Fh e] at h
 have U:=(EF e).2 hk.2
 exact Tx hc.has hc.hb (λ_ st' hu=>kk _ st' rfl U (hc.Nl hu (Nat.le_of_lt U)) h) (λn=>absurd e n)
theorem ab {Q:Unit->Ag->Prop} (hc:Cx st0 b s st rows) (h:if Bn (Ab s).2.1 k x=true then Rd.wp Ji s Q E else P) (hk:(Ab s).1.kind≠0/\(Ab s).1.kind≠21)
 (kk:∀s' st',mu s'<mu s->Cx st0 b s' st' rows->(if Bn s' k x=true then Q () s' else P)->K (.ret (EZ (Ab s).1)) st'):PC 139 [.ptr b 0] st K:=by
 have e:=FO hk.1
 have U:=(EF e).2 hk.2
 refine Tx hc.has hc.hb (λ_ st' hu=>kk _ st' U (hc.Nl hu (Nat.le_of_lt U)) ?_) (λn=>absurd e n)
 split
 .rename_i hi
  rw [if_pos hi] at h
  unfold Ji at h
  rw [Rd.wp_seq] at h
  unfold Rd.wp at h
  rw [Fh e] at h
  exact h
 simp_all
theorem FM {s0:Ag} (U:Cx st0 b s st rows) (hm:mu s0<=100000000) (k:∀st',Cx st0 b s0 st' rows->K (.ret (.Bu [])) st'):PC 72 [.ptr b 0,.agg s0.cells] st K:=qy U hm k
theorem pY (hc:Cx st0 b s st rows) (hk:(Ab s).1.kind≠0/\(Ab s).1.kind≠21) (kk:∀s' st',(Ab s).2.1=s'->mu s'<mu s->Cx st0 b s' st' rows->K (.ret (enc (Bv (Ab s).1))) st'):PC 121 [.ptr b 0] st K:=by
 have e:=FO hk.1
 have U:=(EF e).2 hk.2
 exact Lk hc.has hc.hb (λ_ st' hu=>kk _ st' rfl U (hc.Nl hu (Nat.le_of_lt U))) (λn=>absurd e n)
end
theorem CN (h:P:=by with_reducible first|(show _/\_;first|exact Wa)|(show Bg _ _ _;first|exact Wb|exact Wc)|fail):P:=h
theorem A2 {A:Prop} (k:A) (h:A->P:=by intro k;with_reducible first|(show _/\_;first|exact Wd EQ k|exact Wm ‹_› AC k|exact Wn AC AC k|exact Wo AC AC k|exact Wp AC AC AC k|exact Wr Do AC AC k|exact Ws Do k|exact WB ‹_› AC k|exact WC AC AC k|exact WD AC AC k|exact WE AC AC AC k)|(show Bg _ _ _;first|exact Wt IR k|exact Wu IR k|exact Wv AC k|exact Ww AC k|exact oC ‹_› k|exact ei ‹_› k|exact Wi k|exact Wj k)|(intro x y z;exact Wl k x y z)|(intro x y z;exact Wz k x y z)|(intro x y z;exact WA k x y z)|(show Exists _;first|exact Wq AC AC k)|fail):P:=h k
theorem CO {B C:V->Prop} (k:V) (l:B k) (m:C k) (h:∀k,B k->C k->P:=by intro k l m;with_reducible first|(show Exists _;first|exact We k l m|exact W8 GE k l m|exact W0 GE k l m|exact W9 k l m)|fail):P:=h k l m
theorem A3 {A:Prop} (k:A) (l:B) (h:A->B->P:=by intro k l;with_reducible first|(show Bg _ _ _;first|exact Gq ‹_› k l|exact aN ‹_› k l|exact T2 ‹_› k l)|fail):P:=h k l
theorem A4 {A:Prop} (k:A) (l:B) (h:A->B->P:=by intro k l;with_reducible first|(show Bg _ _ _;first|exact Wf Do k l|exact Wg k l|exact Wh k l|exact Wk k l)|fail):P:=h k l
theorem TP {A:Prop} (k:A) (l:B) (h:A->B->P:=by intro k l;with_reducible first|(intro x y;exact Wx k l x y)|(intro x y;exact Wy k l x y)|fail):P:=h k l
theorem Ac {p:Env->Prop} (h:∀e,p e):∀e:Env,p e:=h
theorem WZ {es:List (List V)} {e:List V} {K:List V->Prop} (U:0<=i) (h:es[i.toNat]? =some e) (k:K e):0<=i/\∃e,es[i.toNat]? =some e/\K e:=⟨U,e,h,k⟩
theorem fQ {l:List Int} {x:Int} {K:List V->Prop} (h:l[i.toNat]? =some x) (U:0<=i) (k:K [.int .i64 x]):0<=i/\∃e,(ints l)[i.toNat]? =some e/\K e:=⟨U,_,by simp [ints,h],k⟩
theorem pb {es:List α} {n:Nat} {K:Nat->Prop} (h:es.length=n) (k:K n):∀m,m=es.length->m<En->K m:=λm U _=>by rw [h] at U;subst U;exact k
section
variable {st:St} {K:Ay->St->Prop}
theorem Ia (h:K (.ret (.bool (Ni t))) st):PC 341 [EZ t] st K:=by
 refine pB Tryz.func341 ?_
 repeat' ((conv=>whnf);first|(refine A2 ?_;intros)|(refine A3 ?_ ?_<;>intro e h)|(refine A4 ?_ ?_<;>intro _)|fail)
 all_goals conv=>whnf
 all_goals (refine Aq h ?_;clear h;simp_all [Ni])
theorem lx (h:K (.ret (.bool (PS t))) st):PC 343 [EZ t] st K:=by
 refine pB Tryz.func343 ?_
 repeat' ((conv=>whnf);first|(refine A2 ?_;intros)|(refine A3 ?_ ?_<;>intro e h)|(refine A4 ?_ ?_<;>intro _)|refine Ia ?_)
 all_goals conv=>whnf
 all_goals (refine Aq h ?_;clear h;simp_all [PS])
theorem TY (h:K (.ret (.bool (EV t))) st):PC 207 [EZ t] st K:=by
 refine pB Tryz.func207 ?_
 repeat' ((conv=>whnf);first|(refine A2 ?_;intros)|(refine A3 ?_ ?_<;>intro e h)|(refine A4 ?_ ?_<;>intro _)|fail)
 all_goals conv=>whnf
 all_goals (refine Aq h ?_;clear h;simp_all [EV])
theorem Lw (h:K (.ret (.bool (FJ t))) st):PC 142 [EZ t] st K:=by
 refine pB Tryz.func142 ?_
 repeat' ((conv=>whnf);first|(refine A2 ?_;intros)|(refine A3 ?_ ?_<;>intro e h)|(refine A4 ?_ ?_<;>intro _)|refine TY ?_)
 all_goals conv=>whnf
 all_goals (refine Aq h ?_;clear h;simp_all [FJ,EV,mU,rI,jt,rH])
theorem SJ (h:K (.ret (.bool (K3 t))) st):PC 143 [EZ t] st K:=by
 refine pB Tryz.func143 ?_
 repeat' ((conv=>whnf);first|(refine A2 ?_;intros)|(refine A3 ?_ ?_<;>intro e h)|(refine A4 ?_ ?_<;>intro _)|fail)
 all_goals conv=>whnf
 all_goals (refine Aq h ?_;clear h;simp_all [K3])
theorem Tt (h:K (.ret (.bool (KO t))) st):PC 140 [EZ t] st K:=by
 refine pB Tryz.func140 ?_
 repeat' ((conv=>whnf);first|(refine A2 ?_;intros)|(refine A3 ?_ ?_<;>intro e h)|(refine A4 ?_ ?_<;>intro _)|fail)
 all_goals conv=>whnf
 all_goals (refine Aq h ?_;clear h;simp_all [KO])
theorem JL {own:AB} (h:K (.ret (enc (Au k l))) st):PC 217 [.int .i64 k,.slice 6 (l.map AM) own] st K:=by
 refine pB Tryz.func217 ?_
 repeat' ((conv=>whnf);first|(refine A2 ?_;intros)|(refine A3 ?_ ?_<;>intro e h)|(refine A4 ?_ ?_<;>intro _)|fail)
 all_goals exact DS (St.le_refl _) B6 h
theorem ZL {a:Nd} {own:AB} (h:K (.ret (enc (Au k [a]))) st):PC 217 [.int .i64 k,.slice 6 [AM a] own] st K:=JL (l:=[a]) h
theorem ZM {a b:Nd} {own:AB} (h:K (.ret (enc (Au k [a,b]))) st):PC 217 [.int .i64 k,.slice 6 [AM a,AM b] own] st K:=JL (l:=[a,b]) h
theorem Tc {a b c:Nd} {own:AB} (h:K (.ret (enc (Au k [a,b,c]))) st):PC 217 [.int .i64 k,.slice 6 [AM a,AM b,AM c] own] st K:=JL (l:=[a,b,c]) h
theorem ZN {a b c d:Nd} {own:AB} (h:K (.ret (enc (Au k [a,b,c,d]))) st):PC 217 [.int .i64 k,.slice 6 [AM a,AM b,AM c,AM d] own] st K:=JL (l:=[a,b,c,d]) h
theorem oP {own:AB} (h:K (.ret (enc (Ye k l))) st):PC 286 [.int .i64 k,.slice 6 (l.map AM) own] st K:=by
 refine pB Tryz.func286 ?_
 match l with
 |[x]=>
  have h:K (.ret (enc x)) st:=h
  have hn:(([x]:List Nd).length:Int)=1:=rfl
  repeat' ((conv=>whnf);first|(refine A2 ?_;intros)|(refine A3 ?_ ?_<;>intro e h)|(refine A4 ?_ ?_<;>intro _)|refine BR (l:=[x]) (λ_=>?_)|refine WZ AC rfl ?_)
  all_goals exact BH rfl h
 |[]=>
  have h:K (.ret (enc (Au k []))) st:=h
  have hn:¬(([]:List Nd).length:Int)=1:=Do
  repeat' ((conv=>whnf);first|(refine A2 ?_;intros)|(refine A3 ?_ ?_<;>intro e h)|(refine A4 ?_ ?_<;>intro _)|refine BR (l:=[]) (λ_=>?_)|refine JL (l:=[]) ?_)
  all_goals exact BH rfl h
 |x::y::r=>
  have h:K (.ret (enc (Au k (x::y::r)))) st:=h
  have hn:¬((x::y::r).length:Int)=1:=by simp only [List.length_cons];omega
  repeat' ((conv=>whnf);first|(refine A2 ?_;intros)|(refine A3 ?_ ?_<;>intro e h)|(refine A4 ?_ ?_<;>intro _)|refine BR (l:=x::y::r) (λ_=>?_)|refine JL (l:=x::y::r) ?_)
  all_goals exact BH rfl h
theorem SR (h:K (.ret (.bool (KK n))) st):PC 403 [enc n] st K:=by
 refine pB Tryz.func403 ?_
 repeat' ((conv=>whnf);first|(refine A2 ?_;intros)|(refine A3 ?_ ?_<;>intro e h)|(refine A4 ?_ ?_<;>intro _)|refine eG ?_)
 all_goals conv=>whnf
 all_goals (refine Aq h ?_;clear h;simp_all [Xd])
theorem Zx (U:n.size<=1000000000) (h:K (.ret (.bool (dq n))) st):PC 287 [enc n] st K:=by
 refine pB Tryz.func287 ?_
 have hs:(strs (F6 n).1).length=(F6 n).1.length:=by simp [strs]
 repeat' ((conv=>whnf);first|(refine A2 ?_;intros)|(refine A3 ?_ ?_<;>intro e h)|(refine A4 ?_ ?_<;>intro _)|refine gF U ?_|refine pb hs ?_)
 all_goals conv=>whnf
 all_goals (refine Aq h ?_;clear h;simp_all [dq])
end
theorem J2 (h:EV t=true):t.kind≠0/\t.kind≠21:=by
 unfold EV at h
 simp only [Bool.or_eq_true,Bool.and_eq_true,beq_iff_eq] at h
 omega
theorem Qx (h:Ni t=true):t.kind≠0/\t.kind≠21:=by
 unfold Ni at h
 simp only [Bool.or_eq_true,Bool.and_eq_true,beq_iff_eq] at h
 omega
theorem OO (h:KO t=true):t.kind≠0/\t.kind≠21:=by
 unfold KO at h
 simp only [Bool.or_eq_true,Bool.and_eq_true,beq_iff_eq] at h
 omega
abbrev pv (b d:Nat):V:=.agg [.ptr b 0,.int .i64 (d:Int)]
section
variable {st0 st:St} {b d:Nat} {s:Ag} {rows:List (AB×List Nd)} {K:Ay->St->Prop}
theorem ZY (U:Cx st0 b s st rows) (kk:∀st',Cx st0 b s st' rows->K (.ret (.bool (Bn s 15 x))) st'):PC 213 [pv b d,.str x] st K:=by
 refine pB Tryz.func213 ?_
 repeat' ((conv=>whnf);first|(refine A2 ?_;intros)|(refine A3 ?_ ?_<;>intro e h)|(refine A4 ?_ ?_<;>intro _)|refine lA U (λst1 U=>?_))
 all_goals conv=>whnf
 all_goals exact Aq (kk st1 U) ‹_›
theorem Tp (U:Cx st0 b s st rows) (e:Bn s 15 x=true) (kk:∀st',Cx st0 b s st' rows->K (.ret (.bool true)) st'):PC 213 [pv b d,.str x] st K:=ZY U (by rw [e];exact kk)
theorem Yk (U:Cx st0 b s st rows) (e:Bn s 15 x=false) (kk:∀st',Cx st0 b s st' rows->K (.ret (.bool false)) st'):PC 213 [pv b d,.str x] st K:=ZY U (by rw [e];exact kk)
theorem pH {Q:Prop} (U:Cx st0 b s st rows) (h:if Bn s 15 x=true then P else Q) (k1:∀st',Cx st0 b s st' rows->Bn s 15 x=true->P->K (.ret (.bool true)) st') (k2:∀st',Cx st0 b s st' rows->Bn s 15 x=false->Q->K (.ret (.bool false)) st'):
 PC 213 [pv b d,.str x] st K:=by
 cases e:Bn s 15 x with
 |true=>exact Tp U e λst' c=>k1 st' c e (by rw [if_pos e] at h;exact h)
 |false=>exact Yk U e λst' c=>k2 st' c e (by rw [if_neg (by rw [e];decide)] at h;exact h)
theorem D3 {own:AB} (h0:ks.contains 0=false):AQ enc 157 (λb=>[.ptr b 0,.slice 1 (ints ks) own]) (Dm ks):=by
 refine ⟨λ{st0 b s st rows K} U h=>?_⟩
 unfold Dm at h
 simp only [Rd.Af,Rd.As] at h
 refine pB Tryz.func157 ?_
 repeat' ((conv=>whnf);first|(refine A2 ?_;intros)|(refine A3 ?_ ?_<;>intro e h)|(refine A4 ?_ ?_<;>intro _)|refine Qf ‹_› (λst1 U=>?_)|refine Mt ‹_› ‹_› ‹_› Do (λs1 st1 hz hm U h=>?_)|refine Mu ‹_› ‹_› (by first|exact J2 ‹_›|exact Qx ‹_›|omega) (λs1 st1 hz hm U h=>?_)|refine Gk.go ‹_› ‹_› (λn s1 st1 hr hm U h=>?_) (λe s1 st1 U h=>?_)|refine Rb ‹_› ‹_› (λe s1 st1 U h=>?_)|exact BL (Cx.y ‹_›) ‹_›|exact BL (Cx.y (Cx.drop ‹_›)) ‹_›|refine BR (λ_=>?_)|refine Ac (λe1=>?_)|exact ⟨⟨_,_,_,_⟩,⟨‹_›,Rd.Eu ‹_› cb,f7,cb⟩,cb,(by refine ⟨rfl,?_,?_,rfl⟩<;>repeat' (first|exact trivial|exact rfl|refine And.intro ?_ ?_)),St.le_refl _⟩|exact Zo ‹_› ‹_› rfl|exact C2 ‹_› ‹_› rfl|exact C2 ‹_› ‹_› B6|exact C2 (Cx.drop ‹_›) ‹_› rfl|exact C2 (Cx.drop ‹_›) ‹_› B6|exact BL ‹_› ‹_›|exact BL (Cy.drop ‹_›) ‹_›|exact BL (Cy.drop (Cy.drop ‹_›)) ‹_›|refine WA (λ_=>?_))
 refine S0 (α:=Nat×St) (λx=>[(12,.int .i64 (x.1:Int))]) [0,4,5,10,11] [0,1] (λx=>x.2) (λx=>x.1<=ks.length/\Cx st0 b s x.2 rows/\ks.contains (Ab s).1.kind=(ks.drop x.1).contains (Ab s).1.kind) (λx=>ks.length - x.1) (0,_) ⟨Nat.zero_le _,U,rfl⟩ Yl (St.le_refl _) ?_
 rintro ⟨k,st2⟩ ⟨hk,hc2,hi⟩
 dsimp only at hk hc2 hi |-
 by_cases hlt:k<ks.length
 .obtain ⟨x,hx⟩:∃x,ks[(k:Int).toNat]? =some x:=⟨_,List.getElem?_eq_getElem hlt⟩
  have hx':ks[k]? =some x:=hx
  rw [drop_at hx',List.contains_cons] at hi
  have hx1:=hx
  by_cases e:(Ab s).1.kind=x
  .rw [beq_iff_eq.2 e,Bool.true_or] at hi
   rw [if_pos hi] at h
   have hkd:(Ab s).1.kind≠0:=λz=>by rw [z] at hi;rw [h0] at hi;cases hi
   have U:=hc2
   repeat' ((conv=>whnf);first|refine fQ hx AC ?_|(refine A2 ?_;intros)|(refine A3 ?_ ?_<;>intro e h)|(refine A4 ?_ ?_<;>intro _)|refine Gk.go U h (λn s1 st1 hr hm U h=>?_) (λe s1 st1 U h=>?_)|exact C2 U h rfl|exact BL U h)
  .rw [beq_eq_false_iff_ne.2 e,Bool.false_or] at hi
   repeat' ((conv=>whnf);first|refine fQ hx AC ?_|(refine A2 ?_;intros)|(refine A3 ?_ ?_<;>intro e h)|(refine A4 ?_ ?_<;>intro _)|fail)
   all_goals conv=>whnf
   all_goals exact ⟨(k+1,st2),⟨hlt,hc2,hi⟩,Nat.sub_lt_sub_left hlt (Nat.lt_succ_self k),Yl,St.le_refl _⟩
 .rw [List.drop_eq_nil_iff.2 AC] at hi
  rw [if_neg (by rw [hi];exact Bool.false_ne_true)] at h
  have U:=hc2
  repeat' ((conv=>whnf);first|(refine A2 ?_;intros)|(refine A3 ?_ ?_<;>intro e h)|(refine A4 ?_ ?_<;>intro _)|refine Rb U h (λe s1 st1 U h=>?_)|exact BL U h)
theorem fU:AQ enc 157 (λb=>[.ptr b 0,.slice 1 [[.int .i64 1],[.int .i64 2],[.int .i64 3],[.int .i64 4]] .full]) (Dm [1,2,3,4]):=D3 (ks:=[1,2,3,4]) Do
theorem OI:AQ enc 283 (λb=>[pv b d]) H2:=by
 refine ⟨λ{st0 b s st rows K} hc h=>?_⟩
 unfold H2 at h
 simp only [Rd.Af,Rd.As,Rd.wp_seq,Rd.wp_ret] at h
 refine pB Tryz.func283 ?_
 repeat' ((conv=>whnf);first|exact CN|(refine A2 ?_;intros)|(refine CO ?_ ?_ ?_;rotate_left)|(refine A3 ?_ ?_<;>intro e h)|(refine A4 ?_ ?_<;>intro _)|refine Qf ‹_› (λU hc=>?_)|refine Mt ‹_› ‹_› ‹_› Do (λs1 U hz hm hc h=>?_)|refine Mu ‹_› ‹_› (by first|exact J2 ‹_›|exact Qx ‹_›|omega) (λs1 U hz hm hc h=>?_)|refine Gk.go ‹_› ‹_› (λn s1 U hr hm hc h=>?_) (λe s1 U hc h=>?_)|refine TN.go ‹_› ‹_› (λn s1 U hr hm hc h=>?_) (λe s1 U hc h=>?_)|exact BL (Cx.y ‹_›) ‹_›|exact BL (Cx.y (Cx.drop ‹_›)) ‹_›|refine Ia ?_|refine ZL ?_|refine ZM ?_|refine Tc ?_|refine ZN ?_|refine JL ?_|refine Ac (λe1=>?_)|exact ⟨⟨_,_,_,_⟩,⟨‹_›,Rd.Eu ‹_› cb,f7,cb⟩,cb,(by refine ⟨rfl,?_,?_,rfl⟩<;>repeat' (first|exact trivial|exact rfl|refine And.intro ?_ ?_)),St.le_refl _⟩|exact Zo ‹_› ‹_› rfl|exact C2 ‹_› ‹_› rfl|exact C2 ‹_› ‹_› B6|exact C2 (Cx.drop ‹_›) ‹_› rfl|exact C2 (Cx.drop ‹_›) ‹_› B6|exact BL ‹_› ‹_›|exact BL (Cy.drop ‹_›) ‹_›|exact BL (Cy.drop (Cy.drop ‹_›)) ‹_›|refine fU.go hc h (λn s1 U hr hm hc h=>?_) (λe s1 U hc h=>?_)|refine Ae [(0,true),(1,true),(2,true),(3,true),(4,false),(5,true),(6,false),(7,false)] [1] GE ?_|with_reducible refine WF ?_)
end
theorem ET (h:P:=by (with_reducible show ∃_,_);first|exact ⟨⟨_,_,_,_⟩,⟨‹_›,Rd.Eu ‹_› cb,f7,cb⟩,cb,Yl,St.le_refl _⟩|exact BL (Cx.y ‹_›) ‹_›|exact BL (Cx.y (Cx.drop ‹_›)) ‹_›|exact Zo ‹_› ‹_› rfl|exact C2 ‹_› ‹_› rfl|exact C2 ‹_› ‹_› B6|exact C2 (Cx.drop ‹_›) ‹_› rfl|exact C2 (Cx.drop ‹_›) ‹_› B6|exact BL ‹_› ‹_›|exact BL (Cy.drop ‹_›) ‹_›|exact BL (Cy.drop (Cy.drop ‹_›)) ‹_›|fail):P:=h
theorem KA {A:Prop} (k:A) (h:A->P:=by intro k;(with_reducible show Ah _ _ _ _ _ _ _);first|exact Cx.G1 ‹_› f8 k|exact Cx.G1 (Cx.push ‹_› _) f8 k|fail):P:=h k
theorem Hn {A:Prop} (k:A) (h:A->P:=by intro k;(with_reducible show PC _ _ _ _);first|((with_reducible show PC 156 _ _ _);exact XK ‹_› ‹_› k)|((with_reducible show PC 156 _ _ _);exact fS ‹_› ‹_› k)|((with_reducible show PC 213 _ _ _);exact Tp ‹_› ‹_› k)|((with_reducible show PC 213 _ _ _);exact Yk ‹_› ‹_› k)|((with_reducible show PC 83 _ _ _);exact Qf ‹_› k)|fail):P:=h k
theorem KV {A:Prop} (k:A) (l:B) (h:A->B->P:=by intro k l;(with_reducible show PC _ _ _ _);first|((with_reducible show PC 156 _ _ _);exact fR ‹_› ‹_› k l)|((with_reducible show PC 213 _ _ _);exact pH ‹_› ‹_› k l)|fail):P:=h k l
theorem J1 {A:Prop} (k:A) (h:A->P:=by intro k;(with_reducible show PC _ _ _ _);first|((with_reducible show PC 121 _ _ _);exact Mt ‹_› ‹_› ‹_› Do k)|((with_reducible show PC 121 _ _ _);exact Mu ‹_› ‹_› (by first|exact J2 ‹_›|exact Qx ‹_›|omega) k)|fail):P:=h k
theorem Ii {A:Prop} (k:A) (l:B) (h:A->B->P:=by intro k l;(with_reducible show PC _ _ _ _);first|((with_reducible show PC 121 _ _ _);exact Gk.go ‹_› ‹_› k l)|((with_reducible show PC 118 _ _ _);exact TN.go ‹_› ‹_› k l)|fail):P:=h k l
theorem dI {A:Prop} (k:A) (h:A->P:=by intro k;(with_reducible show PC _ _ _ _);first|((with_reducible show PC 171 _ _ _);exact Rb ‹_› ‹_› k)|fail):P:=h k
theorem Jr {A:Prop} (k:A) (h:A->P:=by intro k;(with_reducible show PC _ _ _ _);first|((with_reducible show PC 341 _ _ _);exact Ia k)|((with_reducible show PC 343 _ _ _);exact lx k)|((with_reducible show PC 207 _ _ _);exact TY k)|((with_reducible show PC 217 _ _ _);exact ZL k)|((with_reducible show PC 217 _ _ _);exact ZM k)|((with_reducible show PC 217 _ _ _);exact Tc k)|((with_reducible show PC 217 _ _ _);exact ZN k)|((with_reducible show PC 217 _ _ _);exact JL k)|((with_reducible show PC 286 _ _ _);exact oP k)|fail):P:=h k
theorem pX (h:Ni t=true):t.kind≠21:=(Qx h).2
theorem PE:Rd.AZ H2:=Rd.AZ.look λs v s' h=>by
 split at h
 .rename_i U
  exact Rd.AZ.at (λv s' e=>GY e (pX U)) h
 .exact Rd.AZ.seq (K0 Do) s v s' h
section
variable {st0 st:St} {b d:Nat} {s:Ag} {rows:List (AB×List Nd)} {K:Ay->St->Prop}
attribute [local irreducible] Go.Aw.Ah
theorem iE {U:Rd Nd} (ho:AQ enc 342 (λb=>[pv b d]) U):nn (λp own=>.Bu [.slice 6 (p.1.map AM) own,.bool p.2]) (·.1) 285 (λb=>[pv b d,.bool br]) (NB U br):=by
 refine ⟨λ{st0 b s st rows K} hc h=>?_⟩
 unfold NB at h
 refine pB Tryz.func285 ?_
 have hmu:=hc.mu
 repeat' ((conv=>whnf);(first|refine A2 ?_|refine A3 ?_ ?_|refine A4 ?_ ?_|refine TP ?_ ?_|fail)<;>intros)
 refine Cg (λl own=>[(4,.slice 6 (l.map AM) own)]) (λ_ _=>[]) [1,2] [0] (λl own=>(own,l)::rows) (λl=>l.length) .full (Cx.push ‹_› []) ‹_› i7 Yl ?_
 intro l s1 st1 own1 hc h hl hm1
 simp only [ix,Rd.Af,Rd.As,Rd.wp_seq,Rd.wp_ret,Rd.Br] at h
 repeat' ((conv=>whnf);(first|refine A2 ?_|refine A3 ?_ ?_|refine A4 ?_ ?_|refine TP ?_ ?_|fail)<;>intros)
 unfold X4 at h
 refine Cg (λl own=>[(4,.slice 6 (l.map AM) own)]) (λ_ _=>[]) [1,2] [0] (λl own=>(own,l)::rows) (λl=>l.length) own1 ‹_› ‹_› hl Yl ?_
 intro l2 s2 st2 own2 hc h hl hm2
 simp only [X3,Rd.Af,Rd.As,Rd.wp_seq,Rd.wp_ret,Rd.Br] at h
 cases br
 .simp only [Bool.false_eq_true,if_false] at h
  repeat' ((conv=>whnf);(first|refine A2 ?_|refine A3 ?_ ?_|refine A4 ?_ ?_|refine TP ?_ ?_|refine Hn ?_|refine KV ?_ ?_|refine J1 ?_|refine Ii ?_ ?_|exact ET|refine Jr ?_|refine KA ?_|refine Ac ?_|refine ho.go ‹_› ‹_› ?_ ?_|refine OI.nD PE ‹_› ‹_› ?_ ?_)<;>intros)
 .simp only [if_true] at h
  repeat' ((conv=>whnf);(first|refine A2 ?_|refine A3 ?_ ?_|refine A4 ?_ ?_|refine TP ?_ ?_|refine Hn ?_|refine KV ?_ ?_|refine J1 ?_|refine Ii ?_ ?_|exact ET|refine Jr ?_|refine KA ?_|refine Ac ?_|refine ho.go ‹_› ‹_› ?_ ?_|refine OI.nD PE ‹_› ‹_› ?_ ?_)<;>intros)
end
section
variable {st0 st:St} {b d:Nat} {s:Ag} {rows:List (AB×List Nd)} {K:Ay->St->Prop}
attribute [local irreducible] Go.Aw.Ah
theorem gZ {U:Rd Nd} (ho:AQ enc 342 (λb=>[pv b d]) U):AQ enc 212 (λb=>[pv b d]) (Vc U):=by
 refine ⟨λ{st0 b s st rows K} hc h=>?_⟩
 simp only [Vc,Rd.wp_seq,Rd.wp_ret] at h
 refine pB Tryz.func212 ?_
 repeat' ((conv=>whnf);(first|refine A2 ?_|refine A3 ?_ ?_|refine A4 ?_ ?_|exact ET|refine Jr ?_|refine Ac ?_|refine nn.go (iE ho) ‹_› ‹_› ?_ ?_)<;>intros)
theorem VO {A:Ag->Rs} {hle:∀s v s',A s=.inr (v,s')->mu s'<=mu s} (hB:El A) (hc:Cx st0 b s st rows) (h:Rd.wp (HB A hle) s (λv s'=>∀st',Cx st0 b s' st' rows->K (.ret (enc v)) st') (λe s'=>∀st',Cy st0 b s' st' rows->K (.BX (fault e.1)) st')):Et st b K (A s):=by
 cases U:A s with
 |inl p=>
  obtain ⟨e,s'⟩:=p
  unfold Rd.wp at h
  rw [JN hB U] at h
  exact λst' hu=>h st' (hc.rE hu)
 |inr p=>
  obtain ⟨n,s'⟩:=p
  unfold Rd.wp at h
  rw [Md U] at h
  exact λst' hu=>h st' (hc.Nl hu (hle _ _ _ U))
theorem ly (hd:d<=1000000) (h0:d=0->A=.fail Hb) (hc:Cx st0 b s st rows)
 (h:Rd.wp A s (λv s'=>∀st',Cx st0 b s' st' rows->K (.ret (enc v)) st') (λe s'=>∀st',Cy st0 b s' st' rows->K (.BX (fault e.1)) st'))
 (hg:d≠0->∀K:Ay->St->Prop,Rd.wp A s (λv s'=>∀st',Cx st0 b s' st' rows->K (.ret (enc v)) st') (λe s'=>∀st',Cy st0 b s' st' rows->K (.BX (fault e.1)) st')->PC g [pv b d] st K):
 PC 294 [pv b (d+1),.func g [] []] st K:=by
 refine pB Tryz.func294 ?_
 by_cases hz:d=0
 .have U:((d+1:Nat):Int)<2:=AC
  rw [h0 hz,Rd.DM] at h
  repeat' ((conv=>whnf);(first|refine A2 ?_|refine A3 ?_ ?_|refine A4 ?_ ?_|refine Ca ?_|exact BL (Cx.y ‹_›) ‹_›)<;>intros)
 .have U:¬((d+1:Nat):Int)<2:=AC
  repeat' ((conv=>whnf);(first|refine RN hd ?_|refine A2 ?_|refine A3 ?_ ?_|refine A4 ?_ ?_|refine hg hz _ (Rd.wp_mono ‹_› ?_ ?_)|refine Ca ?_|exact ET|refine Ac ?_)<;>intros)
theorem Oy (hd:d<=1000000) (h0:d=0->A=.fail Hb) (hc:Cx st0 b s st rows)
 (h:Rd.wp A s (λv s'=>∀st',Cx st0 b s' st' rows->K (.ret (enc v)) st') (λe s'=>∀st',Cy st0 b s' st' rows->K (.BX (fault e.1)) st'))
 (hg:d≠0->∀K:Ay->St->Prop,Rd.wp A s (λv s'=>∀st',Cx st0 b s' st' rows->K (.ret (enc v)) st') (λe s'=>∀st',Cy st0 b s' st' rows->K (.BX (fault e.1)) st')->PC g [pv b d,.ptr c 0] st K):
 PC 294 [pv b (d+1),.func g [] [.ptr c 0]] st K:=by
 refine pB Tryz.func294 ?_
 by_cases hz:d=0
 .have U:((d+1:Nat):Int)<2:=AC
  rw [h0 hz,Rd.DM] at h
  repeat' ((conv=>whnf);(first|refine A2 ?_|refine A3 ?_ ?_|refine A4 ?_ ?_|refine Ca ?_|exact BL (Cx.y ‹_›) ‹_›)<;>intros)
 .have U:¬((d+1:Nat):Int)<2:=AC
  repeat' ((conv=>whnf);(first|refine RN hd ?_|refine A2 ?_|refine A3 ?_ ?_|refine A4 ?_ ?_|refine hg hz _ (Rd.wp_mono ‹_› ?_ ?_)|refine Ca ?_|exact ET|refine Ac ?_)<;>intros)
theorem DC (hd:d<=1000000) (h0:d=0->A=.fail Hb) (hg:d≠0->AQ enc g (λb=>[pv b d]) A):AQ enc 294 (λb=>[pv b (d+1),.func g [] []]) A:=by
 refine ⟨λ{st0 b s st rows K} U h=>?_⟩
 exact ly hd h0 U h λhz K h=>(hg hz).ap U h
end
section
variable {st0 st:St} {b d:Nat} {s:Ag} {rows:List (AB×List Nd)} {K:Ay->St->Prop}
attribute [local irreducible] Go.Aw.Ah
theorem XD (U:d+1<=100):C8 231 ((d+1:Nat):Int) (FV (Dj (Dn (d+1 - 1)))):=by
 have:=nC (deep:=((d+1:Nat):Int))
 have e:CR ((d+1:Nat):Int) - 1=d+1 - 1:=by unfold CR;split<;>omega
 rw [e] at this;exact this
theorem Zq (hd:d+1<=100):AQ enc 289 (λb=>[pv b (d+1)]) (CT (d+1)):=by
 refine ⟨λ{st0 b s st rows K} U h=>?_⟩
 have hB:El (FV (Dj (Dn (d+1 - 1)))):=J3 (Cq (B9 _))
 have hi:∀{K:Ay->St->Prop},Rd.wp (CT (d+1)) s (λv s'=>∀st',Cx st0 b s' st' rows->K (.ret (enc v)) st') (λe s'=>∀st',Cy st0 b s' st' rows->K (.BX (fault e.1)) st')->
  PC 84 [.ptr b 0,.func 231 [] [],.int .i64 ((d+1:Nat):Int)] st K:=λh=>
  PT (d:=d+1) rfl (XD hd) (λe=>by omega) hB U.mu U.has (VO hB U h)
 refine pB Tryz.func289 ?_
 repeat' ((conv=>whnf);(first|refine A2 ?_|refine A3 ?_ ?_|refine A4 ?_ ?_|refine hi (Rd.wp_mono ‹_› ?_ ?_)|exact ET|refine Ac ?_)<;>intros)
theorem VX {full:Rd Nd} (hf:AQ enc 289 (λb=>[pv b d]) full):AQ enc 359 (λb=>[pv b d,enc n]) (JX full n):=by
 refine ⟨λ{st0 b s st rows K} U h=>?_⟩
 simp only [JX,Rd.Af,Rd.As,Rd.wp_seq,Rd.wp_ret] at h
 refine pB Tryz.func359 ?_
 repeat' ((conv=>whnf);(first|exact CN|refine A2 ?_|(refine CO ?_ ?_ ?_;rotate_left)|refine A3 ?_ ?_|refine A4 ?_ ?_|refine Hn ?_|refine KV ?_ ?_|refine J1 ?_|refine Ii ?_ ?_|exact ET|refine Jr ?_|refine Ac ?_|refine Fj.go (by first|exact AQ.q) ?_ ?_|refine Ae [(0,true),(1,true),(2,true),(4,true),(3,false),(5,false),(6,true),(7,false),(8,false)] [2] GE ?_|with_reducible refine WF ?_)<;>intros)
theorem oQ {U full:Rd Nd} (ho:AQ enc 342 (λb=>[pv b d]) U) (hf:AQ enc 289 (λb=>[pv b d]) full):AQ enc 292 (λb=>[pv b d]) (Xn U full):=by
 refine ⟨λ{st0 b s st rows K} hc h=>?_⟩
 simp only [Xn,Rd.wp_seq] at h
 refine pB Tryz.func292 ?_
 repeat' ((conv=>whnf);(first|exact CN|refine A2 ?_|(refine CO ?_ ?_ ?_;rotate_left)|refine A3 ?_ ?_|refine A4 ?_ ?_|exact ET|refine Ac ?_|refine Fj.go (by first|exact AQ.q|exact (gZ ho).a|exact (VX hf).a) ?_ ?_|refine Ae [(0,true),(1,true),(2,false),(3,false),(4,false)] [1] GE ?_|with_reducible refine WF ?_)<;>intros)
theorem UT {L:ER} {lt U:Nd} (he:AQ enc 294 (λb=>[pv b d,.func 292 [] []]) L.exp):AQ enc 389 (λb=>[pv b d,enc lt,enc U]) (JH L lt U):=by
 refine ⟨λ{st0 b s st rows K} hc h=>?_⟩
 simp only [JH,Rd.wp_seq,Rd.wp_ret] at h
 refine pB Tryz.func389 ?_
 repeat' ((conv=>whnf);(first|exact CN|refine A2 ?_|(refine CO ?_ ?_ ?_;rotate_left)|refine A3 ?_ ?_|refine A4 ?_ ?_|refine Ii ?_ ?_|exact ET|refine Jr ?_|refine Ac ?_|refine Fj.go (by first|exact AQ.q) ?_ ?_|refine Ae [(0,true),(1,true),(2,true),(3,true),(4,false),(5,true),(6,false),(7,false)] [3] GE ?_|with_reducible refine WF ?_)<;>intros)
theorem ZT {L:ER} (he:AQ enc 294 (λb=>[pv b d,.func 292 [] []]) L.exp):nq 414 (λb v=>[pv b d,v,.str w]) (λl=>KN L l w):=by
 refine ⟨λ{st0 b s st rows K own l} hl hc h=>?_⟩
 simp only [KN,Z7,Rd.Af,Rd.As,Rd.wp_seq,Rd.wp_ret] at h
 refine pB Tryz.func414 ?_
 have U:=hc.mu
 rcases hc.has with hs|⟨t,u,o1,o2,e0,hs⟩
 .skip
  repeat' ((conv=>whnf);(first|refine A2 ?_|refine A3 ?_ ?_|refine A4 ?_ ?_|refine TP ?_ ?_|refine At hs ?_|refine Hn ?_|refine KV ?_ ?_|refine Ii ?_ ?_|exact ET|refine KA ?_|refine Ac ?_|refine Tt ?_|refine ab ‹_› ‹_› (OO ‹_›) ?_|refine FM ‹_› U ?_|refine Fj.go (by first|exact AQ.q) ?_ ?_)<;>intros)
 .skip
  repeat' ((conv=>whnf);(first|refine A2 ?_|refine A3 ?_ ?_|refine A4 ?_ ?_|refine TP ?_ ?_|refine At hs ?_|refine Hn ?_|refine KV ?_ ?_|refine Ii ?_ ?_|exact ET|refine KA ?_|refine Ac ?_|refine Tt ?_|refine ab ‹_› ‹_› (OO ‹_›) ?_|refine FM ‹_› U ?_|refine Fj.go (by first|exact AQ.q) ?_ ?_)<;>intros)
theorem J9 {p:FuncId} {may:Nd->Bool} (hg:AQ enc g (λb=>[pv b d]) A) (hp:∀{s s' n} {st:St} {K:Ay->St->Prop},A.run s=.inr (n,s')->mu s<=100000000->K (.ret (.bool (may n))) st->PC p [enc n] st K):
 AQ enc 280 (λb=>[pv b d,.func g [] [],.func p [] []]) (C3 A may):=by
 refine ⟨λ{st0 b s st rows K} hc h=>?_⟩
 simp only [C3,Rd.Af,Rd.As,Rd.wp_seq,Rd.wp_ret,Rd.Eg] at h
 refine pB Tryz.func280 ?_
 have U:=hc.mu
 rcases hc.has with hs|⟨t,u,o1,o2,e0,hs⟩
 .skip
  repeat' ((conv=>whnf);(first|refine A2 ?_|refine A3 ?_ ?_|refine A4 ?_ ?_|refine At hs ?_|refine Ca ?_|exact ET|refine Ac ?_|refine FM ‹_› U ?_|refine Fj.go (by first|exact AQ.q) ?_ ?_|refine hp ‹_› U ?_)<;>intros)
 .skip
  repeat' ((conv=>whnf);(first|refine A2 ?_|refine A3 ?_ ?_|refine A4 ?_ ?_|refine At hs ?_|refine Ca ?_|exact ET|refine Ac ?_|refine FM ‹_› U ?_|refine Fj.go (by first|exact AQ.q) ?_ ?_|refine hp ‹_› U ?_)<;>intros)
end
structure KU (D:Nat) (L:ER):Prop where
 atom:AQ enc 294 (λb=>[pv b D,.func 288 [] []]) L.atom
 exp:AQ enc 294 (λb=>[pv b D,.func 292 [] []]) L.exp
 ops:AQ enc 294 (λb=>[pv b D,.func 212 [] []]) L.ops
 decls:AQ enc 294 (λb=>[pv b D,.func 295 [] []]) L.decls
 stmts:AQ enc 294 (λb=>[pv b D,.func 416 [] []]) L.stmts
 alts:AQ enc 294 (λb=>[pv b D,.func 391 [] []]) L.alts
 Fo:∀{o:Nd} {c:Nat} {st0:St} {b:Nat} {s:Ag} {st:St} {rows:List (AB×List Nd)} {K:Ay->St->Prop},st.box c=some (AM o)->Cx st0 b s st rows->
  Rd.wp (L.Fo o) s (λv s'=>∀st',Cx st0 b s' st' rows->K (.ret (enc v)) st') (λe s'=>∀st',Cy st0 b s' st' rows->K (.BX (fault e.1)) st')->PC 294 [pv b D,.func 418 [] [.ptr c 0]] st K
 list:∀{o:Nd} {c:Nat} {st0:St} {b:Nat} {s:Ag} {st:St} {rows:List (AB×List Nd)} {K:Ay->St->Prop},st.box c=some (AM o)->Cx st0 b s st rows->
  Rd.wp (L.list o) s (λv s'=>∀st',Cx st0 b s' st' rows->K (.ret (enc v)) st') (λe s'=>∀st',Cy st0 b s' st' rows->K (.BX (fault e.1)) st')->PC 294 [pv b D,.func 420 [] [.ptr c 0]] st K
theorem qB (h:n.kids.length=0):Iy n=true:=by
 unfold Iy;rw [List.length_eq_zero_iff.1 h];rfl
theorem ZB {x:Nd} (h:n.kids[((n.kids.length:Nat) - 1:Int).toNat]? =some x):n.kids.getLast? =some x:=by
 rw [List.getLast?_eq_getElem?,<-h];congr 1;omega
theorem qD {x:Nd} (h:n.kids[((n.kids.length:Nat) - 1:Int).toNat]? =some x) (k:x.kind=32\/x.kind=33):Iy n=true:=by
 unfold Iy;rw [ZB h];simpa using k
theorem qE {x:Nd} (h:n.kids[((n.kids.length:Nat) - 1:Int).toNat]? =some x) (k:¬x.kind=32) (U:¬x.kind=33):¬Iy n=true:=by
 unfold Iy;rw [ZB h];simp [k,U]
theorem Bk {m:Rd α} {k:α->Rd β} {s:Ag} {v:β} (h:(Rd.seq m k).run s=.inr (v,s')):∃a s1,m.run s=.inr (a,s1)/\(k a).run s1=.inr (v,s'):=by
 unfold Rd.seq at h
 dsimp only at h
 split at h
 .cases h
 .exact ⟨_,_,‹_›,h⟩
theorem hH {L:ER} {a b:Nd} {s:Ag} {n:Nat} (h:(KN L [a,b] w).run s=.inr (l,s')) (U:n<=100000000):l.length<=90000000:=by
 unfold KN at h
 obtain ⟨_,_,_,h⟩:=Bk h
 obtain ⟨_,_,_,h⟩:=Bk h
 obtain ⟨_,_,_,h⟩:=Bk h
 cases h
 exact Nat.le_of_ble_eq_true rfl
section
variable {st0 st:St} {b d:Nat} {s:Ag} {rows:List (AB×List Nd)} {K:Ay->St->Prop} {L:ER} {atom:Rd Nd}
attribute [local irreducible] Go.Aw.Ah
theorem aV (U:KU d L):AQ enc 390 (λb=>[pv b d]) (Ik L):=by
 refine ⟨λ{st0 b s st rows K} hc h=>?_⟩
 simp only [Ik,Rd.wp_seq,Rd.wp_ret] at h
 have hmu:=hc.mu
 refine pB Tryz.func390 ?_
 repeat' ((conv=>whnf);(first|exact CN|refine A2 ?_|(refine CO ?_ ?_ ?_;rotate_left)|refine A3 ?_ ?_|refine A4 ?_ ?_|refine J1 ?_|refine Ii ?_ ?_|exact ET|refine Jr ?_|refine Ac ?_|refine Fj.go (by first|exact AQ.q|exact (U.exp).a) ?_ ?_|refine nq.go (l:=[_,_]) (ZT U.exp) (Nat.le_of_ble_eq_true rfl) (Cx.push ‹_› _) ‹_› ?_ ?_|refine nq.go (ZT U.exp) (hH ‹_› hmu) ‹_› ‹_› ?_ ?_|refine Ae [(0,true),(1,true),(3,true),(2,false),(4,false),(5,true),(6,true)] [] GE ?_|refine Ae [(0,true),(1,true),(2,true),(3,false),(4,false),(5,false),(6,false)] [1] GE ?_|with_reducible refine WF ?_)<;>intros)
theorem iV (hL:KU d L):AQ enc 392 (λb=>[pv b d]) (Li L):=by
 refine ⟨λ{st0 b s st rows K} U h=>?_⟩
 simp only [Li,Rd.wp_seq,Rd.wp_ret,Rd.As,Rd.DM] at h
 refine pB Tryz.func392 ?_
 repeat' ((conv=>whnf);first|(refine A2 ?_;intros)|(refine A3 ?_ ?_<;>intro e h)|(refine A4 ?_ ?_<;>intro _)|(refine J1 ?_;intro s1 st1 hz hm U h)|(refine Ii ?_ ?_<;>(first|intro n s1 st1 hr hm U h|intro e s1 st1 U h))|refine Ca ?_|exact ET|refine Jr ?_|refine BR (λ_=>?_)|refine Ac (λe1=>?_)|refine AQ.go hL.stmts U h (λn s1 st1 hr hm U h=>?_) (λe s1 st1 U h=>?_))
 all_goals conv=>whnf
 all_goals first
  |(rw [if_pos (qB AC)] at h;exact BL U.y h)
  |(rw [if_pos (qD ‹_› AC)] at h;exact BL U.y h)
  |(rw [if_neg (qE ‹_› AC AC)] at h;exact C2 U h rfl)
end
section
variable {st0 st:St} {b d:Nat} {s:Ag} {rows:List (AB×List Nd)} {K:Ay->St->Prop} {L:ER} {atom:Rd Nd}
attribute [local irreducible] Go.Aw.Ah
theorem fD (U:AQ enc 288 (λb=>[pv b d]) atom):AQ enc 280 (λb=>[pv b d,.func 288 [] [],.func 403 [] []]) (C3 atom KK):=
 J9 U λ_ _ k=>SR k
theorem SE {p:Nd->Bool} (h:Rd.AZ A):Rd.AZ (C3 A p):=Rd.AZ.look λs v s' e=>Rd.AZ.at (h _) e
theorem bP (hL:KU d L) (ha:AQ enc 288 (λb=>[pv b d]) atom) (hF:Rd.AZ atom):AQ enc 388 (λb=>[pv b d]) (Ix L atom):=by
 refine ⟨λ{st0 b s st rows K} U h=>?_⟩
 simp only [Ix,Rd.wp_seq,Rd.wp_ret] at h
 refine pB Tryz.func388 ?_
 have hmu:=U.mu
 repeat' ((conv=>whnf);(first|refine A2 ?_|refine A3 ?_ ?_|refine A4 ?_ ?_|refine Hn ?_|refine J1 ?_|refine Ii ?_ ?_|exact ET|refine Jr ?_|refine KA ?_|refine BR ?_|refine Ac ?_)<;>intros)
 refine Cg (λl own=>[(3,.slice 6 (l.map AM) own)]) (λ_ _=>[]) [1,2] [0,1] (λl own=>(own,l)::rows) (λl=>l.length) .full (Cx.push ‹_› _) ‹_› (by show 1+_<=_;omega) Yl ?_
 intro l s1 st1 own1 U h hl hm1
 simp only [SS,Kc,Rd.Af,Rd.As,Rd.wp_seq,Rd.wp_ret,Rd.Br] at h
 repeat' ((conv=>whnf);(first|refine A2 ?_|refine A3 ?_ ?_|refine A4 ?_ ?_|refine Hn ?_|refine J1 ?_|refine Ii ?_ ?_|exact ET|refine Jr ?_|refine KA ?_|refine BR ?_|refine Ac ?_|refine AQ.nD (fD ha) (SE hF) ‹_› ‹_› ?_ ?_|refine Fj.go (by first|exact AQ.q|exact (hL.exp).a) ?_ ?_)<;>intros)
theorem Yg (U:KU d L) (ha:AQ enc 288 (λb=>[pv b d]) atom) (hF:Rd.AZ atom):AQ enc 342 (λb=>[pv b d]) (GV L atom):=by
 refine ⟨λ{st0 b s st rows K} hc h=>?_⟩
 simp only [GV,Js,bT,Rf,Rd.Af,Rd.As,Rd.wp_seq,Rd.wp_ret] at h
 refine pB Tryz.func342 ?_
 have hmu:=hc.mu
 repeat' ((conv=>whnf);(first|exact CN|refine A2 ?_|(refine CO ?_ ?_ ?_;rotate_left)|refine A3 ?_ ?_|refine A4 ?_ ?_|refine Hn ?_|refine J1 ?_|refine Ii ?_ ?_|exact ET|refine Jr ?_|refine KA ?_|refine Ac ?_|refine Fj.go (by first|exact AQ.q|exact (bP U ha hF).a|exact (aV U).a|exact (iV U).a|exact (U.decls).a|exact (UT U.exp).a|exact (U.exp).a|exact (U.alts).a) ?_ ?_|refine Cx.G1 (l:=[_,_,_]) (Cx.push ‹_› _) (Nat.le_of_ble_eq_true rfl) ?_|refine Ae [(0,true),(1,true),(2,true),(4,true),(3,false),(5,false),(6,false),(7,false)] [1] GE ?_|refine Ae [(0,true),(1,true),(3,true),(5,true),(6,true),(2,false),(4,false),(7,false),(8,true),(9,true)] [] GE ?_|with_reducible refine WF ?_)<;>intros)
 all_goals refine Cg (λl own=>[(5,.slice 6 (l.map AM) own)]) (λ_ _=>[]) [1,2] [0,1] (λl own=>(own,l)::rows) (λl=>l.length) .full (Cx.push ‹_› _) ‹_› (by show 1+_<=_;omega) Yl ?_
 all_goals intro l s1 st1 own1 hc h hl hm1
 all_goals simp only [W5,Rd.Af,Rd.As,Rd.wp_seq,Rd.wp_ret,Rd.Br] at h
 all_goals (repeat' ((conv=>whnf);(first|exact CN|refine A2 ?_|(refine CO ?_ ?_ ?_;rotate_left)|refine A3 ?_ ?_|refine A4 ?_ ?_|refine Hn ?_|refine J1 ?_|refine Ii ?_ ?_|exact ET|refine Jr ?_|refine KA ?_|refine Ac ?_|refine AQ.nD ha hF ‹_› ‹_› ?_ ?_|with_reducible refine WF ?_)<;>intros))
end
end Go.Proofs.Z
namespace Go.Aw
open Go
def V.gN (id:Nat):V->V
 | .BK i o=>bif Nat.beq i id then .BP else .BK i o
 |v=>v
noncomputable def Ir (id:Nat) (l:List (Nat×V)):List (Nat×V):=List.rec (motive:=λ_=>List (Nat×V)) [] (λp _ U=>(p.1,p.2.gN id)::U) l
noncomputable def Ha (id:Nat) (l:List (Nat×List V)):List (Nat×List V):=List.rec (motive:=λ_=>List (Nat×List V)) [] (λp _ U=>bif Nat.beq p.1 id then U else p::U) l
theorem Sz (id:Nat) (p:Nat×V) (r:List (Nat×V)):Ir id (p::r)=(p.1,p.2.gN id)::Ir id r:=rfl
theorem Sy (id:Nat) (p:Nat×List V) (r:List (Nat×List V)):Ha id (p::r)=bif Nat.beq p.1 id then Ha id r else p::Ha id r:=rfl
theorem KC {id t:Nat}:∀{l:List (Nat×V)} {v:V},assoc (Ir id l) t=some v->∃u,assoc l t=some u/\v=u.gN id
 |[],v,h=>by cases h
 |p::r,v,h=>by
  rw [Sz,Bi] at h
  rw [Bi]
  cases hb:Nat.beq p.1 t with
  |true=>simp_all
  |false=>rw [hb] at h;simp only [cond_false] at h |-;exact KC h
theorem Ho {id i:Nat}:∀{l:List (Nat×List V)} {cs:List V},assoc (Ha id l) i=some cs->i≠id/\assoc l i=some cs
 |[],cs,h=>by cases h
 |p::r,cs,h=>by
  rw [Sy] at h
  cases hb:Nat.beq p.1 id with
  |true=>
   rw [hb] at h
   simp only [cond_true] at h
   have hp:=Nat.eq_of_beq_eq_true hb
   obtain ⟨U,h2⟩:=Ho h
   refine ⟨U,?_⟩
   rw [Bi]
   have:Nat.beq p.1 i=false:=by
    rw [hp]
    cases e:Nat.beq id i with
    |true=>simp_all
    |false=>rfl
   simp_all
  |false=>
   rw [hb] at h
   simp only [cond_false] at h
   rw [Bi] at h |-
   cases e:Nat.beq p.1 i with
   |true=>
    grind
   |false=>rw [e] at h;exact Ho h
theorem ZZ {X:List Deferred->Mem->St->World->Act->World->Prop} {st:St} (t id:Nat) (ht:env.get t=.BK id 0) (hb:assoc env.boxes id=some cs) (hn:M4 cs=true)
 (h:∀b,st.fresh b->∀D I0 st0 w0 I β a w,Rel D I0 st0 w0 I β {env with tmps:=(t,.ptr b 0)::Ir id env.tmps,boxes:=Ha id env.boxes} (st.Aa b cs) a w->X D I0 st0 w0 a w):
 ∀D I0 st0 w0 I β a w,Rel D I0 st0 w0 I β env st a w->X D I0 st0 w0 a w:=λD I0 st0 w0 I β a w U=>by
 obtain ⟨b,hβ,hl⟩:=U.f.box id cs hb
 obtain ⟨s1,s2,s3,s4,s5,s6⟩:=U.f.sep id b hβ
 have h1:=U.f.get t
 rw [ht] at h1
 obtain ⟨b',hβ',h1⟩:∃b,β id=some b/\_:=h1
 obtain rfl:b'=b:=Option.some.inj (hβ'.symm.trans hβ)
 refine h b' ⟨s5,s6⟩ D I0 st0 w0 I (λi=>if i=id then none else β i) a w ⟨⟨U.fr.os,U.fr.tape,U.fr.output,U.fr.size,U.fr.KM,U.fr.le,U.fr.new,U.fr.Kw,λx hx=>?_⟩,⟨U.s.cell,U.s.shape,?_,?_,?_,U.s.RX⟩,⟨U.f.size,?_,?_,?_,?_,?_,U.f.defers⟩⟩
 .by_cases e:x=b'
  .omega
  .refine U.fr.Kv x (hx.imp (λhx=>?_) (λhx=>hx))
   simp only [St.Aa] at hx
   simp_all
 .intro x us hx
  by_cases e:x=b'
  .subst e
   simp only [St.Aa,if_true,Option.some.injEq] at hx
   subst hx
   exact hl.cells hn
  .simp only [St.Aa] at hx
   rw [if_neg e] at hx
   exact U.s.box x us hx
 .intro x hx
  by_cases e:x=b'
  .subst e;exact ⟨s3,s6,s4⟩
  .simp only [St.Aa] at hx
   rw [if_neg e] at hx
   exact U.s.Hp x hx
 .exact U.s.hw
 .intro t' v e
  rw [Bi] at e
  cases hbq:Nat.beq t t' with
  |true=>
   rw [hbq] at e
   have:=Nat.eq_of_beq_eq_true hbq
   subst this
   simp only [cond_true,Option.some.injEq] at e
   subst e
   refine AV.of ?_
   simp only [AF]
   exact h1
  |false=>
   rw [hbq] at e
   simp only [cond_false] at e
   obtain ⟨u,hu,rfl⟩:=KC e
   have hk:=U.f.tmps t' u hu
   cases u with
   |BK i o=>
    show AV I _ (bif Nat.beq i id then .BP else .BK i o) _
    cases hi:Nat.beq i id with
    |true=>exact AV.of (I:=I) (β:=_) (v:=.BP) trivial
    |false=>
     obtain ⟨b2,g1,g2⟩:∃b,β i=some b/\_:=hk
     refine ⟨b2,?_,g2⟩
     have:i≠id:=λx=>by simp_all
     simp_all
   |_=>exact hk
 .intro i us e
  obtain ⟨h2,h3⟩:=Ho e
  obtain ⟨b2,g1,g2⟩:=U.f.box i us h3
  simp_all
 .intro i x e
  split at e
  .cases e
  .exact U.f.Bj i x e
 .intro i j x e1 e2
  split at e1
  .cases e1
  .split at e2
   .cases e2
   .exact U.f.inj i j x e1 e2
 .intro i x e
  split at e
  .cases e
  .rename_i hi
   obtain ⟨g1,g2,g3,g4,g5,g6⟩:=U.f.sep i x e
   have hx:x≠b':=λhx=>by subst hx;exact hi (U.f.inj i id x e hβ)
   exact ⟨g1,g2,g3,g4,by simp only [St.Aa];simp_all,g6⟩
theorem KT {P:Program} {c:Code} {Q:AG->Env->St->Prop} {st:St} (t id:Nat) (U:env.get t=.BK id 0) (hb:assoc env.boxes id=some cs) (hn:M4 cs=true)
 (h:∀b,st.fresh b->AW P c Q {env with tmps:=(t,.ptr b 0)::Ir id env.tmps,boxes:=Ha id env.boxes} (st.Aa b cs)):AW P c Q env st:=
 ZZ (X:=λD I0 st0 w0 a w=>c.wp P (B3 D I0 st0 w0 Q) a w) t id U hb hn h
def dA (Q:Env->St->Prop) (env:Env) (st:St):Prop:=∀D I0 st0 w0 I β a w,Rel D I0 st0 w0 I β env st a w->∃I β env' st',Rel D I0 st0 w0 I β env' st' a w/\Q env' st'
theorem dA.here {Q:Env->St->Prop} {st:St} (h:Q env st):dA Q env st:=λD I0 st0 w0 I β a w U=>⟨I,β,env,st,U,h⟩
theorem dA.rR {Q:Env->St->Prop} {st:St} (t id:Nat) (U:env.get t=.BK id 0) (hb:assoc env.boxes id=some cs) (hn:M4 cs=true)
 (h:∀b,st.fresh b->dA Q {env with tmps:=(t,.ptr b 0)::Ir id env.tmps,boxes:=Ha id env.boxes} (st.Aa b cs)):dA Q env st:=
 ZZ (X:=λD I0 st0 w0 a w=>∃I β env' st',Rel D I0 st0 w0 I β env' st' a w/\Q env' st') t id U hb hn h
theorem dA.le {Q:Env->St->Prop} {env env':Env} {st st':St} (U:env'.ES env) (hs:St.le st' st) (h:dA Q env' st'):dA Q env st:=λD I0 st0 w0 I β a w hr=>h _ _ _ _ _ _ _ _ ((hr.G4 hs).Jd (Env.Jf U))
end Go.Aw
namespace Go.Proofs.Z
open Go Go.Aw
section
variable {st0 st:St} {b d:Nat} {s:Ag} {rows:List (AB×List Nd)} {K:Ay->St->Prop} {L:ER} {atom:Rd Nd}
attribute [local irreducible] Go.Aw.Ah
theorem pj {o:Nd} {Q:Nd->Ag->Prop} (U:Cx st0 b s st rows)
 (h:if Ni (Ab s).1=true then (if Bn (Ab s).2.1 15 [41]=true then Rd.wp AO s (λp s'=>Rd.wp AO s' (λc s'=>Q (Au 3 [o,p,c]) s') E) E else P) else P)
 (k1:∀n s' st',mu s'<=mu s->Cx st0 b s' st' rows->Q n s'->K (.ret (.Bu [enc n,.bool true])) st') (k2:∀st',Cx st0 b s st' rows->P->K (.ret (.Bu [enc HX,.bool false])) st'):
 PC 417 [pv b d,enc o] st K:=by
 refine pB Tryz.func417 ?_
 have hmu:=U.mu
 have hc1:=U.look
 cases hy:Ni (Ab s).1 with
 |false=>
  rw [if_neg (by rw [hy];decide)] at h
  repeat' ((conv=>whnf);first|exact CN|(refine A2 ?_;intros)|(refine CO ?_ ?_ ?_;rotate_left)|(refine A3 ?_ ?_<;>intro e h)|(refine A4 ?_ ?_<;>intro _)|refine Qf U (λst1 U=>?_)|refine Ia ?_|with_reducible refine WF ?_)
  all_goals exact BH rfl (k2 st1 U h)
 |true=>
  rw [if_pos hy] at h
  have hkd:=Qx hy
  cases hi:Bn (Ab s).2.1 15 [41] with
  |true=>
   rw [if_pos hi] at h
   repeat' ((conv=>whnf);first|exact CN|(refine A2 ?_;intros)|(refine CO ?_ ?_ ?_;rotate_left)|(refine A3 ?_ ?_<;>intro e h)|(refine A4 ?_ ?_<;>intro _)|refine At (St.Ai ..) ?_|refine F7 U.has U.hb ?_|refine Ia ?_|refine Mu hc1 h hkd (λs1 st1 hz hm U h=>?_)|refine Tp U (hz ▸ hi) (λst1 U=>?_)|refine Mt U h (hz ▸ hi) Do (λs2 st2 hz2 hm2 U h=>?_)|refine Tc ?_|refine Ae [(0,true),(1,true),(2,true),(3,true),(4,false),(5,true),(6,false),(7,false),(8,true)] [2] GE ?_|with_reducible refine WF ?_)
   all_goals exact BH rfl (k1 _ s2 st2 AC U h)
  |false=>
   rw [if_neg (by rw [hi];decide)] at h
   repeat' ((conv=>whnf);first|exact CN|(refine A2 ?_;intros)|(refine CO ?_ ?_ ?_;rotate_left)|(refine A3 ?_ ?_<;>intro e h)|(refine A4 ?_ ?_<;>intro _)|refine At (St.Ai ..) ?_|refine F7 U.has U.hb ?_|refine Ia ?_|refine pY hc1 hkd (λs1 st1 hz hm U=>?_)|refine Yk U (hz ▸ hi) (λst1 U=>?_)|refine FM U hmu (λst2 U=>?_)|with_reducible refine WF ?_)
   all_goals exact BH rfl (k2 st2 U h)
theorem iw (hL:KU d L):AQ enc 394 (λb=>[pv b d]) (Le L):=by
 refine ⟨λ{st0 b s st rows K} hc h=>?_⟩
 simp only [Le,Uy,M8,Ld,Rd.Af,Rd.As,Rd.wp_seq,Rd.wp_ret] at h
 refine A1 Ad [] Tryz.func394 rfl Do rfl ?_
 have hmu:=hc.mu
 refine Ak (Am Ad ?_)
 repeat' ((conv=>whnf);(first|exact CN|refine A2 ?_|(refine CO ?_ ?_ ?_;rotate_left)|refine A3 ?_ ?_|refine A4 ?_ ?_|with_reducible refine WF ?_)<;>intros)
 refine Ak (Am Ad ?_)
 repeat' ((conv=>whnf);(first|exact CN|refine A2 ?_|(refine CO ?_ ?_ ?_;rotate_left)|refine A3 ?_ ?_|refine A4 ?_ ?_|refine Gk.go ‹_› ‹_› ?_ ?_|exact BL ‹_› ‹_›|with_reducible refine WF ?_)<;>intros)
 refine Ak (Am Ad ?_)
 repeat' ((conv=>whnf);first|exact CN|(refine A2 ?_;intros)|(refine CO ?_ ?_ ?_;rotate_left)|(refine A3 ?_ ?_<;>intro e h)|(refine A4 ?_ ?_<;>intro _)|(refine Hn ?_;intro U hc)|(refine KV ?_ ?_<;>intro U hc e h)|(refine J1 ?_;intro s1 U hz hm hc h)|(refine Ii ?_ ?_<;>(first|intro n s1 U hr hm hc h|intro e s1 U hc h))|exact ET|refine Jr ?_|(refine KA ?_;intro own1 U hc)|refine Ac (λe1=>?_)|with_reducible refine WF ?_)
 all_goals first
  |(refine Cg (λl own=>[(4,.slice 6 (l.map AM) own)]) (λ_ _=>[]) [1,2] [0,1] (λl own=>(own,l)::rows) (λl=>l.length) .full (hc.push _) h (by show 1+_<=_;omega) Yl ?_
    intro l s1 U own1 hc h hl hm1
    simp only [Sp,Rd.Af,Rd.As,Rd.wp_seq,Rd.wp_ret,Rd.Br] at h
    repeat' ((conv=>whnf);(first|exact CN|refine A2 ?_|(refine CO ?_ ?_ ?_;rotate_left)|refine A3 ?_ ?_|refine A4 ?_ ?_|refine Hn ?_|refine KV ?_ ?_|refine J1 ?_|refine Ii ?_ ?_|exact ET|refine Jr ?_|refine KA ?_|refine Ac ?_|with_reducible refine WF ?_)<;>intros))
  |skip
 refine Ak (Am Ad ?_)
 repeat' ((conv=>whnf);(first|exact CN|refine A2 ?_|(refine CO ?_ ?_ ?_;rotate_left)|refine A3 ?_ ?_|refine A4 ?_ ?_|refine pj (Q:=λn s'=>∀st',Cx st0 b s' st' rows->K (.ret (enc n)) st') ‹_› ‹_› ?_ ?_|refine Hn ?_|refine KV ?_ ?_|refine J1 ?_|refine Ii ?_ ?_|exact ET|refine Jr ?_|refine KA ?_|refine Ac ?_|with_reducible refine WF ?_)<;>intros)
 refine Ak (Am Ad ?_)
 repeat' ((conv=>whnf);first|exact CN|(refine A2 ?_;intros)|(refine CO ?_ ?_ ?_;rotate_left)|(refine A3 ?_ ?_<;>intro e h)|(refine A4 ?_ ?_<;>intro _)|(refine Hn ?_;intro U hc)|(refine KV ?_ ?_<;>intro U hc e h)|(refine J1 ?_;intro s1 U hz hm hc h)|(refine Ii ?_ ?_<;>(first|intro n s1 U hr hm hc h|intro e s1 U hc h))|exact ET|refine Jr ?_|(refine KA ?_;intro own1 U hc)|refine Ac (λe1=>?_)|refine OI.go hc h (λn s1 U hr hm hc h=>?_) (λe s1 U hc h=>?_)|refine AQ.go hL.ops hc h (λn s1 U hr hm hc h=>?_) (λe s1 U hc h=>?_)|refine Ae [(0,true),(1,true),(2,true),(4,true),(5,true),(3,false),(6,false),(7,true),(8,false),(9,false)] [1] GE ?_|with_reducible refine WF ?_)
 all_goals refine KT 3 2 rfl rfl rfl (λc fc=>?_)
 all_goals have hne:=hc.SN fc
 all_goals refine Am Ad ?_
 all_goals (repeat' ((conv=>whnf);first|exact CN|(refine A2 ?_;intros)|(refine CO ?_ ?_ ?_;rotate_left)|(refine A3 ?_ ?_<;>intro e h)|(refine A4 ?_ ?_<;>intro _)|refine hL.Fo (St.Ai ..) (hc.Tq fc) (Rd.wp_mono h (λv s1 hr h U hc=>?_) (λe s1 hr h U hc=>?_))|exact C2 (hc.unbox hne) h rfl|exact BL (hc.unbox hne) h|with_reducible refine WF ?_))
end
section
variable {st0 st:St} {b d:Nat} {s:Ag} {rows:List (AB×List Nd)} {K:Ay->St->Prop} {L:ER} {atom:Rd Nd}
attribute [local irreducible] Go.Aw.Ah
theorem cR (hL:KU d L):AQ enc 395 (λb=>[pv b d]) (IU L):=by
 refine ⟨λ{st0 b s st rows K} hc h=>?_⟩
 simp only [IU,Rd.Af,Rd.As,Rd.wp_seq,Rd.wp_ret] at h
 refine A1 Ad [] Tryz.func395 rfl Do rfl ?_
 refine Ak (Am Ad ?_)
 repeat' ((conv=>whnf);(first|exact CN|refine A2 ?_|(refine CO ?_ ?_ ?_;rotate_left)|refine A3 ?_ ?_|refine A4 ?_ ?_|with_reducible refine WF ?_)<;>intros)
 refine Ak (Am Ad ?_)
 repeat' ((conv=>whnf);(first|exact CN|refine A2 ?_|(refine CO ?_ ?_ ?_;rotate_left)|refine A3 ?_ ?_|refine A4 ?_ ?_|refine Gk.go ‹_› ‹_› ?_ ?_|exact BL ‹_› ‹_›|with_reducible refine WF ?_)<;>intros)
 refine Ak (Am Ad ?_)
 repeat' ((conv=>whnf);first|exact CN|(refine A2 ?_;intros)|(refine CO ?_ ?_ ?_;rotate_left)|(refine A3 ?_ ?_<;>intro e h)|(refine A4 ?_ ?_<;>intro _)|(refine Hn ?_;intro U hc)|(refine KV ?_ ?_<;>intro U hc e h)|(refine J1 ?_;intro s1 U hz hm hc h)|(refine Ii ?_ ?_<;>(first|intro n s1 U hr hm hc h|intro e s1 U hc h))|exact ET|refine Jr ?_|refine Ac (λe1=>?_)|refine Ae [(0,true),(1,true),(2,true),(3,false),(4,true),(5,false),(6,false)] [1] GE ?_|with_reducible refine WF ?_)
 all_goals refine KT 3 2 rfl rfl rfl (λc fc=>?_)
 all_goals have hne:=hc.SN fc
 all_goals refine Am Ad ?_
 all_goals (repeat' ((conv=>whnf);first|exact CN|(refine A2 ?_;intros)|(refine CO ?_ ?_ ?_;rotate_left)|(refine A3 ?_ ?_<;>intro e h)|(refine A4 ?_ ?_<;>intro _)|refine hL.list (St.Ai ..) (hc.Tq fc) (Rd.wp_mono h (λv s1 hr h U hc=>?_) (λe s1 hr h U hc=>?_))|exact C2 (hc.unbox hne) h rfl|exact BL (hc.unbox hne) h|with_reducible refine WF ?_))
theorem jW (U:KU d L):AQ enc 345 (λb=>[pv b d]) (Nw L):=by
 refine ⟨λ{st0 b s st rows K} hc h=>?_⟩
 simp only [Nw,Rd.Af,Rd.As,Rd.wp_seq,Rd.wp_ret] at h
 refine pB Tryz.func345 ?_
 repeat' ((conv=>whnf);(first|exact CN|refine A2 ?_|(refine CO ?_ ?_ ?_;rotate_left)|refine A3 ?_ ?_|refine A4 ?_ ?_|refine Hn ?_|refine KV ?_ ?_|refine J1 ?_|refine Ii ?_ ?_|refine dI ?_|exact ET|refine Jr ?_|refine Ac ?_|refine Fj.go (by first|exact AQ.q|exact (iw U).a|exact (cR U).a|exact (U.atom).a) ?_ ?_|refine Ae [(0,true),(1,true),(3,true),(2,false),(4,false),(5,true),(6,false),(7,false)] [1] GE ?_|refine Ae [(0,true),(1,true),(2,true),(4,true),(3,false),(5,false),(6,true),(7,false),(8,false)] [1] GE ?_|with_reducible refine WF ?_)<;>intros)
theorem fT:AQ enc 157 (λb=>[.ptr b 0,.slice 1 [[.int .i64 1],[.int .i64 3]] .full]) (Dm [1,3]):=D3 (ks:=[1,3]) Do
theorem cD (hL:KU d L):AQ enc 346 (λb=>[pv b d,enc n]) (Hi L n):=by
 refine ⟨λ{st0 b s st rows K} U h=>?_⟩
 simp only [Hi,Rd.Af,Rd.As,Rd.wp_seq,Rd.wp_ret] at h
 refine pB Tryz.func346 ?_
 have hmu:=U.mu
 repeat' ((conv=>whnf);(first|exact CN|refine A2 ?_|(refine CO ?_ ?_ ?_;rotate_left)|refine A3 ?_ ?_|refine A4 ?_ ?_|refine Hn ?_|refine KV ?_ ?_|refine J1 ?_|refine Ii ?_ ?_|exact ET|refine Jr ?_|refine KA ?_|refine BR ?_|refine Ac ?_|refine Ae [(0,true),(1,true),(2,true),(3,false),(4,true),(5,true)] [] GE ?_|refine Ae [(0,true),(1,true),(2,true),(3,true),(5,true),(4,false),(6,false),(7,true),(8,false),(9,true),(10,false),(11,true)] [] GE ?_|with_reducible refine WF ?_)<;>intros)
 refine Cg (λl own=>[(5,.slice 6 (l.map AM) own)]) (λ_ _=>[]) [2,4] [0,2] (λl own=>(own,l)::rows) (λl=>l.length) .full (Cx.push ‹_› _) ‹_› (by show 2+_<=_;omega) Yl ?_
 intro l s1 st1 own1 U h hl hm1
 simp only [Tr,MU,Rd.Af,Rd.As,Rd.wp_seq,Rd.wp_ret,Rd.Br] at h
 repeat' ((conv=>whnf);(first|exact CN|refine A2 ?_|(refine CO ?_ ?_ ?_;rotate_left)|refine A3 ?_ ?_|refine A4 ?_ ?_|refine Hn ?_|refine KV ?_ ?_|refine J1 ?_|refine Ii ?_ ?_|exact ET|refine Jr ?_|refine KA ?_|refine BR ?_|refine Ac ?_|refine AQ.nD fT (Xr rfl) ‹_› ‹_› ?_ ?_|refine Fj.go (by first|exact AQ.q|exact (hL.exp).a) ?_ ?_|refine Ae [(0,true),(1,true),(2,true),(3,false),(4,true),(5,true)] [] GE ?_|refine Ae [(0,true),(1,true),(2,true),(3,true),(5,true),(4,false),(6,false),(7,true),(8,false),(9,true),(10,false),(11,true)] [] GE ?_|with_reducible refine WF ?_)<;>intros)
 all_goals conv=>whnf
end
theorem Xq {L:ER}:Rd.AZ (Nw L):=Rd.AZ.look λs v s' h=>by
 split at h
 .rename_i ha
  have hk:=(J2 ha).2
  have U:∀{v:Nd} {s':Ag},AO.run s=.inr (v,s')->mu s'<mu s:=λe=>GY e hk
  split at h
  .split at h
   .exact Rd.AZ.at (λ_ _ e=>U e) h
   .exact Rd.AZ.at (λ_ _ e=>U e) h
  .split at h
   .exact Rd.AZ.at (λ_ _ e=>U e) h
   .split at h
    .exact Rd.AZ.at (λ_ _ e=>U e) h
    .exact Rd.AZ.at (λ_ _ e=>U e) h
 .cases h
theorem Un {L:ER}:Rd.AZ (KD L):=Rd.AZ.seq Xq
theorem SF {L:ER} {s:Ag} {v:Nd} (h:(Hi L n).run s=.inr (v,s')) (e:Bn s 15 [123]=true):mu s'<mu s:=by
 refine Rd.AZ.at (λv s' U=>GY U λz=>?_) h
 unfold Bn at e
 simp only [Bool.and_eq_true,beq_iff_eq] at e
 rw [z] at e;exact absurd e.1 Do
theorem RP {U:List Nd} {s:Ag} (h:(EI stmt l).run s=.inr (U,s')):U.length+4*mu s'<=l.length+2+4*mu s:=by
 unfold EI at h
 obtain ⟨b,s1,h1,h⟩:=Bk h
 obtain ⟨t,s2,h2,h⟩:=Bk h
 have e1:=(BA 10 [124]).le _ _ _ h1
 have e2:=stmt.le _ _ _ h2
 have:=Rd.gy (body:=M6 stmt) (w:=List.length) (w':=List.length) (c:=0) (λx s x' s' h=>by
  unfold M6 at h
  replace h:(if Bn s 15 [44]=true then Rd.seq AO λc=>Rd.seq stmt λt=>.ret (.inl (x++[c]++[t])) else .ret (.inr x):Rd (Sum (List Nd) (List Nd))).run s=.inr (.inl x',s'):=h
  split at h
  .obtain ⟨_,_,_,h⟩:=Bk h
   obtain ⟨_,_,_,h⟩:=Bk h
   cases h
   simp
  .cases h) (λx s y s' h=>by
  unfold M6 at h
  replace h:(if Bn s 15 [44]=true then Rd.seq AO λc=>Rd.seq stmt λt=>.ret (.inl (x++[c]++[t])) else .ret (.inr x):Rd (Sum (List Nd) (List Nd))).run s=.inr (.inr y,s'):=h
  split at h
  .obtain ⟨_,_,_,h⟩:=Bk h
   obtain ⟨_,_,_,h⟩:=Bk h
   cases h
  .cases h;exact Nat.le_refl _) _ _ _ _ h
 simp only [List.length_append,List.length_cons,List.length_nil] at this
 omega
theorem qk {x y:Nat} (h:l.length+4*y<=c+2+4*x) (U:c<=500000000) (hx:x<=100000000):l.length+1<=1000000000:=AC
section
variable {st0 st:St} {b d:Nat} {s:Ag} {rows:List (AB×List Nd)} {K:Ay->St->Prop} {L:ER}
attribute [local irreducible] Go.Aw.Ah
theorem jT (hL:KU d L):AQ enc 288 (λb=>[pv b d]) (KD L):=by
 refine ⟨λ{st0 b s st rows K} hc h=>?_⟩
 simp only [KD,Rd.wp_seq] at h
 refine pB Tryz.func288 ?_
 have hmu:=hc.mu
 repeat' ((conv=>whnf);first|(refine A2 ?_;intros)|(refine A3 ?_ ?_<;>intro e h)|(refine A4 ?_ ?_<;>intro _)|refine AQ.go (jW hL) hc h (λn s1 U hr hm hc h=>?_) (λe s1 U hc h=>?_)|exact BL hc h)
 refine Cg (λn own=>[]) (λn own=>[(2,AM n)]) [1,2,3] [0,1] (λl own=>rows) (λ_=>0) .full ‹_› ‹_› i7 Yl ?_
 intro n s1 U own1 hc h hl hm1
 simp only [dY,Rd.Af,Rd.As,Rd.wp_seq,Rd.wp_ret,Rd.Br] at h
 repeat' ((conv=>whnf);first|(refine A2 ?_;intros)|(refine A3 ?_ ?_<;>intro e h)|(refine A4 ?_ ?_<;>intro _)|(refine Hn ?_;intro U hc)|(refine KV ?_ ?_<;>intro U hc e h)|exact ET|refine Ac (λe1=>?_)|refine AQ.go (cD hL) hc h (λn s1 U hr hm hc h=>?_) (λe s1 U hc h=>?_))
 all_goals have hlt:=SF ‹_› ‹_›
 all_goals conv=>whnf
 all_goals exact ⟨⟨_,_,_,.full⟩,⟨hc,Rd.Eu h hlt,UV,UV⟩,hlt,Yl,St.le_refl _⟩
theorem Vi (hs:AQ enc 360 (λb=>[pv b d]) stmt):nq 293 (λb v=>[pv b d,v]) (λl=>EI stmt l):=by
 refine ⟨λ{st0 b s st rows K own l} hl U h=>?_⟩
 simp only [EI,Rd.wp_seq] at h
 refine pB Tryz.func293 ?_
 have hmu:=U.mu
 repeat' ((conv=>whnf);(first|refine A2 ?_|refine A3 ?_ ?_|refine A4 ?_ ?_|refine TP ?_ ?_|refine Hn ?_|refine KV ?_ ?_|refine J1 ?_|refine Ii ?_ ?_|exact ET|refine KA ?_|refine Ac ?_|refine Fj.go (by first|exact AQ.q) ?_ ?_)<;>intros)
 refine Cg (λl own=>[(1,.slice 6 (l.map AM) own)]) (λ_ _=>[]) [2] [0] (λl own=>(own,l)::rows) (λl=>l.length) _ ‹_› ‹_› RK Yl ?_
 intro l s1 st1 own1 U h hl hm1
 simp only [M6,Rd.Af,Rd.As,Rd.wp_seq,Rd.wp_ret,Rd.Br] at h
 repeat' ((conv=>whnf);(first|refine A2 ?_|refine A3 ?_ ?_|refine A4 ?_ ?_|refine TP ?_ ?_|refine Hn ?_|refine KV ?_ ?_|refine J1 ?_|refine Ii ?_ ?_|exact ET|refine KA ?_|refine Ac ?_|refine Fj.go (by first|exact AQ.q) ?_ ?_)<;>intros)
theorem lN {exp:Rd Nd} {o:Nd} (he:AQ enc 292 (λb=>[pv b d]) exp) (hs:AQ enc 360 (λb=>[pv b d]) stmt):AQ enc 421 (λb=>[pv b d,enc o]) (NJ exp stmt o):=by
 refine ⟨λ{st0 b s st rows K} U h=>?_⟩
 simp only [NJ,Rd.Af,Rd.As,Rd.wp_seq,Rd.wp_ret] at h
 refine pB Tryz.func421 ?_
 have hmu:=U.mu
 repeat' ((conv=>whnf);(first|exact CN|refine A2 ?_|(refine CO ?_ ?_ ?_;rotate_left)|refine A3 ?_ ?_|refine A4 ?_ ?_|refine Hn ?_|refine KV ?_ ?_|refine J1 ?_|refine Ii ?_ ?_|exact ET|refine Jr ?_|refine KA ?_|refine BR ?_|refine Ac ?_|refine Fj.go (by first|exact AQ.q) ?_ ?_|refine Cx.G1 ‹_› (qk (RP ‹_›) (Nat.le_of_ble_eq_true rfl) AC) ?_|refine nq.go (l:=[_,_]) (Vi hs) (Nat.le_of_ble_eq_true rfl) (Cx.push ‹_› _) ‹_› ?_ ?_|refine Ae [(0,true),(1,true),(2,false),(3,true),(4,true)] [] GE ?_|refine Ae [(0,true),(1,true),(3,true),(4,true),(2,false),(5,false),(6,true),(7,false),(8,false),(9,false)] [2] GE ?_|with_reducible refine WF ?_)<;>intros)
 refine Cg (λl own=>[(5,.slice 6 (l.map AM) own)]) (λ_ _=>[]) [2,4,6] [0,2] (λl own=>(own,l)::rows) (λl=>l.length) .full (Cx.push ‹_› _) ‹_› (by show 2+_<=_;omega) Yl ?_
 intro l s1 st1 own1 U h hl hm1
 simp only [gv,RB,Rd.Af,Rd.As,Rd.wp_seq,Rd.wp_ret,Rd.Br] at h
 repeat' ((conv=>whnf);(first|exact CN|refine A2 ?_|(refine CO ?_ ?_ ?_;rotate_left)|refine A3 ?_ ?_|refine A4 ?_ ?_|refine Hn ?_|refine KV ?_ ?_|refine J1 ?_|refine Ii ?_ ?_|exact ET|refine Jr ?_|refine KA ?_|refine BR ?_|refine Ac ?_|refine Fj.go (by first|exact AQ.q) ?_ ?_|with_reducible refine WF ?_)<;>intros)
end
section
variable {st0 st:St} {b d:Nat} {s:Ag} {rows:List (AB×List Nd)} {K:Ay->St->Prop} {L:ER}
attribute [local irreducible] Go.Aw.Ah
theorem S5 (k:K (.BX (fault Hc.1)) st):PC 216 [pv b d,.bool false] st K:=by
 refine pB Tryz.func216 ?_
 repeat' ((conv=>whnf);(first|refine A2 ?_|refine A3 ?_ ?_|refine A4 ?_ ?_|refine Ca ?_)<;>intros)
 all_goals exact ⟨_,_,.inl rfl,St.le_refl _,k⟩
theorem S6 (k:K (.ret (.Bu [])) st):PC 216 [pv b d,.bool true] st K:=by
 refine pB Tryz.func216 ?_
 repeat' ((conv=>whnf);(first|refine A2 ?_|refine A3 ?_ ?_|refine A4 ?_ ?_|refine Ca ?_)<;>intros)
 all_goals exact ⟨_,_,.inl rfl,St.le_refl _,k⟩
theorem my (U:KU d L) {exp:Rd Nd} (he:AQ enc 292 (λb=>[pv b d]) exp):AQ enc 360 (λb=>[pv b d]) (Qv L exp):=by
 refine ⟨λ{st0 b s st rows K} hc h=>?_⟩
 simp only [Qv,O8,Rd.Af,Rd.As,Rd.wp_seq,Rd.wp_ret,Rd.DM] at h
 refine pB Tryz.func360 ?_
 repeat' ((conv=>whnf);(first|exact CN|refine A2 ?_|(refine CO ?_ ?_ ?_;rotate_left)|refine A3 ?_ ?_|refine A4 ?_ ?_|refine Hn ?_|refine KV ?_ ?_|refine J1 ?_|refine Ii ?_ ?_|exact ET|refine Jr ?_|refine Ac ?_|refine Fj.go (by first|exact AQ.q|exact (U.decls).a|exact (UT U.exp).a) ?_ ?_|refine SR ?_|refine S6 ?_|refine S5 ?_|refine Ae [(0,true),(1,true),(2,false),(3,false)] [] GE ?_|refine Ae [(0,true),(1,true),(2,true),(4,true),(3,false),(5,false),(6,true),(7,false),(8,false)] [1] GE ?_|with_reducible refine WF ?_)<;>intros)
 all_goals conv=>whnf
 all_goals exact BL hc.y h
end
theorem Uo:Rd.AZ (EI stmt l):=Rd.AZ.seq (K0 Do)
theorem O6 {x:Nd} {K:List V->Prop} (h:l[i.toNat]? =some x) (U:0<=i) (k:K (AM x)):0<=i/\∃e,(l.map AM)[i.toNat]? =some e/\K e:=⟨U,AM x,by rw [List.getElem?_map,h];rfl,k⟩
section
variable {st0 st:St} {b d:Nat} {s:Ag} {rows:List (AB×List Nd)} {K:Ay->St->Prop} {L:ER}
attribute [local irreducible] Go.Aw.Ah
theorem Kj (hs:AQ enc 360 (λb=>[pv b d]) stmt) (hc:Cx st0 b s st rows) (h:Rd.wp (EI stmt []) s Q E)
 (k:∀l' U s' st',l'.length<=400000002->mu s'<mu s->Cx st0 b s' st' ((U,l')::rows)->Q l' s'->K (.ret (.slice 6 (l'.map AM) U)) st') (kb:∀e s' st',Cy st0 b s' st' rows->E e s'->K (.BX (fault e.1)) st'):PC 293 [pv b d,.slice 6 [] .full] st K:=
 nq.go (l:=[]) (own:=.full) (Vi hs) (Nat.le_of_ble_eq_true rfl) (hc.push _) h (λl' U s' st' hr hm hc' q=>k l' U s' st' (by have:=RP hr;have:=hc.mu;simp only [List.length_nil] at *;omega) (Uo _ _ _ hr) hc' q) kb
theorem ir (hL:KU d L) {exp:Rd Nd} {m:List UInt8} (he:AQ enc 292 (λb=>[pv b d]) exp) (hs:AQ enc 360 (λb=>[pv b d]) stmt):AQ enc 218 (λb=>[pv b d,.str m]) (Vo L exp stmt m):=by
 refine ⟨λ{st0 b s st rows K} hc h=>?_⟩
 simp only [Vo,Yq,Rd.Af,Rd.As,Rd.wp_seq,Rd.wp_ret] at h
 have hmu:=hc.mu
 refine pB Tryz.func218 ?_
 repeat' ((conv=>whnf);first|exact CN|(refine A2 ?_;intros)|(refine CO ?_ ?_ ?_;rotate_left)|(refine A3 ?_ ?_<;>intro e h)|(refine A4 ?_ ?_<;>intro _)|refine TP (λ_=>?_) ?_|(refine Hn ?_;intro U hc)|(refine KV ?_ ?_<;>intro U hc e h)|(refine J1 ?_;intro s1 U hz hm hc h)|(refine Ii ?_ ?_<;>(first|intro n s1 U hr hm hc h|intro e s1 U hc h))|(refine dI ?_;intro e s1 U hc h)|exact ET|refine Jr ?_|(refine KA ?_;intro own1 U hc)|refine BR (λ_=>?_)|refine Ac (λe1=>?_)|refine AQ.go he hc h (λn s1 U hr hm hc h=>?_) (λe s1 U hc h=>?_)|refine Cx.ow (l:=[]) (hc.push []) (Nat.le_of_ble_eq_true rfl) (λown1 U hc=>?_)|refine Ae [(0,true),(1,true),(2,true),(4,true),(3,false),(5,false),(6,true),(7,false),(8,true)] [] GE ?_|refine Ae [(0,true),(1,true),(2,true),(4,true),(3,false),(5,false),(6,true),(7,false),(8,true),(9,false),(10,true)] [] GE ?_|with_reducible refine WF ?_)
 .refine Cg (λl own=>[(5,.slice 6 (l.map AM) own)]) (λ_ _=>[]) [1,2,4] [0,1] (λl own=>(own,l)::rows) (λl=>l.length) _ hc h RK Yl ?_
  intro l s1 U own1 hc h hl hm1
  have hl2:l.length+1<=1000000000:=AC
  simp only [SP,K5,Rd.Af,Rd.As,Rd.wp_seq,Rd.wp_ret,Rd.Br] at h
  clear hmu
  have hmu:=hc.mu
  by_cases hn:l=[]
  .subst hn
   rw [if_pos (show ((([]:List Nd).length:Int)==0)=true from rfl)] at h
   repeat' ((conv=>whnf);(first|exact CN|refine A2 ?_|(refine CO ?_ ?_ ?_;rotate_left)|refine A3 ?_ ?_|refine A4 ?_ ?_|refine TP ?_ ?_|refine Hn ?_|refine KV ?_ ?_|refine J1 ?_|refine Ii ?_ ?_|refine dI ?_|exact ET|refine Jr ?_|refine KA ?_|refine BR ?_|refine Ac ?_|refine Kj hs ‹_› ‹_› ?_ ?_|refine Fj.go (by first|exact AQ.q|exact (hL.decls).a) ?_ ?_|exact absurd rfl ‹_›|refine O6 hx AC ?_|refine Cx.G1 ‹_› So ?_|refine Cx.G1 (x:=Au 30 _) (Cx.drop ‹_›) hl2 ?_|refine Ae [(0,true),(1,true),(2,true),(4,true),(3,false),(5,false),(6,true),(7,false),(8,true)] [] GE ?_|refine Ae [(0,true),(1,true),(2,true),(4,true),(3,false),(5,false),(6,true),(7,false),(8,true),(9,false),(10,true)] [] GE ?_|with_reducible refine WF ?_)<;>intros)
   all_goals conv=>whnf
  .obtain ⟨x,hx⟩:∃x,l[((0:Int)).toNat]? =some x:=by
    cases l with
    |nil=>exact absurd rfl hn
    |cons x l=>exact ⟨x,rfl⟩
   have hz:((l.length:Int)==0)=false:=beq_eq_false_iff_ne.2 λe=>hn (List.length_eq_zero_iff.1 AC)
   have hd:l.headD HX=x:=by
    cases l with
    |nil=>exact absurd rfl hn
    |cons y l=>cases hx;rfl
   rw [if_neg (by rw [hz];decide),hd] at h
   repeat' ((conv=>whnf);(first|exact CN|refine A2 ?_|(refine CO ?_ ?_ ?_;rotate_left)|refine A3 ?_ ?_|refine A4 ?_ ?_|refine TP ?_ ?_|refine Hn ?_|refine KV ?_ ?_|refine J1 ?_|refine Ii ?_ ?_|refine dI ?_|exact ET|refine Jr ?_|refine KA ?_|refine BR ?_|refine Ac ?_|refine Kj hs ‹_› ‹_› ?_ ?_|refine Fj.go (by first|exact AQ.q|exact (hL.decls).a) ?_ ?_|exact absurd rfl ‹_›|refine O6 hx AC ?_|refine Cx.G1 ‹_› So ?_|refine Cx.G1 (x:=Au 30 _) (Cx.drop ‹_›) hl2 ?_|refine Ae [(0,true),(1,true),(2,true),(4,true),(3,false),(5,false),(6,true),(7,false),(8,true)] [] GE ?_|refine Ae [(0,true),(1,true),(2,true),(4,true),(3,false),(5,false),(6,true),(7,false),(8,true),(9,false),(10,true)] [] GE ?_|with_reducible refine WF ?_)<;>intros)
   all_goals conv=>whnf
 .refine Cg (λl own=>[(5,.slice 6 (l.map AM) own)]) (λ_ _=>[]) [1,2,4] [0,1] (λl own=>(own,l)::rows) (λl=>l.length) .full (hc.push []) h RK Yl ?_
  intro l s1 U own1 hc h hl hm1
  have hl2:l.length+1<=1000000000:=AC
  simp only [SP,K5,Rd.Af,Rd.As,Rd.wp_seq,Rd.wp_ret,Rd.Br] at h
  clear hmu
  have hmu:=hc.mu
  by_cases hn:l=[]
  .subst hn
   rw [if_pos (show ((([]:List Nd).length:Int)==0)=true from rfl)] at h
   repeat' ((conv=>whnf);(first|exact CN|refine A2 ?_|(refine CO ?_ ?_ ?_;rotate_left)|refine A3 ?_ ?_|refine A4 ?_ ?_|refine TP ?_ ?_|refine Hn ?_|refine KV ?_ ?_|refine J1 ?_|refine Ii ?_ ?_|refine dI ?_|exact ET|refine Jr ?_|refine KA ?_|refine BR ?_|refine Ac ?_|refine Kj hs ‹_› ‹_› ?_ ?_|refine Fj.go (by first|exact AQ.q|exact (hL.decls).a) ?_ ?_|exact absurd rfl ‹_›|refine O6 hx AC ?_|refine Cx.G1 ‹_› So ?_|refine Cx.G1 (x:=Au 30 _) (Cx.drop ‹_›) hl2 ?_|refine Ae [(0,true),(1,true),(2,true),(4,true),(3,false),(5,false),(6,true),(7,false),(8,true)] [] GE ?_|refine Ae [(0,true),(1,true),(2,true),(4,true),(3,false),(5,false),(6,true),(7,false),(8,true),(9,false),(10,true)] [] GE ?_|with_reducible refine WF ?_)<;>intros)
   all_goals conv=>whnf
  .obtain ⟨x,hx⟩:∃x,l[((0:Int)).toNat]? =some x:=by
    cases l with
    |nil=>exact absurd rfl hn
    |cons x l=>exact ⟨x,rfl⟩
   have hz:((l.length:Int)==0)=false:=beq_eq_false_iff_ne.2 λe=>hn (List.length_eq_zero_iff.1 AC)
   have hd:l.headD HX=x:=by
    cases l with
    |nil=>exact absurd rfl hn
    |cons y l=>cases hx;rfl
   rw [if_neg (by rw [hz];decide),hd] at h
   repeat' ((conv=>whnf);(first|exact CN|refine A2 ?_|(refine CO ?_ ?_ ?_;rotate_left)|refine A3 ?_ ?_|refine A4 ?_ ?_|refine TP ?_ ?_|refine Hn ?_|refine KV ?_ ?_|refine J1 ?_|refine Ii ?_ ?_|refine dI ?_|exact ET|refine Jr ?_|refine KA ?_|refine BR ?_|refine Ac ?_|refine Kj hs ‹_› ‹_› ?_ ?_|refine Fj.go (by first|exact AQ.q|exact (hL.decls).a) ?_ ?_|exact absurd rfl ‹_›|refine O6 hx AC ?_|refine Cx.G1 ‹_› So ?_|refine Cx.G1 (x:=Au 30 _) (Cx.drop ‹_›) hl2 ?_|refine Ae [(0,true),(1,true),(2,true),(4,true),(3,false),(5,false),(6,true),(7,false),(8,true)] [] GE ?_|refine Ae [(0,true),(1,true),(2,true),(4,true),(3,false),(5,false),(6,true),(7,false),(8,true),(9,false),(10,true)] [] GE ?_|with_reducible refine WF ?_)<;>intros)
   all_goals conv=>whnf
end
section
variable {st0 st:St} {b d:Nat} {s:Ag} {rows:List (AB×List Nd)} {K:Ay->St->Prop} {L:ER}
attribute [local irreducible] Go.Aw.Ah
theorem oo (U:KU d L) {ops exp:Rd Nd} (ho:AQ enc 212 (λb=>[pv b d]) ops) (he:AQ enc 292 (λb=>[pv b d]) exp) (hs:AQ enc 360 (λb=>[pv b d]) stmt):
 AQ enc 415 (λb=>[pv b d]) (WU L ops exp stmt):=by
 refine ⟨λ{st0 b s st rows K} hc h=>?_⟩
 simp only [WU,Rd.As,Rd.wp_seq,Rd.wp_ret,Rd.DM] at h
 refine pB Tryz.func415 ?_
 repeat' ((conv=>whnf);(first|exact CN|refine A2 ?_|(refine CO ?_ ?_ ?_;rotate_left)|refine A3 ?_ ?_|refine A4 ?_ ?_|exact ET|refine Jr ?_|refine Ac ?_|refine Fj.go (by first|exact AQ.q|exact (ir U he hs).a) ?_ ?_|refine SR ?_|refine S6 ?_|refine S5 ?_|refine Ae [(0,true),(1,true),(2,false),(3,false)] [] GE ?_|refine Ae [(0,true),(1,true),(2,false),(3,true),(4,false),(5,false)] [1] GE ?_|with_reducible refine WF ?_)<;>intros)
end
theorem Rd.gz {body:σ->Rd (Sum σ β)} {P:β->Prop} (h1:∀x s y s',(body x).run s=.inr (.inr y,s')->P y) (x:σ) (s:Ag):∀y s',(Rd.loop body x).run s=.inr (y,s')->P y:=by
 show ∀y s',Rd.iter body x s=.inr (y,s')->_
 fun_induction Rd.iter body x s with
 |case1 x s e h=>intro y s' U;cases U
 |case2 x s y s1 h=>intro y s' U;cases U;exact h1 _ _ _ _ h
 |case3 x s x' s1 h hlt ih=>exact ih
 |case4 x s x' s1 h hlt=>intro y s' U;cases U
theorem iD {U:Rd Nd} {s:Ag} {p:List Nd×Bool} (h:(NB U br).run s=.inr (p,s')):∃x,p.1[((p.1.length:Nat) - 1:Int).toNat]? =some x/\p.1.getLastD HX=x/\1<=p.1.length:=by
 have:∃l x,p.1=l++[x]:=by
  refine Rd.gz (body:=ix U br) (P:=λp=>∃l x,p.1=l++[x]) (λx s y s' h=>?_) _ _ _ _ h
  unfold ix at h
  obtain ⟨l,s1,_,h⟩:=Bk h
  obtain ⟨n,s2,_,h⟩:=Bk h
  replace h:(if PS (Ab s2).1=true then .seq H2 λo=>
   if br=true then .look λs=>if Bn s 15 [41]=true then .ret (.inr (l++[n]++[o],true)) else .ret (.inl (l++[n]++[o]))
   else .ret (.inl (l++[n]++[o]))
   else .ret (.inr (l++[n],false)):Rd (Sum (List Nd) (List Nd×Bool))).run s2=.inr (.inr y,s'):=h
  split at h
  .obtain ⟨o,s3,_,h⟩:=Bk h
   split at h
   .replace h:(if Bn s3 15 [41]=true then .ret (.inr (l++[n]++[o],true)) else .ret (.inl (l++[n]++[o])):Rd (Sum (List Nd) (List Nd×Bool))).run s3=.inr (.inr y,s'):=h
    split at h
    .cases h;exact ⟨_,_,rfl⟩
    .cases h
   .cases h
  .cases h;exact ⟨_,_,rfl⟩
 obtain ⟨l,x,e⟩:=this
 refine ⟨x,?_,?_,?_⟩
 .rw [e];simp only [List.length_append,List.length_cons,List.length_nil]
  rw [show (((l.length+(0+1):Nat):Int) - 1).toNat=l.length by omega]
  simp
 .rw [e];simp
 .rw [e];simp
theorem Yu {K:List (List V)->Prop} (hn:1<=l.length) (k:K ((l.take (l.length - 1)).map AM)):
 ((0:Int)<=0/\(0:Int)<=(l.length:Int) - 1/\(l.length:Int) - 1=(l.length:Int) - 1/\(l.length:Int) - 1<=((l.map AM).length:Int))/\∀U,U=List.drop (Int.toNat 0) (List.take ((l.length:Int) - 1).toNat (l.map AM))->K U:=by
 refine ⟨⟨AC,AC,rfl,by rw [List.length_map];omega⟩,λU e=>?_⟩
 rw [e,show ((l.length:Int) - 1).toNat=l.length - 1 by omega,<-List.map_take]
 exact k
section
variable {st0 st:St} {b d:Nat} {s:Ag} {rows:List (AB×List Nd)} {K:Ay->St->Prop} {L:ER}
attribute [local irreducible] Go.Aw.Ah
theorem Sj {opd full exp:Rd Nd} {o:Nd} (ho:AQ enc 342 (λb=>[pv b d]) opd) (hf:AQ enc 289 (λb=>[pv b d]) full) (he:AQ enc 292 (λb=>[pv b d]) exp):
 AQ enc 419 (λb=>[pv b d,enc o]) (DP opd full exp o):=by
 refine ⟨λ{st0 b s st rows K} hc h=>?_⟩
 simp only [DP,Rd.As,Rd.wp_seq,Rd.wp_ret,Rd.DM] at h
 have hmu:=hc.mu
 refine A1 Ad [] Tryz.func419 rfl Do rfl ?_
 refine Ak (Am Ad ?_)
 repeat' ((conv=>whnf);first|exact CN|(refine A2 ?_;intros)|(refine CO ?_ ?_ ?_;rotate_left)|(refine A3 ?_ ?_<;>intro e h)|(refine A4 ?_ ?_<;>intro _)|with_reducible refine WF ?_)
 refine Ak (Am Ad ?_)
 repeat' ((conv=>whnf);first|exact CN|(refine A2 ?_;intros)|(refine CO ?_ ?_ ?_;rotate_left)|(refine A3 ?_ ?_<;>intro e h)|(refine A4 ?_ ?_<;>intro _)|refine nn.go (iE ho) hc h (λp own1 s1 U hr hm hc h=>?_) (λe s1 U hc h=>?_)|exact BL hc h|with_reducible refine WF ?_)
 all_goals obtain ⟨x,hx,hd,hn⟩:=iD hr
 all_goals try rw [hd] at h
 all_goals refine Am Ad ?_
 all_goals (repeat' ((conv=>whnf);first|exact CN|(refine A2 ?_;intros)|(refine CO ?_ ?_ ?_;rotate_left)|(refine A3 ?_ ?_<;>intro e h)|(refine A4 ?_ ?_<;>intro _)|(refine Hn ?_;intro U hc)|(refine KV ?_ ?_<;>intro U hc e h)|(refine J1 ?_;intro s1 U hz hm hc h)|(refine Ii ?_ ?_<;>(first|intro n s1 U hr hm hc h|intro e s1 U hc h))|exact ET|refine Jr ?_|(refine KA ?_;intro own1 U hc)|refine BR (λ_=>?_)|refine Ac (λe1=>?_)|refine Yu hn ?_|refine O6 hx AC ?_|refine AQ.go (VX hf) hc h (λn s1 U hr hm hc h=>?_) (λe s1 U hc h=>?_)|refine Ae [(0,true),(1,true),(2,true),(3,true),(4,true),(6,true),(7,true),(8,true),(9,true),(10,true),(11,true),(5,false),(12,false),(13,true),(14,false),(15,false)] [2] GE ?_|refine Ae [(0,true),(1,true),(2,true),(3,false),(4,false),(5,true),(6,true)] [] GE ?_|with_reducible refine WF ?_))
 all_goals refine Cg (λ(q:Int×List Nd) own=>[(9,.int .i64 q.1),(8,.slice 6 (q.2.map AM) own)]) (λ_ _=>[]) [2,4] [0,2] (λq own=>(own,q.2)::rows) (λq=>q.2.length) .full (hc.drop.push _) h (by show 2+_<=_;omega) Yl ?_
 all_goals intro q s1 U own1 hc h hl hm1
 all_goals simp only [YI,Rd.Af,Rd.As,Rd.wp_seq,Rd.wp_ret,Rd.Br] at h
 all_goals obtain ⟨k,l⟩:=q
 all_goals dsimp only at hc h hl
 all_goals (repeat' ((conv=>whnf);first|exact CN|(refine A2 ?_;intros)|(refine CO ?_ ?_ ?_;rotate_left)|(refine A3 ?_ ?_<;>intro e h)|(refine A4 ?_ ?_<;>intro _)|exact ⟨⟨(5,_),_,_,_⟩,⟨hc,Rd.Eu h cb,f7,cb⟩,cb,Yl,St.le_refl _⟩|(refine Hn ?_;intro U hc)|(refine KV ?_ ?_<;>intro U hc e h)|(refine J1 ?_;intro s1 U hz hm hc h)|(refine Ii ?_ ?_<;>(first|intro n s1 U hr hm hc h|intro e s1 U hc h))|exact ET|refine Jr ?_|(refine KA ?_;intro own1 U hc)|refine BR (λ_=>?_)|refine Ac (λe1=>?_)|refine AQ.go he hc h (λn s1 U hr hm hc h=>?_) (λe s1 U hc h=>?_)|refine Ae [(0,true),(1,true),(2,true),(3,true),(4,true),(6,true),(7,true),(8,true),(9,true),(10,true),(11,true),(5,false),(12,false),(13,true),(14,false),(15,false)] [2] GE ?_|refine Ae [(0,true),(1,true),(2,true),(3,false),(4,false),(5,true),(6,true)] [] GE ?_|with_reducible refine WF ?_))
 all_goals conv=>whnf
end
section
variable {st0 st:St} {b d c:Nat} {s:Ag} {rows:List (AB×List Nd)} {K:Ay->St->Prop} {L:ER} {o:Nd} {A:Rd Nd}
theorem iu (hb:AQ enc 419 (λb=>[pv b d,enc o]) A) (U:st.box c=some (AM o)) (hc:Cx st0 b s st rows)
 (h:Rd.wp A s (λv s'=>∀st',Cx st0 b s' st' rows->K (.ret (enc v)) st') (λe s'=>∀st',Cy st0 b s' st' rows->K (.BX (fault e.1)) st')):PC 418 [pv b d,.ptr c 0] st K:=by
 refine pB Tryz.func418 ?_
 repeat' ((conv=>whnf);(first|refine A2 ?_|refine A3 ?_ ?_|refine A4 ?_ ?_|refine At U ?_|refine Fj.go (by first|exact AQ.q) ?_ ?_|exact ET|refine Ac ?_)<;>intros)
theorem cP (hb:AQ enc 421 (λb=>[pv b d,enc o]) A) (U:st.box c=some (AM o)) (hc:Cx st0 b s st rows)
 (h:Rd.wp A s (λv s'=>∀st',Cx st0 b s' st' rows->K (.ret (enc v)) st') (λe s'=>∀st',Cy st0 b s' st' rows->K (.BX (fault e.1)) st')):PC 420 [pv b d,.ptr c 0] st K:=by
 refine pB Tryz.func420 ?_
 repeat' ((conv=>whnf);(first|refine A2 ?_|refine A3 ?_ ?_|refine A4 ?_ ?_|refine At U ?_|refine Fj.go (by first|exact AQ.q) ?_ ?_|exact ET|refine Ac ?_)<;>intros)
end
section
variable {st0 st:St} {b d:Nat} {s:Ag} {rows:List (AB×List Nd)} {K:Ay->St->Prop} {L:ER}
attribute [local irreducible] Go.Aw.Ah
theorem XB:AQ enc 281 (λb=>[pv b d]) AO:=by
 refine ⟨λ{st0 b s st rows K} U h=>?_⟩
 refine pB Tryz.func281 ?_
 repeat' ((conv=>whnf);(first|refine A2 ?_|refine A3 ?_ ?_|refine A4 ?_ ?_|refine Gk.go ‹_› ‹_› ?_ ?_|refine J1 ?_|refine Ii ?_ ?_|exact ET|refine Ac ?_)<;>intros)
theorem ib {x:Nd} (hx:n.kids[(Int.tdiv (n.kids.length:Int) 2).toNat]? =some x) (U:n.kids[n.kids.length / 2]? =some x) (h:K (.ret (.bool (Lb n))) st):PC 284 [enc n] st K:=by
 have e:Lb n= !(x.form==7||x.form==8||x.form==3||x.form==4):=by unfold Lb;rw [U]
 rw [e] at h
 refine pB Tryz.func284 ?_
 have h0:0<=Int.tdiv (n.kids.length:Int) 2:=Int.tdiv_nonneg AC AC
 repeat' ((conv=>whnf);(first|refine A2 ?_|refine A3 ?_ ?_|refine A4 ?_ ?_|refine Wm hx h0 ?_)<;>intros)
 all_goals conv=>whnf
 all_goals (refine Aq h ?_;clear h;simp_all)
end
end Go.Proofs.Z
namespace Go.Aw
open Go
theorem cz {P:Program} {r:List V} {st:St} {R:Ay->St->Prop} (hb:Plain P f) (h:s.length<4611686018427387904->A5 P f (.str s::r) st R):A5 P f (.str s::r) st R:=by
 refine ⟨?_,hb⟩
 intro I w cargs hs U
 have hl:s.length<4611686018427387904:=by
  have h2:=U
  simp only [Aj,AF] at h2
  obtain ⟨c,rr,_,h2,_⟩:=h2
  exact h2.2
 exact (h hl).a I w cargs hs U
def JG (s:List UInt8) (k:Int):Bool:=(Eo s).1==k&&(s.take (Eo s).2==s)
theorem cX {n:Nat} (h:n<=s.length):s.take n=s↔n=s.length:=by
 constructor
 .intro e
  have:=congrArg List.length e
  rw [List.length_take] at this
  omega
 .intro e;rw [e,List.take_length]
theorem MY:JG s k=true↔(Eo s).1=k/\(Eo s).2=s.length:=by
 unfold JG
 rw [Bool.and_eq_true,beq_iff_eq,beq_iff_eq,cX (Td s)]
theorem du (h:JG s 11=true):BC (Cr s).1 (s.drop (Cr s).2)=s.length - (Cr s).2/\(Cr s).2<=s.length:=by
 obtain ⟨U,h2⟩:=MY.1 h
 by_cases hb:(Cr s).1=10
 .have hp:Cr s=(10,0):=by
   rcases Ml s with e|⟨e,_⟩|⟨e,_⟩
   .exact e
   .rw [e] at hb;cases hb
   .rw [e] at hb;cases hb
  rw [hp]
  refine ⟨?_,Nat.zero_le _⟩
  show BC 10 (s.drop 0)=s.length - 0
  rw [List.drop_zero,Nat.sub_zero]
  by_cases h0:BC 10 s=0
  .rw [gR hb h0] at U;cases U
  .have e:=Yd (l:=s) hb rfl h0 rfl rfl
   rw [e] at U h2
   dsimp only at U h2
   split at U
   .cases U
   .omega
 .have e:=Yc (l:=s) hb
  have hp2:(Cr s).2=2:=by
   rcases Ml s with e|⟨e,_⟩|⟨e,_⟩
   .rw [e] at hb;exact absurd rfl hb
   .rw [e]
   .rw [e]
  rw [e] at h2
  dsimp only at h2
  rw [hp2]
  omega
theorem bj {c b:Int} (hb:b<=16) (h:¬BE c b<0):0<=BE c b/\BE c b<b/\BE c b<=15:=by
 unfold BE at h |-
 dsimp only at h |-
 (repeat' split at h)<;>(repeat' split)<;>omega
end Go.Aw
namespace Go.Proofs.Z
open Go Go.Aw
theorem V4 {base:Int} {pos m:Nat} (h:pos<s.length) (U:(c,m)=AJ (s.drop pos)) (k:¬BE (c:Int) base<0):
 m=1/\J0 base (s.drop pos) v=if (4611686018427387904 - BE (c:Int) base) / base<v then (0,3) else J0 base (s.drop (pos+1)) (v*base+BE (c:Int) base):=by
 obtain ⟨a,ha⟩:∃a,s[pos]? =some a:=⟨_,List.getElem?_eq_getElem h⟩
 have e:=drop_at ha
 have hlo:a.toNat<128:=by
  apply Classical.byContradiction
  intro hn
  have:=Oq (r:=s.drop (pos+1)) hn
  rw [e] at U
  rw [<-U] at this
  exact k (HM (by dsimp only at this;omega))
 rw [e,EY hlo] at U
 obtain ⟨rfl,rfl⟩:=Prod.mk.inj U
 refine ⟨rfl,?_⟩
 rw [e,J0]
theorem iO {t:List UInt8} {n:Nat} {K:List UInt8->Prop} (ht:s.drop n=t) (U:0<=(n:Int)) (h1:(n:Int)<=s.length) (k:K t):
 (0<=(n:Int)/\(n:Int)<=(s.length:Int)/\(s.length:Int)<=s.length)/\∀s',s'=(s.take (s.length:Int).toNat).drop (n:Int).toNat->K s':=WN U h1 (by subst ht;exact k)
section
variable {st:St} {R:Ay->St->Prop}
theorem qN (U:s.length<=4611686018427387903) (h:R (.ret (.bool (JG s k))) st):PC 387 [.str s,.int .i64 k] st R:=by
 refine pB Tryz.func387 ?_
 repeat' ((conv=>whnf);(first|refine A2 ?_|refine A3 ?_ ?_|refine A4 ?_ ?_|refine ZP U ?_)<;>intros)
 all_goals conv=>whnf
 all_goals (refine Aq h ?_;clear h;simp_all [JG])
theorem nI {b:Bool} (e:JG s k=b) (U:s.length<=4611686018427387903) (h:R (.ret (.bool b)) st):PC 387 [.str s,.int .i64 k] st R:=qN U (by rw [e];exact h)
theorem kG {t:List UInt8} {pos m:Nat} {b:Int} (hb:b<=16) (hl:pos<t.length) (hd:(c,m)=AJ (t.drop pos)) (hr:BC b (t.drop pos)=t.length - pos) (k:∀d,d=BE c b->0<=d->d<b->R (.ret (.int .i64 d)) st):PC 374 [.int .i32 c,.int .i64 b] st R:=by
 have hn:¬BE (c:Int) b<0:=λe=>by
  have:=Hj hl hd e
  omega
 obtain ⟨U,h2,_⟩:=bj hb hn
 exact LI (k _ rfl U h2)
theorem qM {b d:Int} {K:Int->Prop} (hb:b=10\/b=8\/b=16) (U:0<=v) (h1:0<=d) (h2:d<b) (h3:¬(4611686018427387904 - d) / b<v) (k:K (v*b)):∃r,r=IntKind.i64.wrap (v*b)/\K r:=by
 refine ⟨_,(Kr ?_ ?_).symm,k⟩<;>(rcases hb with rfl|rfl|rfl<;>omega)
theorem qi {b d:Int} {K:Int->Prop} (hb:b=10\/b=8\/b=16) (U:0<=v) (h1:0<=d) (h2:d<b) (h3:¬(4611686018427387904 - d) / b<v) (k:K (v*b+d)):∃r,r=IntKind.i64.wrap (v*b+d)/\K r:=by
 refine ⟨_,(Kr ?_ ?_).symm,k⟩<;>(rcases hb with rfl|rfl|rfl<;>omega)
theorem qu {b d:Int} (hb:b=10\/b=8\/b=16) (U:0<=v) (h1:0<=d) (h2:d<b) (h3:¬(4611686018427387904 - d) / b<v):0<=v*b+d/\v*b+d<=4611686018427387904:=by
 rcases hb with rfl|rfl|rfl<;>omega
theorem dw {b:Int} {n:Nat} (hn:JG s 11=true) (U:Cr s=(b,n)):JZ s=J0 b (s.drop n) 0:=by
 unfold JZ
 rw [if_pos (MY.1 hn),U]
theorem ng (h:R (.ret (.Bu [.int .i64 (JZ s).1,.int .i64 (JZ s).2])) st):PC 340 [.str s] st R:=by
 refine cz ⟨_,Tryz.func340,Do,Do⟩ λhl0=>?_
 have hl:s.length<=4611686018427387903:=AC
 refine pB Tryz.func340 ?_
 cases hn:JG s 11 with
 |false=>
  have hw:JZ s=(0,40):=by
   unfold JZ
   rw [if_neg λe=>?_]
   rw [MY.2 e] at hn;cases hn
  rw [hw] at h
  repeat' ((conv=>whnf);first|(refine A2 ?_;intros)|(refine A3 ?_ ?_<;>intro e h)|(refine A4 ?_ ?_<;>intro _)|refine nI hn hl ?_)
  all_goals exact fin h rfl
 |true=>
  obtain ⟨hr,hle⟩:=du hn
  have key:∀(b:Int) (n:Nat),Cr s=(b,n)->b=10\/b=8\/b=16:=λb n e=>by
   rcases Ml s with h|⟨h,_⟩|⟨h,_⟩<;>(rw [h] at e;cases e;omega)
  generalize hp:Cr s=p at hr hle
  obtain ⟨b,n⟩:=p
  have hp0:Cr s=(b,n):=hp
  dsimp only at hr hle
  have hb:=key b n hp
  rw [dw hn hp] at h
  have hlen:(s.drop n).length=s.length - n:=by rw [List.length_drop]
  generalize ht:s.drop n=t at h hr hlen
  have hr:BC b t=t.length:=AC
  clear hp key hlen
  repeat' ((conv=>whnf);first|(refine A2 ?_;intros)|(refine A3 ?_ ?_<;>intro e h)|(refine A4 ?_ ?_<;>intro _)|refine nI hn hl ?_|refine IH hp0 hl ?_|refine iO ht AC AC ?_)
  conv=>whnf
  refine XY (α:=Nat) (β:=Int) (λpos v=>[(6,.int .i64 v)]) (λpos v=>[(0,[.N8 t pos])]) [0,4,5,21] [] (λ_ _=>st) (λpos v=>pos<=t.length/\BC b (t.drop pos)=t.length - pos/\J0 b t 0=J0 b (t.drop pos) v/\0<=v/\v<=4611686018427387904) (λpos v=>t.length - pos) 0 0 ⟨Nat.zero_le _,by rw [List.drop_zero];omega,by rw [List.drop_zero],AC,AC⟩ Yl (St.le_refl _) ?_
  rintro pos v ⟨j1,j2,j3,j4,j5⟩
  rw [j3] at h
  have hb0:0<b:=AC
  repeat' ((conv=>whnf);first|(refine A2 ?_;intros)|(refine A3 ?_ ?_<;>intro e h)|(refine A4 ?_ ?_<;>intro _)|refine WK (λc m hd=>?_)|refine Wr hb0 AC AC ?_|refine kG AC ‹_› ‹_› j2 (λd U hd1 hd2=>?_)|refine qM hb j4 hd1 hd2 ‹_› ?_|refine qi hb j4 hd1 hd2 ‹_› ?_)
  .rename_i hlt hgt
   obtain ⟨e1,e2⟩:=V4 (v:=v) (base:=b) hlt hd (by rw [<-U];omega)
   rw [e2,<-U,if_pos hgt] at h
   exact fin h rfl
  .rename_i hlt hgt
   obtain ⟨e1,e2⟩:=V4 (v:=v) (base:=b) hlt hd (by rw [<-U];omega)
   have e3:=(Mp (base:=b) hlt hd (by rw [<-U];omega)).2
   rw [<-U,if_neg hgt] at e2
   have hf:=qu hb j4 hd1 hd2 hgt
   subst e1
   conv=>whnf
   exact ⟨(pos+1,v*b+d),⟨UV,UV,by rw [j3,e2],hf.1,hf.2⟩,UV,Yl,St.le_refl _⟩
  .rename_i hlt
   rw [List.drop_eq_nil_iff.2 AC] at h
   exact fin h rfl
end
theorem Dv.sz {s:Ag} (h:Dv A) (U:A.run s=.inr (n,s')) (hm:mu s<=100000000):n.size<=1000000000:=by have:=h.size U;omega
theorem gY {s:Ag} (h:H2.run s=.inr (n,s')):∃x,n.kids[(Int.tdiv (n.kids.length:Int) 2).toNat]? =some x/\n.kids[n.kids.length / 2]? =some x:=by
 unfold H2 at h
 replace h:(if Ni (Ab s).1=true then Rd.seq AO λt=>.ret (Au 18 [t]) else Rd.seq (BA 15 [96]) λo=>.seq (Dm [1,2,3,4]) λn=>.seq (BA 15 [96]) λc=>.ret (Au 18 [o,n,c]):Rd Nd).run s=.inr (n,s'):=h
 split at h
 .obtain ⟨t,s1,_,h⟩:=Bk h
  cases h
  exact ⟨t,(by show [t][(Int.tdiv (1:Int) 2).toNat]? =some t;rw [show (Int.tdiv (1:Int) 2).toNat=0 by decide];rfl),by simp [Au,Nd.kids]⟩
 .obtain ⟨o,s1,_,h⟩:=Bk h
  obtain ⟨x,s2,_,h⟩:=Bk h
  obtain ⟨c,U,_,h⟩:=Bk h
  cases h
  exact ⟨x,(by show [o,x,c][(Int.tdiv (3:Int) 2).toNat]? =some x;rw [show (Int.tdiv (3:Int) 2).toNat=1 by decide];rfl),by simp [Au,Nd.kids]⟩
section
variable {st0 st:St} {b d:Nat} {s:Ag} {rows:List (AB×List Nd)} {K:Ay->St->Prop} {L:ER}
attribute [local irreducible] Go.Aw.Ah
theorem kF (h:K (.ret (.bool (Sx n))) st):PC 282 [enc n] st K:=by
 refine pB Tryz.func282 ?_
 repeat' ((conv=>whnf);(first|refine A2 ?_|refine A3 ?_ ?_|refine A4 ?_ ?_|refine ng ?_)<;>intros)
 all_goals conv=>whnf
 all_goals (refine Aq h ?_;clear h;simp_all [Sx])
theorem Ut:AQ enc 280 (λb=>[pv b d,.func 283 [] [],.func 284 [] []]) (C3 H2 Lb):=
 J9 OI λhr _ k=>by obtain ⟨x,U,h2⟩:=gY hr;exact ib U h2 k
theorem kX:AQ enc 280 (λb=>[pv b d,.func 281 [] [],.func 282 [] []]) (C3 AO Sx):=
 J9 XB λ_ _ k=>kF k
theorem lg {atom:Rd Nd} (ha:AQ enc 288 (λb=>[pv b d]) atom) (U:Dv atom):AQ enc 280 (λb=>[pv b d,.func 288 [] [],.func 287 [] []]) (C3 atom dq):=
 J9 ha λhr hm k=>Zx (Dv.sz U hr hm) k
theorem bJ:AQ enc 211 (λb=>[pv b d]) LU:=by
 refine ⟨λ{st0 b s st rows K} U h=>?_⟩
 simp only [LU,LR,Rd.Af,Rd.As,Rd.wp_seq,Rd.wp_ret] at h
 have hmu:=U.mu
 refine pB Tryz.func211 ?_
 repeat' ((conv=>whnf);(first|refine A2 ?_|refine A3 ?_ ?_|refine A4 ?_ ?_|refine Cx.G1 (l:=[_]) (Cx.push ‹_› [_]) (Nat.le_of_ble_eq_true rfl) ?_|refine Hn ?_|refine KV ?_ ?_|refine J1 ?_|refine Ii ?_ ?_|exact ET|refine Jr ?_|refine KA ?_|refine Ac ?_|refine Fj.go (by first|exact AQ.q|exact kX.a|exact Ut.a) ?_ ?_)<;>intros)
 all_goals refine Cg (λl own=>[(3,.slice 6 (l.map AM) own)]) (λ_ _=>[]) [1,2] [0,1] (λl own=>(own,l)::rows) (λl=>l.length) _ ‹_› ‹_› RK Yl ?_
 all_goals intro l s1 st1 own1 U h hl hm1
 all_goals simp only [SK,Rd.Af,Rd.As,Rd.wp_seq,Rd.wp_ret,Rd.Br] at h
 all_goals (repeat' ((conv=>whnf);(first|refine A2 ?_|refine A3 ?_ ?_|refine A4 ?_ ?_|refine Hn ?_|refine KV ?_ ?_|refine J1 ?_|refine Ii ?_ ?_|exact ET|refine Jr ?_|refine KA ?_|refine Ac ?_|refine Fj.go (by first|exact AQ.q|exact Ut.a) ?_ ?_)<;>intros))
theorem pV {atom full:Rd Nd} (hn:n.size<=1000000000) (ha:AQ enc 288 (λb=>[pv b d]) atom) (hD:Dv atom) (hf:AQ enc 289 (λb=>[pv b d]) full):AQ enc 214 (λb=>[pv b d,enc n]) (Vz atom full n):=by
 refine ⟨λ{st0 b s st rows K} U h=>?_⟩
 simp only [Vz,Rd.As,Rd.wp_seq,Rd.wp_ret,Rd.DM] at h
 have hmu:=U.mu
 refine pB Tryz.func214 ?_
 repeat' ((conv=>whnf);(first|exact CN|refine A2 ?_|(refine CO ?_ ?_ ?_;rotate_left)|refine A3 ?_ ?_|refine A4 ?_ ?_|refine Hn ?_|refine KV ?_ ?_|refine J1 ?_|refine Ii ?_ ?_|exact ET|refine Jr ?_|refine KA ?_|refine Ac ?_|refine Zx hn ?_|refine S6 ?_|refine S5 ?_|refine Ae [(0,true),(1,true),(2,false),(3,false)] [] GE ?_|with_reducible refine WF ?_)<;>intros)
 all_goals refine Cg (λl own=>[(5,.slice 6 (l.map AM) own)]) (λ_ _=>[]) [2,3,4] [0,1,2] (λl own=>(own,l)::rows) (λl=>l.length) .full (Cx.push ‹_› _) ‹_› (by show 1+_<=_;omega) Yl ?_
 all_goals intro l s1 st1 own1 U h hl hm1
 all_goals simp only [pU,Rd.Af,Rd.As,Rd.wp_seq,Rd.wp_ret,Rd.Br] at h
 all_goals (repeat' ((conv=>whnf);(first|exact CN|refine A2 ?_|(refine CO ?_ ?_ ?_;rotate_left)|refine A3 ?_ ?_|refine A4 ?_ ?_|refine Hn ?_|refine KV ?_ ?_|refine J1 ?_|refine Ii ?_ ?_|exact ET|refine Jr ?_|refine KA ?_|refine Ac ?_|refine Fj.go (by first|exact AQ.q|exact (lg ha hD).a) ?_ ?_|with_reducible refine WF ?_)<;>intros))
theorem kD {atom ops exp full:Rd Nd} (hL:KU d L) (ha:AQ enc 288 (λb=>[pv b d]) atom) (hD:Dv atom) (ho:AQ enc 212 (λb=>[pv b d]) ops) (hE:Dv ops) (he:AQ enc 292 (λb=>[pv b d]) exp)
 (hs:AQ enc 360 (λb=>[pv b d]) stmt) (hf:AQ enc 289 (λb=>[pv b d]) full):AQ enc 155 (λb=>[pv b d]) (Pp L atom ops exp stmt full):=by
 refine ⟨λ{st0 b s st rows K} hc h=>?_⟩
 simp only [Pp,Rd.Af,Rd.As,Rd.wp_seq,Rd.wp_ret,Rd.DM] at h
 have U:=hc.mu
 refine pB Tryz.func155 ?_
 repeat' ((conv=>whnf);(first|exact CN|refine A2 ?_|(refine CO ?_ ?_ ?_;rotate_left)|refine A3 ?_ ?_|refine A4 ?_ ?_|refine Hn ?_|refine KV ?_ ?_|exact ET|refine Jr ?_|refine Ac ?_|refine SJ ?_|refine Fj.go (by first|exact AQ.q|exact bJ.a|exact (pV (Dv.sz hE ‹_› U) ha hD hf).a|exact (ir hL he hs).a) ?_ ?_|refine qH ?_|refine S6 ?_|refine S5 ?_|refine Ae [(0,true),(1,true),(2,false),(3,true),(4,false),(5,false)] [1] GE ?_|with_reducible refine WF ?_)<;>intros)
end
end Go.Proofs.Z
namespace Go.Aw
theorem LX {fs:List V} {k:List V->Prop} (h:k (fs++cs)):E3 (fs++([]++cs)) k:=Bf.2 h
end Go.Aw
namespace Go.Proofs.Z
open Go Go.Aw
theorem Dv.nB (h:Dv A):Rd.AZ A:=λs n s' e=>by
 have U:=h.size e
 have h2:=size_pos n
 omega
def G7 (starts:Tk->Bool) (item:List Nd->Rd Nd) (f:Bool) (l:List Nd):Rd (Sum (List Nd) (List Nd)):=.seq Qk λ_=>.look λs=>.seq (Is f (!starts (Ab s).1)) λe=>
 if e=true then .ret (.inr l) else .seq (item l) λn=>.look λs=>.seq (Is f (!KO (Ab s).1)) λe=>if e=true then .ret (.inr (l++[n])) else .ret (.inl (l++[n]))
def LD (starts:Tk->Bool) (item:List Nd->Rd Nd):Rd Nd:=.look λs=>if ((Ab s).1.kind==18)=true then .seq Ji λ_=>.seq (.loop (G7 starts item false) []) λl=>.ret (Dx false l)
 else .seq (BA 15 [123]) λ_=>.seq (.loop (G7 starts item true) []) λl=>.ret (Dx true l)
theorem UU {st:St} {s:Ag} {Q:β->Ag->Prop} {body:σ->Rd (Sum σ β)} {x0:σ} (base:σ->St)
 (f:σ->AB->List (Nat×V)) (g:σ->AB->List (Nat×List V)) (keep kb:List Nat) (rw:σ->AB->List (AB×List Nd)) (wt:σ->Nat) (U:AB) (hc:Cx (base x0) b s st (rw x0 U)) (h:Rd.wp (Rd.loop body x0) s Q E) (hl:wt x0+4*mu s<=500000000)
 (he:(env.Oj (f x0 U) (g x0 U) keep kb).ES env)
 (hb:∀x s1 st1 own1,Cx (base x) b s1 st1 (rw x own1)->Rd.wp (body x) s1 (Rd.again body s1 Q E) E->wt x+4*mu s1<=500000000->mu s1<=mu s->
   ih (B2 (λenv' st'=>∃y:LS σ,(Cx (base y.x) b y.s y.m (rw y.x y.o)/\Rd.wp (Rd.loop body y.x) y.s Q E/\wt y.x+4*mu y.s<=500000000/\mu y.s<=mu s)/\mu y.s<mu s1/\(env.Oj (f y.x y.o) (g y.x y.o) keep kb).ES env'/\St.le y.m st') Q0)
    (env.Oj (f x own1) (g x own1) keep kb) st1):
 ∃(α:Type) (E:α->Env) (S:α->St) (J:α->Prop) (μ:α->Nat) (x0:α),J x0/\(E x0).ES env/\St.le (S x0) st/\
  ∀x,J x->ih (B2 (λenv' st'=>∃y,J y/\μ y<μ x/\(E y).ES env'/\St.le (S y) st') Q0) (E x) (S x):=
 ⟨LS σ,λy=>env.Oj (f y.x y.o) (g y.x y.o) keep kb,λy=>y.m,
   λy=>Cx (base y.x) b y.s y.m (rw y.x y.o)/\Rd.wp (Rd.loop body y.x) y.s Q E/\wt y.x+4*mu y.s<=500000000/\mu y.s<=mu s,λy=>mu y.s,⟨x0,s,st,U⟩,⟨hc,h,hl,Nat.le_refl _⟩,he,St.le_refl _,
   λy ⟨j1,j2,j3,j4⟩=>hb y.x y.s y.m y.o j1 (by rw [<-Rd.wp_loop];exact j2) j3 j4⟩
section
variable {st0 st:St} {b d:Nat} {s:Ag} {rows:List (AB×List Nd)} {K:Ay->St->Prop} {L:ER}
attribute [local irreducible] Go.Aw.Ah
theorem Za (hb:s.Dg.length<=500000000) (h:K (.ret (.Bu [CV (EG s).1,.bool (EG s).2])) st):PC 206 [CV s] st K:=by
 refine pB Tryz.func206 ?_
 have h0:¬IZ s=0->s.Dg≠[]:=λe e2=>e (by unfold IZ;rw [e2];rfl)
 unfold EG at h
 by_cases U:M0 s=true
 .by_cases hw:s.wait=1
  .rw [if_neg AC] at h
   repeat' ((conv=>whnf);(first|refine A2 ?_|refine A3 ?_ ?_|refine A4 ?_ ?_|refine UY ?_|refine NY ?_)<;>intros)
   all_goals first|exact BH rfl h|(rw [U] at *;simp at *)
  .by_cases ht:IZ s=0
   .rw [if_neg AC] at h
    repeat' ((conv=>whnf);(first|refine A2 ?_|refine A3 ?_ ?_|refine A4 ?_ ?_|refine UY ?_|refine NY ?_)<;>intros)
    all_goals first|exact BH rfl h|(rw [U] at *;simp at *)
   .rw [if_pos ⟨U,hw,ht⟩] at h
    repeat' ((conv=>whnf);(first|refine A2 ?_|refine A3 ?_ ?_|refine A4 ?_ ?_|refine UY ?_|refine NY ?_|refine LF (h0 ht) hb ?_)<;>intros)
    all_goals first|exact BH rfl h|(rw [U] at *;simp at *)
 .rw [if_neg (by simp [U])] at h
  repeat' ((conv=>whnf);(first|refine A2 ?_|refine A3 ?_ ?_|refine A4 ?_ ?_|refine UY ?_|refine NY ?_)<;>intros)
  all_goals first|exact BH rfl h|exact absurd ‹_› U
def bv (x:Bool):V:=.bool x
theorem fo {f m:Bool}:AQ bv 141 (λb=>[.ptr b 0,.bool f,.bool m]) (Is f m):=by
 refine ⟨λ{st0 b s st rows K} U h=>?_⟩
 simp only [Is,Rd.Af,Rd.As,Rd.wp_seq,Rd.wp_ret] at h
 have hc1:=U.look
 refine pB Tryz.func141 ?_
 have hcl:Rd.wp Sm s (λ_ s'=>∀st',Cx st0 b s' st' rows->K (.ret (.bool true)) st') (λe s'=>∀st',Cy st0 b s' st' rows->K (.BX (fault e.1)) st')->if (EG s).2=true then mu (EG s).1<=mu s/\∀st',Cx st0 b (EG s).1 st' rows->K (.ret (.bool true)) st'
  else Rd.wp (Sg:Rd Unit) s (λ_ s'=>∀st',Cx st0 b s' st' rows->K (.ret (.bool true)) st') (λe s'=>∀st',Cy st0 b s' st' rows->K (.BX (fault e.1)) st'):=λh=>by
  unfold Sm Rd.wp at h
  dsimp only at h
  split
  .rename_i e;rw [if_pos e] at h;exact ⟨MN e,h⟩
  .rename_i e;rw [if_neg e] at h;exact h
 have hmu:=U.mu
 cases f
 .simp only [Bool.false_eq_true,if_false] at h
  cases m
  .simp only [Bool.false_eq_true,if_false] at h
   repeat' ((conv=>whnf);(first|refine A2 ?_|refine A3 ?_ ?_|refine A4 ?_ ?_|refine F7 U.has U.hb ?_|refine Ko hc1 ‹_› AC ?_|exact C2 hc1 ‹_› rfl|refine Hn ?_|refine dI ?_|exact ET|refine Ac ?_)<;>intros)
  .simp only [if_true] at h
   repeat' ((conv=>whnf);first|refine T2 (hcl h) (λe h=>?_) (λe h=>?_)|(refine A2 ?_;intros)|(refine A3 ?_ ?_<;>intro e h)|(refine A4 ?_ ?_<;>intro _)|refine F7 U.has U.hb ?_|refine Ko hc1 h AC (λs1 st1 hz hm U h=>?_)|refine At (St.Ai ..) ?_|refine Za U.hb ?_|refine qy hc1 AC (λst1 U=>?_)|exact C2 U h.2 rfl|refine Rb hc1 h (λe s1 st1 U h=>?_)|(refine Hn ?_;intro st1 U)|(refine dI ?_;intro e s1 st1 U h)|exact ET|refine Ac (λe1=>?_))
 .simp only [if_true] at h
  by_cases hi:Bn s 15 [125]=true
  .rw [if_pos hi] at h
   obtain ⟨h1,h2⟩:(Ab s).1.kind=15/\(Ab s).1.text=[125]:=by
    unfold Bn at hi
    simp only [Bool.and_eq_true,beq_iff_eq] at hi
    exact hi
   repeat' ((conv=>whnf);(first|refine A2 ?_|refine A3 ?_ ?_|refine A4 ?_ ?_|refine F7 U.has U.hb ?_|refine Ko hc1 ‹_› AC ?_|refine Hn ?_|refine dI ?_|exact ET|refine Ac ?_)<;>intros)
  .rw [if_neg hi] at h
   have hx:(Ab s).1.kind=15->¬(Ab s).1.text=[125]:=λh1 h2=>hi (by unfold Bn;rw [h1,h2];rfl)
   cases m
   .simp only [Bool.false_eq_true,if_false] at h
    repeat' ((conv=>whnf);(first|refine ei (beq_eq_false_iff_ne.2 (hx ‹_›)) ?_|refine A2 ?_|refine A3 ?_ ?_|refine A4 ?_ ?_|refine F7 U.has U.hb ?_|exact C2 hc1 ‹_› rfl|refine Hn ?_|refine dI ?_|exact ET|refine Ac ?_)<;>intros)
   .simp only [if_true] at h
    repeat' ((conv=>whnf);(first|refine ei (beq_eq_false_iff_ne.2 (hx ‹_›)) ?_|refine A2 ?_|refine A3 ?_ ?_|refine A4 ?_ ?_|refine F7 U.has U.hb ?_|refine At (St.Ai ..) ?_|refine Za U.hb ?_|refine Rb hc1 ‹_› ?_|refine Hn ?_|refine dI ?_|exact ET|refine Ac ?_)<;>intros)
theorem Ot {f m U:Bool} (e:U=m):AQ bv 141 (λb=>[.ptr b 0,.bool f,.bool m]) (Is f U):=by rw [e];exact fo
theorem nK {b:Bool} (h:b=true):(!b)=false:=by rw [h];rfl
theorem nJ {b:Bool} (h:b=false):(!b)=true:=by rw [h];rfl
theorem PH {own:AB}:Ay.ret (enc (Dx false l))=(Ay.ret (.agg [.int .i64 2,.int .i64 0,.str [],.int .i64 0,.int .i64 0,.slice 6 (l.map AM) own])).wk:=by unfold Dx;rw [fk];rfl
theorem PI {own:AB}:Ay.ret (enc (Dx true l))=(Ay.ret (.agg [.int .i64 2,.int .i64 1,.str [],.int .i64 0,.int .i64 0,.slice 6 (l.map AM) own])).wk:=by unfold Dx;rw [fk];rfl
def qf (base:List Nd->St) (st0:St) (b:Nat) (i:FuncId) (cs:List V) (item:List Nd->Rd Nd):Prop:=∀(l:List Nd) (s:Ag) (st:St) (rows:List (AB×List Nd)) (K:Ay->St->Prop) (Q:Nd->Ag->Prop) (E:Er->Ag->Prop),Cx (base l) b s st rows->Rd.wp (item l) s Q E->
 (∀n s1 U,mu s1<mu s->Cx (base (l++[n])) b s1 U rows->Q n s1->K (.ret (enc n)) U)->(∀e s1 U,Cy st0 b s1 U rows->E e s1->K (.BX (fault e.1)) U)->PC i cs st K
theorem Rc {i:FuncId} {fs:List V} {starts:Tk->Bool} {base:List Nd->St} {item:List Nd->Rd Nd} (hg:∀{t:Tk} {st:St} {K:Ay->St->Prop},K (.ret (.bool (starts t))) st->PC g [EZ t] st K)
 (hi:qf base st0 b i (fs++cs) item) (hx:∀{l s st rows},Cy (base l) b s st rows->Cy st0 b s st rows) (hc:Cx (base []) b s st rows)
 (h:Rd.wp (LD starts item) s (λn s'=>∀l st',Cx (base l) b s' st' rows->K (.ret (enc n)) st') (λe s'=>∀st',Cy st0 b s' st' rows->K (.BX (fault e.1)) st')):
 PC 69 [.ptr b 0,.func g [] [],.func i fs cs] st K:=by
 simp only [LD,Rd.Af,Rd.As,Rd.wp_seq,Rd.wp_ret] at h
 have hmu:=hc.mu
 refine pB Tryz.func69 ?_
 repeat' ((conv=>whnf);first|exact CN|(refine A2 ?_;intros)|(refine CO ?_ ?_ ?_;rotate_left)|(refine A3 ?_ ?_<;>intro e h)|(refine A4 ?_ ?_<;>intro _)|(refine Hn ?_;intro U hc)|(refine Ii ?_ ?_<;>(first|intro n s1 U hr hm hc h|intro e s1 U hc h))|exact ET|(refine KA ?_;intro own1 U hc)|refine Ac (λe1=>?_)|refine Ko hc h AC (λs1 U hz hm hc h=>?_)|exact BL (hx hc) h|refine Ae [(0,true),(1,true),(2,true),(3,true),(4,true),(5,true),(6,false),(7,false),(8,true),(9,false)] [] GE ?_|refine Ae [(0,true),(1,true),(2,true),(3,false),(4,true),(5,false),(6,true),(7,false)] [1] GE ?_|refine Ae [(0,true),(1,true),(2,true),(3,true),(4,true),(5,false),(6,false),(7,true),(8,false)] [] GE ?_|with_reducible refine WF ?_)
 .refine UU base (λl own=>[]) (λl own=>[(1,[.int .i64 2,.int .i64 0,.str [],.int .i64 0,.int .i64 0,.slice 6 (l.map AM) own])]) [0,1,2,6,7] [0] (λl own=>(own,l)::rows) (λl=>l.length) .full (hc.push []) h i7 Yl ?_
  intro l s1 U own1 hc h hl hm1
  simp only [G7,Rd.Af,Rd.As,Rd.wp_seq,Rd.wp_ret,Rd.Br] at h
  repeat' ((conv=>whnf);(first|exact CN|refine A2 ?_|(refine CO ?_ ?_ ?_;rotate_left)|refine A3 ?_ ?_|refine A4 ?_ ?_|with_reducible refine WF ?_)<;>intros)
  unfold Qk at h
  refine Cg (λ_ _=>[]) (λ_ _=>[]) [0,1,2,6,7] [0,1] (λ_ _=>(own1,l)::rows) (λ_=>l.length) .full ‹_› ‹_› hl Yl ?_
  intro u s2 st2 own2 hc h hl hm2
  simp only [Tu,Rd.Af,Rd.As,Rd.wp_seq,Rd.wp_ret,Rd.Br] at h
  repeat' ((conv=>whnf);first|exact CN|(refine A2 ?_;intros)|(refine CO ?_ ?_ ?_;rotate_left)|(refine A3 ?_ ?_<;>intro e h)|(refine A4 ?_ ?_<;>intro _)|(refine Hn ?_;intro U hc)|(refine Ii ?_ ?_<;>(first|intro n s1 U hr hm hc h|intro e s1 U hc h))|exact ET|(refine KA ?_;intro own1 U hc)|refine Ac (λe1=>?_)|refine Tt ?_|refine hg ?_|refine Ko hc h (OO ‹_›) (λs1 U hz hm hc h=>?_)|refine AQ.go (Ot (nK ‹_›)) hc h (λv s1 U hr hm hc h=>?_) (λe s1 U hc h=>?_)|refine AQ.go (Ot (nJ ‹_›)) hc h (λv s1 U hr hm hc h=>?_) (λe s1 U hc h=>?_)|refine LX ?_|refine hi _ _ _ _ _ _ _ hc h (λn s1 U hm hc h=>?_) (λe s1 U hc h=>?_)|exact BL (hx hc).drop h|exact BL (Cy.drop hc) h|exact C2 hc.drop (h l) PH|exact C2 hc.drop (h (l++[_])) PH|refine Ae [(0,true),(1,true),(2,true),(3,true),(4,true),(5,true),(6,false),(7,false),(8,true),(9,false)] [] GE ?_|refine Ae [(0,true),(1,true),(2,true),(3,false),(4,true),(5,false),(6,true),(7,false)] [1] GE ?_|refine Ae [(0,true),(1,true),(2,true),(3,true),(4,true),(5,false),(6,false),(7,true),(8,false)] [] GE ?_|with_reducible refine WF ?_)
  all_goals conv=>whnf
  all_goals exact ⟨⟨(),_,_,.full⟩,⟨hc,Rd.Eu h AC,UV,UV⟩,UV,Yl,St.le_refl _⟩
 .refine UU base (λl own=>[]) (λl own=>[(1,[.int .i64 2,.int .i64 1,.str [],.int .i64 0,.int .i64 0,.slice 6 (l.map AM) own])]) [0,1,2,6,7] [0] (λl own=>(own,l)::rows) (λl=>l.length) .full (hc.push []) h i7 Yl ?_
  intro l s1 U own1 hc h hl hm1
  simp only [G7,Rd.Af,Rd.As,Rd.wp_seq,Rd.wp_ret,Rd.Br] at h
  repeat' ((conv=>whnf);(first|exact CN|refine A2 ?_|(refine CO ?_ ?_ ?_;rotate_left)|refine A3 ?_ ?_|refine A4 ?_ ?_|with_reducible refine WF ?_)<;>intros)
  unfold Qk at h
  refine Cg (λ_ _=>[]) (λ_ _=>[]) [0,1,2,6,7] [0,1] (λ_ _=>(own1,l)::rows) (λ_=>l.length) .full ‹_› ‹_› hl Yl ?_
  intro u s2 st2 own2 hc h hl hm2
  simp only [Tu,Rd.Af,Rd.As,Rd.wp_seq,Rd.wp_ret,Rd.Br] at h
  repeat' ((conv=>whnf);first|exact CN|(refine A2 ?_;intros)|(refine CO ?_ ?_ ?_;rotate_left)|(refine A3 ?_ ?_<;>intro e h)|(refine A4 ?_ ?_<;>intro _)|(refine Hn ?_;intro U hc)|(refine Ii ?_ ?_<;>(first|intro n s1 U hr hm hc h|intro e s1 U hc h))|exact ET|(refine KA ?_;intro own1 U hc)|refine Ac (λe1=>?_)|refine Tt ?_|refine hg ?_|refine Ko hc h (OO ‹_›) (λs1 U hz hm hc h=>?_)|refine AQ.go (Ot (nK ‹_›)) hc h (λv s1 U hr hm hc h=>?_) (λe s1 U hc h=>?_)|refine AQ.go (Ot (nJ ‹_›)) hc h (λv s1 U hr hm hc h=>?_) (λe s1 U hc h=>?_)|refine LX ?_|refine hi _ _ _ _ _ _ _ hc h (λn s1 U hm hc h=>?_) (λe s1 U hc h=>?_)|exact BL (hx hc).drop h|exact BL (Cy.drop hc) h|exact C2 hc.drop (h l) PI|exact C2 hc.drop (h (l++[_])) PI|refine Ae [(0,true),(1,true),(2,true),(3,true),(4,true),(5,true),(6,false),(7,false),(8,true),(9,false)] [] GE ?_|refine Ae [(0,true),(1,true),(2,true),(3,false),(4,true),(5,false),(6,true),(7,false)] [1] GE ?_|refine Ae [(0,true),(1,true),(2,true),(3,true),(4,true),(5,false),(6,false),(7,true),(8,false)] [] GE ?_|with_reducible refine WF ?_)
  all_goals conv=>whnf
  all_goals exact ⟨⟨(),_,_,.full⟩,⟨hc,Rd.Eu h AC,UV,UV⟩,UV,Yl,St.le_refl _⟩
theorem Pb {i:FuncId} {starts:Tk->Bool} (hg:∀{t:Tk} {st:St} {K:Ay->St->Prop},K (.ret (.bool (starts t))) st->PC g [EZ t] st K) (hi:AQ enc i (λb=>[pv b d]) item) (hF:Dv item):
 AQ enc 69 (λb=>[.ptr b 0,.func g [] [],.func i [pv b d] []]) (Da starts item):=
 ⟨λ{st0 b s st rows K} U h=>Rc (fs:=[pv b d]) (cs:=[]) (base:=λ_=>st0) (item:=λ_=>item) hg (λl s st rows K Q E U h k kb=>hi.nD hF.nB U h (λn s1 st1 _ hm U q=>k n s1 st1 hm U q) kb) (λh=>h) U
   (Rd.wp_mono (show Rd.wp (LD starts λ_=>item) s _ _ from h) (λ_ _ _ h _=>h) (λ_ _ _ h=>h))⟩
end
section
variable {st:St} {R:Ay->St->Prop}
attribute [local irreducible] Go.Aw.Ah
theorem Y7 {s:Ag} {deep:Int} {q:Rs} (hq:¬deep<1->∀(b:Nat) (st5:St) (R:Ay->St->Prop),st.le st5->Has st5 b s->Et st5 b R q->PC f [.ptr b 0,.int .i64 (if 100<deep then 100 else deep),.ptr c 0] st5 R) (h:R (.ret (NA (BJ s deep q))) st):PC 67 [CV s,.int .i64 deep,.func f [] [.ptr c 0]] st R:=by
 refine A5.ends (Mj Ad [6,7,8,9,12] Tryz.func67 rfl Do rfl rfl rfl rfl rfl rfl ⟨_,Tryz.func138,rfl,Do⟩ rfl ?_)
 repeat' ((conv=>whnf);first|exact CN|(refine A2 ?_;intros)|(refine CO ?_ ?_ ?_;rotate_left)|(refine A3 ?_ ?_<;>intro e h)|(refine A4 ?_ ?_<;>intro _)|refine S9 (λb5 f5=>?_)|refine At (St.Ai ..) ?_|with_reducible refine WF ?_)
 rename_i b1 f1 b2 f2 b3 f3 b4 f4
 obtain ⟨n12,f2a⟩:=Bw f2
 obtain ⟨n23,f3a⟩:=Bw f3
 obtain ⟨n13,f3b⟩:=Bw f3a
 obtain ⟨n34,f4a⟩:=Bw f4
 obtain ⟨n24,f4b⟩:=Bw f4a
 obtain ⟨n14,f4c⟩:=Bw f4b
 obtain ⟨n45,f5a⟩:=Bw f5
 obtain ⟨n35,f5b⟩:=Bw f5a
 obtain ⟨n25,f5c⟩:=Bw f5b
 obtain ⟨n15,f5d⟩:=Bw f5c
 conv=>whnf
 refine ⟨rfl,AP rfl ?_⟩
 generalize hst5:St.Aa _ b5 [V.ptr b4 0]=st5
 have k1:st5.box b1=some Df:=by subst hst5;rw [St.Ar n15.symm,St.Ar n15.symm,St.Ar n14.symm,St.Ar n13.symm,St.Ar n12.symm,St.Ai];rfl
 have k2:st5.box b2=some [.slice 4 (AD Es.AA) .full,.int .i64 Es.pos,.slice 1 (ints Es.Dg) .full,.int .i64 Es.wait]:=by subst hst5;rw [St.Ar n25.symm,St.Ar n25.symm,St.Ar n24.symm,St.Ar n23.symm,St.Ai];rfl
 have k3:st5.box b3=some [.int .i64 0]:=by subst hst5;rw [St.Ar n35.symm,St.Ar n35.symm,St.Ar n34.symm,St.Ai]
 have k4:Has st5 b4 s:=by subst hst5;refine .inr ⟨dB,Es,.full,.full,0,?_⟩;rw [St.Ar n45.symm,St.Ar n45.symm,St.Ai];rfl
 have k5:st5.box b5=some [.ptr b4 0]:=by subst hst5;rw [St.Ai]
 have kle:st.le st5:=by
  subst hst5
  exact St.An (St.An (St.An (St.An (St.An (St.An (St.le_refl _) f1.1 _) f2a.1 _) f3b.1 _) f4c.1 _) f5d.1 _) f5d.1 _
 have kpan:∀(U:St) (e:Int) (s':Ag),G5 st5 U b4 s'->U.box b5=some [.ptr b4 0]/\U.box b1=some Df/\U.box b2=some [.slice 4 (AD Es.AA) .full,.int .i64 Es.pos,.slice 1 (ints Es.Dg) .full,.int .i64 Es.wait]/\U.box b3=some [.int .i64 0]/\st.le U:=by
  rintro U e s' ⟨_,cs,rfl⟩
  exact ⟨by rw [St.Ar n45];exact k5,by rw [St.Ar n14.symm];exact k1,by rw [St.Ar n24.symm];exact k2,by rw [St.Ar n34.symm];exact k3,St.An kle f4c.1 _⟩
 clear hst5 f2 f3 f4 f5 f3a f4a f4b f5a f5b f5c
 refine Ak (Am Ad ?_)
 repeat' ((conv=>whnf);(first|exact CN|refine A2 ?_|(refine CO ?_ ?_ ?_;rotate_left)|refine A3 ?_ ?_|refine A4 ?_ ?_|refine At k5 ?_|refine Ca ?_|with_reducible refine WF ?_)<;>intros)
 .refine Il (n0:=HX) (s0:=Es) k5 k4 k1 k2 k3 n15 n14 n12 n13 n25 n24 n23 ?_
  have g1:(((st5.Aa b1 Df).Aa b2 s.cells).Aa b3 [.int .i64 2]).box b1=some Df:=by rw [St.Ar n13.symm,St.Ar n12.symm,St.Ai]
  have g2:(((st5.Aa b1 Df).Aa b2 s.cells).Aa b3 [.int .i64 2]).box b2=some s.cells:=by rw [St.Ar n23.symm,St.Ai]
  have gl:st.le (((st5.Aa b1 Df).Aa b2 s.cells).Aa b3 [.int .i64 2]):=St.An (St.An (St.An kle f1.1 _) f2a.1 _) f3b.1 _
  unfold BJ at h
  rw [if_pos ‹_›] at h
  repeat' ((conv=>whnf);(first|exact CN|refine A2 ?_|(refine CO ?_ ?_ ?_;rotate_left)|refine A3 ?_ ?_|refine A4 ?_ ?_|refine At g1 ?_|refine At g2 ?_|refine At (St.Ai ..) ?_|with_reducible refine WF ?_)<;>intros)
  all_goals exact DS gl rfl h
 .rename_i hd
  unfold BJ at h
  rw [if_neg hd] at h
  have hq:=λst5 R h=>hq hd b4 st5 R h
  refine Ak (Am Ad ?_)
  cases q with
  |inl q=>
   obtain ⟨e,s'⟩:=q
   repeat' ((conv=>whnf);first|exact CN|(refine A2 ?_;intros)|(refine CO ?_ ?_ ?_;rotate_left)|(refine A3 ?_ ?_<;>intro e h)|(refine A4 ?_ ?_<;>intro _)|refine At k5 ?_|refine ⟨_,rfl,?_⟩|refine hq _ _ kle k4 (λU hu=>?_)|with_reducible refine WF ?_)
   obtain ⟨j5,j1,j2,j3,jle⟩:=kpan U e s' hu
   refine Il (n0:=HX) (s0:=Es) j5 hu.1 j1 j2 j3 n15 n14 n12 n13 n25 n24 n23 ?_
   have g1:(((U.Aa b1 Df).Aa b2 s'.cells).Aa b3 [.int .i64 e]).box b1=some Df:=by rw [St.Ar n13.symm,St.Ar n12.symm,St.Ai]
   have g2:(((U.Aa b1 Df).Aa b2 s'.cells).Aa b3 [.int .i64 e]).box b2=some s'.cells:=by rw [St.Ar n23.symm,St.Ai]
   have gl:st.le (((U.Aa b1 Df).Aa b2 s'.cells).Aa b3 [.int .i64 e]):=St.An (St.An (St.An jle f1.1 _) f2a.1 _) f3b.1 _
   repeat' ((conv=>whnf);(first|exact CN|refine A2 ?_|(refine CO ?_ ?_ ?_;rotate_left)|refine A3 ?_ ?_|refine A4 ?_ ?_|refine At g1 ?_|refine At g2 ?_|refine At (St.Ai ..) ?_|with_reducible refine WF ?_)<;>intros)
   all_goals exact DS gl rfl h
  |inr q=>
   obtain ⟨n,s'⟩:=q
   have kret:=λU hu=>kpan U 0 s' hu
   repeat' ((conv=>whnf);first|exact CN|(refine A2 ?_;intros)|(refine CO ?_ ?_ ?_;rotate_left)|(refine A3 ?_ ?_<;>intro e h)|(refine A4 ?_ ?_<;>intro _)|refine At k5 ?_|refine ⟨_,rfl,?_⟩|refine hq _ _ kle k4 (λU hu=>?_)|refine At (kret U hu).2.1 ?_|with_reducible refine WF ?_)
   obtain ⟨j5,j1,j2,j3,jle⟩:=kret U hu
   generalize hst7:U.Aa b1 (AM n)=st7
   have i1:st7.box b1=some (AM n):=by subst hst7;rw [St.Ai]
   have i5:st7.box b5=some [.ptr b4 0]:=by subst hst7;rw [St.Ar n15];exact j5
   have i2:st7.box b2=some [.slice 4 (AD Es.AA) .full,.int .i64 Es.pos,.slice 1 (ints Es.Dg) .full,.int .i64 Es.wait]:=by subst hst7;rw [St.Ar n12];exact j2
   have i3:(st7.Aa b2 s'.cells).box b3=some [.int .i64 0]:=by subst hst7;rw [St.Ar n23,St.Ar n13];exact j3
   have i4:Has st7 b4 s':=by
    subst hst7
    rcases hu.1 with e|⟨t,u,o1,o2,e',e⟩
    .exact .inl (by rw [St.Ar n14];exact e)
    .exact .inr ⟨t,u,o1,o2,e',by rw [St.Ar n14];exact e⟩
   have ile:st.le st7:=by subst hst7;exact St.An jle f1.1 _
   refine Ak (W6 Ad (B8 _) (λbs=>eA bs b1 b2 b3 b4 b5 (AM n) s'.cells) (eC st7 b2 b3 s'.cells) Om GE Yl (by rw [<-hst7];exact St.le_refl _) ?_ ?_)
   .skip
    unfold Om
    rcases i4 with i4|⟨t,u,q1,q2,q3,i4⟩
    all_goals repeat' (first|refine List.forall_mem_cons.2 ⟨?_,?_⟩|exact λ_ h=>nomatch h)
    repeat' ((conv=>whnf);(first|exact CN|refine A2 ?_|(refine CO ?_ ?_ ?_;rotate_left)|refine A3 ?_ ?_|refine A4 ?_ ?_|refine At i5 ?_|refine At i1 ?_|refine At i4 ?_|refine At i2 ?_|refine At i3 ?_|with_reducible refine WF ?_)<;>intros)
    all_goals conv=>whnf
    all_goals (refine ⟨Yl,?_⟩)
    all_goals first|exact St.le_refl _|exact ZC i1
   .refine Am Ad (Pg (bp:=b5) ?_)
    have g1:((st7.Aa b2 s'.cells).Aa b3 [.int .i64 0]).box b1=some (AM n):=by rw [St.Ar n13.symm,St.Ar n12.symm];exact i1
    have g2:((st7.Aa b2 s'.cells).Aa b3 [.int .i64 0]).box b2=some s'.cells:=by rw [St.Ar n23.symm,St.Ai]
    have gl:st.le ((st7.Aa b2 s'.cells).Aa b3 [.int .i64 0]):=St.An (St.An ile f2a.1 _) f3b.1 _
    repeat' ((conv=>whnf);(first|exact CN|refine A2 ?_|(refine CO ?_ ?_ ?_;rotate_left)|refine A3 ?_ ?_|refine A4 ?_ ?_|refine At g1 ?_|refine At g2 ?_|refine At (St.Ai ..) ?_|with_reducible refine WF ?_)<;>intros)
    all_goals exact DS gl rfl h
end
def CS (A:Rd Nd) (s:Ag):Rs:=match A.run s with
 | .inl p=>.inl (p.1.1,p.2)
 | .inr p=>.inr p
section
variable {st0 st:St} {b c d:Nat} {s:Ag} {K R:Ay->St->Prop}
theorem Cx.q6 (h:Has st' b s') (hr:∃cs,Rx (st.Aa b cs) st' []):∃U,G5 st U b s'/\St.le U st':=by
 obtain ⟨cs,hr⟩:=hr
 have hb:=hr.le.1 b cs (St.Ai ..)
 refine ⟨st.Aa b cs,⟨?_,cs,rfl⟩,hr.le⟩
 rcases h with e|⟨t,u,o1,o2,e0,e⟩
 .rw [hb] at e;injection e with e;subst e;exact .inl (St.Ai ..)
 .rw [hb] at e;injection e with e;subst e;exact .inr ⟨t,u,o1,o2,e0,St.Ai ..⟩
theorem VN (hf:AQ enc f mk A) (hs:Has st b s) (hm:mu s<=100000000) (ht:Et st b K (CS A s)):PC f (mk b) st K:=by
 refine A5.ends (hf.ap (Cx.start hs hm) (Rd.ar (λv s' e st' hc=>?_) (λe s' he st' hc=>?_)))
 .unfold CS at ht
  rw [e] at ht
  obtain ⟨U,hu,hl⟩:=Cx.q6 hc.has hc.rx
  exact ⟨_,U,.inl rfl,hl,ht U hu⟩
 .unfold CS at ht
  rw [he] at ht
  obtain ⟨U,hu,hl⟩:=Cx.q6 hc.has hc.rx
  exact ⟨_,U,.inl rfl,hl,ht U hu⟩
theorem pP (hA:AQ enc g (λb=>[pv b d]) A) (hx:st.box c=some [.func g [] []]) (hs:Has st b s) (hm:mu s<=100000000) (ht:Et st b K (CS A s)):PC 210 [.ptr b 0,.int .i64 (d:Int),.ptr c 0] st K:=by
 have U:∀{K:Ay->St->Prop},Et st b K (CS A s)->PC g [pv b d] st K:=λh=>VN hA hs hm h
 refine pB Tryz.func210 ?_
 unfold CS at *
 cases hr:A.run s with
 |inl p=>
  rw [hr] at ht U
  repeat' ((conv=>whnf);first|(refine A2 ?_;intros)|(refine A3 ?_ ?_<;>intro e h)|(refine A4 ?_ ?_<;>intro _)|refine At hx ?_|refine U (λst1 hu=>?_))
  all_goals exact ⟨_,_,.inl rfl,St.le_refl _,ht _ hu⟩
 |inr p=>
  rw [hr] at ht U
  repeat' ((conv=>whnf);first|(refine A2 ?_;intros)|(refine A3 ?_ ?_<;>intro e h)|(refine A4 ?_ ?_<;>intro _)|refine At hx ?_|refine U (λst1 hu=>?_))
  all_goals exact BH rfl (ht _ hu)
theorem fq {deep:Int} {A:Nat->Rd Nd} (hA:∀d:Nat,1<=d->d<=100->AQ enc g (λb=>[pv b d]) (A d)) (hm:mu s<=100000000) (h:K (.ret (NA (BJ s deep (CS (A (CR deep)) s)))) st):
 PC 154 [CV s,.int .i64 deep,.func g [] []] st K:=by
 refine A1 Ad [] Tryz.func154 rfl Do rfl ?_
 refine Ak (Am Ad ?_)
 repeat' ((conv=>whnf);(first|refine A2 ?_|refine A3 ?_ ?_|refine A4 ?_ ?_|fail)<;>intros)
 refine KT 5 1 rfl rfl rfl (λc fc=>?_)
 refine Am Ad ?_
 have hq:¬deep<1->∀(b:Nat) (U:St) (R:Ay->St->Prop),(st.Aa c [.func g [] []]).le U->Has U b s->Et U b R (CS (A (CR deep)) s)->PC 210 [.ptr b 0,.int .i64 (if 100<deep then 100 else deep),.ptr c 0] U R:=λhd b U R hle hs ht=>by
  have e:(if 100<deep then 100 else deep)=((CR deep:Nat):Int):=by unfold CR;split<;>omega
  rw [e]
  exact pP (hA _ (by unfold CR;split<;>omega) (by unfold CR;split<;>omega)) (hle.1 _ _ (St.Ai ..)) hs hm ht
 obtain ⟨n,s',e,hq3⟩:∃n s' e,BJ s deep (CS (A (CR deep)) s)=(n,s',e):=⟨_,_,_,rfl⟩
 rw [hq3] at h
 have hcat:∀{K:Ay->St->Prop},K (.ret (Ug n s' e)) (st.Aa c [.func g [] []])->PC 67 [CV s,.int .i64 deep,.func 210 [] [.ptr c 0]] (st.Aa c [.func g [] []]) K:=λk=>Y7 (s:=s) (q:=CS (A (CR deep)) s) hq (by rw [hq3];exact k)
 repeat' ((conv=>whnf);(first|refine A2 ?_|refine A3 ?_ ?_|refine A4 ?_ ?_|refine hcat ?_)<;>intros)
 all_goals exact DS (St.An (St.le_refl _) fc.1 _) rfl h
end
section
variable {d:Nat}
theorem eN {st:St} (h:K (.ret (.bool (F5 t))) st):PC 361 [EZ t] st K:=by
 refine pB Tryz.func361 ?_
 repeat' ((conv=>whnf);(first|refine A2 ?_|refine A3 ?_ ?_|refine A4 ?_ ?_|refine Lw ?_|refine SJ ?_)<;>intros)
 all_goals conv=>whnf
 all_goals (refine Aq h ?_;clear h;simp_all [F5])
theorem aR (hi:AQ enc 155 (λb=>[pv b d]) item) (U:Dv item):AQ enc 295 (λb=>[pv b d]) (Da F5 item):=by
 refine ⟨λ{st0 b s st rows K} hc h=>?_⟩
 refine pB Tryz.func295 ?_
 repeat' ((conv=>whnf);(first|refine A2 ?_|refine A3 ?_ ?_|refine A4 ?_ ?_|exact ET|refine Ac ?_|refine Fj.go (by first|exact AQ.q|exact (Pb (λh=>eN ‹_›) hi U).a) ?_ ?_)<;>intros)
theorem aS (hi:AQ enc 360 (λb=>[pv b d]) item) (U:Dv item):AQ enc 416 (λb=>[pv b d]) (Da FJ item):=by
 refine ⟨λ{st0 b s st rows K} hc h=>?_⟩
 refine pB Tryz.func416 ?_
 repeat' ((conv=>whnf);(first|refine A2 ?_|refine A3 ?_ ?_|refine A4 ?_ ?_|exact ET|refine Ac ?_|refine Fj.go (by first|exact AQ.q|exact (Pb (λh=>Lw ‹_›) hi U).a) ?_ ?_)<;>intros)
theorem er (hi:AQ enc 415 (λb=>[pv b d]) item) (U:Dv item):AQ enc 391 (λb=>[pv b d]) (Da FJ item):=by
 refine ⟨λ{st0 b s st rows K} hc h=>?_⟩
 refine pB Tryz.func391 ?_
 repeat' ((conv=>whnf);(first|refine A2 ?_|refine A3 ?_ ?_|refine A4 ?_ ?_|exact ET|refine Ac ?_|refine Fj.go (by first|exact AQ.q|exact (Pb (λh=>Lw ‹_›) hi U).a) ?_ ?_)<;>intros)
structure rK (D:Nat) (full:Rd Nd) (L:ER):Prop where
 atom:AQ enc 288 (λb=>[pv b D]) (nw L)
 exp:AQ enc 292 (λb=>[pv b D]) (N5 full L)
 ops:AQ enc 212 (λb=>[pv b D]) (opsL L)
 stmt:AQ enc 360 (λb=>[pv b D]) (KQ full L)
 alt:AQ enc 415 (λb=>[pv b D]) (jJ full L)
 decl:AQ enc 155 (λb=>[pv b D]) (FT full L)
 decls:AQ enc 295 (λb=>[pv b D]) (Da F5 (FT full L))
 stmts:AQ enc 416 (λb=>[pv b D]) (Da FJ (KQ full L))
 alts:AQ enc 391 (λb=>[pv b D]) (Da FJ (jJ full L))
 Fo:∀o,AQ enc 419 (λb=>[pv b D,enc o]) (DP (Yf L) full (N5 full L) o)
 list:∀o,AQ enc 421 (λb=>[pv b D,enc o]) (NJ (N5 full L) (KQ full L) o)
theorem rP {full:Rd Nd} {L:ER} (hL:KU d L) (hD:Lo L) (hf:AQ enc 289 (λb=>[pv b d]) full) (hF:Dv full):rK d full L:=by
 have atom:=jT hL
 have dat:=LL hD
 have U:=Yg hL atom Un
 have ops:=gZ U
 have exp:=oQ U hf
 have stmt:=my hL exp
 have alt:=oo hL ops exp stmt
 have decl:=kD hL atom dat ops (Px (MR hD)) exp stmt hf
 exact ⟨atom,exp,ops,stmt,alt,decl,aR decl (Jz hF hD),aS stmt (JA hF hD),er alt (Zd hF hD),λo=>Sj U hf exp,λo=>lN exp stmt⟩
theorem qI:∀d,d<=100->KU (d+1) (IA d)
 |0,_=>⟨DC AC (λ_=>rfl) (λh=>absurd rfl h),DC AC (λ_=>rfl) (λh=>absurd rfl h),DC AC (λ_=>rfl) (λh=>absurd rfl h),DC AC (λ_=>rfl) (λh=>absurd rfl h),
   DC AC (λ_=>rfl) (λh=>absurd rfl h),DC AC (λ_=>rfl) (λh=>absurd rfl h),λhx U h=>Oy AC (λ_=>rfl) U h (λh=>absurd rfl h),λhx U h=>Oy AC (λ_=>rfl) U h (λh=>absurd rfl h)⟩
 |d+1,h=>by
  have l:=rP (qI d AC) (MQ d) (Zq (d:=d) AC) (GC _)
  have no:∀{p:Prop},d+1=0->p:=λe=>by cases e
  exact ⟨DC AC no λ_=>l.atom,DC AC no λ_=>l.exp,DC AC no λ_=>l.ops,DC AC no λ_=>l.decls,DC AC no λ_=>l.stmts,DC AC no λ_=>l.alts,
   λhx U h=>Oy AC no U h λ_ K h=>iu (l.Fo _) hx U h,λhx U h=>Oy AC no U h λ_ K h=>cP (l.list _) hx U h⟩
theorem qF (U:1<=d) (h:d<=100):rK d (CT d) (IA (d - 1)):=by
 obtain ⟨d,rfl⟩:∃e,d=e+1:=⟨d - 1,AC⟩
 exact rP (qI d AC) (MQ d) (Zq (d:=d) AC) (GC _)
def Po (d:Nat):Rd Nd:=FT (CT d) (IA (d - 1))
def Pq (d:Nat):Rd Nd:=Da F5 (Po d)
end
section
variable {st:St} {K:Ay->St->Prop} {s:Ag} {deep:Int}
theorem nj (hm:mu s<=100000000) (h:K (.ret (NA (BJ s deep (CS (Po (CR deep)) s)))) st):PC 85 [CV s,.int .i64 deep] st K:=by
 refine pB Tryz.func85 ?_
 repeat' ((conv=>whnf);(first|refine A2 ?_|refine A3 ?_ ?_|refine A4 ?_ ?_|refine fq (s:=s) (A:=Po) (λd U h1=>(qF U h1).decl) hm ?_)<;>intros)
 all_goals exact BH rfl h
theorem jA (hm:mu s<=100000000) (h:K (.ret (NA (BJ s deep (CS (Pq (CR deep)) s)))) st):PC 228 [CV s,.int .i64 deep] st K:=by
 refine pB Tryz.func228 ?_
 repeat' ((conv=>whnf);(first|refine A2 ?_|refine A3 ?_ ?_|refine A4 ?_ ?_|refine fq (s:=s) (A:=Pq) (λd U h1=>(qF U h1).decls) hm ?_)<;>intros)
 all_goals exact BH rfl h
end
end Go.Proofs.Z
namespace Go.Proofs.Z
open Go Go.Aw
open Rd (Ap)
theorem aE (h:d<=d'):Ap (Pq d) (Pq d'):=
 have U:=XZ (d:=d - 1) (d':=d' - 1) AC
 have hf:=Oh h
 Lr (Sd U (Lq U) (MD (KX U)) (G6 hf U) (HG hf U) hf)
def MO:Nat->Rd Nd
 |0=>.fail Hb
 |d+1=>Pq (d+1)
def VS (d:Nat):Rd Nd:=My (HC d) (Mz d) (Gn d) (CT d) (Po d) (MO (d - 1))
def IY (top:Rd Nd) (l:List Nd):Rd Nd:=.look λs0=>.seq top λn=>if ((n.kind==50)&&l.any λx=> !(x.kind==50))=true then .GH s0 Hc else .ret n
def Ee (top:Rd Nd):Rd Nd:=LD QE (IY top)
def Ch (d:Nat):Rd Nd:=Ee (VS d)
theorem aF:∀{d d':Nat},d<=d'->Ap (MO d) (MO d')
 |0,_,_=>Ap.deep
 |d+1,d'+1,h=>aE h
theorem dM (h:d<=d'):Ap (Po d) (Po d'):=
 have U:=XZ (d:=d - 1) (d':=d' - 1) AC
 have hf:=Oh h
 Sd U (Lq U) (MD (KX U)) (G6 hf U) (HG hf U) hf
theorem jO (h:d<=d'):Ap (VS d) (VS d'):=
 have U:=Jx (d - 1) (d' - 1) AC
 jP (Oi (Cq (B9 _)) (Cq (B9 _)) (FU U)) (Oi (HH (Cq (B9 _))) (HH (Cq (B9 _))) (Gz (FU U)))
  (Oi (Gw (Cq (B9 _))) (Gw (Cq (B9 _))) (Iq (FU U))) (Oh h) (dM h) (aF AC)
section
attribute [local irreducible] Rd.ret Rd.seq Rd.look Rd.loop Rd.fail Rd.GH
theorem aK {A':Rd Nd} (h:Ap A A'):Ap (Ee A) (Ee A'):=by
 repeat' (first|assumption|with_reducible exact Ap.A9|refine Ap.look λ_=>?_|refine Ap.ite ?_ ?_|refine Ap.seq ?_ λ_=>?_|refine Ap.loop (λ_=>?_) _)
end
theorem WX (h:d<=d'):Ap (Ch d) (Ch d'):=aK (jO h)
theorem SY {X:Ag->Rs} {h:∀s v s',X s=.inr (v,s')->mu s'<=mu s} (k:C0 X):Fm (HB X h):=Fm.of (Dv.of λs n s' e=>k s n s' (by
 unfold HB at e
 dsimp only at e
 split at e
 .split at e<;>cases e
 .rename_i U;rw [U];injection e with e;rw [e]))
theorem bV:∀d,Fm (MO d)
 |0=>λs=>trivial
 |d+1=>Fm.of (LM (Jz (GC _) (MQ _)))
theorem lL (d:Nat):Fm (VS d):=
 pd (SY (LJ (LK _))) (SY (SB (LJ (LK _)))) (SY (Pv (LJ (LK _)))) (Fm.of (GC d)) (Fm.of (Jz (GC _) (MQ _))) (bV _)
section
variable {s s0 s1:Ag} {A:Rd Nd} {l:List Nd}
theorem Lf.pass (h:Lf l s0 s) (k:Lf [] s s1):Lf l s0 s1:=by
 have:=Lf.app h k
 rwa [List.append_nil] at this
theorem lI (U:Fm A) (l:List Nd):Fm (IY A l):=λs=>by
 simp only [IY,Rd.Af,Rd.As,Rd.wp_seq,Rd.wp_ret,Rd.Eg]
 exact N7 U λn s1 h=>A6 (λ_=>trivial) λ_=>h
theorem bX (hA:Fm A):Fm (Ee A):=λs=>by
 simp only [Ee,LD,Rd.Af,Rd.As,Rd.wp_seq,Rd.wp_ret]
 have hb:∀{f:Bool} {s1:Ag},(Ab s).2.2=0->Ey (Ab s).1=true->(Ab s).2.1=s1->Rd.wp (Rd.loop (G7 QE (IY A) f) []) s1 (λl s'=>Lf [Dx f l] s s') Dc:=λ{f s1} e1 e2 e3=>by
  subst e3
  have hz:Lf [] s (Ab s).2.1:=.of (.skip e1 e2)
  refine Db (P:=λl s1=>Lf l (Ab s).2.1 s1) (λl s1 U=>?_) (.nil _)
  simp only [G7,Rd.Af,Rd.As,Rd.wp_seq,Rd.wp_ret]
  refine Ud λs2 g2=>LN λb s3 g3=>A6 (λ_=>.block hz ((U.pass (.of g2)).pass (.of g3))) λ_=>N7 (lI hA l) λn s4 g4=>LN λb s5 g5=>?_
  have h1:Lf (l++[n]) (Ab s).2.1 s5:=(Lf.app ((U.pass (.of g2)).pass (.of g3)) g4).pass (.of g5)
  exact A6 (λ_=>.block hz h1) λ_=>h1
 refine A6 (λe=>?_) λ_=>?_
 .have hi:Ey (Ab s).1=true:=by rw [beq_iff_eq] at e;simp [Ey,e]
  exact qq hi λ_=>hb (FO (Kb hi).1) hi rfl
 .unfold BA
  rw [Rd.Af,Rd.As]
  refine A6 (λe=>?_) λ_=>trivial
  have hi:Ey (Ab s).1=true:=by
   unfold Bn at e
   simp only [Bool.and_eq_true,beq_iff_eq] at e
   simp [Ey,e.1,e.2]
  exact Cz (AL e Do Do) λ_=>hb (FO (Kb hi).1) hi rfl
theorem XV (d:Nat):Fm (Ch d):=bX (lL d)
theorem Xv {B C D E F:Rd Nd} (U:Rd.AZ E):Rd.AZ (My A B C D E F):=Rd.AZ.look λs v s' h=>by
 split at h
 .rename_i hk
  rw [beq_iff_eq] at hk
  have ht:∀{v:Nd} {s':Ag},AO.run s=.inr (v,s')->mu s'<mu s:=λe=>GY e AC
  (repeat' split at h)<;>first|exact Rd.AZ.at (λ_ _ e=>ht e) h|exact U _ _ _ h
 .exact U _ _ _ h
theorem Xu (d:Nat):Rd.AZ (VS d):=Xv (Jz (GC _) (MQ _)).nB
end
end Go.Proofs.Z
namespace Go.Aw
open Go
abbrev fw (ro:Option Nat):Fence:={Fence.wide with round:=ro}
section
variable {P:Program} {n:Nat} {ro:Option Nat}
theorem ez {w:World} {R:Ending->World->Prop} (h:Calls P f args w R):CallsIn (fw ro) n P f args w R:=callsIn_wide.2 h
theorem mg {row:String} {w:World} {R:Value->World->Prop} (h:Rows P row args w R):RowsIn (fw ro) n P row args w R:=λc cs _=>let ⟨v,w',r,s⟩:=h c cs;⟨v,w',r,stepsIn_wide.2 s⟩
theorem nM {o:Oper} {a:Act} {w:World} {next next':Act->World->Prop} {Q0 Q:Exit->Act->World->Prop} (nd:∀c,o.op≠.defer c) (h:o.wp P a w next Q0) (hn:∀a w,next a w->next' a w) (hq:∀e a w,e≠.normal->Q0 e a w->Q e a w):o.wpIn (fw ro) n P a w next' Q:=by
 refine ⟨λ_ _=>trivial,?_⟩
 rw [Oper.semAt_eq _ _ _ nd]
 unfold Oper.wp at h
 generalize (execOp a.eval o).run P w=r at h
 cases r with
 |ok x w'=>
  cases x<;>simp only [Oper.upon] at h<;>simp only [Oper.uponIn]
  all_goals first
   |exact hn _ _ h
   |exact ⟨λe=>(by cases e),(ez h).mono λe w'' U=>by cases e<;>first|exact hn _ _ U|exact hq _ _ _ GT U|exact U.imp λa U=>U.imp λw U=>hq _ _ _ GT U⟩
   |exact ⟨λe=>(by cases e),(mg h).mono λv w'' U=>hn _ _ U⟩
 |halt x w'=>cases x<;>simp only [Oper.upon] at h<;>simp only [Oper.uponIn]<;>exact hq _ _ _ GT h
theorem OA {ops:Array Oper} {Q0 Q:Exit->Act->World->Prop} (hl:¬LetsOut Q0) (hq:∀e a w,e≠.normal->Q0 e a w->Q e a w) {l2:List Oper} (hN:∀a w,Q0 .normal a w->wpListIn (fw ro) n P ops Q l2 a w):
 ∀(l1:List Oper) (a:Act) (w:World),(∀o ∈ l1,∀c,o.op≠.defer c)->wpList P ops Q0 l1 a w->wpListIn (fw ro) n P ops Q (l1++l2) a w
 |[],a,w,_,h=>hN a w h
 |o::r,a,w,nd,h=>by
  have ih:=OA hl hq hN r
  unfold wpList at h
  rw [List.cons_append]
  unfold wpListIn
  split
  .rename_i hw
   rw [if_pos hw] at h
   rcases h with h|h
   .exact nM (nd o List.mem_cons_self) h (λa w h=>ih a w (λo U=>nd o (List.mem_cons_of_mem _ U)) h) hq
   simp_all
  .rename_i hw
   rw [if_neg hw] at h
   exact ⟨λ_ _=>trivial,ih _ w (λo U=>nd o (List.mem_cons_of_mem _ U)) h⟩
theorem dK {ops:Array Oper} {md:Region.Mode} {Q0:Exit->Act->World->Prop} (hl:¬LetsOut Q0) (nd:∀o ∈ ops.toList,∀c,o.op≠.defer c):∀(fuel:Nat) (listed:Array Bool) (a:Act) (w:World),
 wpAny P md ops Q0 fuel listed a w->wpAnyIn (fw ro) n P md ops Q0 fuel listed a w
 |0,listed,a,w,h=>h
 |fuel+1,listed,a,w,h=>by
  have ih:=dK (md:=md) hl nd fuel
  refine ⟨h.1,λi hi=>?_⟩
  have U:=h.2 i hi
  unfold wpOp at U
  unfold wpOpIn
  split
  .simp_all
  .rename_i o ho
   rw [ho] at U
   dsimp only at U
   split
   .rename_i hw
    rw [if_pos hw] at U
    rcases U with U|U
    .exact nM (nd o (by grind)) U (λa w h=>ih _ a w h) (λ_ _ _ _ h=>h)
    simp_all
   .rename_i hw
    rw [if_neg hw] at U
    exact ⟨λ_ _=>trivial,ih _ _ _ U⟩
theorem L4 {D:List Deferred} {I0:Mem} {w0:World} {Q:AG->Env->St->Prop}:¬LetsOut (B3 D I0 st0 w0 Q):=by
 rintro ⟨a,w,I,β,env,st,U,_,h,_⟩
 cases U<;>exact h
end
def OE (l:List Oper):Bool:=l.all λo=>match o.op with| .defer _=>false|_=>true
theorem JK {l:List Oper} (h:OE l=true):∀o ∈ l,∀c,o.op≠.defer c:=λo U c e=>by
 have:=List.all_eq_true.1 h o U
 simp_all
def FQ:Code->Bool
 | .skip=>true
 | .region _ ops _=>OE ops.toList
 | .seq x y=>FQ x&&FQ y
 | .cond _ x y=>FQ x&&FQ y
 | .block _ c=>FQ c
 |_=>false
section
variable {P:Program} {T:List (Nat×Ty)}
def sd (P:Program) (ro:Option Nat) (c:Code) (Q:AG->Env->St->Prop) (env:Env) (st:St):Prop:=
 ∀n D I0 st0 w0 I β a w,Rel D I0 st0 w0 I β env st a w->c.wpIn (fw ro) n P (B3 D I0 st0 w0 Q) a w
theorem KY (hP:R7 P T) (ro:Option Nat):∀(c:Code) {Q:AG->Env->St->Prop} {env:Env} {st:St},FQ c=true->Ok T (A5 P) c Q env st->sd P ro c Q env st
 | .skip,Q,env,st,_,k=>λn D I0 st0 w0 I β a w h=>wpIn_skip ⟨I,β,env,st,.normal,h,trivial,k⟩
 | .region id ops true,Q,env,st,U,k=>λn D I0 st0 w0 I β a w h=>by
   have hC:=B8 P
   have hM:∀f args st (R R':Ay->St->Prop),(∀r s,R r s->R' r s)->A5 P f args st R->A5 P f args st R':=λ_ _ _ _ _ h k=>k.mono h
   have k:(GO env ops.toList ops.toList λk L=>(Jy k ops.toList&&HA L)=true/\Hv T (A5 P) ops.toList Q env env.boxes (Bc L env.boxes) ops.toList env st)\/∃(sched:List (Nat×Bool)) (L:List Nat),Jg sched ops.toList=true/\E7 T (A5 P) ops.toList sched L (Bc (L.map some) env.boxes) Q sched env st:=k
   refine wpIn_region_any hP.m (dK L4 (JK U) _ _ _ _ ?_)
   rcases k with k|⟨sched,L,k1,k2⟩
   .obtain ⟨h1,h2⟩:=Iv.1 k
    have:=Pt hP.t hC hM h1 h2 h
    omega
   .have:=RC hP.t hC hM k1 k2 h
    omega
 | .region id ops false,Q,env,st,U,k=>λn D I0 st0 w0 I β a w h=>by
   have:=EO hP.t (B8 P) h (show DX T (A5 P) ops.toList Q ops.toList env st from k)
   have h2:=OA (ro:=ro) (n:=n) (l2:=[]) L4 (λ_ _ _ _ h=>h) (λa w h=>h) ops.toList a w (JK U) (by simpa using this)
   rw [List.append_nil] at h2
   exact wpIn_region_list h2
 | .seq x y,Q,env,st,U,k=>λn D I0 st0 w0 I β a w h=>by
   simp only [FQ,Bool.and_eq_true] at U
   refine wpIn_seq (wpIn_mono (KY hP ro x U.1 (show Ok T (A5 P) x _ env st from k) n D I0 st0 w0 I β a w h) ?_)
   rintro e a w ⟨I,β,env,st,ae,h1,h2,h3⟩
   cases ae with
   |normal=>cases e<;>first|exact KY hP ro y U.2 h3 n D I0 st0 w0 I β a w h1|exact h2.elim
   |exit i=>cases e<;>first|exact ⟨I,β,env,st,.exit i,h1,h2,h3⟩|exact h2.elim
   |goto i=>cases e<;>first|exact ⟨I,β,env,st,.goto i,h1,h2,h3⟩|exact h2.elim
   |ret=>cases e<;>first|exact ⟨I,β,env,st,.ret,h1,h2,h3⟩|exact h2.elim
   |BX v=>cases e<;>first|exact ⟨I,β,env,st,.BX v,h1,h2,h3⟩|exact h2.elim
 | .cond c x y,Q,env,st,U,k=>λn D I0 st0 w0 I β a w h=>by
   simp only [FQ,Bool.and_eq_true] at U
   have hc:=h.f.eval c
   have k:(match env.eval c with
    | .bool t=>lit t (Ok T (A5 P) x Q env st) (Ok T (A5 P) y Q env st)
    |_=>False):=k
   split at k
   .rename_i t he
    rw [he] at hc
    have hc:=JR hc
    cases t with
    |true=>exact wpIn_cond_true hc (KY hP ro x U.1 (show Ok T (A5 P) x Q env st from k) n D I0 st0 w0 I β a w h)
    |false=>exact wpIn_cond_false hc (KY hP ro y U.2 (show Ok T (A5 P) y Q env st from k) n D I0 st0 w0 I β a w h)
   simp_all
 | .block id c,Q,env,st,U,k=>λn D I0 st0 w0 I β a w h=>by
   refine wpIn_block (wpIn_mono (KY hP ro c U (show Ok T (A5 P) c _ env st from k) n D I0 st0 w0 I β a w h) ?_)
   rintro e a w ⟨I,β,env,st,ae,h1,h2,h3⟩
   cases ae with
   |normal=>cases e<;>first|exact ⟨I,β,env,st,.normal,h1,trivial,h3⟩|exact h2.elim
   |exit i=>
    cases e<;>try exact h2.elim
    rename_i i'
    have h2:i'=i:=h2
    subst h2
    simp only [Pa] at h3
    show (if i'=id then B3 D I0 st0 w0 Q .normal a w else B3 D I0 st0 w0 Q (.exit i') a w)
    by_cases hi:i'=id
    .subst hi
     rw [if_pos rfl]
     simp only [Nat.beq_refl,cond_true] at h3
     exact ⟨I,β,env,st,.normal,h1,trivial,h3⟩
    .rw [if_neg hi]
     have:Nat.beq i' id=false:=by
      cases hb:Nat.beq i' id with
      |false=>rfl
      |true=>simp_all
     rw [this] at h3
     exact ⟨I,β,env,st,.exit i',h1,rfl,h3⟩
   |goto i=>cases e<;>first|exact ⟨I,β,env,st,.goto i,h1,h2,h3⟩|exact h2.elim
   |ret=>cases e<;>first|exact ⟨I,β,env,st,.ret,h1,h2,h3⟩|exact h2.elim
   |BX v=>cases e<;>first|exact ⟨I,β,env,st,.BX v,h1,h2,h3⟩|exact h2.elim
 | .loop _,_,_,_,U,_| .exit _,_,_,_,U,_| .goto _,_,_,_,U,_| .label _,_,_,_,U,_| .ret,_,_,_,U,_| .rangeFunc ..,_,_,_,U,_| .scope _,_,_,_,U,_| .refuse _,_,_,_,U,_=>by cases U
end
section
variable {D:List Deferred} {P:Program} {T:List (Nat×Ty)} {I0 I:Mem} {st0 st:St} {w0 w:World} {β:Nat->Option Nat} {env:Env} {a:Act}
theorem l5 {l:Nat} {r:Loop} {o:Nat} {v:Value} (U:w.heap[l]? =some (.loop r)) (h:w.cell? ⟨b,o,none⟩=some v):b≠l:=by
 rintro rfl
 simp [World.cell?,U] at h
theorem Co.put {l:Nat} {r r':Loop} (h:Co I st w) (hl:w.heap[l]? =some (.loop r)):Co I st (w.putObj l (.loop r')):=by
 have ne:∀{b:Nat} {c:Array Value} {ty:TypeId},w.heap[b]? =some (.cells c ty (0,0))->b≠l:=λe=>by grind
 refine ⟨λb o v e=>?_,λb n e=>?_,λb cs e=>?_,h.Hp,λb n e=>?_,h.RX⟩
 .have e:=h.cell b o v e
  rw [Gb (World.putObj_heap_other (l5 hl e))];exact e
 .obtain ⟨c,ty,U,h2⟩:=h.shape b n e
  exact ⟨c,ty,by rw [World.putObj_heap_other (ne U)];exact U,h2⟩
 .obtain ⟨vs,ty,U,h2⟩:=h.box b cs e
  exact ⟨vs,ty,by rw [World.putObj_heap_other (ne U)];exact U,h2⟩
 .rw [World.putObj_size];exact h.hw b n e
def Idle (l:Nat) (st:St):Prop:=st.box l=none/\st.hw l=none
theorem Idle.fr {l:Nat} {I':Mem} (h:Idle l st) (hl:l<w.heap.size) (U:Fr I st w I' st' w'):Idle l st'/\w'.heap[l]? =w.heap[l]? :=by
 refine ⟨?_,U.KM l hl h.1 h.2⟩
 have:¬(st'.box l≠none\/st'.hw l≠none):=λe=>by
  rcases U.Kv l e with e|e|e
  .omega
  .exact e h.1
  .exact e h.2
 exact ⟨Classical.byContradiction λe=>this (.inl e),Classical.byContradiction λe=>this (.inr e)⟩
theorem IB {l:Nat} {o:Obj} (h:w.heap[l]? =some o):l<w.heap.size:=(Array.getElem?_eq_some_iff.1 h).1
def YS (P:Program) (l:Nat) (r:Loop) (Im:Mem) (vs:List V) (st:St) (K:St->Prop):Prop:=
 ∀n I w (U:List Value),Im.le I->Co I st w->Aj I vs U->w.heap[l]? =some (.loop r)->Idle l st->
  YieldAt (fw none) n P l U.toArray w λe w'=>e=.returned (.bool true)/\∃I' st',Fr I st w I' st' w'/\Co I' st' w'/\K st'
theorem YS.mono {l:Nat} {r:Loop} {Im:Mem} {vs:List V} {K K':St->Prop} (h:YS P l r Im vs st K) (k:∀st,K st->K' st):YS P l r Im vs st K':=λn I w U h1 h2 h3 h4 h5=>by
 obtain ⟨fn,tmps,assign,body,e,hr⟩:=h n I w U h1 h2 h3 h4 h5
 exact ⟨fn,tmps,assign,body,e,hr.mono λe w' ⟨e1,I',st',q1,q2,q3⟩=>⟨e1,I',st',q1,q2,k _ q3⟩⟩
def Z4 (P:Program) (T:List (Nat×Ty)) (assign body:Code) (env:Env) (st:St) (K:St->Prop):Prop:=
 Ok T (A5 P) assign (B2 (λenv st=>(env.boxes=[]/\(env.tmps.all λp=>p.2.plain)=true)/\Ok T (A5 P) body (B2 (λ_ st=>K st) jD) env st) jD) env st
theorem RR {v:V} {c:Value} (h:AV I β v c) (U:v.plain=true):AV I (λ_=>none) v c:=by
 cases v<;>first|exact h|cases U
theorem Rel.bare (h:Hm D w0.heap.size I β env st a w) (hb:env.boxes=[]) (hp:(env.tmps.all λp=>p.2.plain)=true) {U:Mem} (hs:Co U st' w') (hle:I.le U) {D':List Deferred}:Rel D' U st' w' U (λ_=>none) env st' {a with defers:=D'} w':=by
 refine ⟨Fr.refl,hs,⟨h.size,λt v e=>?_,λid cs e=>?_,(λid b e=>by cases e),(λi j b e=>by cases e),(λid b e=>by cases e),rfl⟩⟩
 .have hv:=List.all_eq_true.1 hp _ (Fq e)
  have:=RR (h.tmps t v e) hv
  have e2:v.plain=true:=hv
  cases v<;>first|exact AF.mono hle _ _ this|cases e2
 .rw [hb] at e;cases e
theorem jB (hP:R7 P T) {l:Nat} {r:Loop} {Im:Mem} {wm:World} {stm:St} {B:Nat} (hF:Hm D B Im β env stm a wm) (hb:env.boxes=[]) (hp:(env.tmps.all λp=>p.2.plain)=true) {fn:FuncId} {p1 p2:Tmp} {assign body:Code} {df:Nat}
 (hr:r={state:=.ready,pending:=none,fn,tmps:=a.tmps,params:=#[p1,p2],assign,body,defers:=df}) (ok:(FQ assign&&FQ body)=true) (hlt:(Nat.blt p1 env.sz&&Nat.blt p2 env.sz)=true) {v1 v2:V} {K:St->Prop} (hv:(v1.plain&&v2.plain)=true)
 (h:Z4 P T assign body {env with tmps:=(p2,v2)::(p1,v1)::env.tmps} st K):YS P l r Im [v1,v2] st K:=by
 intro n I w cargs hle hs hargs hl hid
 simp only [Aj] at hargs
 obtain ⟨c1,r1,rfl,q1,c2,r2,rfl,q2,rfl⟩:=hargs
 simp only [Bool.and_eq_true] at ok hlt hv
 have hl1:p1<env.sz:=by simpa [Nat.blt_eq] using hlt.1
 have hl2:p2<env.sz:=by simpa [Nat.blt_eq] using hlt.2
 have hy:=run_yield (P:=P) (args:=#[c1,c2]) hl ke
 rw [hr] at hy
 have ht:(#[p1,p2].zip #[c1,c2]).foldl (λtmps (x:Nat×Value)=>match x with|(t,a)=>tmps.setIfInBounds t a) a.tmps=(a.tmps.setIfInBounds p1 c1).setIfInBounds p2 c2:=by
  simp [Array.zip]
 dsimp only at hy
 rw [ht] at hy
 refine ⟨fn,_,assign,body,hy,roundIn_of_wpIn trivial ?_⟩
 have hsz:=hF.size
 have r0:Rel [] I st w I (λ_=>none) {env with tmps:=(p2,v2)::(p1,v1)::env.tmps} st {tmps:=(a.tmps.setIfInBounds p1 c1).setIfInBounds p2 c2,defers:=[]} w:=by
  refine ⟨Fr.refl,hs,⟨ke,λt v e=>?_,λid cs e=>?_,λid b e=>(by cases e),λi j b e=>(by cases e),λid b e=>(by cases e),rfl⟩⟩
  .have key:∀{x:V} {c:Value},AF I x c->x.plain=true->AV I (λ_=>none) x c:=λh _=>AV.of h
   rw [Bi] at e
   cases hb2:Nat.beq p2 t with
   |true=>
    simp_all
   |false=>
    rw [hb2] at e
    have hn2:p2≠t:=λx=>by simp_all
    simp only [cond_false] at e
    rw [Bi] at e
    cases hb1:Nat.beq p1 t with
    |true=>
     simp_all
    |false=>
     rw [hb1] at e
     have hn1:p1≠t:=λx=>by simp_all
     simp only [cond_false] at e
     have hpl:v.plain=true:=List.all_eq_true.1 hp _ (Fq e)
     have h0:=RR (hF.tmps t v e) hpl
     have:((a.tmps.setIfInBounds p1 c1).setIfInBounds p2 c2).getD t undef=a.tmps.getD t undef:=by
      simp [Array.getD_eq_getD_getElem?,Array.getElem?_setIfInBounds_ne hn2,Array.getElem?_setIfInBounds_ne hn1]
     rw [this]
     cases v<;>first|exact AF.mono hle _ _ h0|cases hpl
  .rw [show ({env with tmps:=(p2,v2)::(p1,v1)::env.tmps}:Env).boxes=[] from hb] at e;cases e
 have hltl:=IB hl
 refine wpIn_mono (KY hP (some l) assign ok.1 h n [] I st w I _ _ w r0) ?_
 rintro e a1 w1 ⟨I1,β1,env1,st1,ae,r1,x1,k1⟩
 cases ae with
 |exit _|goto _|ret|BX _=>exact k1.elim
 |normal=>
 cases e with
 |exit _|goto _|ret|panic _|outgrown=>exact x1.elim
 |normal=>
 obtain ⟨⟨b1,b2⟩,k1⟩:=k1
 obtain ⟨hid1,U⟩:=hid.fr hltl r1.fr
 rw [hl] at U
 have hrdy:r.state=.ready:=by rw [hr]
 refine ⟨_,run_beginRound U hrdy,?_⟩
 have hs2:Co I1 st1 (w1.putObj l (.loop {r with state:=.busy})):=r1.s.put U
 have r2:=Rel.bare (D':=[]) r1.f b1 b2 hs2 (Mem.le_refl _)
 have hd1:a1={a1 with defers:=[]}:=by
  have:=r1.f.defers
  cases a1;simp_all
 rw [hd1]
 refine wpIn_mono (KY hP (some l) body ok.2 k1 n [] I1 st1 _ I1 _ _ _ r2) ?_
 rintro e a3 w3 ⟨I3,β3,env3,st3,ae,r3,x3,k3⟩
 cases ae with
 |exit _|goto _|ret|BX _=>exact k3.elim
 |normal=>
 cases e with
 |exit _|goto _|ret|panic _|outgrown=>exact x3.elim
 |normal=>
 have hlt1:l<w1.heap.size:=IB U
 obtain ⟨hid3,hl3⟩:=hid1.fr (w:=w1.putObj l (.loop {r with state:=.busy})) (by rw [World.putObj_size];omega) r3.fr
 rw [World.putObj_heap_same hlt1] at hl3
 refine ⟨_,_,run_endRound none hl3,?_⟩
 have hrr:({({r with state:=.busy}:Loop) with state:=if (none:Option Code).isNone then .ready else .done,pending:=none}:Loop)=r:=by rw [hr];rfl
 rw [hrr]
 refine ⟨rfl,I3,st3,?_,r3.s.put hl3,k3⟩
 have f1:=r1.fr
 have f3:=r3.fr
 have z1:(w1.putObj l (.loop {r with state:=.busy})).heap.size=w1.heap.size:=World.putObj_size
 have z3:(w3.putObj l (.loop r)).heap.size=w3.heap.size:=World.putObj_size
 have f13:Fr I1 st1 w1 I3 st3 (w3.putObj l (.loop r)):=by
  refine ⟨f3.os,f3.tape,f3.output,by rw [z3,<-z1];exact f3.size,λb hb h1 h2=>?_,f3.le,λb o h1 h2=>by rw [<-z1];exact f3.new b o h1 h2,λb h1 h2=>by rw [<-z1];exact f3.Kw b h1 h2,λb h1=>by rw [<-z1];exact f3.Kv b h1⟩
  by_cases e:b=l
  .subst e
   rw [World.putObj_heap_same (IB hl3),U]
  .rw [World.putObj_heap_other e,f3.KM b AC h1 h2,World.putObj_heap_other e]
 exact f1.trans f13
def OU (P:Program) (l:Nat) (r:Loop) (Im:Mem) (c:Code) (Q:AG->Env->St->Prop) (env:Env) (st:St):Prop:=
 ∀D I0 st0 w0 I β a w,Im.le I0->w0.heap[l]? =some (.loop r)->Idle l st0->Rel D I0 st0 w0 I β env st a w->c.wp P (B3 D I0 st0 w0 Q) a w
variable {l:Nat} {r:Loop} {Im:Mem} {Q:AG->Env->St->Prop}
theorem OU.of {c:Code} (h:AW P c Q env st):OU P l r Im c Q env st:=λD I0 st0 w0 I β a w _ _ _ U=>h D I0 st0 w0 I β a w U
theorem FI {x y:Code} (h:OU P l r Im x (B2 (λenv st=>OU P l r Im y Q env st) Q) env st):OU P l r Im (.seq x y) Q env st:=λD I0 st0 w0 I β a w g1 g2 g3 hr=>by
 refine wp_seq (wp_mono (h D I0 st0 w0 I β a w g1 g2 g3 hr) ?_)
 rintro e a w ⟨I,β,env,st,ae,h1,U,h3⟩
 cases ae with
 |normal=>cases e<;>first|exact h3 D I0 st0 w0 I β a w g1 g2 g3 h1|exact U.elim
 |exit i=>cases e<;>first|exact ⟨I,β,env,st,.exit i,h1,U,h3⟩|exact U.elim
 |goto i=>cases e<;>first|exact ⟨I,β,env,st,.goto i,h1,U,h3⟩|exact U.elim
 |ret=>cases e<;>first|exact ⟨I,β,env,st,.ret,h1,U,h3⟩|exact U.elim
 |BX v=>cases e<;>first|exact ⟨I,β,env,st,.BX v,h1,U,h3⟩|exact U.elim
theorem Q1 {c:Code} (h:OU P l r Im c (Pa id Q) env st):OU P l r Im (.block id c) Q env st:=λD I0 st0 w0 I β a w g1 g2 g3 hr=>by
 refine wp_block (wp_mono (h D I0 st0 w0 I β a w g1 g2 g3 hr) ?_)
 rintro e a w ⟨I,β,env,st,ae,h1,U,h3⟩
 cases ae with
 |normal=>cases e<;>first|exact ⟨I,β,env,st,.normal,h1,trivial,h3⟩|exact U.elim
 |exit i=>
  cases e<;>try exact U.elim
  rename_i i'
  have U:i'=i:=U
  subst U
  simp only [Pa] at h3
  show (if i'=id then B3 D I0 st0 w0 Q .normal a w else B3 D I0 st0 w0 Q (.exit i') a w)
  by_cases hi:i'=id
  .subst hi
   rw [if_pos rfl]
   simp only [Nat.beq_refl,cond_true] at h3
   exact ⟨I,β,env,st,.normal,h1,trivial,h3⟩
  .rw [if_neg hi]
   have:Nat.beq i' id=false:=by
    cases hb:Nat.beq i' id with
    |false=>rfl
    |true=>simp_all
   rw [this] at h3
   exact ⟨I,β,env,st,.exit i',h1,rfl,h3⟩
 |goto i=>cases e<;>first|exact ⟨I,β,env,st,.goto i,h1,U,h3⟩|exact U.elim
 |ret=>cases e<;>first|exact ⟨I,β,env,st,.ret,h1,U,h3⟩|exact U.elim
 |BX v=>cases e<;>first|exact ⟨I,β,env,st,.BX v,h1,U,h3⟩|exact U.elim
theorem dE {c:Code} (h:∃(α:Type) (E:α->Env) (S:α->St) (J:α->Prop) (μ:α->Nat) (x0:α),J x0/\(E x0).ES env/\St.le (S x0) st/\
 ∀x,J x->OU P l r Im c (B2 (λenv' st'=>∃y,J y/\μ y<μ x/\(E y).ES env'/\St.le (S y) st') Q) (E x) (S x)):OU P l r Im (.loop c) Q env st:=λD I0 st0 w0 I β a w g1 g2 g3 hr=>by
 obtain ⟨α,E,S,J,μ,x0,h0,he,hs,round⟩:=h
 refine N1 (λn a w=>∃I β x,Rel D I0 st0 w0 I β (E x) (S x) a w/\J x/\n=μ x) (n0:=μ x0) ⟨I,_,x0,(hr.G4 hs).Jd (Env.Jf he),h0,rfl⟩ ?_
 rintro n a w ⟨I,β,x,h,hi,rfl⟩
 refine wp_mono (round x hi D I0 st0 w0 I β a w g1 g2 g3 h) ?_
 rintro e a w ⟨I,β,env,st,ae,h1,U,h3⟩
 cases ae with
 |normal=>
  cases e<;>try exact U.elim
  obtain ⟨y,q1,q2,q3,q4⟩:=h3
  exact ⟨μ y,q2,I,_,y,(h1.G4 q4).Jd (Env.Jf q3),q1,rfl⟩
 |exit i=>cases e<;>first|exact ⟨I,β,env,st,.exit i,h1,U,h3⟩|exact U.elim
 |goto i=>cases e<;>first|exact ⟨I,β,env,st,.goto i,h1,U,h3⟩|exact U.elim
 |ret=>cases e<;>first|exact ⟨I,β,env,st,.ret,h1,U,h3⟩|exact U.elim
 |BX v=>cases e<;>first|exact ⟨I,β,env,st,.BX v,h1,U,h3⟩|exact U.elim
theorem au (hP:R7 P T) {all pre post:List Oper} {oc:Oper} {c:Call} {f:Operand} (hall:all=pre++oc::post) (hnd:OE all=true) (hc:oc.op=.call c) (hf:c.callee=.value f) (hg:oc.guard=none)
 (h:DX T (A5 P) all (B2 (λenv st=>env.eval f=.dC l/\TQ env c.args.toList λvs=>YS P l r Im vs st λst'=>env.go oc.dst (.bool true) λenv=>DX T (A5 P) all Q post env st') Q) pre env st):
 OU P l r Im (.region id all.toArray false) Q env st:=λD I0 st0 w0 I β a w g1 g2 g3 hr=>by
 have hC:=B8 P
 have nd:=JK hnd
 rw [<-wpIn_wide (n:=1)]
 refine wpIn_region_list (F:=fw none) (n:=1) ?_
 rw [show all.toArray.toList=pre++oc::post by rw [hall]]
 have hpre:∀o ∈ pre,∀c,o.op≠.defer c:=λo ho=>nd o ke
 refine OA (ro:=none) (n:=1) (Q0:=B3 D I0 st0 w0 (B2 (λenv st=>env.eval f=.dC l/\TQ env c.args.toList λvs=>YS P l r Im vs st λst'=>env.go oc.dst (.bool true) λenv=>DX T (A5 P) all Q post env st') Q)) L4 ?_ ?_ pre a w hpre (EO hP.t hC hr h)
 .rintro e a w hne ⟨I,β,env,st,ae,U,h2,h3⟩
  cases ae with
  |normal=>cases e<;>first|exact absurd rfl hne|exact h2.elim
  |exit i=>exact ⟨I,β,env,st,.exit i,U,h2,h3⟩
  |goto i=>exact ⟨I,β,env,st,.goto i,U,h2,h3⟩
  |ret=>exact ⟨I,β,env,st,.ret,U,h2,h3⟩
  |BX v=>exact ⟨I,β,env,st,.BX v,U,h2,h3⟩
 .rintro a1 w1 ⟨I1,β1,env1,st1,ae,U,h2,h3⟩
  cases ae with
  |exit _|goto _|ret|BX _=>exact h2.elim
  |normal=>
  obtain ⟨he,h3⟩:=h3
  have hfv:=U.f.eval f
  rw [he] at hfv
  have hfv':AF I1 (.dC l) (a1.eval f):=hfv
  simp only [AF] at hfv'
  obtain ⟨vs,q1,q2⟩:=Fs U.f h3
  obtain ⟨hid,hl⟩:=g3.fr (IB g2) U.fr
  rw [g2] at hl
  obtain ⟨fn,tmps,assign,body,hy,hround⟩:=q2 (1 - 1) I1 w1 _ (Mem.le_trans g1 U.fr.le) U.s q1 hl hid
  have harr:(c.args.toList.map a1.eval).toArray=c.args.map a1.eval:=by apply Array.ext';simp
  rw [harr] at hy
  have hrun:(execOp a1.eval oc).run P w1=.ok (.round l fn tmps assign body) w1:=by
   simp only [execOp,hc,resolve,hf,hfv',Deferred.ofValue,Sem.run_bind,Sem.run_pure,Result.andThen_ok,invoke]
   simpa using hy
  unfold wpListIn
  rw [if_pos (by simp [Region.wanted,hg])]
  refine ⟨λ_ _=>trivial,?_⟩
  rw [Oper.semAt_eq _ _ _ ke,hrun]
  refine ⟨λe=>(by cases e),hround.mono λe w' ⟨e1,I2,st2,f1,f2,k⟩=>?_⟩
  subst e1
  have r2:=U.called f1 f2
  obtain ⟨env3,r3,k3⟩:=B5 r2 (c:=.bool true) (AV.of H1) k
  have hpost:∀o ∈ post,∀c,o.op≠.defer c:=λo ho=>nd o ke
  have:=OA (ro:=none) (n:=1) (l2:=[]) L4 (λ_ _ _ _ h=>h) (λa w h=>h) post _ w' hpost (EO hP.t hC r3 k3)
  simp_all
end
end Go.Aw
