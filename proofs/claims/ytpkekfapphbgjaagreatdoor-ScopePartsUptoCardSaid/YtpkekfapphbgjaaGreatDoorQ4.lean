/-
  Parts of a proof: lemmas that the last text uses.
-/
import Derived.Test.YtpkekfapphbgjaaGreatDoorQ3
import Derived.Lib.Join
set_option linter.unusedVariables false
set_option linter.unusedSimpArgs false
set_option maxHeartbeats 16000000
variable {l:List Go.Aw.Nd} {r m s x w:List UInt8} {n:Go.Aw.Nd} {b br:Bool} {p:Go.Proofs.Z.Tk->Bool} {k i v:Int} {t:Go.Proofs.Z.Tk} {o:Option (List (Int×List UInt8))} {c:Go.Code} {Q:Go.Aw.AG->Go.Aw.Env->Go.Aw.St->Prop} {env:Go.Aw.Env} {α β σ:Type} {id:Nat} {K:List Go.Aw.V->Prop} {P:Go.Aw.Nd->Go.Proofs.Z.Aj->Prop} {s':Go.Proofs.Z.Aj} {T:Go.Aw.Nd->Go.Aw.Nd->Prop} {ks:List Int} {g f:Go.FuncId} {cs:List Go.Aw.V} {stmt:Go.Proofs.Z.Rd Go.Aw.Nd}
namespace Go.Aw
open Go
theorem cr (l:List UInt8):0<H3 l↔(A1 l=13\/A1 l=10\/A1 l=12):=by
 rcases FJ l with ⟨e,h⟩|⟨e,h,_⟩|⟨e,h,_⟩
 .omega
 .omega
 omega
theorem ti {d:Nat} {l:List UInt8} {m n:Nat} (hm:m<=l.length) (h:Co d l=some n) (hn:n<=m):Co d (tr l m r)=some n:=by
 fun_induction Co d l generalizing m n with
 |case1=>cases h
 |case2 d a l hc ih=>
  obtain ⟨k,hk,rfl⟩:=Option.map_eq_some_iff.1 h
  have h2:=HT _ _ _ hk
  obtain ⟨m,rfl⟩:∃j,m=j+1:=⟨m - 1,AC⟩
  have hl:m<=l.length:=by simpa using hm
  show Co d (a::tr l m r)=_
  rw [Co,if_pos ⟨hc.1,by rw [Qd AC hl];omega⟩,Kd AC hl,ih (by grind) hk AC]
  rfl
 |case3 d a l hc hk hd=>
  injection h with h
  subst h
  obtain ⟨m,rfl⟩:∃j,m=j+1:=⟨m - 1,AC⟩
  have hl:m<=l.length:=by simpa using hm
  show Co d (a::tr l m r)=_
  rw [Co,if_neg AC,if_pos ⟨hk.1,by rw [Qd AC hl];omega⟩,if_pos hd]
 |case4 d a l hc hk hd ih=>
  obtain ⟨k,U,rfl⟩:=Option.map_eq_some_iff.1 h
  have h2:=HT _ _ _ U
  obtain ⟨m,rfl⟩:∃j,m=j+1:=⟨m - 1,AC⟩
  have hl:m<=l.length:=by simpa using hm
  show Co d (a::tr l m r)=_
  rw [Co,if_neg AC,if_pos ⟨hk.1,by rw [Qd AC hl];omega⟩,if_neg hd,Kd AC hl,ih (by grind) U AC]
  rfl
 |case5 d a l hc hk ih=>
  obtain ⟨k,U,rfl⟩:=Option.map_eq_some_iff.1 h
  have h2:=HT _ _ _ U
  obtain ⟨m,rfl⟩:∃j,m=j+1:=⟨m - 1,AC⟩
  have hl:m<=l.length:=by simpa using hm
  show Co d (a::tr l m r)=_
  rw [Co,if_neg (by rw [Qd AC hl];exact hc),if_neg (by rw [Qd AC hl];exact hk),ih hl U AC]
  rfl
def vL (r:List UInt8):Prop:=A1 r= -1\/A1 r=10
theorem vL.brk (h:vL r):zo r:=by unfold vL at h;unfold zo;omega
theorem wy {l:List UInt8} {m:Nat} (hr:vL r) (U:m<=l.length) (h:DE l<=m):DE (tr l m r)=DE l:=by
 have e0:DE r=0:=by
  cases r with
  |nil=>rfl
  |cons a r=>
   unfold vL at hr
   have:((a.toNat:Nat):Int)=A1 (a::r):=rfl
   rw [DE,if_pos ((cr _).2 AC)]
 induction l generalizing m with
 |nil=>
  have:m=0:=by simpa using U
  subst this
  rw [Q5,e0];rfl
 |cons a l ih=>
  cases m with
  |zero=>rw [Q5,e0];omega
  |succ m=>
   have hl:m<=l.length:=by simpa using U
   show DE (a::tr l m r)=_
   have hp:0<H3 (a::tr l m r)↔0<H3 (a::l):=by rw [cr,cr];exact Iff.rfl
   unfold DE at h |-
   grind
theorem jb {l:List UInt8} {m:Nat} (hr:vL r) (hv:Vd l) (hb:Bd l m) (U:m<=l.length) (h:0<E6 l) (hn:E6 l<=m):E6 (tr l m r)=E6 l:=by
 unfold E6 at h hn |-
 dsimp only at h hn |-
 split at h
 .rename_i hc
  rw [if_pos hc] at hn |-
  have e:B3 (λc=>AP c==5) (tr l m r)=B3 (λc=>AP c==5) l:=tW hv hb U (pK (p:=λc=>AP c==5) hr.brk Do Do) (show BB _ l<=m by show B3 (λc=>AP c==5) l<=m;omega)
  rw [e,uq AC U,if_pos hc,Kd AC U,wy hr (by grind) AC]
 .omega
theorem tv {l:List UInt8} {m n:Nat} (hr:vL r) (hv:Vd l) (hb:Bd l m) (U:m<=l.length) (h0:0<n) (h:DR l=n) (hn:n<=m):DR (tr l m r)=n:=by
 unfold DR at h |-
 split at h
 .rename_i hc
  cases ht:Co 1 (l.drop 2) with
  |none=>rw [ht] at h;simp only [EX] at h;omega
  |some k=>
   rw [ht] at h
   simp only [EX] at h
   have h2:=HT _ _ _ ht
   rw [Qd AC U,qg AC U,if_pos hc,Kd AC U,ti (by grind) ht AC]
   simp only [EX];omega
 .rename_i hc
  split at h
  .rename_i hd
   have h:E6 l=n:=AC
   rw [Qd AC U,if_neg,if_pos hd,jb hr hv hb U AC AC,h]
   omega
  .omega
theorem iN {l:List UInt8} {n:Nat} (U:Vd l) (h0:0<n) (h:DR l=n):DR (l.take n)=(l.take n).length/\(l.take n).length=n:=by
 have hle:=Y7 l
 have hc:=BQ.note U h
 have e:=tv (r:=[]) (.inl rfl) U hc.bd AC h0 h (Nat.le_refl _)
 unfold tr at e
 simp_all
end Go.Aw
namespace Go.Proofs.Z
open Go Go.Aw
def zW (t:Tk):Int×Int:=(t.line,t.Cg)
def zQ (n:Nt):Int×Int:=(n.line,n.Cg)
def uN (t:List UInt8):Prop:=t≠[]/\DR t=(t.length:Nat)
structure Qh (s:List UInt8) (p:Nat) (x:Lx):Prop where
 t:x.Ay.Pairwise λa b=>iD (zW a) (zW b)
 tp:∀a ∈ x.Ay,iD (zW a) (Cs s p)
 n:x.notes.Pairwise λa b=>iD (zQ a) (zQ b)/\a.Ds<=b.Ds
 np:∀a ∈ x.notes,iD (zQ a) (Cs s p)/\0<=a.Ds/\a.Ds<=x.Ds/\(a.wh=1\/a.wh=2\/a.wh=3)/\uN a.text
 g:0<=x.Ds/\x.Ds<=x.Ay.length
theorem S2 {a b:Nat}:A0 s a b=(s.drop a).take (b - a):=by unfold A0;rw [List.drop_take]
theorem Qh.le {p q:Nat} {x:Lx} (h:Qh s p x) (hp:BQ s p) (hq:BQ s q) (hpq:p<q):Qh s q x:=
 have l:=kL hp hq hpq
 ⟨h.t,λa U=>(h.tp a U).trans l,h.n,λa U=>⟨(h.np a U).1.trans l,(h.np a U).2⟩,h.g⟩
theorem Qh.tok {p q:Nat} {x:Lx} (h:Qh s p x) (hp:BQ s p) (hq:BQ s q) (hpq:p<q):Qh s q (Kt s p q k x):=by
 have h':=h.le hp hq hpq
 have hg:=h.g
 have hgg:x.Ds<=(Kt s p q k x).Ds/\(Kt s p q k x).Ds<=x.Ds+1:=by
  show x.Ds<=(if cntF k (A0 s p q) then x.Ds+1 else x.Ds)/\(if cntF k (A0 s p q) then x.Ds+1 else x.Ds)<=x.Ds+1
  split<;>omega
 refine ⟨?_,?_,h.n,λa U=>?_,?_⟩
 .refine List.pairwise_append.2 ⟨h.t,List.pairwise_singleton _ _,λa U b hb=>?_⟩
  rw [List.mem_singleton] at hb;subst hb
  exact h.tp a U
 .intro a U
  rcases List.mem_append.1 U with U|U
  .exact h'.tp a U
  .rw [List.mem_singleton] at U;subst U
   exact kL hp hq hpq
 .have:=h'.np a U
  grind
 .have:(Kt s p q k x).Ay.length=x.Ay.length+1:=by simp [Kt]
  omega
theorem Qh.note {p q:Nat} {x:Lx} (hv:Vd s) (h:Qh s p x) (hp:BQ s p) (hq:BQ s q) (hpq:p<q) (hn:DR (s.drop p)=(q - p:Nat)):Qh s q (NW s p q x):=by
 have h':=h.le hp hq hpq
 have hg:=h.g
 refine ⟨h.t,h'.tp,?_,?_,h.g⟩
 .refine List.pairwise_append.2 ⟨h.n,List.pairwise_singleton _ _,λa U b hb=>?_⟩
  rw [List.mem_singleton] at hb;subst hb
  exact ⟨(h.np a U).1,(h.np a U).2.2.1⟩
 .intro a U
  rcases List.mem_append.1 U with U|U
  .exact h'.np a U
  .rw [List.mem_singleton] at U;subst U
   refine ⟨kL hp hq hpq,hg.1,Int.le_refl _,?_,?_⟩
   .grind
   .show uN (A0 s p q)
    rw [S2]
    have e:=iN (hp.bd.vd hv) AC hn
    refine ⟨λe0=>?_,e.1⟩
    grind
theorem Qh.q6 {s:List UInt8} {p:Nat} {x:Lx} (hv:Vd s) (h:Qh s p x) (U:BQ s p):Qh s (DC s p) x:=by
 by_cases e:p=DC s p
 .grind
 .exact h.le U (U.q6 hv) (by have:=(JD U.le).1;omega)
end Go.Proofs.Z
namespace Go.Aw
open Go
def wa (l:List UInt8):Nat:=B3 (λc=>AP c==1) l
def zw (l:List UInt8):List UInt8:=l.drop (wa l)
def Cl (l:List UInt8):Prop:=BB (λd=> !(AP (d.1:Nat)==0)) l=l.length
theorem aB {p:Nat×Nat->Bool} {l:List UInt8} {k:Nat} (hv:Vd l) (hb:Bd l k) (hk:k<=l.length) (h:BB p l=l.length):BB p (l.take k)=(l.take k).length/\BB p (l.drop k)=(l.drop k).length:=by
 have e:l.take k=tr l k []:=by unfold tr;rw [List.append_nil]
 rw [e]
 induction hb with
 |zero l=>exact ⟨by rw [Q5,EU];rfl,h⟩
 |@step l k U hb ih=>
  have hd:=lD (r:=[]) hv (by have:=Ev l;omega) hk (.step U hb)
  have hl:=Hj U
  have hp:=Ev l
  have hc:p (AU l)=true:=by
   cases hc:p (AU l) with
   |true=>rfl
   |false=>rw [Fq hc] at h;omega
  have hne':tr l ((AU l).2+k) []≠[]:=λe=>by simp_all
  rw [CC U hc] at h
  have ih:=ih (hv.rune U).2 (by grind) (by grind) (by unfold tr;simp_all)
  rw [CC hne' i7,hd.1,Kd AC hk,show (AU l).2+k - (AU l).2=k by omega,ih.1]
  rw [List.drop_drop] at ih
  refine ⟨?_,ih.2⟩
  rw [da hk,da (by grind)]
  rfl
theorem Vd.take {l:List UInt8} {k:Nat} (U:Vd l) (hb:Bd l k) (hk:k<=l.length):Vd (l.take k):=(aB (p:=Dk) U hb hk U).1
theorem Cl.take {l:List UInt8} {k:Nat} (h:Cl l) (hv:Vd l) (hb:Bd l k) (U:k<=l.length):Cl (l.take k):=(aB hv hb U h).1
theorem Cl.drop {l:List UInt8} {k:Nat} (h:Cl l) (hv:Vd l) (hb:Bd l k) (U:k<=l.length):Cl (l.drop k):=(aB hv hb U h).2
theorem Cl.app {l t:List UInt8} (h:Cl l) (U:Vd l) (k:Cl t):Cl (l++t):=by
 unfold Cl at *
 rw [UR l t U,if_pos h,k,List.length_append]
theorem qV (l:List UInt8):wa (zw l)=0:=by
 by_cases h:wa l<l.length
 .have:=Tn (λc=>AP c==1) l h
  exact Tm this
 .have:zw l=[]:=List.drop_eq_nil_iff.2 AC
  rw [this];exact US _
theorem Vd.sp:Vd [32]:=by unfold Vd;rw [CC GT Do];rw [show (([32]:List UInt8).drop (AU [32]).2)=[] from by rfl,EU,FY Do];rfl
theorem Vd.nl:Vd [10]:=by unfold Vd;rw [CC GT Do];rw [show (([10]:List UInt8).drop (AU [10]).2)=[] from by rfl,EU,FY Do];rfl
theorem Cl.sp:Cl [32]:=by unfold Cl;rw [CC GT Do];rw [show (([32]:List UInt8).drop (AU [32]).2)=[] from by rfl,EU,FY Do];rfl
theorem Cl.nl:Cl [10]:=by unfold Cl;rw [CC GT Do];rw [show (([10]:List UInt8).drop (AU [10]).2)=[] from by rfl,EU,FY Do];rfl
end Go.Aw
namespace Go.Proofs.Z
open Go Go.Aw
def zN (l:List Tk):List (Int×List UInt8):=l.map λt=>(t.kind,t.text)
def T2 (is:Option (List (Int×List UInt8))) (x:Lx) (r:Sum (Int×Int) Lx):Prop:=match is with
 |none=>∃e,r=.inl e
 |some is=>∃y,r=.inr y/\zN y.Ay=zN x.Ay++is.filter (λt=>t.1 !=0)/\y.notes.map (·.text)=x.notes.map (·.text)++(is.filter (λt=>t.1==0)).map (·.2)
theorem T2.tok {p q:Nat} {x:Lx} {r:Sum (Int×Int) Lx} (h:T2 o (Kt s p q k x) r) (hk:k≠0) {t:List UInt8} (ht:t=A0 s p q):T2 (o.map ((k,t)::·)) x r:=by
 subst ht
 cases o with
 |none=>exact h
 |some is=>
  obtain ⟨y,h1,h2,h3⟩:=h
  refine ⟨y,h1,?_,?_⟩
  .have U:(((k,A0 s p q)::is).filter λt:Int×List UInt8=>t.1 !=0)=(k,A0 s p q)::is.filter λt=>t.1 !=0:=List.filter_cons_of_pos i7
   rw [U,h2]
   simp [zN,Kt]
  .have U:(((k,A0 s p q)::is).filter λt:Int×List UInt8=>t.1==0)=is.filter λt=>t.1==0:=List.filter_cons_of_neg i7
   rw [U,h3];rfl
theorem T2.note {p q:Nat} {x:Lx} {r:Sum (Int×Int) Lx} (h:T2 o (NW s p q x) r) {t:List UInt8} (ht:t=A0 s p q):T2 (o.map ((0,t)::·)) x r:=by
 subst ht
 cases o with
 |none=>exact h
 |some is=>
  obtain ⟨y,h1,h2,h3⟩:=h
  refine ⟨y,h1,?_,?_⟩
  .have U:(((0,A0 s p q)::is).filter λt:Int×List UInt8=>t.1 !=0)=is.filter λt=>t.1 !=0:=List.filter_cons_of_neg GT
   rw [U,h2];rfl
  .have U:(((0,A0 s p q)::is).filter λt:Int×List UInt8=>t.1==0)=(0,A0 s p q)::is.filter λt=>t.1==0:=List.filter_cons_of_pos GT
   rw [U,h3]
   simp [NW]
def Okt (s:List UInt8):Prop:=s.length<=16777216/\Vd s/\Cl s
theorem sM {y:Lx} (h:GX s=.inr y):Okt s:=by
 unfold GX at h
 split at h
 .cases h
 .split at h
  .cases h
  .rename_i h1 h2
   split at h
   .cases h
   .rename_i U
    refine ⟨AC,lv AC,?_⟩
    unfold YE at U
    have hle:=K2 (λd=> !((λc:Nat=>AP (c:Nat)==0) d.1)) s
    split at U
    .omega
    .show BB (λd=> !((λc:Nat=>AP (c:Nat)==0) d.1)) s=_
     omega
theorem nC {p:Nat} {x:Lx} (h:¬p<s.length):GY s p x=.inr x:=by rw [GY,dif_neg h]
theorem nB {p:Nat} {x:Lx} (h:p<s.length) (U:(CJ s p).2≠0):GY s p x=.inl ((p:Nat),(CJ s p).2):=by rw [GY,dif_pos h,if_pos U]
theorem iv {p q:Nat} {x:Lx} (h:p<s.length) (U:(CJ s p).2=0) (h2:(CJ s p).1=(q:Nat)) (h3:p<q):GY s p x=GY s (DC s q) (NW s p q x):=by
 rw [GY,dif_pos h,if_neg (λe=>e U),if_pos AC,h2,Int.toNat_natCast,dif_pos h3]
theorem nD {p:Nat} {x:Lx} (h:p<s.length) (U:(CJ s p).2=0) (h2:¬0<(CJ s p).1) (h3:(Cr s p).2.2≠0):GY s p x=.inl ((Cr s p).2.1,(Cr s p).2.2):=by
 rw [GY,dif_pos h,if_neg (λe=>e U),if_neg h2,if_pos h3]
theorem nF {p q:Nat} {x:Lx} (h:p<s.length) (U:(CJ s p).2=0) (h2:¬0<(CJ s p).1) (h3:(Cr s p).2.2=0) (h4:(Cr s p).2.1=(q:Nat)) (h5:p<q):GY s p x=GY s (DC s q) (Kt s p q (Cr s p).1 x):=by
 rw [GY,dif_pos h,if_neg (λe=>e U),if_neg h2,if_neg (λe=>e h3),h4,Int.toNat_natCast,dif_pos h5]
structure LW where
 p:Nat
 sp:Nat
 x:Lx
 w1:AE
 w2:AE
 m:St
theorem jL (l:List Tk) (t:Tk):AV (l++[t])=AV l++[t.cells]:=by simp [AV]
theorem ct (l:List Nt) (t:Nt):GR (l++[t])=GR l++[t.cells]:=by simp [GR]
theorem JQ (l:List Nt):(GR l).length=l.length:=by simp [GR]
theorem q7 (s:List UInt8) (p:Nat):DC s (DC s p)=DC s p:=by
 have h:=qV (s.drop p)
 have e:zw (s.drop p)=s.drop (DC s p):=by unfold zw;rw [List.drop_drop];rfl
 rw [e] at h
 exact Nat.add_eq_left.2 h
section
variable {st:St} {R:Au->St->Prop}
attribute [local irreducible] Go.Aw.Am
theorem YP (c:Nat) (U:c<=1114111):PC 45 [.int .i32 (c:Int)] xg λr _=>r=.ret (.bool (AP (c:Int)==0)):=by
 refine pB Tryz.func45 ?_
 repeat' ((conv=>whnf);first|(refine AA ?_;intros)|(refine AB ?_ ?_<;>intro _)|refine Ld ?_)
 all_goals first|exact Av rfl (by simp [*])|(conv=>whnf;simp [*])
theorem vb (h1:∀i e,GX s=.inl (i,e)->R (.ret (.Bp [.slice 4 [] .full,.slice 5 [] .full,.int .i64 i,.int .i64 e])) st)
 (h1':∀i e st',st.le st'->GX s=.inl (i,e)->R (.ret (.Bp [.slice 4 [] .full,.slice 5 [] .full,.int .i64 i,.int .i64 e])) st')
 (h2:∀x w1 w2 st',GX s=.inr x->st.le st'->R (.ret (.Bp [.slice 4 (AV x.Ay) w1,.slice 5 (GR x.notes) w2,.int .i64 0,.int .i64 0])) st'):PC 18 [.str s] st R:=by
 refine AO Ab [30] Tryz.func18 rfl Do rfl ?_
 by_cases hl:16777216<s.length
 .have e:GX s=.inl (0,3):=by unfold GX;rw [if_pos hl]
  refine Ai Ab ?_
  repeat' ((conv=>whnf);first|exact BH|(refine AA ?_;intros)|(refine BI ?_ ?_ ?_;rotate_left)|(refine AB ?_ ?_<;>intro _)|refine B2 (λ_=>?_) ?_|refine WJ (λ_=>?_)|with_reducible refine WF ?_)
  exact fin (h1 _ _ e) rfl
 .by_cases hk:(Nb s).2=0
  .by_cases hx:0<=YE (λc=>AP (c:Nat)==0) s
   .have e:GX s=.inl (YE (λc=>AP (c:Nat)==0) s,70):=by unfold GX;rw [if_neg hl,if_neg (λx=>x hk),if_pos hx]
    refine Ai Ab ?_
    repeat' ((conv=>whnf);first|exact BH|(refine AA ?_;intros)|(refine BI ?_ ?_ ?_;rotate_left)|(refine AB ?_ ?_<;>intro _)|refine B2 (λ_=>?_) ?_|refine WJ (λ_=>?_)|refine Vl ?_|refine ej (p:=λc=>AP (c:Nat)==0) YP ?_|with_reducible refine WF ?_)
    exact fin (h1 _ _ e) rfl
   .have e:GX s=GY s (DC s 0) yQ:=by unfold GX;rw [if_neg hl,if_neg (λx=>x hk),if_neg hx]
    have hv:=lv hk
    refine Ag (Ai Ab ?_)
    repeat' ((conv=>whnf);first|exact BH|(refine AA ?_;intros)|(refine BI ?_ ?_ ?_;rotate_left)|(refine AB ?_ ?_<;>intro _)|refine B2 (λ_=>?_) ?_|with_reducible refine WF ?_)
    refine Ag (Ai Ab ?_)
    repeat' ((conv=>whnf);first|exact BH|(refine AA ?_;intros)|(refine BI ?_ ?_ ?_;rotate_left)|(refine AB ?_ ?_<;>intro _)|refine B2 (λ_=>?_) ?_|refine WJ (λ_=>?_)|with_reducible refine WF ?_)
    refine Ag (Ai Ab ?_)
    repeat' ((conv=>whnf);first|exact BH|(refine AA ?_;intros)|(refine BI ?_ ?_ ?_;rotate_left)|(refine AB ?_ ?_<;>intro _)|refine B2 (λ_=>?_) ?_|refine Vl ?_|with_reducible refine WF ?_)
    refine Ag (Ai Ab ?_)
    repeat' ((conv=>whnf);first|exact BH|(refine AA ?_;intros)|(refine BI ?_ ?_ ?_;rotate_left)|(refine AB ?_ ?_<;>intro _)|refine B2 (λ_=>?_) ?_|refine ej (p:=λc=>AP (c:Nat)==0) YP ?_|with_reducible refine WF ?_)
    refine Ag (Ai Ab ?_)
    repeat' ((conv=>whnf);first|exact BH|(refine AA ?_;intros)|(refine BI ?_ ?_ ?_;rotate_left)|(refine AB ?_ ?_<;>intro _)|refine B2 (λ_=>?_) ?_|refine Vi (λb fb=>?_)|with_reducible refine WF ?_)
    have hb0:=fb.1
    have hq0:=JD (s:=s) (p:=0) AC
    refine Ai Ab ?_
    repeat' ((conv=>whnf);first|exact BH|(refine AA ?_;intros)|(refine BI ?_ ?_ ?_;rotate_left)|(refine AB ?_ ?_<;>intro _)|refine B2 (λ_=>?_) ?_|refine M6 (p:=0) AC AC (St.AQ _ _ _) ?_|with_reducible refine WF ?_)
    refine V4 (α:=LW) (λ_=>[]) [0,6] [] (λy=>y.m) (λy=>y.m.box b=some (QN s y.p y.sp (Cs s y.sp).1 (Cs s y.sp).2 (AV y.x.Ay) (GR y.x.notes) y.w1 y.w2 y.x.Ds y.x.ends y.x.j)/\B6 st y.m y.w1 (y.x.Ay.length*4) y.w2 (y.x.notes.length*5)/\
     BQ s y.sp/\BQ s y.p/\y.sp<=y.p/\0<=y.x.Ds/\y.x.Ds<=y.p/\y.x.Ay.length<=y.p/\y.x.notes.length<=y.p/\GY s (DC s 0) yQ=GY s y.p y.x)
     (λy=>s.length - y.p) ⟨DC s 0,0,yQ,.full,.full,_⟩ ⟨?_,⟨trivial,trivial,trivial,trivial,trivial,St.Af (St.Af (St.le_refl _) hb0 _) hb0 _⟩,.zero s,BQ.q6 hv (.zero s),by simp only [];omega,Int.le_refl _,by simp only [yQ];omega,Nat.zero_le _,Nat.zero_le _,rfl⟩ Yl (St.le_refl _) ?_
    .have e0:Cs s 0=(1,1):=FF
     dsimp only
     rw [e0]
     exact St.AQ _ _ _
    rintro ⟨p,sp,x,w1,w2,m⟩ ⟨j1,j2,j3,j4,j5,j6,j7,j8,j9,U⟩
    dsimp only at j1 j2 j3 j4 j5 j6 j7 j8 j9 U |-
    have hp:=j4.le
    by_cases hpl:p<s.length
    .have hns:=λ{R:Au->St->Prop}=>tu (st:=m) (R:=R) (s:=s) (pos:=p) AC hpl
     by_cases n2:(CJ s p).2=0
     .rw [n2] at hns
      by_cases n1:0<(CJ s p).1
      .obtain ⟨q,e1,e2,e3,e4⟩:=Y8 hv j4 n2 n1
       rw [e1] at hns
       rw [iv hpl n2 e1 e2] at U
       have hq:=JD e3
       have hnt:=λ{R:Au->St->Prop}=>xi (st:=m) (R:=R) (st0:=st) AC hv j3 j4 e4 j5 AC ⟨j6,AC⟩ (by rw [JQ];omega) hb0 (by rw [JQ];exact j2) j1
       repeat' ((conv=>whnf);first|exact BH|(refine AA ?_;intros)|(refine BI ?_ ?_ ?_;rotate_left)|(refine AB ?_ ?_<;>intro _)|refine B2 (λ_=>?_) ?_|refine hns ?_|refine Al j1 ?_|refine WJ (λ_=>?_)|refine hnt (λv2 st' sp' c' hs' hR hB=>?_)|refine M6 (p:=DC s q) AC AC hB ?_|with_reducible refine WF ?_)
       all_goals conv=>whnf
       have eb:=q7 s q
       refine ⟨⟨DC s q,sp',NW s p q x,w1,v2,_⟩,⟨?_,?_,c',e4.q6 hv,hs',j6,by show x.Ds<=_;simp only [];omega,by show x.Ay.length<=_;simp only [];omega,by show (x.notes++[_]).length<=_;rw [List.length_append,List.length_singleton];simp only [];omega,U⟩,by simp only [];omega,Yl,St.le_refl _⟩
       .refine (St.AQ _ _ _).trans ?_
        show _=some (QN s (DC s q) sp' _ _ (AV x.Ay) (GR (x.notes++[_])) w1 v2 x.Ds (Cs s q).1 _)
        rw [ct]
        exact congrArg (λz=>some (QN s z sp' _ _ _ _ _ _ _ _ _)) eb
       .show B6 st _ w1 (x.Ay.length*4) v2 ((x.notes++[_]).length*5)
        rw [List.length_append,List.length_singleton]
        rw [JQ] at hR
        exact hR.set hb0 _
      .have hlx:=λ{R:Au->St->Prop}=>nG (st:=m) (R:=R) AC hpl j1
       by_cases k2:(Cr s p).2.2=0
       .obtain ⟨k1,q,e1,e2,e3,e4⟩:=YQ hv j4 k2
        rw [k2,e1] at hlx
        rw [nF hpl n2 n1 k2 e1 e2] at U
        have hq:=JD e3
        have htk:=λ{R:Au->St->Prop}=>qa (st:=m) (R:=R) (st0:=st) (k:=(Cr s p).1) (e0:=0) AC hv j3 j4 e4 j5 AC ⟨j6,AC⟩ (by rw [Iu];omega) hb0 (by rw [Iu];exact j2) j1
        repeat' ((conv=>whnf);first|exact BH|(refine AA ?_;intros)|(refine BI ?_ ?_ ?_;rotate_left)|(refine AB ?_ ?_<;>intro _)|refine B2 (λ_=>?_) ?_|refine hns ?_|refine Al j1 ?_|refine WJ (λ_=>?_)|refine hlx ?_|refine htk (λv1 st' hR hB=>?_)|refine M6 (p:=q) AC e3 hB ?_|with_reducible refine WF ?_)
        all_goals conv=>whnf
        have hgap:(Kt s p q (Cr s p).1 x).Ds=x.Ds\/(Kt s p q (Cr s p).1 x).Ds=x.Ds+1:=by
         show (if cntF (Cr s p).1 (A0 s p q) then x.Ds+1 else x.Ds)=_\/(if cntF (Cr s p).1 (A0 s p q) then x.Ds+1 else x.Ds)=_
         split
         .exact .inr rfl
         .exact .inl rfl
        refine ⟨⟨DC s q,q,Kt s p q (Cr s p).1 x,v1,w2,_⟩,⟨?_,?_,e4,e4.q6 hv,hq.1,by simp only [];omega,by simp only [];omega,by show (x.Ay++[_]).length<=_;rw [List.length_append,List.length_singleton];simp only [];omega,by show x.notes.length<=_;simp only [];omega,U⟩,by simp only [];omega,Yl,St.le_refl _⟩
        .refine (St.AQ _ _ _).trans ?_
         show _=some (QN s (DC s q) q _ _ (AV (x.Ay++[_])) (GR x.notes) v1 w2 _ (Cs s q).1 true)
         rw [jL]
         rfl
        .show B6 st _ v1 ((x.Ay++[_]).length*4) w2 (x.notes.length*5)
         rw [List.length_append,List.length_singleton]
         rw [Iu] at hR
         exact hR.set hb0 _
       .rw [nD hpl n2 n1 k2] at U
        repeat' ((conv=>whnf);first|exact BH|(refine AA ?_;intros)|(refine BI ?_ ?_ ?_;rotate_left)|(refine AB ?_ ?_<;>intro _)|refine B2 (λ_=>?_) ?_|refine hns ?_|refine Al j1 ?_|refine WJ (λ_=>?_)|refine hlx ?_|with_reducible refine WF ?_)
        exact fin (h1' _ _ _ j2.le (e.trans U)) rfl
     .rw [nB hpl n2] at U
      repeat' ((conv=>whnf);first|exact BH|(refine AA ?_;intros)|(refine BI ?_ ?_ ?_;rotate_left)|(refine AB ?_ ?_<;>intro _)|refine B2 (λ_=>?_) ?_|refine hns ?_|refine Al j1 ?_|refine WJ (λ_=>?_)|with_reducible refine WF ?_)
      exact fin (h1' _ _ _ j2.le (e.trans U)) rfl
    .rw [nC hpl] at U
     repeat' ((conv=>whnf);first|exact BH|(refine AA ?_;intros)|(refine BI ?_ ?_ ?_;rotate_left)|(refine AB ?_ ?_<;>intro _)|refine B2 (λ_=>?_) ?_|refine Al j1 ?_|refine WJ (λ_=>?_)|with_reducible refine WF ?_)
     exact fin (h2 x w1 w2 m (e.trans U) j2.le) rfl
  .have e:GX s=.inl ((Nb s).1,(Nb s).2):=by unfold GX;rw [if_neg hl,if_pos hk]
   refine Ai Ab ?_
   repeat' ((conv=>whnf);first|exact BH|(refine AA ?_;intros)|(refine BI ?_ ?_ ?_;rotate_left)|(refine AB ?_ ?_<;>intro _)|refine B2 (λ_=>?_) ?_|refine WJ (λ_=>?_)|refine Vl ?_|with_reducible refine WF ?_)
   exact fin (h1 _ _ e) rfl
end
section
variable {st:St} {R:Au->St->Prop}
def vm (k:Int) (t:List UInt8):Bool:=decide (¬k=15)||(!(t==[123])&& !(t==[125])&& !(t==[59]))
end
end Go.Proofs.Z
namespace Go.Aw
open Go
section
variable {P:Program}
theorem qE {st:St} (E:α->Env) (S:α->St) (J:α->Prop) (μ:α->Nat) (x0:α) (h0:J x0) (he:(E x0).E4 env) (hs:St.le (S x0) st)
 (round:∀x,J x->AW P c (BW (λenv' st'=>∃y,J y/\μ y<μ x/\(E y).E4 env'/\St.le (S y) st') Q) (E x) (S x)):AW P (.loop c) Q env st:=λD I0 st0 w0 I β a w h=>by
 refine K9 (λn a w=>∃I β x,Rel D I0 st0 w0 I β (E x) (S x) a w/\J x/\n=μ x) (n0:=μ x0) ⟨I,_,x0,(h.Hs hs).Ig (Env.Ip he),h0,rfl⟩ ?_
 rintro n a w ⟨I,β,x,h,hi,rfl⟩
 refine wp_mono (round x hi D I0 st0 w0 I β a w h) ?_
 rintro e a w ⟨I,β,env,st,ae,h1,U,h3⟩
 cases ae with
 |normal=>
  cases e<;>try exact U.elim
  obtain ⟨y,g1,g2,g3,g4⟩:=h3
  exact ⟨μ y,g2,I,_,y,(h1.Hs g4).Ig (Env.Ip g3),g1,rfl⟩
 |exit i=>cases e<;>first|exact ⟨I,β,env,st,.exit i,h1,U,h3⟩|exact U.elim
 |goto i=>cases e<;>first|exact ⟨I,β,env,st,.goto i,h1,U,h3⟩|exact U.elim
 |ret=>cases e<;>first|exact ⟨I,β,env,st,.ret,h1,U,h3⟩|exact U.elim
 |B1 v=>cases e<;>first|exact ⟨I,β,env,st,.B1 v,h1,U,h3⟩|exact U.elim
theorem MR {st:St} (h:AW P c (Mn id Q) env st):AW P (.block id c) Q env st:=λD I0 st0 w0 I β a w hr=>by
 refine wp_block (wp_mono (h D I0 st0 w0 I β a w hr) ?_)
 rintro e a w ⟨I,β,env,st,ae,h1,U,h3⟩
 cases ae with
 |normal=>cases e<;>first|exact ⟨I,β,env,st,.normal,h1,trivial,h3⟩|exact U.elim
 |exit i=>
  cases e<;>try exact U.elim
  rename_i i'
  have U:i'=i:=U
  subst U
  simp only [Mn] at h3
  show (if i'=id then Ca D I0 st0 w0 Q .normal a w else Ca D I0 st0 w0 Q (.exit i') a w)
  by_cases hi:i'=id
  .subst hi
   rw [if_pos rfl]
   simp only [Nat.beq_refl,cond_true] at h3
   exact ⟨I,β,env,st,.normal,h1,trivial,h3⟩
  .rw [if_neg hi]
   have:Nat.beq i' id=false:=by
    cases hb:Nat.beq i' id with
    |false=>rfl
    |true=>exact absurd (Nat.eq_of_beq_eq_true hb) hi
   rw [this] at h3
   exact ⟨I,β,env,st,.exit i',h1,rfl,h3⟩
 |goto i=>cases e<;>first|exact ⟨I,β,env,st,.goto i,h1,U,h3⟩|exact U.elim
 |ret=>cases e<;>first|exact ⟨I,β,env,st,.ret,h1,U,h3⟩|exact U.elim
 |B1 v=>cases e<;>first|exact ⟨I,β,env,st,.B1 v,h1,U,h3⟩|exact U.elim
end
theorem du {m j sz:Nat} {n:Int} {K:Nat->Prop} (h:n=(j:Nat)) (U:j<m) (k:K (j*sz)):(0<=n/\n<(m:Int))/\∀k,k=n.toNat*sz->K k:=
 ⟨⟨AC,AC⟩,λk' e=>by
   rw [h,Int.toNat_natCast] at e
   subst e;exact k⟩
theorem XP {P:Program} {st:St} (f:α->List (Nat×V)) (g:α->List (Nat×List V)) (keep U:List Nat) (S:α->St) (J:α->Prop) (μ:α->Nat) (x0:α) (h0:J x0) (he:(env.Mk (f x0) (g x0) keep U).E4 env) (hs:St.le (S x0) st)
 (round:∀x,J x->AW P c (BW (λenv' st'=>∃y,J y/\μ y<μ x/\(env.Mk (f y) (g y) keep U).E4 env'/\St.le (S y) st') Q) (env.Mk (f x) (g x) keep U) (S x)):AW P (.loop c) Q env st:=
 qE (λy=>env.Mk (f y) (g y) keep U) S J μ x0 h0 he hs round
theorem FT {P:Program} {x y:Code} {st:St} (f:α->List (Nat×V)) (g:α->List (Nat×List V)) (keep U:List Nat) (S:α->St) (J:α->Prop)
 (hx:AW P x (BW (λenv' st'=>∃p,J p/\(env.Mk (f p) (g p) keep U).E4 env'/\St.le (S p) st') Q) env st)
 (hy:∀p,J p->AW P y Q (env.Mk (f p) (g p) keep U) (S p)):AW P (.seq x y) Q env st:=
 qD (λp=>env.Mk (f p) (g p) keep U) S J hy hx
end Go.Aw
namespace Go.Proofs.Z
open Go Go.Aw
def qG (st m:St) (nv:V) (l:List Nt):Prop:=
 (nv=.slice 5 [] .full/\l=[])\/∃b cap rest,nv=.FP 5 b l.length cap/\m.box b=some ((GR l).flatten++rest)/\((GR l).flatten++rest).length=cap*5/\st.box b=none/\l≠[]
structure RW where
 i:Nat
 x:Lx
 wait:Bool
 w1:AE
 nv:V
 m:St
def RW.BD (s:List UInt8) (st:St) (y:RW):Prop:=
 qG st y.m y.nv y.x.notes/\B6 st y.m y.w1 (y.x.Ay.length*4) .full 0/\BQ s y.i/\0<=y.x.Ds/\y.x.Ds<=y.i/\y.x.Ay.length<=y.i/\y.x.notes.length<=y.i/\(y.wait=true->y.x.notes≠[])
section
variable {st:St} {R:Au->St->Prop}
attribute [local irreducible] Go.Aw.Bm
theorem OU {es:List α} {n:Nat} {K:Nat->Prop} (h:es.length=n) (k:K n):∀m,m=es.length->m<DG->K m:=λm U _=>by simp_all
theorem sV {st:St} {n:Nat} {U:Nat} {Q:Prop} {K:Nat->Nat->Prop} (h1:(n:Int)*(U:Int)<=140737488355328) (h2:n<1000000000) (k:∀b,st.fresh b->K b n):
 (0<=(n:Int)/\(n:Int)<=n/\(n:Int)*(U:Int)<=140737488355328/\(n:Int)<(DG:Nat))/\(Q\/((n:Int)=n/\∀b k,st.fresh b->k=(n:Int).toNat->K b k)):=
 ⟨⟨AC,AC,h1,by unfold DG;omega⟩,.inr ⟨rfl,λb k' hb hk=>by
   simp_all⟩⟩
end
def KV:List (Int×Int×List UInt8):=[(2,9,[46]),(1,9,[33,33]),(2,8,[94,32,94,94,32,42,42]),(1,7,[42,32,47,32,113,117,111,116,32,114,101,109,32,100,105,118,32,109,111,100]),(1,6,[43,32,45]),(2,5,[58,32,43,43]),(3,4,[61,61,32,47,61,32,60,32,60,61,32,62,61,32,62,32,101,108,101,109,32,110,111,116,69,108,101,109]),(2,3,[38,38]),(2,2,[124,124]),(1,1,[62,62,32,62,62,61]),(2,1,[61,60,60]),(2,0,[36,32,36,33,32,115,101,113])]
def P0 (r:Int×Int×List UInt8):List Fx:=(Lib.fields r.2.2).map λn=>⟨n,r.1,r.2.1⟩
def wF:List Fx->List Fx->Bool
 |[],[]=>true
 |a::l,b::m=>a.op==b.op&&(a.side==b.side&&(a.prec==b.prec&&wF l m))
 |_,_=>false
theorem mC:∀{l m:List Fx},wF l m=true->l=m
 |[],[],_=>rfl
 |a::l,b::m,h=>by
  rw [wF,Bool.and_eq_true,Bool.and_eq_true,Bool.and_eq_true,beq_iff_eq,beq_iff_eq,beq_iff_eq] at h
  obtain ⟨U,h2,h3,h4⟩:=h
  cases a;cases b
  dsimp only at U h2 h3
  rw [U,h2,h3,mC h4]
 |[],_::_,h=>by cases h
 |_::_,[],h=>by cases h
theorem Zl:KV.flatMap P0=OR:=mC GE
theorem oR:(KV.all λr=>decide (r.2.2.length<100)&&(r.2.2.all (λb=>decide (b.toNat<128))&&(decide ((Lib.fields r.2.2).length<100)&&(Lib.fields r.2.2).all λx=>decide (x.length<100))))=true:=GE
theorem kD {l:List Fx} {x:Fx} {own:AE} {st:St} {K:V->St->Prop} (h:own.BD st) (hb:l.length+1<=1000000000)
 (k:∀U:AE,U.BD st->K (.slice 3 (A4 (l++[x])) U) (U.st st ((l++[x]).length*3))):Am 3 32 (A4 l) own [x.cells] (own.st st (l.length*3)) K:=by
 have el:∀l:List Fx,(A4 l).length=l.length:=λl=>List.length_map ..
 have:=EI (sz:=3) (bytes:=32) (es:=A4 l) (new:=[x.cells]) (K:=K) h (by rw [el];show (l.length+1)*32<=_;omega) (by rw [el];show l.length+1<DG;simp only [DG];omega) rfl (λU ho=>by
  have:=k U ho
  rw [el]
  have e:A4 l++[x.cells].map (·.map V.JB)=A4 (l++[x]):=by unfold A4;rw [List.map_append];rfl
  rw [e]
  rw [List.length_append] at this
  exact this)
 rw [el] at this
 exact this
def dR (l:List (Int×Int×List UInt8)):List (List V):=l.map λr=>[.int .i64 r.1,.int .i64 r.2.1,.str r.2.2]
theorem o5 {l:List (Int×Int×List UInt8)} {x:Int×Int×List UInt8} (h:l[i.toNat]? =some x) (U:0<=i) (k:K [.int .i64 x.1,.int .i64 x.2.1,.str x.2.2]):0<=i/\∃e,(dR l)[i.toNat]? =some e/\K e:=
 ⟨U,_,by simp [dR,h],k⟩
theorem pR {l:List (List UInt8)} (h:l[i.toNat]? =some x) (U:0<=i) (k:K [.str x]):0<=i/\∃e,(strs l)[i.toNat]? =some e/\K e:=
 ⟨U,_,by simp [strs,h],k⟩
theorem wW {l:List (List UInt8)} {K:Nat->Prop} (k:l.length<4611686018427387904->K l.length):∀m,m=(strs l).length->m<DG->K m:=λm U h=>by
 rw [show (strs l).length=l.length by simp [strs]] at U;subst U;exact k h
theorem Uo {f:α->List β} {l:List α} {k:Nat} {x:α} (h:l[k]? =some x):(l.take (k+1)).flatMap f=(l.take k).flatMap f++f x:=by
 rw [List.take_add_one,h,List.flatMap_append]
 simp
section
attribute [local irreducible] Go.Aw.Am
set_option maxRecDepth 100000 in
theorem mw:kt:=λst R h=>by
 refine pB Tryz.func180 ?_
 rw [<-Zl] at h
 have hok:=List.all_eq_true.1 oR
 have hlen:KV.length=12:=rfl
 repeat' ((conv=>whnf);first|refine OU (es:=dR KV) (n:=12) rfl ?_|(refine AA ?_;intros)|(refine AB ?_ ?_<;>intro _)|refine B2 (λ_=>?_) ?_|fail)
 refine Dc (α:=Nat×AE) (λy=>[(2,.slice 3 (A4 ((KV.take y.1).flatMap P0)) y.2),(23,.int .i64 (y.1:Nat)),(21,.slice 3 (dR KV) .full),(22,.int .i64 ((12:Nat):Int))]) [] (λ_=>[]) [] (λy=>y.2.st st (((KV.take y.1).flatMap P0).length*3)) (λy=>y.2.BD st/\y.1<=12) (λy=>12 - y.1) (0,.full) ⟨trivial,Nat.zero_le _⟩ Yl (St.le_refl _) ?_
 generalize KV=U at h hok hlen |-
 have hfl:∀i,i<=12->((U.take i).flatMap P0).length<=i*100:=λi=>by
  induction i with
  |zero=>intro _;rw [List.take_zero];exact Nat.zero_le _
  |succ i ih=>
   intro hi
   have hx:U[i]? =some U[i]:=List.getElem?_eq_getElem AC
   rw [Uo hx,List.length_append]
   have h1:=ih AC
   have h2:=hok U[i] (List.mem_of_getElem? hx)
   simp only [Bool.and_eq_true,decide_eq_true_eq] at h2
   have e:(P0 U[i]).length=(Lib.fields U[i].2.2).length:=List.length_map ..
   have:=h2.2.2.1
   omega
 rintro ⟨i,w⟩ ⟨j1,j2⟩
 dsimp only at j1 j2
 by_cases hlt:i<12
 .obtain ⟨r,hr⟩:∃r,U[(i:Int).toNat]? =some r:=⟨_,List.getElem?_eq_getElem (by show i<U.length;omega)⟩
  have hx:=hok r (List.mem_of_getElem? hr)
  simp only [Bool.and_eq_true,decide_eq_true_eq,List.all_eq_true] at hx
  obtain ⟨x1,x2,x3,x4⟩:=hx
  have hft:=Uo (f:=P0) (show U[i]? =some r from hr)
  have hfi:=hfl i j2
  generalize (U.take i).flatMap P0=O at hft hfi |-
  unfold P0 at hft
  have hfc:∀{st:St} {R:Au->St->Prop},R (.ret (.slice 1 (strs (Lib.fields r.2.2)) .any)) st->PC 214 [.str r.2.2] st R:=λh=>Ys AC x2 h (λx hx=>by have:=x4 x hx;unfold DG;omega) (by unfold DG;omega)
  generalize Lib.fields r.2.2=F at hft hfc x3
  have hli:(i:Int)<((12:Nat):Int):=AC
  repeat' ((conv=>whnf);first|refine Wv hli ?_|(refine AA ?_;intros)|(refine AB ?_ ?_<;>intro _)|refine B2 (λ_=>?_) ?_|refine o5 hr AC ?_|refine hfc ?_|refine wW (λ_=>?_))
  refine Dc (α:=Nat×AE) (λy=>[(2,.slice 3 (A4 (O++(F.take y.1).map λn=>⟨n,r.1,r.2.1⟩)) y.2),(31,.int .i64 (y.1:Nat))]) [4,21,22,23,29,30] (λ_=>[]) [0] (λy=>y.2.st st ((O++(F.take y.1).map λn=>(⟨n,r.1,r.2.1⟩:Fx)).length*3)) (λy=>y.2.BD st/\y.1<=F.length) (λy=>F.length - y.1) (0,w) ⟨j1,Nat.zero_le _⟩ (by rw [List.take_zero,List.map_nil,List.append_nil];exact Yl) (by rw [List.take_zero,List.map_nil,List.append_nil];exact St.le_refl _) ?_
  rintro ⟨k,w'⟩ ⟨j3,j4⟩
  dsimp only at j3 j4
  by_cases hkt:k<F.length
  .obtain ⟨x,hx⟩:∃x,F[(k:Int).toNat]? =some x:=⟨_,List.getElem?_eq_getElem hkt⟩
   have htk:(F.take (k+1)).map (λn=>(⟨n,r.1,r.2.1⟩:Fx))=(F.take k).map (λn=>⟨n,r.1,r.2.1⟩)++[⟨x,r.1,r.2.1⟩]:=by rw [List.take_add_one,show F[k]? =some x from hx,List.map_append];rfl
   have hn:(O++(F.take k).map λn=>(⟨n,r.1,r.2.1⟩:Fx)).length+1<=1000000000:=by rw [List.length_append,List.length_map,List.length_take];omega
   have hki:(k:Int)<(F.length:Int):=AC
   repeat' ((conv=>whnf);first|refine Wv hki ?_|(refine AA ?_;intros)|(refine AB ?_ ?_<;>intro _)|refine B2 (λ_=>?_) ?_|refine pR hx AC ?_|refine kD (x:=⟨x,r.1,r.2.1⟩) j3 hn (λown1 ho1=>?_)|refine Wq (a:=(k:Int)+1) AC AC ?_)
   all_goals conv=>whnf
   all_goals exact ⟨(k+1,own1),⟨ho1,hkt⟩,Nat.sub_lt_sub_left hkt (Nat.lt_succ_self k),by dsimp only;rw [htk,<-List.append_assoc];exact Yl,by dsimp only;rw [htk,<-List.append_assoc];exact St.le_refl _⟩
  .have hk2:k=F.length:=AC
   subst hk2
   rw [List.take_length,<-hft]
   have hki:¬(F.length:Int)<(F.length:Int):=AC
   repeat' ((conv=>whnf);first|refine Ww hki ?_|(refine AA ?_;intros)|(refine AB ?_ ?_<;>intro _)|refine B2 (λ_=>?_) ?_|refine Wq (a:=(i:Int)+1) AC AC ?_)
   all_goals conv=>whnf
   all_goals exact ⟨(i+1,w'),⟨j3,hlt⟩,Nat.sub_lt_sub_left hlt (Nat.lt_succ_self i),Yl,St.le_refl _⟩
 .have hi2:i=12:=AC
  subst hi2
  rw [show U.take 12=U by rw [<-hlen,List.take_length]]
  have hli:¬((12:Nat):Int)<((12:Nat):Int):=AC
  repeat' ((conv=>whnf);first|refine Ww hli ?_|(refine AA ?_;intros)|(refine AB ?_ ?_<;>intro _)|refine B2 (λ_=>?_) ?_|fail)
  all_goals exact AY rfl (h _ (AE.Bz j1))
end
section
variable {st:St} {R:Au->St->Prop}
attribute [local irreducible] Go.Aw.Am
theorem Xp {a b:List Nd}:AD (a++b)=AD a+AD b:=by
 induction a with
 |nil=>simp [AD]
 |cons x r U=>rw [List.cons_append,AD,AD,U];omega
end
def qB (k:Int):Nat:=if k=1 then 3 else if k=30 then 2 else 1
def Qm:List Nd->Nat
 |[]=>0
 |n::r=>qB n.kind+Qm r
theorem tV (k:Int):1<=qB k:=by
 unfold qB
 grind
theorem J9:∀{a b:List Nd},Qm (a++b)=Qm a+Qm b
 |[],b=>by rw [List.nil_append,Qm,Nat.zero_add]
 |n::r,b=>by rw [List.cons_append,Qm,Qm,J9];omega
theorem Q1:∀{l:List Nd},l.length<=Qm l
 |[]=>Nat.le_refl _
 |n::r=>by have:=Q1 (l:=r);have:=tV n.kind;rw [Qm,List.length_cons];omega
def Hf (t:Tk):Bool:=t.kind==18||t.kind==19||t.kind==20||(t.kind==15&&(t.text==[123]||t.text==[125]||t.text==[59]))
inductive Bf:List Nd->Aj->Aj->Prop where
 |nil (s:Aj):Bf [] s s
 |app {l m:List Nd} {s s1 s2:Aj}:Bf l s s1->Bf m s1 s2->Bf (l++m) s s2
 |tok {s:Aj}:(Ac s).2.2=0->(Ac s).1.kind<18->(Ac s).1.kind≠0->Bf [BA (Ac s).1] s (Ac s).2.1
 |skip {s:Aj}:(Ac s).2.2=0->Hf (Ac s).1=true->Bf [] s (Ac s).2.1
 |close {s:Aj}:(CY s).2=true->Bf [] s (CY s).1
 |node {k:Int} {l:List Nd} {s s':Aj}:Bf l s s'->k≠1->1+qB k<=Qm l->Bf [Ar k l] s s'
 |block {f:Bool} {l:List Nd} {s s':Aj}:(Ac s).2.2=0->Hf (Ac s).1=true->Bf l (Ac s).2.1 s'->Bf [Ed f l] s s'
theorem QH (h:Hf t=true):t.kind≠0/\t.kind≠21:=by
 unfold Hf at h
 grind
theorem Bf.size {l:List Nd} {s s':Aj} (h:Bf l s s'):AD l+Qm l+4*mu s'<=4*mu s:=by
 induction h with
 |nil s=>simp only [AD,Qm];omega
 |app _ _ U h2=>rw [Xp,J9];omega
 |tok U h2 h3=>
  rename_i s
  have:=(Fv U).2 AC
  have e:AD [BA (Ac s).1]+Qm [BA (Ac s).1]=4:=rfl
  omega
 |skip U h2=>have:=(Fv U).1;simp only [AD,Qm];omega
 |close U=>have:=Oz U;simp only [AD,Qm];omega
 |node U h2 h3 ih=>
  rename_i k l s s'
  have e:AD [Ar k l]+Qm [Ar k l]=(1+AD l+0)+(qB k+0):=by simp only [Ar,AD,Nd.size,Qm];rfl
  omega
 |block U h2 h3 ih=>
  rename_i f l s s'
  have:=(Fv U).2 (QH h2).2
  have e:AD [Ed f l]+Qm [Ed f l]=(1+AD l+0)+(1+0):=by simp only [Ed,AD,Nd.size,Qm];rfl
  omega
theorem Bf.ze {s:Aj} (h:Bf [n] s s'):n.size+4*mu s'<=4*mu s:=by
 have:=h.size
 simp only [AD] at this
 omega
theorem Bf.two {s:Aj} (h:Bf l s s') (hk:k≠1) (U:k≠30) (hl:2<=l.length):Bf [Ar k l] s s':=
 .node h hk (by have:=Q1 (l:=l);unfold qB;grind)
theorem Bf.is {s:Aj} (h:Bq s k x=true) (U:k≠0) (h1:k<18):Bf [BA (Ac s).1] s (Ac s).2.1:=by
 have e:(Ac s).1.kind=k:=by
  unfold Bq at h
  simp only [Bool.and_eq_true,beq_iff_eq] at h
  exact h.1
 exact .tok (F6 h U) AC AC
theorem Bf.cons {s s1 s2:Aj} (h:Bf [n] s s1) (k:Bf l s1 s2):Bf (n::l) s s2:=.app h k
theorem Bf.snoc {s s1 s2:Aj} (h:Bf l s s1) (k:Bf [n] s1 s2):Bf (l++[n]) s s2:=.app h k
theorem Bf.one {s:Aj} (h:Bf l s s') (hk:k≠1) (U:k≠30) (hl:1<=l.length):Bf [SV k l] s s':=by
 unfold SV
 split
 .match l,‹l.length=1› with
  |[x],_=>exact h
 .exact h.two hk U AC
def Du (A:Aj->Rs):Prop:=∀s n s',A s=.inr (n,s')->Bf [n] s s'
variable {A:Aj->Rs}
theorem ju (h:Eo t=true):t.kind≠0/\t.kind<18:=by
 unfold Eo at h
 grind
theorem Vy {s:Aj} (hs:Eo (Ac s).1=true) (h:Db s=.inr (n,s')):Bf [n] s s':=by
 have U:=ju hs
 unfold Db at h
 split at h
 .rename_i e;cases h;exact .tok e U.2 U.1
 grind
theorem rE {s:Aj} (U:k≠0) (h1:k<18) (h:Md s k x=.inr (n,s')):Bf [n] s s':=by
 unfold Md at h
 split at h
 .rename_i e
  rw [Ka e U] at h
  cases h
  exact .is e U h1
 .cases h
theorem RF {s:Aj} {s0:Aj} (hk:k≠1) (U:k≠30) (hl:1<=l.length) (h0:Bf l s0 s) (h:IY k l s x=.inr (n,s')):Bf [n] s0 s':=by
 unfold IY at h
 split at h
 .cases h
 .rename_i p hp
  cases h
  exact (h0.snoc (rE Do Do hp)).two hk U i7
theorem rD (hA:Du A) (l:List Nd) (s:Aj):∀s0 q s',Bf l s0 s->Ha A l s=.inr (q,s')->Bf q s0 s':=by
 fun_induction Ha A l s with
 |case1 l s U e1 h2=>simp_all
 |case2 l s U p h2 h3 ih=>intro s0 q s' h0 h;exact ih s0 q s' (h0.snoc (hA s p.1 p.2 h2)) h
 |case3 l s U p h2 h3=>simp_all
 |case4 l s U=>simp_all
theorem aT (U:Du A):Du (Hb A):=λs n s' h=>by
 unfold Hb at h
 split at h
 .cases h
 .rename_i p hp
  have h1:=U s p.1 p.2 hp
  split at h
  .cases h
  .rename_i q hq
   have h2:=rD U _ _ _ _ _ h1 hq
   obtain ⟨r,hr⟩:=pc _ _ _ _ hq
   split at h
   .simp_all
   .rename_i hl
    cases h
    exact h2.two Do Do (by grind)
theorem rB (hA:Du A) (l:List Nd) (s:Aj):∀s0 q s',Bf l s0 s->HD A l s=.inr (q,s')->Bf q s0 s'/\∃r,q=l++r:=by
 fun_induction HD A l s with
 |case1 l s U e1 h2=>simp_all
 |case2 l s U p h2 h3 ih=>
  intro s0 q s' h0 h
  obtain ⟨k1,r,k2⟩:=ih s0 q s' (.app h0 (.cons (.is U Do Do) (aT hA _ p.1 p.2 h2))) h
  simp_all
 |case3 l s U p h2 h3=>simp_all
 |case4 l s U=>simp_all
theorem Uj (hA:Du A) {U:Nd} {s0 s:Aj} (h0:Bf [n] s0 s) (h:Ek A n s=.inr (U,s')):Bf [U] s0 s':=by
 unfold Ek at h
 split at h
 .cases h
 .rename_i q hq
  obtain ⟨k1,r,k3⟩:=rB hA _ _ _ _ _ h0 hq
  split at h
  .simp_all
  .rename_i hl
   cases h
   exact k1.two Do Do (by grind)
theorem Ye (U:Du A):Du (EG A):=λs n s' h=>by
 unfold EG at h
 split at h
 .cases h
 .rename_i p hp
  exact Uj U (aT U _ p.1 p.2 hp) h
theorem rC (U:Du A):Du (He A):=λs n s' h=>by
 unfold He at h
 split at h
 .cases h
 .rename_i p hp
  have h1:=aT U _ p.1 p.2 hp
  split at h
  .rename_i hi
   split at h
   .cases h
   .rename_i q hq
    cases h
    exact (h1.cons (.cons (.is hi Do Do) (Ye U _ q.1 q.2 hq))).two Do Do (Nat.le_of_ble_eq_true rfl)
  .exact Uj U h1 h
theorem gE (hA:Du A) (l:List Nd) (s:Aj):∀s0 q s',Bf l s0 s->1<=l.length->CQ A l s=.inr (q,s')->Bf q s0 s'/\1<=q.length:=by
 fun_induction CQ A l s with
 |case1 l s U e1 h2=>simp_all
 |case2 l s U p h2 h3 ih=>
  intro s0 q s' h0 hl h
  exact ih s0 q s' (.app h0 (.cons (.is U Do Do) (hA _ p.1 p.2 h2))) i7 h
 |case3 l s U p h2 h3=>simp_all
 |case4 l s U=>grind
theorem lI (l:List Nd) (s:Aj):∀s0,Bf l s0 s->1<=l.length->Bf (DV l s).1 s0 (DV l s).2/\1<=(DV l s).1.length:=by
 fun_induction DV l s with
 |case1 l s U h2 ih=>intro s0 h0 hl;exact ih s0 (h0.snoc (.is U Do Do)) i7
 |case2 l s U h2=>simp_all
 |case3 l s U=>simp_all
theorem lJ (hA:Du A) {s:Aj} (hs:Eo (Ac s).1=true) (h:G9 A s=.inr (n,s')):Bf [n] s s':=by
 unfold G9 at h
 split at h
 .cases h
 .rename_i p hp
  have U:=Vy hs (n:=p.1) (s':=p.2) hp
  split at h
  .rename_i hi
   exact RF Do Do (Nat.le_of_ble_eq_true rfl) (U.cons (.is hi Do Do)) h
  split at h
  .exact RF Do Do (Nat.le_of_ble_eq_true rfl) U h
  split at h
  .obtain ⟨k1,k2⟩:=lI [p.1] p.2 s U (Nat.le_of_ble_eq_true rfl)
   exact RF Do Do k2 k1 h
  split at h
  .cases h
  .rename_i q hq
   have h2:=hA _ q.1 q.2 hq
   split at h
   .cases h
   .rename_i r hr
    obtain ⟨k1,k2⟩:=gE hA _ _ _ _ _ (U.cons h2) (Nat.le_of_ble_eq_true rfl) hr
    exact RF AC AC k2 k1 h
theorem gD (hA:Du A) {s:Aj} (hs:Eo (Ac s).1=true) (h:Fy A s=.inr (n,s')):Bf [n] s s':=by
 unfold Fy at h
 split at h
 .cases h
 .rename_i p hp
  have U:=Vy hs (n:=p.1) (s':=p.2) hp
  split at h
  .rename_i hi
   cases h
   exact (U.cons (.is hi Do Do)).two Do Do (Nat.le_of_ble_eq_true rfl)
  split at h
  .cases h
  .rename_i q hq
   exact RF Do Do (Nat.le_of_ble_eq_true rfl) (U.cons (hA _ q.1 q.2 hq)) h
theorem dJ (hA:Du A):Du (DP A):=λs n s' h=>by
 unfold DP at h
 split at h
 .rename_i U
  split at h
  .split at h
   .exact lJ hA U h
   .exact gD hA U h
  .exact Vy U h
 .cases h
theorem dK:∀d,Du (DT d)
 |0=>λs n s' h=>by cases h
 |d+1=>Ye (dJ (dK d))
structure Tst0 (p:Tk->Bool):Prop where
 e:p ⟨21,[],0,0⟩=false
 z:p fB=false
 k:∀a b:Tk,a.kind=b.kind->a.text=b.text->p a=p b
structure Tst (p:Tk->Bool):Prop extends Tst0 p where
 c:p ⟨15,[41],0,0⟩=false
structure zE (p:Tk->Bool):Prop extends Tst p where
 s:p ⟨15,[59],0,0⟩=false
structure yh (p:Tk->Bool):Prop extends Tst0 p where
 b1:p ⟨15,[123],0,0⟩=false
 b2:p ⟨15,[125],0,0⟩=false
 v1:∀u:Tk,u.kind=18->p u=false
 v2:∀u:Tk,u.kind=20->p u=false
theorem XE (h:k≠0/\k≠21):Tst0 (λt=>t.kind==k&&t.text==x):=
 ⟨by grind,by show ((0:Int)==k&&_)=false;grind,λa b U h2=>by grind⟩
theorem xV (h:k≠0/\k≠21) (U:¬(k=15/\x=[41])):Tst (λt=>t.kind==k&&t.text==x):=
 ⟨XE h,by
   grind⟩
theorem ux (h:k≠0/\k≠21) (hb:¬(k=15/\(x=[123]\/x=[125]))/\k≠18/\k≠20):yh (λt=>t.kind==k&&t.text==x):=
 ⟨XE h,by
   grind,by
   grind,λu e=>by grind,λu e=>by grind⟩
inductive E7 (T:Nd->Nd->Prop):List Nd->List Nd->Prop where
 |nil:E7 T [] []
 |cons {a b:Nd} {l m:List Nd}:T a b->E7 T l m->E7 T (a::l) (b::m)
theorem E7.one {a b:Nd} (h:T a b):E7 T [a] [b]:=.cons h .nil
theorem E7.app {m l' U:List Nd} (h:E7 T l m) (k:E7 T l' U):E7 T (l++l') (m++U):=by
 induction h with
 |nil=>exact k
 |cons h1 _ ih=>exact .cons h1 ih
theorem E7.len {m:List Nd} (h:E7 T l m):l.length=m.length:=by
 induction h with
 |nil=>rfl
 |cons _ _ U=>simp_all
structure Sm where
 R:Aj->Aj->Prop
 T:Nd->Nd->Prop
 Out:Aj->Prop
 zt:Aj->Prop
 out:∀{s s':Aj},Out s->mu s'<=mu s->Out s'
 DG:∀{s s':Aj},zt s->mu s'<mu s->Out s'
 yes:∀{s t:Aj} {p:Tk->Bool},R s t->yh p->p (Ac s).1=true->(Ac s).2.2=0->zt s\/(p (Ac t).1=true/\(Ac t).2.2=0/\R (Ac s).2.1 (Ac t).2.1/\T (BA (Ac s).1) (BA (Ac t).1))
 no:∀{s t:Aj} {p:Tk->Bool},R s t->zE p->p (Ac s).1=false->p (Ac t).1=false
 cno:∀{s t:Aj},R s t->Bq s 15 [41]=false->Bq t 15 [41]=false\/∀p,Tst p->p (Ac s).1=false
 mu:∀{s t s' t':Aj},R s t->R s' t'->Proofs.Z.mu s'<Proofs.Z.mu s->Proofs.Z.mu t'<Proofs.Z.mu t
 node:∀{k:Int} {l m:List Nd},E7 T l m->T (Ar k l) (Ar k m)
variable (S:Sm)
variable {S}
theorem Sm.is {s t:Aj} (hr:S.R s t) (U:k≠0/\k≠21) (hb:¬(k=15/\(x=[123]\/x=[125]))/\k≠18/\k≠20) (h:Bq s k x=true):S.zt s\/(Bq t k x=true/\S.R (Ac s).2.1 (Ac t).2.1/\S.T (BA (Ac s).1) (BA (Ac t).1)):=by
 rcases S.yes (p:=λt=>t.kind==k&&t.text==x) hr (ux U hb) h (F6 h U.1) with h|⟨h1,_,h3,h4⟩
 .simp_all
 .exact .inr ⟨h1,h3,h4⟩
namespace Rd
variable {α β γ σ:Type}
def Ap (a b:Rd α):Prop:=∀s,(∃e t,a.run s=.inl (e,t)/\e.1=2)\/b.run s=a.run s
theorem Ap.oY {a:Rd α}:Ap a a:=λ_=>.inr rfl
theorem Ap.trans {a b c:Rd α} (h:Ap a b) (k:Ap b c):Ap a c:=λs=>by
 rcases h s with h|h
 .exact .inl h
 .rcases k s with ⟨e,t,k,U⟩|k
  .exact .inl ⟨e,t,h ▸ k,U⟩
  .exact .inr (k.trans h)
theorem Ap.seq {m m':Rd α} {k U:α->Rd β} (h:Ap m m') (hk:∀v,Ap (k v) (U v)):Ap (seq m k) (seq m' U):=λs=>by
 unfold Rd.seq
 dsimp only
 rcases h s with ⟨e,t,h,he⟩|h
 .left;rw [h];exact ⟨e,t,rfl,he⟩
 .rw [h]
  cases m.run s with
  |inl e=>exact .inr rfl
  |inr p=>exact hk p.1 p.2
theorem Ap.look {f U:Aj->Rd α} (h:∀s,Ap (f s) (U s)):Ap (look f) (look U):=λs=>h s s
theorem Ap.ite {c:Prop} [Decidable c] {a b U b':Rd α} (h1:Ap a U) (h2:Ap b b'):Ap (if c then a else b) (if c then U else b'):=by split<;>assumption
theorem Ap.deep {b:Rd α}:Ap (fail Ic) b:=λs=>.inl ⟨Ic,s,rfl,rfl⟩
theorem Ap.loop {body U:σ->Rd (Sum σ β)} (h:∀x,Ap (body x) (U x)) (x:σ):Ap (loop body x) (loop U x):=λs=>by
 show (∃e t,iter body x s=.inl (e,t)/\e.1=2)\/iter U x s=iter body x s
 fun_induction iter body x s with
 |case1 x s e h1=>
  rcases h x s with ⟨e',t,h2,he⟩|h2
  .rw [h1] at h2;cases h2;exact .inl ⟨_,_,rfl,he⟩
  .right;rw [iter,h2,h1]
 |case2 x s y s1 h1=>
  rcases h x s with ⟨e',t,h2,he⟩|h2
  .rw [h1] at h2;cases h2
  .right;rw [iter,h2,h1]
 |case3 x s x' s1 h1 hlt ih=>
  rcases h x s with ⟨e',t,h2,he⟩|h2
  .rw [h1] at h2;cases h2
  .have e:iter U x s=iter U x' s1:=by
    rw [iter,h2,h1];dsimp only;rw [if_pos hlt]
   rw [e];exact ih
 |case4 x s x' s1 h1 hlt=>exact .inl ⟨_,_,rfl,rfl⟩
end Rd
open Rd (Ap)
structure Xad (L L':E9):Prop where
 atom:Ap L.atom L'.atom
 exp:Ap L.exp L'.exp
 ops:Ap L.ops L'.ops
 decls:Ap L.decls L'.decls
 stmts:Ap L.stmts L'.stmts
 alts:Ap L.alts L'.alts
 Ff:∀o,Ap (L.Ff o) (L'.Ff o)
 list:∀o,Ap (L.list o) (L'.list o)
theorem Ae {p:Env->Prop} (h:∀e,p e):∀e:Env,p e:=h
theorem aH {es:List (List V)} {e:List V} (U:0<=i) (h:es[i.toNat]? =some e) (k:K e):0<=i/\∃e,es[i.toNat]? =some e/\K e:=⟨U,e,h,k⟩
theorem mN {l:List Int} {x:Int} (h:l[i.toNat]? =some x) (U:0<=i) (k:K [.int .i64 x]):0<=i/\∃e,(ints l)[i.toNat]? =some e/\K e:=⟨U,_,by simp [ints,h],k⟩
theorem wV {es:List α} {n:Nat} {K:Nat->Prop} (h:es.length=n) (k:K n):∀m,m=es.length->m<DG->K m:=λm U _=>by rw [h] at U;subst U;exact k
section
variable {st:St} {K:Au->St->Prop}
theorem Jt (h:K (.ret (.bool (Pg t))) st):PC 369 [F0 t] st K:=by
 refine pB Tryz.func369 ?_
 repeat' ((conv=>whnf);first|(refine Bb ?_;intros)|(refine Bc ?_ ?_<;>intro e h)|(refine Be ?_ ?_<;>intro _)|fail)
 all_goals conv=>whnf
 all_goals (refine Av h ?_;clear h;simp_all [Pg])
theorem ss (h:K (.ret (.bool (Sj t))) st):PC 371 [F0 t] st K:=by
 refine pB Tryz.func371 ?_
 repeat' ((conv=>whnf);first|(refine Bb ?_;intros)|(refine Bc ?_ ?_<;>intro e h)|(refine Be ?_ ?_<;>intro _)|refine Jt ?_)
 all_goals conv=>whnf
 all_goals (refine Av h ?_;clear h;simp_all [Sj])
theorem X0 (h:K (.ret (.bool (FU t))) st):PC 270 [F0 t] st K:=by
 refine pB Tryz.func270 ?_
 repeat' ((conv=>whnf);first|(refine Bb ?_;intros)|(refine Bc ?_ ?_<;>intro e h)|(refine Be ?_ ?_<;>intro _)|fail)
 all_goals conv=>whnf
 all_goals (refine Av h ?_;clear h;simp_all [FU])
theorem M1 (h:K (.ret (.bool (GJ t))) st):PC 224 [F0 t] st K:=by
 refine pB Tryz.func224 ?_
 repeat' ((conv=>whnf);first|(refine Bb ?_;intros)|(refine Bc ?_ ?_<;>intro e h)|(refine Be ?_ ?_<;>intro _)|refine X0 ?_)
 all_goals conv=>whnf
 all_goals (refine Av h ?_;clear h;simp_all [GJ,FU,uF,z7,ql,z6])
theorem VH (h:K (.ret (.bool (My t))) st):PC 225 [F0 t] st K:=by
 refine pB Tryz.func225 ?_
 repeat' ((conv=>whnf);first|(refine Bb ?_;intros)|(refine Bc ?_ ?_<;>intro e h)|(refine Be ?_ ?_<;>intro _)|fail)
 all_goals conv=>whnf
 all_goals (refine Av h ?_;clear h;simp_all [My])
theorem Xm (h:K (.ret (.bool (L9 t))) st):PC 222 [F0 t] st K:=by
 refine pB Tryz.func222 ?_
 repeat' ((conv=>whnf);first|(refine Bb ?_;intros)|(refine Bc ?_ ?_<;>intro e h)|(refine Be ?_ ?_<;>intro _)|fail)
 all_goals conv=>whnf
 all_goals (refine Av h ?_;clear h;simp_all [L9])
theorem KS {own:AE} (h:K (.ret (enc (Ar k l))) st):PC 315 [.int .i64 k,.slice 6 (l.map Ax) own] st K:=by
 refine pB Tryz.func315 ?_
 repeat' ((conv=>whnf);first|(refine Bb ?_;intros)|(refine Bc ?_ ?_<;>intro e h)|(refine Be ?_ ?_<;>intro _)|fail)
 all_goals exact EJ (St.le_refl _) Cd h
theorem eF {a:Nd} {own:AE} (h:K (.ret (enc (Ar k [a]))) st):PC 315 [.int .i64 k,.slice 6 [Ax a] own] st K:=KS (l:=[a]) h
theorem eG {a b:Nd} {own:AE} (h:K (.ret (enc (Ar k [a,b]))) st):PC 315 [.int .i64 k,.slice 6 [Ax a,Ax b] own] st K:=KS (l:=[a,b]) h
theorem WU {a b c:Nd} {own:AE} (h:K (.ret (enc (Ar k [a,b,c]))) st):PC 315 [.int .i64 k,.slice 6 [Ax a,Ax b,Ax c] own] st K:=KS (l:=[a,b,c]) h
theorem eH {a b c d:Nd} {own:AE} (h:K (.ret (enc (Ar k [a,b,c,d]))) st):PC 315 [.int .i64 k,.slice 6 [Ax a,Ax b,Ax c,Ax d] own] st K:=KS (l:=[a,b,c,d]) h
theorem wz {own:AE} (h:K (.ret (enc (SV k l))) st):PC 347 [.int .i64 k,.slice 6 (l.map Ax) own] st K:=by
 refine pB Tryz.func347 ?_
 match l with
 |[x]=>
  have h:K (.ret (enc x)) st:=h
  have hn:(([x]:List Nd).length:Int)=1:=rfl
  repeat' ((conv=>whnf);first|(refine Bb ?_;intros)|(refine Bc ?_ ?_<;>intro e h)|(refine Be ?_ ?_<;>intro _)|refine B9 (l:=[x]) (λ_=>?_)|refine aH AC rfl ?_)
  all_goals exact AY rfl h
 |[]=>
  have h:K (.ret (enc (Ar k []))) st:=h
  have hn:¬(([]:List Nd).length:Int)=1:=Do
  repeat' ((conv=>whnf);first|(refine Bb ?_;intros)|(refine Bc ?_ ?_<;>intro e h)|(refine Be ?_ ?_<;>intro _)|refine B9 (l:=[]) (λ_=>?_)|refine KS (l:=[]) ?_)
  all_goals exact AY rfl h
 |x::y::r=>
  have h:K (.ret (enc (Ar k (x::y::r)))) st:=h
  have hn:¬((x::y::r).length:Int)=1:=by simp only [List.length_cons];omega
  repeat' ((conv=>whnf);first|(refine Bb ?_;intros)|(refine Bc ?_ ?_<;>intro e h)|(refine Be ?_ ?_<;>intro _)|refine B9 (l:=x::y::r) (λ_=>?_)|refine KS (l:=x::y::r) ?_)
  all_goals exact AY rfl h
theorem VU (h:K (.ret (.bool (Kj n))) st):PC 409 [enc n] st K:=by
 refine pB Tryz.func409 ?_
 repeat' ((conv=>whnf);first|(refine Bb ?_;intros)|(refine Bc ?_ ?_<;>intro e h)|(refine Be ?_ ?_<;>intro _)|refine lr ?_)
 all_goals conv=>whnf
 all_goals (refine Av h ?_;clear h;simp_all [aN])
theorem eo (U:n.size<=1000000000) (h:K (.ret (.bool (Z3 n))) st):PC 348 [enc n] st K:=by
 refine pB Tryz.func348 ?_
 have hs:(strs (G6 n).1).length=(G6 n).1.length:=by simp [strs]
 repeat' ((conv=>whnf);first|(refine Bb ?_;intros)|(refine Bc ?_ ?_<;>intro e h)|(refine Be ?_ ?_<;>intro _)|refine nX U ?_|refine wV hs ?_)
 all_goals conv=>whnf
 all_goals (refine Av h ?_;clear h;simp_all [Z3])
end
theorem Lc (h:FU t=true):t.kind≠0/\t.kind≠21:=by
 unfold FU at h
 simp only [Bool.or_eq_true,Bool.and_eq_true,beq_iff_eq] at h
 omega
theorem Ts (h:Pg t=true):t.kind≠0/\t.kind≠21:=by
 unfold Pg at h
 simp only [Bool.or_eq_true,Bool.and_eq_true,beq_iff_eq] at h
 omega
theorem QZ (h:L9 t=true):t.kind≠0/\t.kind≠21:=by
 unfold L9 at h
 simp only [Bool.or_eq_true,Bool.and_eq_true,beq_iff_eq] at h
 omega
abbrev pv (b d:Nat):V:=.agg [.ptr b 0,.int .i64 (d:Int)]
section
variable {st0 st:St} {b d:Nat} {s:Aj} {rows:List (AE×List Nd)} {K:Au->St->Prop}
theorem eX (U:Cx st0 b s st rows) (kk:∀st',Cx st0 b s st' rows->K (.ret (.bool (Bq s 15 x))) st'):PC 311 [pv b d,.str x] st K:=by
 refine pB Tryz.func311 ?_
 repeat' ((conv=>whnf);first|(refine Bb ?_;intros)|(refine Bc ?_ ?_<;>intro e h)|(refine Be ?_ ?_<;>intro _)|refine sx U (λst1 U=>?_))
 all_goals conv=>whnf
 all_goals exact Av (kk st1 U) ‹_›
theorem Xc (U:Cx st0 b s st rows) (e:Bq s 15 x=true) (kk:∀st',Cx st0 b s st' rows->K (.ret (.bool true)) st'):PC 311 [pv b d,.str x] st K:=eX U (by rw [e];exact kk)
theorem cG (U:Cx st0 b s st rows) (e:Bq s 15 x=false) (kk:∀st',Cx st0 b s st' rows->K (.ret (.bool false)) st'):PC 311 [pv b d,.str x] st K:=eX U (by rw [e];exact kk)
theorem xu {P Q:Prop} (U:Cx st0 b s st rows) (h:if Bq s 15 x=true then P else Q) (k1:∀st',Cx st0 b s st' rows->Bq s 15 x=true->P->K (.ret (.bool true)) st') (k2:∀st',Cx st0 b s st' rows->Bq s 15 x=false->Q->K (.ret (.bool false)) st'):
 PC 311 [pv b d,.str x] st K:=by
 cases e:Bq s 15 x with
 |true=>exact Xc U e λst' c=>k1 st' c e (by rw [if_pos e] at h;exact h)
 |false=>exact cG U e λst' c=>k2 st' c e (by rw [if_neg (by rw [e];decide)] at h;exact h)
theorem El {own:AE} (h0:ks.contains 0=false):AZ enc 151 (λb=>[.ptr b 0,.slice 1 (ints ks) own]) (Dl ks):=by
 refine ⟨λ{st0 b s st rows K} U h=>?_⟩
 unfold Dl at h
 simp only [Rd.Aq,Rd.AK] at h
 refine pB Tryz.func151 ?_
 repeat' ((conv=>whnf);first|(refine Bb ?_;intros)|(refine Bc ?_ ?_<;>intro e h)|(refine Be ?_ ?_<;>intro _)|refine S1 ‹_› (λst1 U=>?_)|refine Og ‹_› ‹_› ‹_› Do (λs1 st1 hz hm U h=>?_)|refine Oh ‹_› ‹_› (by first|exact Lc ‹_›|exact Ts ‹_›|omega) (λs1 st1 hz hm U h=>?_)|refine Hu.go ‹_› ‹_› (λn s1 st1 hr hm U h=>?_) (λe s1 st1 U h=>?_)|refine T9 ‹_› ‹_› (λe s1 st1 U h=>?_)|exact BU (Cx.y ‹_›) ‹_›|exact BU (Cx.y (Cx.drop ‹_›)) ‹_›|refine B9 (λ_=>?_)|refine Ae (λe1=>?_)|exact ⟨⟨_,_,_,_⟩,⟨‹_›,Rd.Fc ‹_› bl,cb,bl⟩,bl,(by refine ⟨rfl,?_,?_,rfl⟩<;>repeat' (first|exact trivial|exact rfl|refine And.intro ?_ ?_)),St.le_refl _⟩|exact dX ‹_› ‹_› rfl|exact CZ ‹_› ‹_› rfl|exact CZ ‹_› ‹_› Cd|exact CZ (Cx.drop ‹_›) ‹_› rfl|exact CZ (Cx.drop ‹_›) ‹_› Cd|exact BU ‹_› ‹_›|exact BU (Cy.drop ‹_›) ‹_›|exact BU (Cy.drop (Cy.drop ‹_›)) ‹_›|refine WA (λ_=>?_))
 refine V4 (α:=Nat×St) (λx=>[(12,.int .i64 (x.1:Int))]) [0,4,5,10,11] [0,1] (λx=>x.2) (λx=>x.1<=ks.length/\Cx st0 b s x.2 rows/\ks.contains (Ac s).1.kind=(ks.drop x.1).contains (Ac s).1.kind) (λx=>ks.length - x.1) (0,_) ⟨Nat.zero_le _,U,rfl⟩ Yl (St.le_refl _) ?_
 rintro ⟨k,st2⟩ ⟨hk,hc2,hi⟩
 dsimp only at hk hc2 hi |-
 by_cases hlt:k<ks.length
 .obtain ⟨x,hx⟩:∃x,ks[(k:Int).toNat]? =some x:=⟨_,List.getElem?_eq_getElem hlt⟩
  have hx':ks[k]? =some x:=hx
  rw [drop_at hx',List.contains_cons] at hi
  have hx1:=hx
  by_cases e:(Ac s).1.kind=x
  .rw [beq_iff_eq.2 e,Bool.true_or] at hi
   rw [if_pos hi] at h
   have hkd:(Ac s).1.kind≠0:=λz=>by rw [z] at hi;rw [h0] at hi;cases hi
   have U:=hc2
   repeat' ((conv=>whnf);first|refine mN hx AC ?_|(refine Bb ?_;intros)|(refine Bc ?_ ?_<;>intro e h)|(refine Be ?_ ?_<;>intro _)|refine Hu.go U h (λn s1 st1 hr hm U h=>?_) (λe s1 st1 U h=>?_)|exact CZ U h rfl|exact BU U h)
  .rw [beq_eq_false_iff_ne.2 e,Bool.false_or] at hi
   repeat' ((conv=>whnf);first|refine mN hx AC ?_|(refine Bb ?_;intros)|(refine Bc ?_ ?_<;>intro e h)|(refine Be ?_ ?_<;>intro _)|fail)
   all_goals conv=>whnf
   all_goals exact ⟨(k+1,st2),⟨hlt,hc2,hi⟩,Nat.sub_lt_sub_left hlt (Nat.lt_succ_self k),Yl,St.le_refl _⟩
 .rw [List.drop_eq_nil_iff.2 AC] at hi
  rw [if_neg (by rw [hi];exact Bool.false_ne_true)] at h
  have U:=hc2
  repeat' ((conv=>whnf);first|(refine Bb ?_;intros)|(refine Bc ?_ ?_<;>intro e h)|(refine Be ?_ ?_<;>intro _)|refine T9 U h (λe s1 st1 U h=>?_)|exact BU U h)
theorem mV:AZ enc 151 (λb=>[.ptr b 0,.slice 1 [[.int .i64 1],[.int .i64 2],[.int .i64 3],[.int .i64 4]] .full]) (Dl [1,2,3,4]):=El (ks:=[1,2,3,4]) Do
theorem QT:AZ enc 344 (λb=>[pv b d]) Jh:=by
 refine ⟨λ{st0 b s st rows K} hc h=>?_⟩
 unfold Jh at h
 simp only [Rd.Aq,Rd.AK,Rd.wp_seq,Rd.wp_ret] at h
 refine pB Tryz.func344 ?_
 repeat' ((conv=>whnf);first|exact C7|(refine Bb ?_;intros)|(refine C8 ?_ ?_ ?_;rotate_left)|(refine Bc ?_ ?_<;>intro e h)|(refine Be ?_ ?_<;>intro _)|refine S1 ‹_› (λU hc=>?_)|refine Og ‹_› ‹_› ‹_› Do (λs1 U hz hm hc h=>?_)|refine Oh ‹_› ‹_› (by first|exact Lc ‹_›|exact Ts ‹_›|omega) (λs1 U hz hm hc h=>?_)|refine Hu.go ‹_› ‹_› (λn s1 U hr hm hc h=>?_) (λe s1 U hc h=>?_)|refine XK.go ‹_› ‹_› (λn s1 U hr hm hc h=>?_) (λe s1 U hc h=>?_)|exact BU (Cx.y ‹_›) ‹_›|exact BU (Cx.y (Cx.drop ‹_›)) ‹_›|refine Jt ?_|refine eF ?_|refine eG ?_|refine WU ?_|refine eH ?_|refine KS ?_|refine Ae (λe1=>?_)|exact ⟨⟨_,_,_,_⟩,⟨‹_›,Rd.Fc ‹_› bl,cb,bl⟩,bl,(by refine ⟨rfl,?_,?_,rfl⟩<;>repeat' (first|exact trivial|exact rfl|refine And.intro ?_ ?_)),St.le_refl _⟩|exact dX ‹_› ‹_› rfl|exact CZ ‹_› ‹_› rfl|exact CZ ‹_› ‹_› Cd|exact CZ (Cx.drop ‹_›) ‹_› rfl|exact CZ (Cx.drop ‹_›) ‹_› Cd|exact BU ‹_› ‹_›|exact BU (Cy.drop ‹_›) ‹_›|exact BU (Cy.drop (Cy.drop ‹_›)) ‹_›|refine mV.go hc h (λn s1 U hr hm hc h=>?_) (λe s1 U hc h=>?_)|refine Ad [(0,true),(1,true),(2,true),(3,true),(4,false),(5,true),(6,false),(7,false)] [1] GE ?_|with_reducible refine WF ?_)
end
theorem FR {P:Prop} (h:P:=by (with_reducible show ∃_,_);first|exact ⟨⟨_,_,_,_⟩,⟨‹_›,Rd.Fc ‹_› bl,cb,bl⟩,bl,Yl,St.le_refl _⟩|exact BU (Cx.y ‹_›) ‹_›|exact BU (Cx.y (Cx.drop ‹_›)) ‹_›|exact dX ‹_› ‹_› rfl|exact CZ ‹_› ‹_› rfl|exact CZ ‹_› ‹_› Cd|exact CZ (Cx.drop ‹_›) ‹_› rfl|exact CZ (Cx.drop ‹_›) ‹_› Cd|exact BU ‹_› ‹_›|exact BU (Cy.drop ‹_›) ‹_›|exact BU (Cy.drop (Cy.drop ‹_›)) ‹_›|fail):P:=h
theorem L0 {P A:Prop} (k:A) (h:A->P:=by intro k;(with_reducible show Am _ _ _ _ _ _ _);first|exact Cx.Hh ‹_› f8 k|exact Cx.Hh (Cx.push ‹_› _) f8 k|fail):P:=h k
theorem Ix {P A:Prop} (k:A) (h:A->P:=by intro k;(with_reducible show PC _ _ _ _);first|((with_reducible show PC 149 _ _ _);exact bK ‹_› ‹_› k)|((with_reducible show PC 149 _ _ _);exact mR ‹_› ‹_› k)|((with_reducible show PC 311 _ _ _);exact Xc ‹_› ‹_› k)|((with_reducible show PC 311 _ _ _);exact cG ‹_› ‹_› k)|((with_reducible show PC 112 _ _ _);exact S1 ‹_› k)|fail):P:=h k
theorem Mg {P A B:Prop} (k:A) (l:B) (h:A->B->P:=by intro k l;(with_reducible show PC _ _ _ _);first|((with_reducible show PC 149 _ _ _);exact mQ ‹_› ‹_› k l)|((with_reducible show PC 311 _ _ _);exact xu ‹_› ‹_› k l)|fail):P:=h k l
theorem La {P A:Prop} (k:A) (h:A->P:=by intro k;(with_reducible show PC _ _ _ _);first|((with_reducible show PC 150 _ _ _);exact Og ‹_› ‹_› ‹_› Do k)|((with_reducible show PC 150 _ _ _);exact Oh ‹_› ‹_› (by first|exact Lc ‹_›|exact Ts ‹_›|omega) k)|fail):P:=h k
theorem JA {P A B:Prop} (k:A) (l:B) (h:A->B->P:=by intro k l;(with_reducible show PC _ _ _ _);first|((with_reducible show PC 150 _ _ _);exact Hu.go ‹_› ‹_› k l)|((with_reducible show PC 153 _ _ _);exact XK.go ‹_› ‹_› k l)|fail):P:=h k l
theorem kz {P A:Prop} (k:A) (h:A->P:=by intro k;(with_reducible show PC _ _ _ _);first|((with_reducible show PC 113 _ _ _);exact T9 ‹_› ‹_› k)|fail):P:=h k
theorem Ku {P A:Prop} (k:A) (h:A->P:=by intro k;(with_reducible show PC _ _ _ _);first|((with_reducible show PC 369 _ _ _);exact Jt k)|((with_reducible show PC 371 _ _ _);exact ss k)|((with_reducible show PC 270 _ _ _);exact X0 k)|((with_reducible show PC 315 _ _ _);exact eF k)|((with_reducible show PC 315 _ _ _);exact eG k)|((with_reducible show PC 315 _ _ _);exact WU k)|((with_reducible show PC 315 _ _ _);exact eH k)|((with_reducible show PC 315 _ _ _);exact KS k)|((with_reducible show PC 347 _ _ _);exact wz k)|fail):P:=h k
theorem xQ (h:Pg t=true):t.kind≠21:=(Ts h).2
theorem RY:Rd.A6 Jh:=Rd.A6.look λs v s' h=>by
 split at h
 .rename_i U
  exact Rd.A6.at (λv s' e=>HZ e (xQ U)) h
 .exact Rd.A6.seq (Mq Do) s v s' h
section
variable {st0 st:St} {b d:Nat} {s:Aj} {rows:List (AE×List Nd)} {K:Au->St->Prop}
attribute [local irreducible] Go.Aw.Am
theorem pk {U:Rd Nd} (ho:AZ enc 370 (λb=>[pv b d]) U):qw (λp own=>.Bp [.slice 6 (p.1.map Ax) own,.bool p.2]) (·.1) 346 (λb=>[pv b d,.bool br]) (Ul U br):=by
 refine ⟨λ{st0 b s st rows K} hc h=>?_⟩
 unfold Ul at h
 refine pB Tryz.func346 ?_
 have hmu:=hc.mu
 repeat' ((conv=>whnf);(first|refine Bb ?_|refine Bc ?_ ?_|refine Be ?_ ?_|refine XN ?_ ?_|fail)<;>intros)
 refine Ct (λl own=>[(4,.slice 6 (l.map Ax) own)]) (λ_ _=>[]) [1,2] [0] (λl own=>(own,l)::rows) (λl=>l.length) .full (Cx.push ‹_› []) ‹_› i6 Yl ?_
 intro l s1 st1 own1 hc h hl hm1
 simp only [o9,Rd.Aq,Rd.AK,Rd.wp_seq,Rd.wp_ret,Rd.Bv] at h
 repeat' ((conv=>whnf);(first|refine Bb ?_|refine Bc ?_ ?_|refine Be ?_ ?_|refine XN ?_ ?_|fail)<;>intros)
 unfold cj at h
 refine Ct (λl own=>[(4,.slice 6 (l.map Ax) own)]) (λ_ _=>[]) [1,2] [0] (λl own=>(own,l)::rows) (λl=>l.length) own1 ‹_› ‹_› hl Yl ?_
 intro l2 s2 st2 own2 hc h hl hm2
 simp only [cg,Rd.Aq,Rd.AK,Rd.wp_seq,Rd.wp_ret,Rd.Bv] at h
 cases br
 .simp only [Bool.false_eq_true,if_false] at h
  repeat' ((conv=>whnf);(first|refine Bb ?_|refine Bc ?_ ?_|refine Be ?_ ?_|refine XN ?_ ?_|refine Ix ?_|refine Mg ?_ ?_|refine La ?_|refine JA ?_ ?_|exact FR|refine Ku ?_|refine L0 ?_|refine Ae ?_|refine ho.go ‹_› ‹_› ?_ ?_|refine QT.u9 RY ‹_› ‹_› ?_ ?_)<;>intros)
 .simp only [if_true] at h
  repeat' ((conv=>whnf);(first|refine Bb ?_|refine Bc ?_ ?_|refine Be ?_ ?_|refine XN ?_ ?_|refine Ix ?_|refine Mg ?_ ?_|refine La ?_|refine JA ?_ ?_|exact FR|refine Ku ?_|refine L0 ?_|refine Ae ?_|refine ho.go ‹_› ‹_› ?_ ?_|refine QT.u9 RY ‹_› ‹_› ?_ ?_)<;>intros)
end
section
variable {st0 st:St} {b d:Nat} {s:Aj} {rows:List (AE×List Nd)} {K:Au->St->Prop}
attribute [local irreducible] Go.Aw.Am
theorem oH {U:Rd Nd} (ho:AZ enc 370 (λb=>[pv b d]) U):AZ enc 310 (λb=>[pv b d]) (cz U):=by
 refine ⟨λ{st0 b s st rows K} hc h=>?_⟩
 simp only [cz,Rd.wp_seq,Rd.wp_ret] at h
 refine pB Tryz.func310 ?_
 repeat' ((conv=>whnf);(first|refine Bb ?_|refine Bc ?_ ?_|refine Be ?_ ?_|exact FR|refine Ku ?_|refine Ae ?_|refine qw.go (pk ho) ‹_› ‹_› ?_ ?_)<;>intros)
theorem Tv {A:Aj->Rs} {hle:∀s v s',A s=.inr (v,s')->mu s'<=mu s} (hB:E8 A) (hc:Cx st0 b s st rows) (h:Rd.wp (JR A hle) s (λv s'=>∀st',Cx st0 b s' st' rows->K (.ret (enc v)) st') (λe s'=>∀st',Cy st0 b s' st' rows->K (.B1 (fault e.1)) st')):Fb st b K (A s):=by
 cases U:A s with
 |inl p=>
  obtain ⟨e,s'⟩:=p
  unfold Rd.wp at h
  rw [Za hB U] at h
  exact λst' hu=>h st' (hc.zV hu)
 |inr p=>
  obtain ⟨n,s'⟩:=p
  unfold Rd.wp at h
  rw [WW U] at h
  exact λst' hu=>h st' (hc.Pw hu (hle _ _ _ U))
theorem sv {A:Rd Nd} (hd:d<=1000000) (h0:d=0->A=.fail Ic) (hc:Cx st0 b s st rows)
 (h:Rd.wp A s (λv s'=>∀st',Cx st0 b s' st' rows->K (.ret (enc v)) st') (λe s'=>∀st',Cy st0 b s' st' rows->K (.B1 (fault e.1)) st'))
 (hg:d≠0->∀K:Au->St->Prop,Rd.wp A s (λv s'=>∀st',Cx st0 b s' st' rows->K (.ret (enc v)) st') (λe s'=>∀st',Cy st0 b s' st' rows->K (.B1 (fault e.1)) st')->PC g [pv b d] st K):
 PC 355 [pv b (d+1),.func g [] []] st K:=by
 refine pB Tryz.func355 ?_
 by_cases hz:d=0
 .have U:((d+1:Nat):Int)<2:=AC
  rw [h0 hz,Rd.Ep] at h
  repeat' ((conv=>whnf);(first|refine Bb ?_|refine Bc ?_ ?_|refine Be ?_ ?_|refine Cm ?_|exact BU (Cx.y ‹_›) ‹_›)<;>intros)
 .have U:¬((d+1:Nat):Int)<2:=AC
  repeat' ((conv=>whnf);(first|refine UI hd ?_|refine Bb ?_|refine Bc ?_ ?_|refine Be ?_ ?_|refine hg hz _ (Rd.wp_mono ‹_› ?_ ?_)|refine Cm ?_|exact FR|refine Ae ?_)<;>intros)
theorem QI {c:Nat} {A:Rd Nd} (hd:d<=1000000) (h0:d=0->A=.fail Ic) (hc:Cx st0 b s st rows)
 (h:Rd.wp A s (λv s'=>∀st',Cx st0 b s' st' rows->K (.ret (enc v)) st') (λe s'=>∀st',Cy st0 b s' st' rows->K (.B1 (fault e.1)) st'))
 (hg:d≠0->∀K:Au->St->Prop,Rd.wp A s (λv s'=>∀st',Cx st0 b s' st' rows->K (.ret (enc v)) st') (λe s'=>∀st',Cy st0 b s' st' rows->K (.B1 (fault e.1)) st')->PC g [pv b d,.ptr c 0] st K):
 PC 355 [pv b (d+1),.func g [] [.ptr c 0]] st K:=by
 refine pB Tryz.func355 ?_
 by_cases hz:d=0
 .have U:((d+1:Nat):Int)<2:=AC
  rw [h0 hz,Rd.Ep] at h
  repeat' ((conv=>whnf);(first|refine Bb ?_|refine Bc ?_ ?_|refine Be ?_ ?_|refine Cm ?_|exact BU (Cx.y ‹_›) ‹_›)<;>intros)
 .have U:¬((d+1:Nat):Int)<2:=AC
  repeat' ((conv=>whnf);(first|refine UI hd ?_|refine Bb ?_|refine Bc ?_ ?_|refine Be ?_ ?_|refine hg hz _ (Rd.wp_mono ‹_› ?_ ?_)|refine Cm ?_|exact FR|refine Ae ?_)<;>intros)
theorem D5 {A:Rd Nd} (hd:d<=1000000) (h0:d=0->A=.fail Ic) (hg:d≠0->AZ enc g (λb=>[pv b d]) A):AZ enc 355 (λb=>[pv b (d+1),.func g [] []]) A:=by
 refine ⟨λ{st0 b s st rows K} U h=>?_⟩
 exact sv hd h0 U h λhz K h=>(hg hz).ap U h
end
section
variable {st0 st:St} {b d:Nat} {s:Aj} {rows:List (AE×List Nd)} {K:Au->St->Prop}
attribute [local irreducible] Go.Aw.Am
theorem bE (hd:d+1<=100):Dp 329 ((d+1:Nat):Int) (He (DP (DT (d+1 - 1)))):=by
 have:=u7 (deep:=((d+1:Nat):Int))
 have e:DW ((d+1:Nat):Int) - 1=d+1 - 1:=by unfold DW;split<;>omega
 rw [e] at this;exact this
theorem ec (hd:d+1<=100):AZ enc 350 (λb=>[pv b (d+1)]) (KH (d+1)):=by
 refine ⟨λ{st0 b s st rows K} U h=>?_⟩
 have hB:E8 (He (DP (DT (d+1 - 1)))):=Ua (Hz (FG _))
 have hi:∀{K:Au->St->Prop},Rd.wp (KH (d+1)) s (λv s'=>∀st',Cx st0 b s' st' rows->K (.ret (enc v)) st') (λe s'=>∀st',Cy st0 b s' st' rows->K (.B1 (fault e.1)) st')->
  PC 110 [.ptr b 0,.func 329 [] [],.int .i64 ((d+1:Nat):Int)] st K:=λh=>
  Sl (d:=d+1) rfl (bE hd) (λe=>by omega) hB U.mu U.has (Tv hB U h)
 refine pB Tryz.func350 ?_
 repeat' ((conv=>whnf);(first|refine Bb ?_|refine Bc ?_ ?_|refine Be ?_ ?_|refine hi (Rd.wp_mono ‹_› ?_ ?_)|exact FR|refine Ae ?_)<;>intros)
theorem Z2 {full:Rd Nd} (hf:AZ enc 350 (λb=>[pv b d]) full):AZ enc 387 (λb=>[pv b d,enc n]) (Pv full n):=by
 refine ⟨λ{st0 b s st rows K} U h=>?_⟩
 simp only [Pv,Rd.Aq,Rd.AK,Rd.wp_seq,Rd.wp_ret] at h
 refine pB Tryz.func387 ?_
 repeat' ((conv=>whnf);(first|exact C7|refine Bb ?_|(refine C8 ?_ ?_ ?_;rotate_left)|refine Bc ?_ ?_|refine Be ?_ ?_|refine Ix ?_|refine Mg ?_ ?_|refine La ?_|refine JA ?_ ?_|exact FR|refine Ku ?_|refine Ae ?_|refine Gh.go (by first|exact AZ.q) ?_ ?_|refine Ad [(0,true),(1,true),(2,true),(4,true),(3,false),(5,false),(6,true),(7,false),(8,false)] [2] GE ?_|with_reducible refine WF ?_)<;>intros)
theorem wA {U full:Rd Nd} (ho:AZ enc 370 (λb=>[pv b d]) U) (hf:AZ enc 350 (λb=>[pv b d]) full):AZ enc 353 (λb=>[pv b d]) (gR U full):=by
 refine ⟨λ{st0 b s st rows K} hc h=>?_⟩
 simp only [gR,Rd.wp_seq] at h
 refine pB Tryz.func353 ?_
 repeat' ((conv=>whnf);(first|exact C7|refine Bb ?_|(refine C8 ?_ ?_ ?_;rotate_left)|refine Bc ?_ ?_|refine Be ?_ ?_|exact FR|refine Ae ?_|refine Gh.go (by first|exact AZ.q|exact (oH ho).a|exact (Z2 hf).a) ?_ ?_|refine Ad [(0,true),(1,true),(2,false),(3,false),(4,false)] [1] GE ?_|with_reducible refine WF ?_)<;>intros)
theorem YU {L:E9} {lt U:Nd} (he:AZ enc 355 (λb=>[pv b d,.func 353 [] []]) L.exp):AZ enc 395 (λb=>[pv b d,enc lt,enc U]) (OV L lt U):=by
 refine ⟨λ{st0 b s st rows K} hc h=>?_⟩
 simp only [OV,Rd.wp_seq,Rd.wp_ret] at h
 refine pB Tryz.func395 ?_
 repeat' ((conv=>whnf);(first|exact C7|refine Bb ?_|(refine C8 ?_ ?_ ?_;rotate_left)|refine Bc ?_ ?_|refine Be ?_ ?_|refine JA ?_ ?_|exact FR|refine Ku ?_|refine Ae ?_|refine Gh.go (by first|exact AZ.q) ?_ ?_|refine Ad [(0,true),(1,true),(2,true),(3,true),(4,false),(5,true),(6,false),(7,false)] [3] GE ?_|with_reducible refine WF ?_)<;>intros)
theorem eR {L:E9} (he:AZ enc 355 (λb=>[pv b d,.func 353 [] []]) L.exp):uO 413 (λb v=>[pv b d,v,.str w]) (λl=>PX L l w):=by
 refine ⟨λ{st0 b s st rows K own l} hl hc h=>?_⟩
 simp only [PX,fo,Rd.Aq,Rd.AK,Rd.wp_seq,Rd.wp_ret] at h
 refine pB Tryz.func413 ?_
 have U:=hc.mu
 rcases hc.has with hs|⟨t,u,o1,o2,e0,hs⟩
 .skip
  repeat' ((conv=>whnf);(first|refine Bb ?_|refine Bc ?_ ?_|refine Be ?_ ?_|refine XN ?_ ?_|refine An hs ?_|refine Ix ?_|refine Mg ?_ ?_|refine JA ?_ ?_|exact FR|refine L0 ?_|refine Ae ?_|refine Xm ?_|refine fv ‹_› ‹_› (QZ ‹_›) ?_|refine GL ‹_› U ?_|refine Gh.go (by first|exact AZ.q) ?_ ?_)<;>intros)
 .skip
  repeat' ((conv=>whnf);(first|refine Bb ?_|refine Bc ?_ ?_|refine Be ?_ ?_|refine XN ?_ ?_|refine An hs ?_|refine Ix ?_|refine Mg ?_ ?_|refine JA ?_ ?_|exact FR|refine L0 ?_|refine Ae ?_|refine Xm ?_|refine fv ‹_› ‹_› (QZ ‹_›) ?_|refine GL ‹_› U ?_|refine Gh.go (by first|exact AZ.q) ?_ ?_)<;>intros)
theorem Lo {p:FuncId} {A:Rd Nd} {may:Nd->Bool} (hg:AZ enc g (λb=>[pv b d]) A) (hp:∀{s s' n} {st:St} {K:Au->St->Prop},A.run s=.inr (n,s')->mu s<=100000000->K (.ret (.bool (may n))) st->PC p [enc n] st K):
 AZ enc 341 (λb=>[pv b d,.func g [] [],.func p [] []]) (DX A may):=by
 refine ⟨λ{st0 b s st rows K} hc h=>?_⟩
 simp only [DX,Rd.Aq,Rd.AK,Rd.wp_seq,Rd.wp_ret,Rd.HB] at h
 refine pB Tryz.func341 ?_
 have U:=hc.mu
 rcases hc.has with hs|⟨t,u,o1,o2,e0,hs⟩
 .skip
  repeat' ((conv=>whnf);(first|refine Bb ?_|refine Bc ?_ ?_|refine Be ?_ ?_|refine An hs ?_|refine Cm ?_|exact FR|refine Ae ?_|refine GL ‹_› U ?_|refine Gh.go (by first|exact AZ.q) ?_ ?_|refine hp ‹_› U ?_)<;>intros)
 .skip
  repeat' ((conv=>whnf);(first|refine Bb ?_|refine Bc ?_ ?_|refine Be ?_ ?_|refine An hs ?_|refine Cm ?_|exact FR|refine Ae ?_|refine GL ‹_› U ?_|refine Gh.go (by first|exact AZ.q) ?_ ?_|refine hp ‹_› U ?_)<;>intros)
end
structure Mf (D:Nat) (L:E9):Prop where
 atom:AZ enc 355 (λb=>[pv b D,.func 349 [] []]) L.atom
 exp:AZ enc 355 (λb=>[pv b D,.func 353 [] []]) L.exp
 ops:AZ enc 355 (λb=>[pv b D,.func 310 [] []]) L.ops
 decls:AZ enc 355 (λb=>[pv b D,.func 356 [] []]) L.decls
 stmts:AZ enc 355 (λb=>[pv b D,.func 415 [] []]) L.stmts
 alts:AZ enc 355 (λb=>[pv b D,.func 397 [] []]) L.alts
 Ff:∀{o:Nd} {c:Nat} {st0:St} {b:Nat} {s:Aj} {st:St} {rows:List (AE×List Nd)} {K:Au->St->Prop},st.box c=some (Ax o)->Cx st0 b s st rows->
  Rd.wp (L.Ff o) s (λv s'=>∀st',Cx st0 b s' st' rows->K (.ret (enc v)) st') (λe s'=>∀st',Cy st0 b s' st' rows->K (.B1 (fault e.1)) st')->PC 355 [pv b D,.func 417 [] [.ptr c 0]] st K
 list:∀{o:Nd} {c:Nat} {st0:St} {b:Nat} {s:Aj} {st:St} {rows:List (AE×List Nd)} {K:Au->St->Prop},st.box c=some (Ax o)->Cx st0 b s st rows->
  Rd.wp (L.list o) s (λv s'=>∀st',Cx st0 b s' st' rows->K (.ret (enc v)) st') (λe s'=>∀st',Cy st0 b s' st' rows->K (.B1 (fault e.1)) st')->PC 355 [pv b D,.func 419 [] [.ptr c 0]] st K
theorem yI (h:n.kids.length=0):Hq n=true:=by
 unfold Hq;rw [List.length_eq_zero_iff.1 h];rfl
theorem eu {x:Nd} (h:n.kids[((n.kids.length:Nat) - 1:Int).toNat]? =some x):n.kids.getLast? =some x:=by
 rw [List.getLast?_eq_getElem?,<-h];congr 1;omega
theorem yJ {x:Nd} (h:n.kids[((n.kids.length:Nat) - 1:Int).toNat]? =some x) (k:x.kind=32\/x.kind=33):Hq n=true:=by
 unfold Hq;rw [eu h];simpa using k
theorem yK {x:Nd} (h:n.kids[((n.kids.length:Nat) - 1:Int).toNat]? =some x) (k:¬x.kind=32) (U:¬x.kind=33):¬Hq n=true:=by
 unfold Hq;rw [eu h];simp [k,U]
theorem Bj {m:Rd α} {k:α->Rd β} {s:Aj} {v:β} (h:(Rd.seq m k).run s=.inr (v,s')):∃a s1,m.run s=.inr (a,s1)/\(k a).run s1=.inr (v,s'):=by
 unfold Rd.seq at h
 dsimp only at h
 split at h
 .cases h
 .exact ⟨_,_,‹_›,h⟩
theorem oJ {L:E9} {a b:Nd} {s:Aj} {n:Nat} (h:(PX L [a,b] w).run s=.inr (l,s')) (U:n<=100000000):l.length<=90000000:=by
 unfold PX at h
 obtain ⟨_,_,_,h⟩:=Bj h
 obtain ⟨_,_,_,h⟩:=Bj h
 obtain ⟨_,_,_,h⟩:=Bj h
 cases h
 exact Nat.le_of_ble_eq_true rfl
section
variable {st0 st:St} {b d:Nat} {s:Aj} {rows:List (AE×List Nd)} {K:Au->St->Prop} {L:E9} {atom:Rd Nd}
attribute [local irreducible] Go.Aw.Am
theorem gw (U:Mf d L):AZ enc 396 (λb=>[pv b d]) (M9 L):=by
 refine ⟨λ{st0 b s st rows K} hc h=>?_⟩
 simp only [M9,Rd.wp_seq,Rd.wp_ret] at h
 have hmu:=hc.mu
 refine pB Tryz.func396 ?_
 repeat' ((conv=>whnf);(first|exact C7|refine Bb ?_|(refine C8 ?_ ?_ ?_;rotate_left)|refine Bc ?_ ?_|refine Be ?_ ?_|refine La ?_|refine JA ?_ ?_|exact FR|refine Ku ?_|refine Ae ?_|refine Gh.go (by first|exact AZ.q|exact (U.exp).a) ?_ ?_|refine uO.go (l:=[_,_]) (eR U.exp) (Nat.le_of_ble_eq_true rfl) (Cx.push ‹_› _) ‹_› ?_ ?_|refine uO.go (eR U.exp) (oJ ‹_› hmu) ‹_› ‹_› ?_ ?_|refine Ad [(0,true),(1,true),(3,true),(2,false),(4,false),(5,true),(6,true)] [] GE ?_|refine Ad [(0,true),(1,true),(2,true),(3,false),(4,false),(5,false),(6,false)] [1] GE ?_|with_reducible refine WF ?_)<;>intros)
theorem pQ (hL:Mf d L):AZ enc 398 (λb=>[pv b d]) (Tq L):=by
 refine ⟨λ{st0 b s st rows K} U h=>?_⟩
 simp only [Tq,Rd.wp_seq,Rd.wp_ret,Rd.AK,Rd.Ep] at h
 refine pB Tryz.func398 ?_
 repeat' ((conv=>whnf);first|(refine Bb ?_;intros)|(refine Bc ?_ ?_<;>intro e h)|(refine Be ?_ ?_<;>intro _)|(refine La ?_;intro s1 st1 hz hm U h)|(refine JA ?_ ?_<;>(first|intro n s1 st1 hr hm U h|intro e s1 st1 U h))|refine Cm ?_|exact FR|refine Ku ?_|refine B9 (λ_=>?_)|refine Ae (λe1=>?_)|refine AZ.go hL.stmts U h (λn s1 st1 hr hm U h=>?_) (λe s1 st1 U h=>?_))
 all_goals conv=>whnf
 all_goals first
  |(rw [if_pos (yI AC)] at h;exact BU U.y h)
  |(rw [if_pos (yJ ‹_› AC)] at h;exact BU U.y h)
  |(rw [if_neg (yK ‹_› AC AC)] at h;exact CZ U h rfl)
end
section
variable {st0 st:St} {b d:Nat} {s:Aj} {rows:List (AE×List Nd)} {K:Au->St->Prop} {L:E9} {atom:Rd Nd}
attribute [local irreducible] Go.Aw.Am
theorem mi (U:AZ enc 349 (λb=>[pv b d]) atom):AZ enc 341 (λb=>[pv b d,.func 349 [] [],.func 409 [] []]) (DX atom Kj):=
 Lo U λ_ _ k=>VU k
theorem VB {A:Rd Nd} {p:Nd->Bool} (h:Rd.A6 A):Rd.A6 (DX A p):=Rd.A6.look λs v s' e=>Rd.A6.at (h _) e
theorem il (hL:Mf d L) (ha:AZ enc 349 (λb=>[pv b d]) atom) (hF:Rd.A6 atom):AZ enc 394 (λb=>[pv b d]) (NJ L atom):=by
 refine ⟨λ{st0 b s st rows K} U h=>?_⟩
 simp only [NJ,Rd.wp_seq,Rd.wp_ret] at h
 refine pB Tryz.func394 ?_
 have hmu:=U.mu
 repeat' ((conv=>whnf);(first|refine Bb ?_|refine Bc ?_ ?_|refine Be ?_ ?_|refine Ix ?_|refine La ?_|refine JA ?_ ?_|exact FR|refine Ku ?_|refine L0 ?_|refine B9 ?_|refine Ae ?_)<;>intros)
 refine Ct (λl own=>[(3,.slice 6 (l.map Ax) own)]) (λ_ _=>[]) [1,2] [0,1] (λl own=>(own,l)::rows) (λl=>l.length) .full (Cx.push ‹_› _) ‹_› (by show 1+_<=_;omega) Yl ?_
 intro l s1 st1 own1 U h hl hm1
 simp only [VZ,QK,Rd.Aq,Rd.AK,Rd.wp_seq,Rd.wp_ret,Rd.Bv] at h
 repeat' ((conv=>whnf);(first|refine Bb ?_|refine Bc ?_ ?_|refine Be ?_ ?_|refine Ix ?_|refine La ?_|refine JA ?_ ?_|exact FR|refine Ku ?_|refine L0 ?_|refine B9 ?_|refine Ae ?_|refine AZ.u9 (mi ha) (VB hF) ‹_› ‹_› ?_ ?_|refine Gh.go (by first|exact AZ.q|exact (hL.exp).a) ?_ ?_)<;>intros)
theorem cw (U:Mf d L) (ha:AZ enc 349 (λb=>[pv b d]) atom) (hF:Rd.A6 atom):AZ enc 370 (λb=>[pv b d]) (Ji L atom):=by
 refine ⟨λ{st0 b s st rows K} hc h=>?_⟩
 simp only [Ji,Ot,sK,dC,Rd.Aq,Rd.AK,Rd.wp_seq,Rd.wp_ret] at h
 refine pB Tryz.func370 ?_
 have hmu:=hc.mu
 repeat' ((conv=>whnf);(first|exact C7|refine Bb ?_|(refine C8 ?_ ?_ ?_;rotate_left)|refine Bc ?_ ?_|refine Be ?_ ?_|refine Ix ?_|refine La ?_|refine JA ?_ ?_|exact FR|refine Ku ?_|refine L0 ?_|refine Ae ?_|refine Gh.go (by first|exact AZ.q|exact (il U ha hF).a|exact (gw U).a|exact (pQ U).a|exact (U.decls).a|exact (YU U.exp).a|exact (U.exp).a|exact (U.alts).a) ?_ ?_|refine Cx.Hh (l:=[_,_,_]) (Cx.push ‹_› _) (Nat.le_of_ble_eq_true rfl) ?_|refine Ad [(0,true),(1,true),(2,true),(4,true),(3,false),(5,false),(6,false),(7,false)] [1] GE ?_|refine Ad [(0,true),(1,true),(3,true),(5,true),(6,true),(2,false),(4,false),(7,false),(8,true),(9,true)] [] GE ?_|with_reducible refine WF ?_)<;>intros)
 all_goals refine Ct (λl own=>[(5,.slice 6 (l.map Ax) own)]) (λ_ _=>[]) [1,2] [0,1] (λl own=>(own,l)::rows) (λl=>l.length) .full (Cx.push ‹_› _) ‹_› (by show 1+_<=_;omega) Yl ?_
 all_goals intro l s1 st1 own1 hc h hl hm1
 all_goals simp only [aJ,Rd.Aq,Rd.AK,Rd.wp_seq,Rd.wp_ret,Rd.Bv] at h
 all_goals (repeat' ((conv=>whnf);(first|exact C7|refine Bb ?_|(refine C8 ?_ ?_ ?_;rotate_left)|refine Bc ?_ ?_|refine Be ?_ ?_|refine Ix ?_|refine La ?_|refine JA ?_ ?_|exact FR|refine Ku ?_|refine L0 ?_|refine Ae ?_|refine AZ.u9 ha hF ‹_› ‹_› ?_ ?_|with_reducible refine WF ?_)<;>intros))
end
end Go.Proofs.Z
namespace Go.Aw
open Go
def V.oj (id:Nat):V->V
 | .BO i o=>bif Nat.beq i id then .BE else .BO i o
 |v=>v
noncomputable def JH (id:Nat) (l:List (Nat×V)):List (Nat×V):=List.rec (motive:=λ_=>List (Nat×V)) [] (λp _ U=>(p.1,p.2.oj id)::U) l
noncomputable def Ib (id:Nat) (l:List (Nat×List V)):List (Nat×List V):=List.rec (motive:=λ_=>List (Nat×List V)) [] (λp _ U=>bif Nat.beq p.1 id then U else p::U) l
theorem Vw (id:Nat) (p:Nat×V) (r:List (Nat×V)):JH id (p::r)=(p.1,p.2.oj id)::JH id r:=rfl
theorem Vv (id:Nat) (p:Nat×List V) (r:List (Nat×List V)):Ib id (p::r)=bif Nat.beq p.1 id then Ib id r else p::Ib id r:=rfl
theorem L2 {id t:Nat}:∀{l:List (Nat×V)} {v:V},assoc (JH id l) t=some v->∃u,assoc l t=some u/\v=u.oj id
 |[],v,h=>by cases h
 |p::r,v,h=>by
  rw [Vw,Bk] at h
  rw [Bk]
  cases hb:Nat.beq p.1 t with
  |true=>simp_all
  |false=>rw [hb] at h;simp only [cond_false] at h |-;exact L2 h
theorem Iy {id i:Nat}:∀{l:List (Nat×List V)} {cs:List V},assoc (Ib id l) i=some cs->i≠id/\assoc l i=some cs
 |[],cs,h=>by cases h
 |p::r,cs,h=>by
  rw [Vv] at h
  cases hb:Nat.beq p.1 id with
  |true=>
   rw [hb] at h
   simp only [cond_true] at h
   have hp:=Nat.eq_of_beq_eq_true hb
   obtain ⟨U,h2⟩:=Iy h
   refine ⟨U,?_⟩
   rw [Bk]
   have:Nat.beq p.1 i=false:=by
    rw [hp]
    cases e:Nat.beq id i with
    |true=>simp_all
    |false=>rfl
   simp_all
  |false=>
   rw [hb] at h
   simp only [cond_false] at h
   rw [Bk] at h |-
   cases e:Nat.beq p.1 i with
   |true=>
    grind
   |false=>rw [e] at h;exact Iy h
theorem eY {X:List Deferred->Mem->St->World->Act->World->Prop} {st:St} (t id:Nat) (ht:env.get t=.BO id 0) (hb:assoc env.boxes id=some cs) (hn:NV cs=true)
 (h:∀b,st.fresh b->∀D I0 st0 w0 I β a w,Rel D I0 st0 w0 I β {env with tmps:=(t,.ptr b 0)::JH id env.tmps,boxes:=Ib id env.boxes} (st.Aa b cs) a w->X D I0 st0 w0 a w):
 ∀D I0 st0 w0 I β a w,Rel D I0 st0 w0 I β env st a w->X D I0 st0 w0 a w:=λD I0 st0 w0 I β a w U=>by
 obtain ⟨b,hβ,hl⟩:=U.f.box id cs hb
 obtain ⟨s1,s2,s3,s4,s5,s6⟩:=U.f.sep id b hβ
 have h1:=U.f.get t
 rw [ht] at h1
 obtain ⟨b',hβ',h1⟩:∃b,β id=some b/\_:=h1
 obtain rfl:b'=b:=Option.some.inj (hβ'.symm.trans hβ)
 refine h b' ⟨s5,s6⟩ D I0 st0 w0 I (λi=>if i=id then none else β i) a w ⟨⟨U.fr.os,U.fr.tape,U.fr.output,U.fr.size,U.fr.IL,U.fr.le,U.fr.new,U.fr.LU,λx hx=>?_⟩,⟨U.s.cell,U.s.shape,?_,?_,?_,U.s.T0⟩,⟨U.f.size,?_,?_,?_,?_,?_,U.f.defers⟩⟩
 .by_cases e:x=b'
  .omega
  .refine U.fr.LQ x (hx.imp (λhx=>?_) (λhx=>hx))
   simp only [St.Aa] at hx
   simp_all
 .intro x us hx
  by_cases e:x=b'
  .subst e
   simp only [St.Aa,if_true,Option.some.injEq] at hx
   subst hx
   exact hl.cells hn
  .simp only [St.Aa] at hx
   rw [if_neg e] at hx
   exact U.s.box x us hx
 .intro x hx
  by_cases e:x=b'
  .subst e;exact ⟨s3,s6,s4⟩
  .simp only [St.Aa] at hx
   rw [if_neg e] at hx
   exact U.s.Iz x hx
 .exact U.s.hw
 .intro t' v e
  rw [Bk] at e
  cases hbq:Nat.beq t t' with
  |true=>
   rw [hbq] at e
   have:=Nat.eq_of_beq_eq_true hbq
   subst this
   simp only [cond_true,Option.some.injEq] at e
   subst e
   refine A2.of ?_
   simp only [AM]
   exact h1
  |false=>
   rw [hbq] at e
   simp only [cond_false] at e
   obtain ⟨u,hu,rfl⟩:=L2 e
   have hk:=U.f.tmps t' u hu
   cases u with
   |BO i o=>
    show A2 I _ (bif Nat.beq i id then .BE else .BO i o) _
    cases hi:Nat.beq i id with
    |true=>exact A2.of (I:=I) (β:=_) (v:=.BE) trivial
    |false=>
     obtain ⟨b2,g1,g2⟩:∃b,β i=some b/\_:=hk
     refine ⟨b2,?_,g2⟩
     have:i≠id:=λx=>by simp_all
     simp_all
   |_=>exact hk
 .intro i us e
  obtain ⟨h2,h3⟩:=Iy e
  obtain ⟨b2,g1,g2⟩:=U.f.box i us h3
  simp_all
 .intro i x e
  split at e
  .cases e
  .exact U.f.Bs i x e
 .intro i j x e1 e2
  split at e1
  .cases e1
  .split at e2
   .cases e2
   .exact U.f.inj i j x e1 e2
 .intro i x e
  split at e
  .cases e
  .rename_i hi
   obtain ⟨g1,g2,g3,g4,g5,g6⟩:=U.f.sep i x e
   have hx:x≠b':=λhx=>by subst hx;exact hi (U.f.inj i id x e hβ)
   exact ⟨g1,g2,g3,g4,by simp only [St.Aa];simp_all,g6⟩
theorem Me {P:Program} {st:St} (t id:Nat) (U:env.get t=.BO id 0) (hb:assoc env.boxes id=some cs) (hn:NV cs=true)
 (h:∀b,st.fresh b->AW P c Q {env with tmps:=(t,.ptr b 0)::JH id env.tmps,boxes:=Ib id env.boxes} (st.Aa b cs)):AW P c Q env st:=
 eY (X:=λD I0 st0 w0 a w=>c.wp P (Ca D I0 st0 w0 Q) a w) t id U hb hn h
def ki (Q:Env->St->Prop) (env:Env) (st:St):Prop:=∀D I0 st0 w0 I β a w,Rel D I0 st0 w0 I β env st a w->∃I β env' st',Rel D I0 st0 w0 I β env' st' a w/\Q env' st'
theorem ki.here {Q:Env->St->Prop} {st:St} (h:Q env st):ki Q env st:=λD I0 st0 w0 I β a w U=>⟨I,β,env,st,U,h⟩
theorem ki.pub {Q:Env->St->Prop} {st:St} (t id:Nat) (U:env.get t=.BO id 0) (hb:assoc env.boxes id=some cs) (hn:NV cs=true)
 (h:∀b,st.fresh b->ki Q {env with tmps:=(t,.ptr b 0)::JH id env.tmps,boxes:=Ib id env.boxes} (st.Aa b cs)):ki Q env st:=
 eY (X:=λD I0 st0 w0 a w=>∃I β env' st',Rel D I0 st0 w0 I β env' st' a w/\Q env' st') t id U hb hn h
theorem ki.le {Q:Env->St->Prop} {env env':Env} {st st':St} (U:env'.E4 env) (hs:St.le st' st) (h:ki Q env' st'):ki Q env st:=λD I0 st0 w0 I β a w hr=>h _ _ _ _ _ _ _ _ ((hr.Hs hs).Ig (Env.Ip U))
end Go.Aw
namespace Go.Proofs.Z
open Go Go.Aw
section
variable {st0 st:St} {b d:Nat} {s:Aj} {rows:List (AE×List Nd)} {K:Au->St->Prop} {L:E9} {atom:Rd Nd}
attribute [local irreducible] Go.Aw.Am
theorem w4 {o:Nd} {P:Prop} {Q:Nd->Aj->Prop} {E:Er->Aj->Prop} (U:Cx st0 b s st rows)
 (h:if Pg (Ac s).1=true then (if Bq (Ac s).2.1 15 [41]=true then Rd.wp AR s (λp s'=>Rd.wp AR s' (λc s'=>Q (Ar 3 [o,p,c]) s') E) E else P) else P)
 (k1:∀n s' st',mu s'<=mu s->Cx st0 b s' st' rows->Q n s'->K (.ret (.Bp [enc n,.bool true])) st') (k2:∀st',Cx st0 b s st' rows->P->K (.ret (.Bp [enc Gg,.bool false])) st'):
 PC 416 [pv b d,enc o] st K:=by
 refine pB Tryz.func416 ?_
 have hmu:=U.mu
 have hc1:=U.look
 cases hy:Pg (Ac s).1 with
 |false=>
  rw [if_neg (by rw [hy];decide)] at h
  repeat' ((conv=>whnf);first|exact C7|(refine Bb ?_;intros)|(refine C8 ?_ ?_ ?_;rotate_left)|(refine Bc ?_ ?_<;>intro e h)|(refine Be ?_ ?_<;>intro _)|refine S1 U (λst1 U=>?_)|refine Jt ?_|with_reducible refine WF ?_)
  all_goals exact AY rfl (k2 st1 U h)
 |true=>
  rw [if_pos hy] at h
  have hkd:=Ts hy
  cases hi:Bq (Ac s).2.1 15 [41] with
  |true=>
   rw [if_pos hi] at h
   repeat' ((conv=>whnf);first|exact C7|(refine Bb ?_;intros)|(refine C8 ?_ ?_ ?_;rotate_left)|(refine Bc ?_ ?_<;>intro e h)|(refine Be ?_ ?_<;>intro _)|refine An (St.Ah ..) ?_|refine G8 U.has U.hb ?_|refine Jt ?_|refine Oh hc1 h hkd (λs1 st1 hz hm U h=>?_)|refine Xc U (hz ▸ hi) (λst1 U=>?_)|refine Og U h (hz ▸ hi) Do (λs2 st2 hz2 hm2 U h=>?_)|refine WU ?_|refine Ad [(0,true),(1,true),(2,true),(3,true),(4,false),(5,true),(6,false),(7,false),(8,true)] [2] GE ?_|with_reducible refine WF ?_)
   all_goals exact AY rfl (k1 _ s2 st2 AC U h)
  |false=>
   rw [if_neg (by rw [hi];decide)] at h
   repeat' ((conv=>whnf);first|exact C7|(refine Bb ?_;intros)|(refine C8 ?_ ?_ ?_;rotate_left)|(refine Bc ?_ ?_<;>intro e h)|(refine Be ?_ ?_<;>intro _)|refine An (St.Ah ..) ?_|refine G8 U.has U.hb ?_|refine Jt ?_|refine xR hc1 hkd (λs1 st1 hz hm U=>?_)|refine cG U (hz ▸ hi) (λst1 U=>?_)|refine GL U hmu (λst2 U=>?_)|with_reducible refine WF ?_)
   all_goals exact AY rfl (k2 st2 U h)
theorem o8 (hL:Mf d L):AZ enc 400 (λb=>[pv b d]) (S7 L):=by
 refine ⟨λ{st0 b s st rows K} hc h=>?_⟩
 simp only [S7,YA,Xh,S6,Rd.Aq,Rd.AK,Rd.wp_seq,Rd.wp_ret] at h
 refine AO Ab [] Tryz.func400 rfl Do rfl ?_
 have hmu:=hc.mu
 refine Ag (Ai Ab ?_)
 repeat' ((conv=>whnf);(first|exact C7|refine Bb ?_|(refine C8 ?_ ?_ ?_;rotate_left)|refine Bc ?_ ?_|refine Be ?_ ?_|with_reducible refine WF ?_)<;>intros)
 refine Ag (Ai Ab ?_)
 repeat' ((conv=>whnf);(first|exact C7|refine Bb ?_|(refine C8 ?_ ?_ ?_;rotate_left)|refine Bc ?_ ?_|refine Be ?_ ?_|refine Hu.go ‹_› ‹_› ?_ ?_|exact BU ‹_› ‹_›|with_reducible refine WF ?_)<;>intros)
 refine Ag (Ai Ab ?_)
 repeat' ((conv=>whnf);first|exact C7|(refine Bb ?_;intros)|(refine C8 ?_ ?_ ?_;rotate_left)|(refine Bc ?_ ?_<;>intro e h)|(refine Be ?_ ?_<;>intro _)|(refine Ix ?_;intro U hc)|(refine Mg ?_ ?_<;>intro U hc e h)|(refine La ?_;intro s1 U hz hm hc h)|(refine JA ?_ ?_<;>(first|intro n s1 U hr hm hc h|intro e s1 U hc h))|exact FR|refine Ku ?_|(refine L0 ?_;intro own1 U hc)|refine Ae (λe1=>?_)|with_reducible refine WF ?_)
 all_goals first
  |(refine Ct (λl own=>[(4,.slice 6 (l.map Ax) own)]) (λ_ _=>[]) [1,2] [0,1] (λl own=>(own,l)::rows) (λl=>l.length) .full (hc.push _) h (by show 1+_<=_;omega) Yl ?_
    intro l s1 U own1 hc h hl hm1
    simp only [Vn,Rd.Aq,Rd.AK,Rd.wp_seq,Rd.wp_ret,Rd.Bv] at h
    repeat' ((conv=>whnf);(first|exact C7|refine Bb ?_|(refine C8 ?_ ?_ ?_;rotate_left)|refine Bc ?_ ?_|refine Be ?_ ?_|refine Ix ?_|refine Mg ?_ ?_|refine La ?_|refine JA ?_ ?_|exact FR|refine Ku ?_|refine L0 ?_|refine Ae ?_|with_reducible refine WF ?_)<;>intros))
  |skip
 refine Ag (Ai Ab ?_)
 repeat' ((conv=>whnf);(first|exact C7|refine Bb ?_|(refine C8 ?_ ?_ ?_;rotate_left)|refine Bc ?_ ?_|refine Be ?_ ?_|refine w4 (Q:=λn s'=>∀st',Cx st0 b s' st' rows->K (.ret (enc n)) st') ‹_› ‹_› ?_ ?_|refine Ix ?_|refine Mg ?_ ?_|refine La ?_|refine JA ?_ ?_|exact FR|refine Ku ?_|refine L0 ?_|refine Ae ?_|with_reducible refine WF ?_)<;>intros)
 refine Ag (Ai Ab ?_)
 repeat' ((conv=>whnf);first|exact C7|(refine Bb ?_;intros)|(refine C8 ?_ ?_ ?_;rotate_left)|(refine Bc ?_ ?_<;>intro e h)|(refine Be ?_ ?_<;>intro _)|(refine Ix ?_;intro U hc)|(refine Mg ?_ ?_<;>intro U hc e h)|(refine La ?_;intro s1 U hz hm hc h)|(refine JA ?_ ?_<;>(first|intro n s1 U hr hm hc h|intro e s1 U hc h))|exact FR|refine Ku ?_|(refine L0 ?_;intro own1 U hc)|refine Ae (λe1=>?_)|refine QT.go hc h (λn s1 U hr hm hc h=>?_) (λe s1 U hc h=>?_)|refine AZ.go hL.ops hc h (λn s1 U hr hm hc h=>?_) (λe s1 U hc h=>?_)|refine Ad [(0,true),(1,true),(2,true),(4,true),(5,true),(3,false),(6,false),(7,true),(8,false),(9,false)] [1] GE ?_|with_reducible refine WF ?_)
 all_goals refine Me 3 2 rfl rfl rfl (λc fc=>?_)
 all_goals have hne:=hc.VL fc
 all_goals refine Ai Ab ?_
 all_goals (repeat' ((conv=>whnf);first|exact C7|(refine Bb ?_;intros)|(refine C8 ?_ ?_ ?_;rotate_left)|(refine Bc ?_ ?_<;>intro e h)|(refine Be ?_ ?_<;>intro _)|refine hL.Ff (St.Ah ..) (hc.Xd fc) (Rd.wp_mono h (λv s1 hr h U hc=>?_) (λe s1 hr h U hc=>?_))|exact CZ (hc.unbox hne) h rfl|exact BU (hc.unbox hne) h|with_reducible refine WF ?_))
end
section
variable {st0 st:St} {b d:Nat} {s:Aj} {rows:List (AE×List Nd)} {K:Au->St->Prop} {L:E9} {atom:Rd Nd}
attribute [local irreducible] Go.Aw.Am
theorem jt (hL:Mf d L):AZ enc 401 (λb=>[pv b d]) (Oc L):=by
 refine ⟨λ{st0 b s st rows K} hc h=>?_⟩
 simp only [Oc,Rd.Aq,Rd.AK,Rd.wp_seq,Rd.wp_ret] at h
 refine AO Ab [] Tryz.func401 rfl Do rfl ?_
 refine Ag (Ai Ab ?_)
 repeat' ((conv=>whnf);(first|exact C7|refine Bb ?_|(refine C8 ?_ ?_ ?_;rotate_left)|refine Bc ?_ ?_|refine Be ?_ ?_|with_reducible refine WF ?_)<;>intros)
 refine Ag (Ai Ab ?_)
 repeat' ((conv=>whnf);(first|exact C7|refine Bb ?_|(refine C8 ?_ ?_ ?_;rotate_left)|refine Bc ?_ ?_|refine Be ?_ ?_|refine Hu.go ‹_› ‹_› ?_ ?_|exact BU ‹_› ‹_›|with_reducible refine WF ?_)<;>intros)
 refine Ag (Ai Ab ?_)
 repeat' ((conv=>whnf);first|exact C7|(refine Bb ?_;intros)|(refine C8 ?_ ?_ ?_;rotate_left)|(refine Bc ?_ ?_<;>intro e h)|(refine Be ?_ ?_<;>intro _)|(refine Ix ?_;intro U hc)|(refine Mg ?_ ?_<;>intro U hc e h)|(refine La ?_;intro s1 U hz hm hc h)|(refine JA ?_ ?_<;>(first|intro n s1 U hr hm hc h|intro e s1 U hc h))|exact FR|refine Ku ?_|refine Ae (λe1=>?_)|refine Ad [(0,true),(1,true),(2,true),(3,false),(4,true),(5,false),(6,false)] [1] GE ?_|with_reducible refine WF ?_)
 all_goals refine Me 3 2 rfl rfl rfl (λc fc=>?_)
 all_goals have hne:=hc.VL fc
 all_goals refine Ai Ab ?_
 all_goals (repeat' ((conv=>whnf);first|exact C7|(refine Bb ?_;intros)|(refine C8 ?_ ?_ ?_;rotate_left)|(refine Bc ?_ ?_<;>intro e h)|(refine Be ?_ ?_<;>intro _)|refine hL.list (St.Ah ..) (hc.Xd fc) (Rd.wp_mono h (λv s1 hr h U hc=>?_) (λe s1 hr h U hc=>?_))|exact CZ (hc.unbox hne) h rfl|exact BU (hc.unbox hne) h|with_reducible refine WF ?_))
theorem qR (U:Mf d L):AZ enc 373 (λb=>[pv b d]) (Ub L):=by
 refine ⟨λ{st0 b s st rows K} hc h=>?_⟩
 simp only [Ub,Rd.Aq,Rd.AK,Rd.wp_seq,Rd.wp_ret] at h
 refine pB Tryz.func373 ?_
 repeat' ((conv=>whnf);(first|exact C7|refine Bb ?_|(refine C8 ?_ ?_ ?_;rotate_left)|refine Bc ?_ ?_|refine Be ?_ ?_|refine Ix ?_|refine Mg ?_ ?_|refine La ?_|refine JA ?_ ?_|refine kz ?_|exact FR|refine Ku ?_|refine Ae ?_|refine Gh.go (by first|exact AZ.q|exact (o8 U).a|exact (jt U).a|exact (U.atom).a) ?_ ?_|refine Ad [(0,true),(1,true),(3,true),(2,false),(4,false),(5,true),(6,false),(7,false)] [1] GE ?_|refine Ad [(0,true),(1,true),(2,true),(4,true),(3,false),(5,false),(6,true),(7,false),(8,false)] [1] GE ?_|with_reducible refine WF ?_)<;>intros)
theorem mU:AZ enc 151 (λb=>[.ptr b 0,.slice 1 [[.int .i64 1],[.int .i64 3]] .full]) (Dl [1,3]):=El (ks:=[1,3]) Do
theorem iW (hL:Mf d L):AZ enc 374 (λb=>[pv b d,enc n]) (LA L n):=by
 refine ⟨λ{st0 b s st rows K} U h=>?_⟩
 simp only [LA,Rd.Aq,Rd.AK,Rd.wp_seq,Rd.wp_ret] at h
 refine pB Tryz.func374 ?_
 have hmu:=U.mu
 repeat' ((conv=>whnf);(first|exact C7|refine Bb ?_|(refine C8 ?_ ?_ ?_;rotate_left)|refine Bc ?_ ?_|refine Be ?_ ?_|refine Ix ?_|refine Mg ?_ ?_|refine La ?_|refine JA ?_ ?_|exact FR|refine Ku ?_|refine L0 ?_|refine B9 ?_|refine Ae ?_|refine Ad [(0,true),(1,true),(2,true),(3,false),(4,true),(5,true)] [] GE ?_|refine Ad [(0,true),(1,true),(2,true),(3,true),(5,true),(4,false),(6,false),(7,true),(8,false),(9,true),(10,false),(11,true)] [] GE ?_|with_reducible refine WF ?_)<;>intros)
 refine Ct (λl own=>[(5,.slice 6 (l.map Ax) own)]) (λ_ _=>[]) [2,4] [0,2] (λl own=>(own,l)::rows) (λl=>l.length) .full (Cx.push ‹_› _) ‹_› (by show 2+_<=_;omega) Yl ?_
 intro l s1 st1 own1 U h hl hm1
 simp only [Xe,VD,Rd.Aq,Rd.AK,Rd.wp_seq,Rd.wp_ret,Rd.Bv] at h
 repeat' ((conv=>whnf);(first|exact C7|refine Bb ?_|(refine C8 ?_ ?_ ?_;rotate_left)|refine Bc ?_ ?_|refine Be ?_ ?_|refine Ix ?_|refine Mg ?_ ?_|refine La ?_|refine JA ?_ ?_|exact FR|refine Ku ?_|refine L0 ?_|refine B9 ?_|refine Ae ?_|refine AZ.u9 mU (bg rfl) ‹_› ‹_› ?_ ?_|refine Gh.go (by first|exact AZ.q|exact (hL.exp).a) ?_ ?_|refine Ad [(0,true),(1,true),(2,true),(3,false),(4,true),(5,true)] [] GE ?_|refine Ad [(0,true),(1,true),(2,true),(3,true),(5,true),(4,false),(6,false),(7,true),(8,false),(9,true),(10,false),(11,true)] [] GE ?_|with_reducible refine WF ?_)<;>intros)
 all_goals conv=>whnf
end
theorem bb {L:E9}:Rd.A6 (Ub L):=Rd.A6.look λs v s' h=>by
 split at h
 .rename_i ha
  have hk:=(Lc ha).2
  have U:∀{v:Nd} {s':Aj},AR.run s=.inr (v,s')->mu s'<mu s:=λe=>HZ e hk
  split at h
  .split at h
   .exact Rd.A6.at (λ_ _ e=>U e) h
   .exact Rd.A6.at (λ_ _ e=>U e) h
  .split at h
   .exact Rd.A6.at (λ_ _ e=>U e) h
   .split at h
    .exact Rd.A6.at (λ_ _ e=>U e) h
    .exact Rd.A6.at (λ_ _ e=>U e) h
 .cases h
theorem Yq {L:E9}:Rd.A6 (MX L):=Rd.A6.seq bb
theorem VC {L:E9} {s:Aj} {v:Nd} (h:(LA L n).run s=.inr (v,s')) (e:Bq s 15 [123]=true):mu s'<mu s:=by
 refine Rd.A6.at (λv s' U=>HZ U λz=>?_) h
 unfold Bq at e
 simp only [Bool.and_eq_true,beq_iff_eq] at e
 rw [z] at e;exact absurd e.1 Do
theorem UK {l':List Nd} {s:Aj} (h:(Gx stmt l).run s=.inr (l',s')):l'.length+4*mu s'<=l.length+2+4*mu s:=by
 unfold Gx at h
 obtain ⟨b,s1,U,h⟩:=Bj h
 obtain ⟨t,s2,h2,h⟩:=Bj h
 have e1:=(Bx 10 [124]).le _ _ _ U
 have e2:=stmt.le _ _ _ h2
 have:=Rd.nK (body:=O3 stmt) (w:=List.length) (w':=List.length) (c:=0) (λx s x' s' h=>by
  unfold O3 at h
  replace h:(if Bq s 15 [44]=true then Rd.seq AR λc=>Rd.seq stmt λt=>.ret (.inl (x++[c]++[t])) else .ret (.inr x):Rd (Sum (List Nd) (List Nd))).run s=.inr (.inl x',s'):=h
  split at h
  .obtain ⟨_,_,_,h⟩:=Bj h
   obtain ⟨_,_,_,h⟩:=Bj h
   cases h
   simp
  .cases h) (λx s y s' h=>by
  unfold O3 at h
  replace h:(if Bq s 15 [44]=true then Rd.seq AR λc=>Rd.seq stmt λt=>.ret (.inl (x++[c]++[t])) else .ret (.inr x):Rd (Sum (List Nd) (List Nd))).run s=.inr (.inr y,s'):=h
  split at h
  .obtain ⟨_,_,_,h⟩:=Bj h
   obtain ⟨_,_,_,h⟩:=Bj h
   cases h
  .cases h;exact Nat.le_refl _) _ _ _ _ h
 simp only [List.length_append,List.length_cons,List.length_nil] at this
 omega
theorem yk {c x y:Nat} (h:l.length+4*y<=c+2+4*x) (U:c<=500000000) (hx:x<=100000000):l.length+1<=1000000000:=AC
section
variable {st0 st:St} {b d:Nat} {s:Aj} {rows:List (AE×List Nd)} {K:Au->St->Prop} {L:E9}
attribute [local irreducible] Go.Aw.Am
theorem qP (hL:Mf d L):AZ enc 349 (λb=>[pv b d]) (MX L):=by
 refine ⟨λ{st0 b s st rows K} hc h=>?_⟩
 simp only [MX,Rd.wp_seq] at h
 refine pB Tryz.func349 ?_
 have hmu:=hc.mu
 repeat' ((conv=>whnf);first|(refine Bb ?_;intros)|(refine Bc ?_ ?_<;>intro e h)|(refine Be ?_ ?_<;>intro _)|refine AZ.go (qR hL) hc h (λn s1 U hr hm hc h=>?_) (λe s1 U hc h=>?_)|exact BU hc h)
 refine Ct (λn own=>[]) (λn own=>[(2,Ax n)]) [1,2,3] [0,1] (λl own=>rows) (λ_=>0) .full ‹_› ‹_› i6 Yl ?_
 intro n s1 U own1 hc h hl hm1
 simp only [kM,Rd.Aq,Rd.AK,Rd.wp_seq,Rd.wp_ret,Rd.Bv] at h
 repeat' ((conv=>whnf);first|(refine Bb ?_;intros)|(refine Bc ?_ ?_<;>intro e h)|(refine Be ?_ ?_<;>intro _)|(refine Ix ?_;intro U hc)|(refine Mg ?_ ?_<;>intro U hc e h)|exact FR|refine Ae (λe1=>?_)|refine AZ.go (iW hL) hc h (λn s1 U hr hm hc h=>?_) (λe s1 U hc h=>?_))
 all_goals have hlt:=VC ‹_› ‹_›
 all_goals conv=>whnf
 all_goals exact ⟨⟨_,_,_,.full⟩,⟨hc,Rd.Fc h hlt,So,So⟩,hlt,Yl,St.le_refl _⟩
theorem Zk (hs:AZ enc 388 (λb=>[pv b d]) stmt):uO 354 (λb v=>[pv b d,v]) (λl=>Gx stmt l):=by
 refine ⟨λ{st0 b s st rows K own l} hl U h=>?_⟩
 simp only [Gx,Rd.wp_seq] at h
 refine pB Tryz.func354 ?_
 have hmu:=U.mu
 repeat' ((conv=>whnf);(first|refine Bb ?_|refine Bc ?_ ?_|refine Be ?_ ?_|refine XN ?_ ?_|refine Ix ?_|refine Mg ?_ ?_|refine La ?_|refine JA ?_ ?_|exact FR|refine L0 ?_|refine Ae ?_|refine Gh.go (by first|exact AZ.q) ?_ ?_)<;>intros)
 refine Ct (λl own=>[(1,.slice 6 (l.map Ax) own)]) (λ_ _=>[]) [2] [0] (λl own=>(own,l)::rows) (λl=>l.length) _ ‹_› ‹_› RK Yl ?_
 intro l s1 st1 own1 U h hl hm1
 simp only [O3,Rd.Aq,Rd.AK,Rd.wp_seq,Rd.wp_ret,Rd.Bv] at h
 repeat' ((conv=>whnf);(first|refine Bb ?_|refine Bc ?_ ?_|refine Be ?_ ?_|refine XN ?_ ?_|refine Ix ?_|refine Mg ?_ ?_|refine La ?_|refine JA ?_ ?_|exact FR|refine L0 ?_|refine Ae ?_|refine Gh.go (by first|exact AZ.q) ?_ ?_)<;>intros)
theorem sR {exp:Rd Nd} {o:Nd} (he:AZ enc 353 (λb=>[pv b d]) exp) (hs:AZ enc 388 (λb=>[pv b d]) stmt):AZ enc 420 (λb=>[pv b d,enc o]) (SE exp stmt o):=by
 refine ⟨λ{st0 b s st rows K} U h=>?_⟩
 simp only [SE,Rd.Aq,Rd.AK,Rd.wp_seq,Rd.wp_ret] at h
 refine pB Tryz.func420 ?_
 have hmu:=U.mu
 repeat' ((conv=>whnf);(first|exact C7|refine Bb ?_|(refine C8 ?_ ?_ ?_;rotate_left)|refine Bc ?_ ?_|refine Be ?_ ?_|refine Ix ?_|refine Mg ?_ ?_|refine La ?_|refine JA ?_ ?_|exact FR|refine Ku ?_|refine L0 ?_|refine B9 ?_|refine Ae ?_|refine Gh.go (by first|exact AZ.q) ?_ ?_|refine Cx.Hh ‹_› (yk (UK ‹_›) (Nat.le_of_ble_eq_true rfl) AC) ?_|refine uO.go (l:=[_,_]) (Zk hs) (Nat.le_of_ble_eq_true rfl) (Cx.push ‹_› _) ‹_› ?_ ?_|refine Ad [(0,true),(1,true),(2,false),(3,true),(4,true)] [] GE ?_|refine Ad [(0,true),(1,true),(3,true),(4,true),(2,false),(5,false),(6,true),(7,false),(8,false),(9,false)] [2] GE ?_|with_reducible refine WF ?_)<;>intros)
 refine Ct (λl own=>[(5,.slice 6 (l.map Ax) own)]) (λ_ _=>[]) [2,4,6] [0,2] (λl own=>(own,l)::rows) (λl=>l.length) .full (Cx.push ‹_› _) ‹_› (by show 2+_<=_;omega) Yl ?_
 intro l s1 st1 own1 U h hl hm1
 simp only [nH,ez,Rd.Aq,Rd.AK,Rd.wp_seq,Rd.wp_ret,Rd.Bv] at h
 repeat' ((conv=>whnf);(first|exact C7|refine Bb ?_|(refine C8 ?_ ?_ ?_;rotate_left)|refine Bc ?_ ?_|refine Be ?_ ?_|refine Ix ?_|refine Mg ?_ ?_|refine La ?_|refine JA ?_ ?_|exact FR|refine Ku ?_|refine L0 ?_|refine B9 ?_|refine Ae ?_|refine Gh.go (by first|exact AZ.q) ?_ ?_|with_reducible refine WF ?_)<;>intros)
end
section
variable {st0 st:St} {b d:Nat} {s:Aj} {rows:List (AE×List Nd)} {K:Au->St->Prop} {L:E9}
attribute [local irreducible] Go.Aw.Am
theorem V8 (k:K (.B1 (fault Ie.1)) st):PC 314 [pv b d,.bool false] st K:=by
 refine pB Tryz.func314 ?_
 repeat' ((conv=>whnf);(first|refine Bb ?_|refine Bc ?_ ?_|refine Be ?_ ?_|refine Cm ?_)<;>intros)
 all_goals exact ⟨_,_,.inl rfl,St.le_refl _,k⟩
theorem V9 (k:K (.ret (.Bp [])) st):PC 314 [pv b d,.bool true] st K:=by
 refine pB Tryz.func314 ?_
 repeat' ((conv=>whnf);(first|refine Bb ?_|refine Bc ?_ ?_|refine Be ?_ ?_|refine Cm ?_)<;>intros)
 all_goals exact ⟨_,_,.inl rfl,St.le_refl _,k⟩
theorem ue (U:Mf d L) {exp:Rd Nd} (he:AZ enc 353 (λb=>[pv b d]) exp):AZ enc 388 (λb=>[pv b d]) (UT L exp):=by
 refine ⟨λ{st0 b s st rows K} hc h=>?_⟩
 simp only [UT,X6,Rd.Aq,Rd.AK,Rd.wp_seq,Rd.wp_ret,Rd.Ep] at h
 refine pB Tryz.func388 ?_
 repeat' ((conv=>whnf);(first|exact C7|refine Bb ?_|(refine C8 ?_ ?_ ?_;rotate_left)|refine Bc ?_ ?_|refine Be ?_ ?_|refine Ix ?_|refine Mg ?_ ?_|refine La ?_|refine JA ?_ ?_|exact FR|refine Ku ?_|refine Ae ?_|refine Gh.go (by first|exact AZ.q|exact (U.decls).a|exact (YU U.exp).a) ?_ ?_|refine VU ?_|refine V9 ?_|refine V8 ?_|refine Ad [(0,true),(1,true),(2,false),(3,false)] [] GE ?_|refine Ad [(0,true),(1,true),(2,true),(4,true),(3,false),(5,false),(6,true),(7,false),(8,false)] [1] GE ?_|with_reducible refine WF ?_)<;>intros)
 all_goals conv=>whnf
 all_goals exact BU hc.y h
end
theorem Yr:Rd.A6 (Gx stmt l):=Rd.A6.seq (Mq Do)
theorem Rk {x:Nd} (h:l[i.toNat]? =some x) (U:0<=i) (k:K (Ax x)):0<=i/\∃e,(l.map Ax)[i.toNat]? =some e/\K e:=⟨U,Ax x,by rw [List.getElem?_map,h];rfl,k⟩
section
variable {st0 st:St} {b d:Nat} {s:Aj} {rows:List (AE×List Nd)} {K:Au->St->Prop} {L:E9}
attribute [local irreducible] Go.Aw.Am
theorem Lz (hs:AZ enc 388 (λb=>[pv b d]) stmt) {Q:List Nd->Aj->Prop} {E:Er->Aj->Prop} (hc:Cx st0 b s st rows) (h:Rd.wp (Gx stmt []) s Q E)
 (k:∀l' U s' st',l'.length<=400000002->mu s'<mu s->Cx st0 b s' st' ((U,l')::rows)->Q l' s'->K (.ret (.slice 6 (l'.map Ax) U)) st') (kb:∀e s' st',Cy st0 b s' st' rows->E e s'->K (.B1 (fault e.1)) st'):PC 354 [pv b d,.slice 6 [] .full] st K:=
 uO.go (l:=[]) (own:=.full) (Zk hs) (Nat.le_of_ble_eq_true rfl) (hc.push _) h (λl' U s' st' hr hm hc' q=>k l' U s' st' (by have:=UK hr;have:=hc.mu;simp only [List.length_nil] at *;omega) (Yr _ _ _ hr) hc' q) kb
theorem o0 (hL:Mf d L) {exp:Rd Nd} (he:AZ enc 353 (λb=>[pv b d]) exp) (hs:AZ enc 388 (λb=>[pv b d]) stmt):AZ enc 316 (λb=>[pv b d,.str m]) (cL L exp stmt m):=by
 refine ⟨λ{st0 b s st rows K} hc h=>?_⟩
 simp only [cL,oZ,Rd.Aq,Rd.AK,Rd.wp_seq,Rd.wp_ret] at h
 have hmu:=hc.mu
 refine pB Tryz.func316 ?_
 repeat' ((conv=>whnf);first|exact C7|(refine Bb ?_;intros)|(refine C8 ?_ ?_ ?_;rotate_left)|(refine Bc ?_ ?_<;>intro e h)|(refine Be ?_ ?_<;>intro _)|refine XN (λ_=>?_) ?_|(refine Ix ?_;intro U hc)|(refine Mg ?_ ?_<;>intro U hc e h)|(refine La ?_;intro s1 U hz hm hc h)|(refine JA ?_ ?_<;>(first|intro n s1 U hr hm hc h|intro e s1 U hc h))|(refine kz ?_;intro e s1 U hc h)|exact FR|refine Ku ?_|(refine L0 ?_;intro own1 U hc)|refine B9 (λ_=>?_)|refine Ae (λe1=>?_)|refine AZ.go he hc h (λn s1 U hr hm hc h=>?_) (λe s1 U hc h=>?_)|refine Cx.vU (l:=[]) (hc.push []) (Nat.le_of_ble_eq_true rfl) (λown1 U hc=>?_)|refine Ad [(0,true),(1,true),(2,true),(4,true),(3,false),(5,false),(6,true),(7,false),(8,true)] [] GE ?_|refine Ad [(0,true),(1,true),(2,true),(4,true),(3,false),(5,false),(6,true),(7,false),(8,true),(9,false),(10,true)] [] GE ?_|with_reducible refine WF ?_)
 .refine Ct (λl own=>[(5,.slice 6 (l.map Ax) own)]) (λ_ _=>[]) [1,2,4] [0,1] (λl own=>(own,l)::rows) (λl=>l.length) _ hc h RK Yl ?_
  intro l s1 U own1 hc h hl hm1
  have hl2:l.length+1<=1000000000:=AC
  simp only [VP,Sg,Rd.Aq,Rd.AK,Rd.wp_seq,Rd.wp_ret,Rd.Bv] at h
  clear hmu
  have hmu:=hc.mu
  by_cases hn:l=[]
  .subst hn
   rw [if_pos (show ((([]:List Nd).length:Int)==0)=true from rfl)] at h
   repeat' ((conv=>whnf);(first|exact C7|refine Bb ?_|(refine C8 ?_ ?_ ?_;rotate_left)|refine Bc ?_ ?_|refine Be ?_ ?_|refine XN ?_ ?_|refine Ix ?_|refine Mg ?_ ?_|refine La ?_|refine JA ?_ ?_|refine kz ?_|exact FR|refine Ku ?_|refine L0 ?_|refine B9 ?_|refine Ae ?_|refine Lz hs ‹_› ‹_› ?_ ?_|refine Gh.go (by first|exact AZ.q|exact (hL.decls).a) ?_ ?_|exact absurd rfl ‹_›|refine Rk hx AC ?_|refine Cx.Hh ‹_› RL ?_|refine Cx.Hh (x:=Ar 30 _) (Cx.drop ‹_›) hl2 ?_|refine Ad [(0,true),(1,true),(2,true),(4,true),(3,false),(5,false),(6,true),(7,false),(8,true)] [] GE ?_|refine Ad [(0,true),(1,true),(2,true),(4,true),(3,false),(5,false),(6,true),(7,false),(8,true),(9,false),(10,true)] [] GE ?_|with_reducible refine WF ?_)<;>intros)
   all_goals conv=>whnf
  .obtain ⟨x,hx⟩:∃x,l[((0:Int)).toNat]? =some x:=by
    cases l with
    |nil=>exact absurd rfl hn
    |cons x l=>exact ⟨x,rfl⟩
   have hz:((l.length:Int)==0)=false:=beq_eq_false_iff_ne.2 λe=>hn (List.length_eq_zero_iff.1 AC)
   have hd:l.headD Gg=x:=by
    cases l with
    |nil=>exact absurd rfl hn
    |cons y l=>cases hx;rfl
   rw [if_neg (by rw [hz];decide),hd] at h
   repeat' ((conv=>whnf);(first|exact C7|refine Bb ?_|(refine C8 ?_ ?_ ?_;rotate_left)|refine Bc ?_ ?_|refine Be ?_ ?_|refine XN ?_ ?_|refine Ix ?_|refine Mg ?_ ?_|refine La ?_|refine JA ?_ ?_|refine kz ?_|exact FR|refine Ku ?_|refine L0 ?_|refine B9 ?_|refine Ae ?_|refine Lz hs ‹_› ‹_› ?_ ?_|refine Gh.go (by first|exact AZ.q|exact (hL.decls).a) ?_ ?_|exact absurd rfl ‹_›|refine Rk hx AC ?_|refine Cx.Hh ‹_› RL ?_|refine Cx.Hh (x:=Ar 30 _) (Cx.drop ‹_›) hl2 ?_|refine Ad [(0,true),(1,true),(2,true),(4,true),(3,false),(5,false),(6,true),(7,false),(8,true)] [] GE ?_|refine Ad [(0,true),(1,true),(2,true),(4,true),(3,false),(5,false),(6,true),(7,false),(8,true),(9,false),(10,true)] [] GE ?_|with_reducible refine WF ?_)<;>intros)
   all_goals conv=>whnf
 .refine Ct (λl own=>[(5,.slice 6 (l.map Ax) own)]) (λ_ _=>[]) [1,2,4] [0,1] (λl own=>(own,l)::rows) (λl=>l.length) .full (hc.push []) h RK Yl ?_
  intro l s1 U own1 hc h hl hm1
  have hl2:l.length+1<=1000000000:=AC
  simp only [VP,Sg,Rd.Aq,Rd.AK,Rd.wp_seq,Rd.wp_ret,Rd.Bv] at h
  clear hmu
  have hmu:=hc.mu
  by_cases hn:l=[]
  .subst hn
   rw [if_pos (show ((([]:List Nd).length:Int)==0)=true from rfl)] at h
   repeat' ((conv=>whnf);(first|exact C7|refine Bb ?_|(refine C8 ?_ ?_ ?_;rotate_left)|refine Bc ?_ ?_|refine Be ?_ ?_|refine XN ?_ ?_|refine Ix ?_|refine Mg ?_ ?_|refine La ?_|refine JA ?_ ?_|refine kz ?_|exact FR|refine Ku ?_|refine L0 ?_|refine B9 ?_|refine Ae ?_|refine Lz hs ‹_› ‹_› ?_ ?_|refine Gh.go (by first|exact AZ.q|exact (hL.decls).a) ?_ ?_|exact absurd rfl ‹_›|refine Rk hx AC ?_|refine Cx.Hh ‹_› RL ?_|refine Cx.Hh (x:=Ar 30 _) (Cx.drop ‹_›) hl2 ?_|refine Ad [(0,true),(1,true),(2,true),(4,true),(3,false),(5,false),(6,true),(7,false),(8,true)] [] GE ?_|refine Ad [(0,true),(1,true),(2,true),(4,true),(3,false),(5,false),(6,true),(7,false),(8,true),(9,false),(10,true)] [] GE ?_|with_reducible refine WF ?_)<;>intros)
   all_goals conv=>whnf
  .obtain ⟨x,hx⟩:∃x,l[((0:Int)).toNat]? =some x:=by
    cases l with
    |nil=>exact absurd rfl hn
    |cons x l=>exact ⟨x,rfl⟩
   have hz:((l.length:Int)==0)=false:=beq_eq_false_iff_ne.2 λe=>hn (List.length_eq_zero_iff.1 AC)
   have hd:l.headD Gg=x:=by
    cases l with
    |nil=>exact absurd rfl hn
    |cons y l=>cases hx;rfl
   rw [if_neg (by rw [hz];decide),hd] at h
   repeat' ((conv=>whnf);(first|exact C7|refine Bb ?_|(refine C8 ?_ ?_ ?_;rotate_left)|refine Bc ?_ ?_|refine Be ?_ ?_|refine XN ?_ ?_|refine Ix ?_|refine Mg ?_ ?_|refine La ?_|refine JA ?_ ?_|refine kz ?_|exact FR|refine Ku ?_|refine L0 ?_|refine B9 ?_|refine Ae ?_|refine Lz hs ‹_› ‹_› ?_ ?_|refine Gh.go (by first|exact AZ.q|exact (hL.decls).a) ?_ ?_|exact absurd rfl ‹_›|refine Rk hx AC ?_|refine Cx.Hh ‹_› RL ?_|refine Cx.Hh (x:=Ar 30 _) (Cx.drop ‹_›) hl2 ?_|refine Ad [(0,true),(1,true),(2,true),(4,true),(3,false),(5,false),(6,true),(7,false),(8,true)] [] GE ?_|refine Ad [(0,true),(1,true),(2,true),(4,true),(3,false),(5,false),(6,true),(7,false),(8,true),(9,false),(10,true)] [] GE ?_|with_reducible refine WF ?_)<;>intros)
   all_goals conv=>whnf
end
structure zC (T:Nd->Nd->Prop):Prop where
 kd:∀{a b:Nd},T a b->a.kind=b.kind
 fm:∀{a b:Nd},T a b->a.form=b.form
 may:∀{a b:Nd},T a b->Kj a=Kj b
 var:∀{a b:Nd},T a b->Z3 a=Z3 b
 lhs:∀{a b:Nd},T a b->(bV a).2.2=(bV b).2.2
 plain:∀{a b:Nd},T a b->JY a=JY b
 dig:∀{a b:Nd},T a b->OD a=OD b
 last:∀{a b:Nd},T a b->Hq a=Hq b
def zD (T:Nd->Nd->Prop) (s t:Aj):Prop:=(Ac s).1.kind=(Ac t).1.kind/\(Ac s).1.text=(Ac t).1.text/\T (BA (Ac s).1) (BA (Ac t).1)
def oG (u:Tk):Bool:=(u.kind==15&&u.text==[123])||u.kind==18
def ly (u:Tk):Bool:=(u.kind==15&&u.text==[125])||u.kind==20
def zn (R:Nat->Aj->Aj->Prop) (d:Nat) (u:Tk) (s t:Aj):Prop:=if oG u=true then R (d+1) s t else if ly u=true then ∃e,d=e+1/\R e s t else R d s t
def Sp (c:Nat) (s t:Aj):Prop:=Bq s 15 [125]=true/\Bq t 15 [59]=true/\mu s<=c
structure Sy where
 R:Nat->Aj->Aj->Prop
 T:Nd->Nd->Prop
 c:Nat
 next:∀{d:Nat} {s t:Aj},R d s t->(zD T s t/\((Ac s).2.2=0->(Ac t).2.2=0/\zn R d (Ac s).1 (Ac s).2.1 (Ac t).2.1))\/Sp c s t
 close:∀{d:Nat} {s t:Aj},R d s t->(CY s).2=true->(CY t).2=true/\∃e,d=e+1/\R e (CY s).1 (CY t).1
 imp:∀{d e:Nat} {s t s' t':Aj},R d s t->(Ac s).1.kind=18->R e s' t'->¬Sp c s' t'
 mu:∀{d e:Nat} {s t s' t':Aj},R d s t->R e s' t'->Proofs.Z.mu s'<Proofs.Z.mu s->Proofs.Z.mu t'<Proofs.Z.mu t
 node:∀{k:Int} {l m:List Nd},E7 T l m->T (Ar k l) (Ar k m)
 block:∀{f:Bool} {l m:List Nd},E7 T l m->T (Ed f l) (Ed f m)
 nd:T Gg Gg
 nt:zC T
structure fM (p:Tk->Bool):Prop where
 k:∀a b:Tk,a.kind=b.kind->a.text=b.text->p a=p b
 b:p ⟨15,[125],0,0⟩=false
 s:p ⟨15,[59],0,0⟩=false
 o:p ⟨15,[123],0,0⟩=false
 v1:∀u:Tk,u.kind=18->p u=false
 v2:∀u:Tk,u.kind=20->p u=false
theorem Il {s:Aj} (h:Bq s k x=true):(Ac s).1.kind=k/\(Ac s).1.text=x:=by
 unfold Bq at h;simpa using h
theorem uw (h:¬(k=15/\(x=[125]\/x=[59]\/x=[123]))/\k≠18/\k≠20):fM (λt=>t.kind==k&&t.text==x):=⟨λa b U h2=>by rw [U,h2],by grind,by grind,by grind,λu e=>by grind,λu e=>by grind⟩
theorem fM.op (h:fM p) {u:Tk} (e:p u=true):oG u=false/\ly u=false:=by
 have h1:=h.k u
 refine ⟨Bool.eq_false_iff.2 λh2=>?_,Bool.eq_false_iff.2 λh2=>?_⟩
 .unfold oG at h2
  rcases Bool.or_eq_true_iff.1 h2 with U|U
  .simp only [Bool.and_eq_true,beq_iff_eq] at U
   rw [h1 ⟨15,[123],0,0⟩ U.1 U.2,h.o] at e;cases e
  .rw [h.v1 u (beq_iff_eq.1 U)] at e;cases e
 .unfold ly at h2
  rcases Bool.or_eq_true_iff.1 h2 with U|U
  .simp only [Bool.and_eq_true,beq_iff_eq] at U
   rw [h1 ⟨15,[125],0,0⟩ U.1 U.2,h.b] at e;cases e
  .rw [h.v2 u (beq_iff_eq.1 U)] at e;cases e
variable (S:Sy)
def SW {α:Type} (P:α->Aj->Prop) (A B:Rd α) (s t:Aj) (Q:α->α->Aj->Aj->Prop):Prop:=
 ∀v s',A.run s=.inr (v,s')->S.c<=mu s'->P v s'->∃w U,B.run t=.inr (w,U)/\Q v w s' U
def SR (A:Rd Nd):Prop:=∀d s t,S.R d s t->SW S (λ_ _=>True) A A s t (λv w s1 U=>S.T v w/\S.R d s1 U)
def Nm (d:Nat) (s t:Aj):Prop:=zD S.T s t/\((Ac s).2.2=0->(Ac t).2.2=0/\S.R d (Ac s).2.1 (Ac t).2.1)
def goP {α σ:Type} (body:σ->Rd (Sum σ α)) (P:α->Aj->Prop):Sum σ α->Aj->Prop
 | .inr v,s=>P v s
 | .inl x,s=>∃v s',(Rd.loop body x).run s=.inr (v,s')/\S.c<=mu s'/\P v s'
def zJ {α σ:Type} (d:Nat) (J:σ->σ->Prop) (Q:α->α->Aj->Aj->Prop):Sum σ α->Sum σ α->Aj->Aj->Prop
 | .inr v,.inr w,s,t=>Q v w s t
 | .inl x,.inl y,s,t=>J x y/\S.R d s t
 |_,_,_,_=>False
variable {S}
section
variable {α β σ:Type} {d:Nat} {s t:Aj} {P:α->Aj->Prop} {Q:α->α->Aj->Aj->Prop} {X Y:Rd α}
theorem Sp.no (h:Sp S.c s t) (U:fM p):p (Ac s).1=false/\p (Ac t).1=false:=
 ⟨by rw [U.k _ ⟨15,[125],0,0⟩ (Il h.1).1 (Il h.1).2];exact U.b,by rw [U.k _ ⟨15,[59],0,0⟩ (Il h.2.1).1 (Il h.2.1).2];exact U.s⟩
theorem Sp.lt (h:Sp S.c s t):mu (Ac s).2.1<S.c:=Nat.lt_of_lt_of_le (Eh h.1 Do Do) h.2.2
theorem SW.ret {v w:α} (h:Q v w s t):SW S P (.ret v) (.ret w) s t Q:=λU s' e _ _=>by cases e;exact ⟨w,t,rfl,h⟩
theorem SW.fail {e:Er}:SW S P (.fail e) Y s t Q:=λv s' h=>by cases h
theorem SW.Ee {u:Aj} {e:Er}:SW S P (.Ee u e) Y s t Q:=λv s' h=>by cases h
theorem SW.bad:SW S P Ow Y s t Q:=λv s' h=>by cases h
theorem SW.look {f U:Aj->Rd α} (h:SW S P (f s) (U t) s t Q):SW S P (.look f) (.look U) s t Q:=h
theorem SW.seq {m m':Rd β} {k k':β->Rd α} (h:SW S (λv1 s1=>∃v s',(k v1).run s1=.inr (v,s')/\S.c<=mu s'/\P v s') m m' s t (λv w s1 t1=>SW S P (k v) (k' w) s1 t1 Q)):SW S P (.seq m k) (.seq m' k') s t Q:=λv s' e U hp=>by
 unfold Rd.seq at e
 dsimp only at e
 split at e
 .cases e
 .rename_i p hq
  obtain ⟨w,t1,h1,h2⟩:=h p.1 p.2 hq (Nat.le_trans U ((k p.1).le _ _ _ e)) ⟨v,s',e,U,hp⟩
  obtain ⟨w',t',h3,h4⟩:=h2 v s' e U hp
  exact ⟨w',t',by unfold Rd.seq;dsimp only;rw [h1];exact h3,h4⟩
theorem SW.ite {c U:Prop} [Decidable c] [Decidable U] {a b a' b':Rd α} (h:c↔U) (h1:c->SW S P a a' s t Q) (h2:¬c->SW S P b b' s t Q):SW S P (if c then a else b) (if U then a' else b') s t Q:=by
 by_cases e:c
 .rw [if_pos e,if_pos (h.1 e)];exact h1 e
 .rw [if_neg e,if_neg (λx=>e (h.2 x))];exact h2 e
theorem SW.no (h:∀v s',X.run s=.inr (v,s')->S.c<=mu s'->P v s'->False):SW S P X Y s t Q:=λv s' e U hp=>(h v s' e U hp).elim
theorem SW.wk {U:α->Aj->Prop} (h:SW S U X Y s t Q) (k:∀v s',P v s'->U v s'):SW S P X Y s t Q:=λv s' e hm hp=>h v s' e hm (k v s' hp)
theorem SW.mono {Q':α->α->Aj->Aj->Prop} (h:SW S P X Y s t Q) (k:∀v w s' U,Q v w s' U->Q' v w s' U):SW S P X Y s t Q':=λv s' e hm hp=>by
 obtain ⟨w,U,h1,h2⟩:=h v s' e hm hp
 exact ⟨w,U,h1,k _ _ _ _ h2⟩
theorem SW.A {P:Nd->Aj->Prop} {Q:Nd->Nd->Aj->Aj->Prop} {A:Rd Nd} (hA:SR S A) (hr:S.R d s t) (k:∀v w s1 U,S.T v w->S.R d s1 U->Q v w s1 U):SW S P A A s t Q:=((hA d s t hr).wk λ_ _ _=>trivial).mono λv w s' t' h=>k v w s' t' h.1 h.2
theorem SW.take {P:Nd->Aj->Prop} {Q:Nd->Nd->Aj->Aj->Prop} (h:Nm S d s t) (k:∀v w s1 t1,S.T v w->S.R d s1 t1->Q v w s1 t1):SW S P AR AR s t Q:=λv s' e hm hp=>by
 by_cases U:(Ac s).2.2=0
 .rw [C6 U] at e
  cases e
  exact ⟨_,_,C6 (h.2 U).1,k _ _ _ _ h.1.2.2 (h.2 U).2⟩
 .rw [Ju U] at e;cases e
theorem Nm.of (h:zD S.T s t/\((Ac s).2.2=0->(Ac t).2.2=0/\zn S.R d (Ac s).1 (Ac s).2.1 (Ac t).2.1)) (hp:fM p) (e:p (Ac s).1=true):Nm S d s t:=⟨h.1,λhz=>by
 obtain ⟨h1,U⟩:=h.2 hz
 obtain ⟨e1,e2⟩:=hp.op e
 unfold zn at U
 rw [e1,e2,if_neg Do,if_neg Do] at U
 exact ⟨h1,U⟩⟩
theorem SW.zY {a b a' b':Rd α} (hr:S.R d s t) (U:fM p) (h1:p (Ac s).1=true->Nm S d s t->SW S P a a' s t Q) (h2:p (Ac s).1=false->SW S P b b' s t Q):SW S P (if p (Ac s).1=true then a else b) (if p (Ac t).1=true then a' else b') s t Q:=by
 rcases S.next hr with h|h
 .refine SW.ite (by rw [U.k _ _ h.1.1 h.1.2.1]) (λe=>h1 e (Nm.of h U e)) λe=>h2 (Bool.eq_false_iff.2 e)
 .obtain ⟨e1,e2⟩:=h.no U
  rw [e1,e2];exact h2 e1
theorem SW.is {a b U b':Rd α} (hr:S.R d s t) (hk:¬(k=15/\(x=[125]\/x=[59]\/x=[123]))/\k≠18/\k≠20) (h1:Bq s k x=true->Nm S d s t->SW S P a U s t Q) (h2:Bq s k x=false->SW S P b b' s t Q):SW S P (if Bq s k x=true then a else b) (if Bq t k x=true then U else b') s t Q:=
 SW.zY (p:=λt=>t.kind==k&&t.text==x) hr (uw hk) h1 h2
theorem SW.want {U:Int} {P:Nd->Aj->Prop} {Q:Nd->Nd->Aj->Aj->Prop} (hr:S.R d s t) (hk:¬(U=15/\(x=[125]\/x=[59]\/x=[123]))/\U≠18/\U≠20) (k:∀v w s1 t1,S.T v w->S.R d s1 t1->Q v w s1 t1):SW S P (Bx U x) (Bx U x) s t Q:=
 SW.look (SW.is hr hk (λ_ h=>SW.take h k) λ_=>SW.bad)
theorem SW.kind {ks:List Int} {P:Nd->Aj->Prop} {Q:Nd->Nd->Aj->Aj->Prop} (hr:S.R d s t) (U:ks.contains 15=false/\ks.contains 18=false/\ks.contains 20=false) (k:∀v w s1 t1,S.T v w->S.R d s1 t1->Q v w s1 t1):SW S P (Dl ks) (Dl ks) s t Q:=
 SW.look (SW.zY (p:=λu=>ks.contains u.kind) hr ⟨λa b h1 _=>by rw [h1],U.1,U.1,U.1,λu e=>by rw [e];exact U.2.1,λu e=>by rw [e];exact U.2.2⟩ (λ_ h=>SW.take h k) λ_=>SW.bad)
theorem SW.at {a b U b':Rd α} (hn:Nm S d s t) (hp:∀a b:Tk,a.kind=b.kind->a.text=b.text->p a=p b) (h1:p (Ac s).1=true->SW S P a U s t Q) (h2:p (Ac s).1=false->SW S P b b' s t Q):SW S P (if p (Ac s).1=true then a else b) (if p (Ac t).1=true then U else b') s t Q:=
 SW.ite (by rw [hp _ _ hn.1.1 hn.1.2.1]) h1 λe=>h2 (Bool.eq_false_iff.2 e)
theorem SW.loop {body:σ->Rd (Sum σ α)} {J:σ->σ->Prop} (hb:∀x y s t,J x y->S.R d s t->SW S (goP S body P) (body x) (body y) s t (zJ S d J Q)) {x y:σ} (hj:J x y) (U:S.R d s t):SW S P (.loop body x) (.loop body y) s t Q:=by
 suffices h:∀x s y t,J x y->S.R d s t->∀v s',Rd.iter body x s=.inr (v,s')->S.c<=mu s'->P v s'->∃w t',Rd.iter body y t=.inr (w,t')/\Q v w s' t' from h x s y t hj U
 intro x s
 fun_induction Rd.iter body x s with
 |case1 x s e h1=>intro y t hj U v s' e;cases e
 |case2 x s z s1 h1=>
  intro y t hj U v s' e hm hp
  cases e
  obtain ⟨r,t1,h2,h3⟩:=hb x y s t hj U _ _ h1 hm hp
  cases r with
  |inl y'=>exact h3.elim
  |inr w=>exact ⟨w,t1,by rw [Rd.iter,h2],h3⟩
 |case3 x s x' s1 h1 hlt ih=>
  intro y t hj U v s' e hm hp
  have hle:=Rd.ep body x' s1 v s' e
  obtain ⟨r,t1,h2,h3⟩:=hb x y s t hj U _ _ h1 AC ⟨v,s',e,hm,hp⟩
  cases r with
  |inr w=>exact h3.elim
  |inl y'=>
   obtain ⟨w,t',h4,h5⟩:=ih y' t1 h3.1 h3.2 v s' e hm hp
   exact ⟨w,t',by rw [Rd.iter,h2];dsimp only;rw [if_pos (S.mu U h3.2 hlt)];exact h4,h5⟩
 |case4 x s x' s1 h1 hlt=>intro y t hj U v s' e;cases e
end
def Sy.sm (S:Sy) (d:Nat):Sm where
 R:=S.R d
 T:=S.T
 Out:=λs=>Proofs.Z.mu s<S.c
 zt:=λs=>Proofs.Z.mu s<=S.c
 out:=λh k=>Nat.lt_of_le_of_lt k h
 DG:=λh k=>Nat.lt_of_lt_of_le k h
 yes:=λ{s t p} hr hp e hz=>by
  rcases S.next hr with ⟨h1,h4⟩|h
  .obtain ⟨h5,h6⟩:=h4 hz
   refine .inr ⟨by rw [<-hp.k _ _ h1.1 h1.2.1];exact e,h5,?_,h1.2.2⟩
   unfold zn at h6
   have e1:¬oG (Ac s).1=true:=λh2=>?_
   have e2:¬ly (Ac s).1=true:=λh2=>?_
   .rw [if_neg e1,if_neg e2] at h6;exact h6
   .unfold ly at h2
    rcases Bool.or_eq_true_iff.1 h2 with U|U
    .simp only [Bool.and_eq_true,beq_iff_eq] at U
     rw [hp.k _ ⟨15,[125],0,0⟩ U.1 U.2,hp.b2] at e;cases e
    .rw [hp.v2 _ (beq_iff_eq.1 U)] at e;cases e
   .unfold oG at h2
    rcases Bool.or_eq_true_iff.1 h2 with U|U
    .simp only [Bool.and_eq_true,beq_iff_eq] at U
     rw [hp.k _ ⟨15,[123],0,0⟩ U.1 U.2,hp.b1] at e;cases e
    .rw [hp.v1 _ (beq_iff_eq.1 U)] at e;cases e
  .exact .inl h.2.2
 no:=λ{s t p} hr hp e=>by
  rcases S.next hr with ⟨h1,_⟩|h
  .rw [<-hp.k _ _ h1.1 h1.2.1];exact e
  .rw [hp.k _ ⟨15,[59],0,0⟩ (Il h.2.1).1 (Il h.2.1).2];exact hp.s
 cno:=λ{s t} hr e=>by
  rcases S.next hr with ⟨h1,_⟩|h
  .left;unfold Bq at e |-;rw [<-h1.1,<-h1.2.1];exact e
  .left
   unfold Bq
   rw [(Il h.2.1).1,(Il h.2.1).2];rfl
 mu:=S.mu
 node:=S.node
section
variable {st0 st:St} {b d:Nat} {s:Aj} {rows:List (AE×List Nd)} {K:Au->St->Prop} {L:E9}
attribute [local irreducible] Go.Aw.Am
theorem vS (U:Mf d L) {ops exp:Rd Nd} (ho:AZ enc 310 (λb=>[pv b d]) ops) (he:AZ enc 353 (λb=>[pv b d]) exp) (hs:AZ enc 388 (λb=>[pv b d]) stmt):
 AZ enc 414 (λb=>[pv b d]) (fR L ops exp stmt):=by
 refine ⟨λ{st0 b s st rows K} hc h=>?_⟩
 simp only [fR,Rd.AK,Rd.wp_seq,Rd.wp_ret,Rd.Ep] at h
 refine pB Tryz.func414 ?_
 repeat' ((conv=>whnf);(first|exact C7|refine Bb ?_|(refine C8 ?_ ?_ ?_;rotate_left)|refine Bc ?_ ?_|refine Be ?_ ?_|exact FR|refine Ku ?_|refine Ae ?_|refine Gh.go (by first|exact AZ.q|exact (o0 U he hs).a) ?_ ?_|refine VU ?_|refine V9 ?_|refine V8 ?_|refine Ad [(0,true),(1,true),(2,false),(3,false)] [] GE ?_|refine Ad [(0,true),(1,true),(2,false),(3,true),(4,false),(5,false)] [1] GE ?_|with_reducible refine WF ?_)<;>intros)
end
theorem Rd.nL {body:σ->Rd (Sum σ β)} {P:β->Prop} (h1:∀x s y s',(body x).run s=.inr (.inr y,s')->P y) (x:σ) (s:Aj):∀y s',(Rd.loop body x).run s=.inr (y,s')->P y:=by
 show ∀y s',Rd.iter body x s=.inr (y,s')->_
 fun_induction Rd.iter body x s with
 |case1 x s e h=>intro y s' U;cases U
 |case2 x s y s1 h=>intro y s' U;cases U;exact h1 _ _ _ _ h
 |case3 x s x' s1 h hlt ih=>exact ih
 |case4 x s x' s1 h hlt=>intro y s' U;cases U
theorem pj {U:Rd Nd} {s:Aj} {p:List Nd×Bool} (h:(Ul U br).run s=.inr (p,s')):∃x,p.1[((p.1.length:Nat) - 1:Int).toNat]? =some x/\p.1.getLastD Gg=x/\1<=p.1.length:=by
 have:∃l x,p.1=l++[x]:=by
  refine Rd.nL (body:=o9 U br) (P:=λp=>∃l x,p.1=l++[x]) (λx s y s' h=>?_) _ _ _ _ h
  unfold o9 at h
  obtain ⟨l,s1,_,h⟩:=Bj h
  obtain ⟨n,s2,_,h⟩:=Bj h
  replace h:(if Sj (Ac s2).1=true then .seq Jh λo=>
   if br=true then .look λs=>if Bq s 15 [41]=true then .ret (.inr (l++[n]++[o],true)) else .ret (.inl (l++[n]++[o]))
   else .ret (.inl (l++[n]++[o]))
   else .ret (.inr (l++[n],false)):Rd (Sum (List Nd) (List Nd×Bool))).run s2=.inr (.inr y,s'):=h
  split at h
  .obtain ⟨o,s3,_,h⟩:=Bj h
   split at h
   .replace h:(if Bq s3 15 [41]=true then .ret (.inr (l++[n]++[o],true)) else .ret (.inl (l++[n]++[o])):Rd (Sum (List Nd) (List Nd×Bool))).run s3=.inr (.inr y,s'):=h
    split at h
    .cases h;exact ⟨_,_,rfl⟩
    .cases h
   .cases h
  .cases h;exact ⟨_,_,rfl⟩
 obtain ⟨l,x,e⟩:=this
 refine ⟨x,?_,?_,?_⟩
 .rw [e];simp only [List.length_append,List.length_cons,List.length_nil]
  rw [show (((l.length+(0+1):Nat):Int) - 1).toNat=l.length by omega]
  simp
 .rw [e];simp
 .rw [e];simp
theorem cO {K:List (List V)->Prop} (hn:1<=l.length) (k:K ((l.take (l.length - 1)).map Ax)):
 ((0:Int)<=0/\(0:Int)<=(l.length:Int) - 1/\(l.length:Int) - 1=(l.length:Int) - 1/\(l.length:Int) - 1<=((l.map Ax).length:Int))/\∀U,U=List.drop (Int.toNat 0) (List.take ((l.length:Int) - 1).toNat (l.map Ax))->K U:=by
 refine ⟨⟨AC,AC,rfl,by rw [List.length_map];omega⟩,λU e=>?_⟩
 rw [e,show ((l.length:Int) - 1).toNat=l.length - 1 by omega,<-List.map_take]
 exact k
section
variable {st0 st:St} {b d:Nat} {s:Aj} {rows:List (AE×List Nd)} {K:Au->St->Prop} {L:E9}
attribute [local irreducible] Go.Aw.Am
theorem Vj {opd full exp:Rd Nd} {o:Nd} (ho:AZ enc 370 (λb=>[pv b d]) opd) (hf:AZ enc 350 (λb=>[pv b d]) full) (he:AZ enc 353 (λb=>[pv b d]) exp):
 AZ enc 418 (λb=>[pv b d,enc o]) (Fz opd full exp o):=by
 refine ⟨λ{st0 b s st rows K} hc h=>?_⟩
 simp only [Fz,Rd.AK,Rd.wp_seq,Rd.wp_ret,Rd.Ep] at h
 have hmu:=hc.mu
 refine AO Ab [] Tryz.func418 rfl Do rfl ?_
 refine Ag (Ai Ab ?_)
 repeat' ((conv=>whnf);first|exact C7|(refine Bb ?_;intros)|(refine C8 ?_ ?_ ?_;rotate_left)|(refine Bc ?_ ?_<;>intro e h)|(refine Be ?_ ?_<;>intro _)|with_reducible refine WF ?_)
 refine Ag (Ai Ab ?_)
 repeat' ((conv=>whnf);first|exact C7|(refine Bb ?_;intros)|(refine C8 ?_ ?_ ?_;rotate_left)|(refine Bc ?_ ?_<;>intro e h)|(refine Be ?_ ?_<;>intro _)|refine qw.go (pk ho) hc h (λp own1 s1 U hr hm hc h=>?_) (λe s1 U hc h=>?_)|exact BU hc h|with_reducible refine WF ?_)
 all_goals obtain ⟨x,hx,hd,hn⟩:=pj hr
 all_goals try rw [hd] at h
 all_goals refine Ai Ab ?_
 all_goals (repeat' ((conv=>whnf);first|exact C7|(refine Bb ?_;intros)|(refine C8 ?_ ?_ ?_;rotate_left)|(refine Bc ?_ ?_<;>intro e h)|(refine Be ?_ ?_<;>intro _)|(refine Ix ?_;intro U hc)|(refine Mg ?_ ?_<;>intro U hc e h)|(refine La ?_;intro s1 U hz hm hc h)|(refine JA ?_ ?_<;>(first|intro n s1 U hr hm hc h|intro e s1 U hc h))|exact FR|refine Ku ?_|(refine L0 ?_;intro own1 U hc)|refine B9 (λ_=>?_)|refine Ae (λe1=>?_)|refine cO hn ?_|refine Rk hx AC ?_|refine AZ.go (Z2 hf) hc h (λn s1 U hr hm hc h=>?_) (λe s1 U hc h=>?_)|refine Ad [(0,true),(1,true),(2,true),(3,true),(4,true),(6,true),(7,true),(8,true),(9,true),(10,true),(11,true),(5,false),(12,false),(13,true),(14,false),(15,false)] [2] GE ?_|refine Ad [(0,true),(1,true),(2,true),(3,false),(4,false),(5,true),(6,true)] [] GE ?_|with_reducible refine WF ?_))
 all_goals refine Ct (λ(q:Int×List Nd) own=>[(9,.int .i64 q.1),(8,.slice 6 (q.2.map Ax) own)]) (λ_ _=>[]) [2,4] [0,2] (λq own=>(own,q.2)::rows) (λq=>q.2.length) .full (hc.drop.push _) h (by show 2+_<=_;omega) Yl ?_
 all_goals intro q s1 U own1 hc h hl hm1
 all_goals simp only [db,Rd.Aq,Rd.AK,Rd.wp_seq,Rd.wp_ret,Rd.Bv] at h
 all_goals obtain ⟨k,l⟩:=q
 all_goals dsimp only at hc h hl
 all_goals (repeat' ((conv=>whnf);first|exact C7|(refine Bb ?_;intros)|(refine C8 ?_ ?_ ?_;rotate_left)|(refine Bc ?_ ?_<;>intro e h)|(refine Be ?_ ?_<;>intro _)|exact ⟨⟨(5,_),_,_,_⟩,⟨hc,Rd.Fc h bl,cb,bl⟩,bl,Yl,St.le_refl _⟩|(refine Ix ?_;intro U hc)|(refine Mg ?_ ?_<;>intro U hc e h)|(refine La ?_;intro s1 U hz hm hc h)|(refine JA ?_ ?_<;>(first|intro n s1 U hr hm hc h|intro e s1 U hc h))|exact FR|refine Ku ?_|(refine L0 ?_;intro own1 U hc)|refine B9 (λ_=>?_)|refine Ae (λe1=>?_)|refine AZ.go he hc h (λn s1 U hr hm hc h=>?_) (λe s1 U hc h=>?_)|refine Ad [(0,true),(1,true),(2,true),(3,true),(4,true),(6,true),(7,true),(8,true),(9,true),(10,true),(11,true),(5,false),(12,false),(13,true),(14,false),(15,false)] [2] GE ?_|refine Ad [(0,true),(1,true),(2,true),(3,false),(4,false),(5,true),(6,true)] [] GE ?_|with_reducible refine WF ?_))
 all_goals conv=>whnf
end
section
variable {st0 st:St} {b d c:Nat} {s:Aj} {rows:List (AE×List Nd)} {K:Au->St->Prop} {L:E9} {o:Nd} {A:Rd Nd}
theorem o6 (hb:AZ enc 418 (λb=>[pv b d,enc o]) A) (U:st.box c=some (Ax o)) (hc:Cx st0 b s st rows)
 (h:Rd.wp A s (λv s'=>∀st',Cx st0 b s' st' rows->K (.ret (enc v)) st') (λe s'=>∀st',Cy st0 b s' st' rows->K (.B1 (fault e.1)) st')):PC 417 [pv b d,.ptr c 0] st K:=by
 refine pB Tryz.func417 ?_
 repeat' ((conv=>whnf);(first|refine Bb ?_|refine Bc ?_ ?_|refine Be ?_ ?_|refine An U ?_|refine Gh.go (by first|exact AZ.q) ?_ ?_|exact FR|refine Ae ?_)<;>intros)
theorem jr (hb:AZ enc 420 (λb=>[pv b d,enc o]) A) (U:st.box c=some (Ax o)) (hc:Cx st0 b s st rows)
 (h:Rd.wp A s (λv s'=>∀st',Cx st0 b s' st' rows->K (.ret (enc v)) st') (λe s'=>∀st',Cy st0 b s' st' rows->K (.B1 (fault e.1)) st')):PC 419 [pv b d,.ptr c 0] st K:=by
 refine pB Tryz.func419 ?_
 repeat' ((conv=>whnf);(first|refine Bb ?_|refine Bc ?_ ?_|refine Be ?_ ?_|refine An U ?_|refine Gh.go (by first|exact AZ.q) ?_ ?_|exact FR|refine Ae ?_)<;>intros)
end
section
variable {st0 st:St} {b d:Nat} {s:Aj} {rows:List (AE×List Nd)} {K:Au->St->Prop} {L:E9}
attribute [local irreducible] Go.Aw.Am
theorem bC:AZ enc 342 (λb=>[pv b d]) AR:=by
 refine ⟨λ{st0 b s st rows K} U h=>?_⟩
 refine pB Tryz.func342 ?_
 repeat' ((conv=>whnf);(first|refine Bb ?_|refine Bc ?_ ?_|refine Be ?_ ?_|refine Hu.go ‹_› ‹_› ?_ ?_|refine La ?_|refine JA ?_ ?_|exact FR|refine Ae ?_)<;>intros)
theorem oL {x:Nd} (hx:n.kids[(Int.tdiv (n.kids.length:Int) 2).toNat]? =some x) (U:n.kids[n.kids.length / 2]? =some x) (h:K (.ret (.bool (JY n))) st):PC 345 [enc n] st K:=by
 have e:JY n= !(x.form==7||x.form==8||x.form==3||x.form==4):=by unfold JY;rw [U]
 rw [e] at h
 refine pB Tryz.func345 ?_
 have h0:0<=Int.tdiv (n.kids.length:Int) 2:=Int.tdiv_nonneg AC AC
 repeat' ((conv=>whnf);(first|refine Bb ?_|refine Bc ?_ ?_|refine Be ?_ ?_|refine Wm hx h0 ?_)<;>intros)
 all_goals conv=>whnf
 all_goals (refine Av h ?_;clear h;simp_all)
end
end Go.Proofs.Z
namespace Go.Aw
open Go
theorem iS {P:Program} {r:List V} {st:St} {R:Au->St->Prop} (hb:Plain P f) (h:s.length<4611686018427387904->Ba P f (.str s::r) st R):Ba P f (.str s::r) st R:=by
 refine ⟨?_,hb⟩
 intro I w cargs hs U
 have hl:s.length<4611686018427387904:=by
  have h2:=U
  simp only [Ao,AM] at h2
  obtain ⟨c,rr,_,h2,_⟩:=h2
  exact h2.2
 exact (h hl).a I w cargs hs U
def KK (s:List UInt8) (k:Int):Bool:=(E5 s).1==k&&(s.take (E5 s).2==s)
theorem jA {n:Nat} (h:n<=s.length):s.take n=s↔n=s.length:=by
 constructor
 .intro e
  have:=congrArg List.length e
  rw [List.length_take] at this
  omega
 .intro e;rw [e,List.take_length]
theorem OQ:KK s k=true↔(E5 s).1=k/\(E5 s).2=s.length:=by
 unfold KK
 rw [Bool.and_eq_true,beq_iff_eq,beq_iff_eq,jA (WV s)]
theorem jV (h:KK s 11=true):BP (CB s).1 (s.drop (CB s).2)=s.length - (CB s).2/\(CB s).2<=s.length:=by
 obtain ⟨U,h2⟩:=OQ.1 h
 by_cases hb:(CB s).1=10
 .have hp:CB s=(10,0):=by
   rcases N3 s with e|⟨e,_⟩|⟨e,_⟩
   .exact e
   .rw [e] at hb;cases hb
   .rw [e] at hb;cases hb
  rw [hp]
  refine ⟨?_,Nat.zero_le _⟩
  show BP 10 (s.drop 0)=s.length - 0
  rw [List.drop_zero,Nat.sub_zero]
  by_cases h0:BP 10 s=0
  .rw [ou hb h0] at U;cases U
  .have e:=cv (l:=s) hb rfl h0 rfl rfl
   rw [e] at U h2
   dsimp only at U h2
   split at U
   .cases U
   .omega
 .have e:=cu (l:=s) hb
  have hp2:(CB s).2=2:=by
   rcases N3 s with e|⟨e,_⟩|⟨e,_⟩
   .rw [e] at hb;exact absurd rfl hb
   .rw [e]
   .rw [e]
  rw [e] at h2
  dsimp only at h2
  rw [hp2]
  omega
theorem gC {c b:Int} (hb:b<=16) (h:¬BS c b<0):0<=BS c b/\BS c b<b/\BS c b<=15:=by
 unfold BS at h |-
 dsimp only at h |-
 (repeat' split at h)<;>(repeat' split)<;>omega
end Go.Aw
namespace Go.Proofs.Z
open Go Go.Aw
theorem ah {base:Int} {pos c m:Nat} (h:pos<s.length) (hd:(c,m)=AU (s.drop pos)) (k:¬BS (c:Int) base<0):
 m=1/\K8 base (s.drop pos) v=if (4611686018427387904 - BS (c:Int) base) / base<v then (0,3) else K8 base (s.drop (pos+1)) (v*base+BS (c:Int) base):=by
 obtain ⟨a,ha⟩:∃a,s[pos]? =some a:=⟨_,List.getElem?_eq_getElem h⟩
 have e:=drop_at ha
 have U:a.toNat<128:=by
  apply Classical.byContradiction
  intro hn
  have:=QD (r:=s.drop (pos+1)) hn
  rw [e] at hd
  rw [<-hd] at this
  exact k (IV (by dsimp only at this;omega))
 rw [e,FY U] at hd
 obtain ⟨rfl,rfl⟩:=Prod.mk.inj hd
 refine ⟨rfl,?_⟩
 rw [e,K8]
theorem pI {t:List UInt8} {n:Nat} {K:List UInt8->Prop} (ht:s.drop n=t) (U:0<=(n:Int)) (h1:(n:Int)<=s.length) (k:K t):
 (0<=(n:Int)/\(n:Int)<=(s.length:Int)/\(s.length:Int)<=s.length)/\∀s',s'=(s.take (s.length:Int).toNat).drop (n:Int).toNat->K s':=WN U h1 (by subst ht;exact k)
section
variable {st:St} {R:Au->St->Prop}
theorem yU (U:s.length<=4611686018427387903) (h:R (.ret (.bool (KK s k))) st):PC 257 [.str s,.int .i64 k] st R:=by
 refine pB Tryz.func257 ?_
 repeat' ((conv=>whnf);(first|refine Bb ?_|refine Bc ?_ ?_|refine Be ?_ ?_|refine eJ U ?_)<;>intros)
 all_goals conv=>whnf
 all_goals (refine Av h ?_;clear h;simp_all [KK])
theorem vf (e:KK s k=b) (U:s.length<=4611686018427387903) (h:R (.ret (.bool b)) st):PC 257 [.str s,.int .i64 k] st R:=yU U (by rw [e];exact h)
theorem rA {t:List UInt8} {pos c m:Nat} {b:Int} (hb:b<=16) (hl:pos<t.length) (hd:(c,m)=AU (t.drop pos)) (hr:BP b (t.drop pos)=t.length - pos) (k:∀d,d=BS c b->0<=d->d<b->R (.ret (.int .i64 d)) st):PC 242 [.int .i32 c,.int .i64 b] st R:=by
 have hn:¬BS (c:Int) b<0:=λe=>by
  have:=Is hl hd e
  omega
 obtain ⟨U,h2,_⟩:=gC hb hn
 exact Nj (k _ rfl U h2)
theorem yT {b d:Int} {K:Int->Prop} (hb:b=10\/b=8\/b=16) (U:0<=v) (h1:0<=d) (h2:d<b) (h3:¬(4611686018427387904 - d) / b<v) (k:K (v*b)):∃r,r=IntKind.i64.wrap (v*b)/\K r:=by
 refine ⟨_,(LM ?_ ?_).symm,k⟩<;>(rcases hb with rfl|rfl|rfl<;>omega)
theorem yj {b d:Int} {K:Int->Prop} (hb:b=10\/b=8\/b=16) (U:0<=v) (h1:0<=d) (h2:d<b) (h3:¬(4611686018427387904 - d) / b<v) (k:K (v*b+d)):∃r,r=IntKind.i64.wrap (v*b+d)/\K r:=by
 refine ⟨_,(LM ?_ ?_).symm,k⟩<;>(rcases hb with rfl|rfl|rfl<;>omega)
theorem yA {b d:Int} (hb:b=10\/b=8\/b=16) (U:0<=v) (h1:0<=d) (h2:d<b) (h3:¬(4611686018427387904 - d) / b<v):0<=v*b+d/\v*b+d<=4611686018427387904:=by
 rcases hb with rfl|rfl|rfl<;>omega
theorem jW {b:Int} {n:Nat} (hn:KK s 11=true) (U:CB s=(b,n)):EH s=K8 b (s.drop n) 0:=by
 unfold EH
 rw [if_pos (OQ.1 hn),U]
theorem XL (h:R (.ret (.Bp [.int .i64 (EH s).1,.int .i64 (EH s).2])) st):PC 212 [.str s] st R:=by
 refine iS ⟨_,Tryz.func212,Do,Do⟩ λhl0=>?_
 have hl:s.length<=4611686018427387903:=AC
 refine pB Tryz.func212 ?_
 cases hn:KK s 11 with
 |false=>
  have hw:EH s=(0,40):=by
   unfold EH
   rw [if_neg λe=>?_]
   rw [OQ.2 e] at hn;cases hn
  rw [hw] at h
  repeat' ((conv=>whnf);first|(refine Bb ?_;intros)|(refine Bc ?_ ?_<;>intro e h)|(refine Be ?_ ?_<;>intro _)|refine vf hn hl ?_)
  all_goals exact fin h rfl
 |true=>
  obtain ⟨hr,hle⟩:=jV hn
  have key:∀(b:Int) (n:Nat),CB s=(b,n)->b=10\/b=8\/b=16:=λb n e=>by
   rcases N3 s with h|⟨h,_⟩|⟨h,_⟩<;>(rw [h] at e;cases e;omega)
  generalize hp:CB s=p at hr hle
  obtain ⟨b,n⟩:=p
  have hp0:CB s=(b,n):=hp
  dsimp only at hr hle
  have hb:=key b n hp
  rw [jW hn hp] at h
  have hlen:(s.drop n).length=s.length - n:=by rw [List.length_drop]
  generalize ht:s.drop n=t at h hr hlen
  have hr:BP b t=t.length:=AC
  clear hp key hlen
  repeat' ((conv=>whnf);first|(refine Bb ?_;intros)|(refine Bc ?_ ?_<;>intro e h)|(refine Be ?_ ?_<;>intro _)|refine vf hn hl ?_|refine JZ hp0 hl ?_|refine pI ht AC AC ?_)
  conv=>whnf
  refine bY (α:=Nat) (β:=Int) (λpos v=>[(6,.int .i64 v)]) (λpos v=>[(0,[.Ql t pos])]) [0,4,5,21] [] (λ_ _=>st) (λpos v=>pos<=t.length/\BP b (t.drop pos)=t.length - pos/\K8 b t 0=K8 b (t.drop pos) v/\0<=v/\v<=4611686018427387904) (λpos v=>t.length - pos) 0 0 ⟨Nat.zero_le _,by rw [List.drop_zero];omega,by rw [List.drop_zero],AC,AC⟩ Yl (St.le_refl _) ?_
  rintro pos v ⟨j1,j2,j3,j4,j5⟩
  rw [j3] at h
  have hb0:0<b:=AC
  repeat' ((conv=>whnf);first|(refine Bb ?_;intros)|(refine Bc ?_ ?_<;>intro e h)|(refine Be ?_ ?_<;>intro _)|refine WK (λc m hd=>?_)|refine Wr hb0 AC AC ?_|refine rA AC ‹_› ‹_› j2 (λd U hd1 hd2=>?_)|refine yT hb j4 hd1 hd2 ‹_› ?_|refine yj hb j4 hd1 hd2 ‹_› ?_)
  .rename_i hlt hgt
   obtain ⟨e1,e2⟩:=ah (v:=v) (base:=b) hlt hd (by rw [<-U];omega)
   rw [e2,<-U,if_pos hgt] at h
   exact fin h rfl
  .rename_i hlt hgt
   obtain ⟨e1,e2⟩:=ah (v:=v) (base:=b) hlt hd (by rw [<-U];omega)
   have e3:=(N8 (base:=b) hlt hd (by rw [<-U];omega)).2
   rw [<-U,if_neg hgt] at e2
   have hf:=yA hb j4 hd1 hd2 hgt
   subst e1
   conv=>whnf
   exact ⟨(pos+1,v*b+d),⟨So,So,by rw [j3,e2],hf.1,hf.2⟩,So,Yl,St.le_refl _⟩
  .rename_i hlt
   rw [List.drop_eq_nil_iff.2 AC] at h
   exact fin h rfl
end
def FQ:Er->Aj->Prop:=λ_ _=>True
def Dv (A:Rd Nd):Prop:=∀s,Rd.wp A s (λn s'=>Bf [n] s s') FQ
theorem Dv.at {A:Rd Nd} (h:Dv A) {s s':Aj} {n:Nd} (e:A.run s=.inr (n,s')):Bf [n] s s':=by
 have:=h s
 unfold Rd.wp at this
 simp_all
theorem Dv.of {A:Rd Nd} (h:∀s n s',A.run s=.inr (n,s')->Bf [n] s s'):Dv A:=λs=>Rd.U4 (λn s' e=>h s n s' e) (λ_ _ _=>trivial)
theorem Dv.size {A:Rd Nd} (h:Dv A) {s s':Aj} {n:Nd} (e:A.run s=.inr (n,s')):n.size+4*mu s'<=4*mu s:=(h.at e).ze
theorem BV {c:Prop} [Decidable c] {P Q:Prop} (U:c->P) (h2:¬c->Q):if c then P else Q:=i7
structure Real (s:Aj):Prop where
 ok:(Ac s).2.2=0
 lt:(Ac s).1.kind<18
 ne:(Ac s).1.kind≠0
section
variable {A B C:Rd Nd} {s s0 s1 s2 s':Aj} {Q:Nd->Aj->Prop} {L:E9}
theorem BN (h:Bq s k x=true) (U:k≠0) (h1:k<18):Real s:=by
 have e:(Ac s).1.kind=k:=by
  unfold Bq at h
  simp only [Bool.and_eq_true,beq_iff_eq] at h
  exact h.1
 exact ⟨F6 h U,AC,AC⟩
theorem N4 (h:(Ac s).1.kind≠0) (U:(Ac s).1.kind<18):Real s:=⟨Io h,U,h⟩
theorem D0 (h:((Ac s).1.kind==k)=true) (U:k≠0) (h1:k<18):Real s:=by
 rw [beq_iff_eq] at h;exact N4 AC AC
theorem EO (h:FU (Ac s).1=true):Real s:=by
 unfold FU at h
 simp only [Bool.or_eq_true,Bool.and_eq_true,beq_iff_eq] at h
 exact N4 AC AC
theorem ER (h:Pg (Ac s).1=true):Real s:=by
 unfold Pg at h
 simp only [Bool.or_eq_true,Bool.and_eq_true,beq_iff_eq] at h
 exact N4 AC AC
theorem EP (h:My (Ac s).1=true):Real s:=by
 unfold My at h
 simp only [Bool.or_eq_true,Bool.and_eq_true,beq_iff_eq] at h
 exact N4 AC AC
theorem Ur (h:L9 t=true):Hf t=true:=by
 unfold L9 at h
 unfold Hf
 grind
theorem IM (U:Dv A) (k:∀n s1,Bf [n] s s1->Q n s1):Rd.wp A s Q FQ:=Rd.wp_mono (U s) (λn s1 _ h=>k n s1 h) (λ_ _ _ _=>trivial)
theorem CK (U:Real s) (k:Bf [BA (Ac s).1] s (Ac s).2.1->Q (BA (Ac s).1) (Ac s).2.1):Rd.wp AR s Q FQ:=by
 unfold Rd.wp
 rw [C6 U.ok]
 exact k (.tok U.ok U.lt U.ne)
theorem TO (U:k≠0) (h1:k<18) (kk:∀n s1,Bf [n] s s1->Q n s1):Rd.wp (Bx k x) s Q FQ:=by
 unfold Bx
 rw [Rd.Aq,Rd.AK]
 exact BV (λe=>CK (BN e U h1) (kk _ _)) (λ_=>trivial)
theorem gF (U:(ks.all λk=>decide (k≠0)&&decide (k<18))=true) (kk:∀n s1,Bf [n] s s1->Q n s1):Rd.wp (Dl ks) s Q FQ:=by
 unfold Dl
 rw [Rd.Aq,Rd.AK]
 refine BV (λe=>?_) (λ_=>trivial)
 have:=List.all_eq_true.1 U _ (List.contains_iff_mem.1 e)
 simp only [Bool.and_eq_true,decide_eq_true_eq] at this
 exact CK (N4 this.1 this.2) (kk _ _)
theorem zx {Q:Unit->Aj->Prop} (hi:Hf (Ac s).1=true) (k:Bf [] s (Ac s).2.1->Q () (Ac s).2.1):Rd.wp K1 s Q FQ:=by
 have e:=Io (QH hi).1
 unfold K1
 rw [Rd.wp_seq]
 unfold Rd.wp
 rw [C6 e]
 exact k (.skip e hi)
theorem FA {body:σ->Rd (Sum σ β)} {P:σ->Aj->Prop} {Q:β->Aj->Prop} (hb:∀x s,P x s->Rd.wp (body x) s (λr s'=>match r with| .inl x'=>P x' s'| .inr y=>Q y s') FQ) {x:σ} {s:Aj} (h0:P x s):Rd.wp (Rd.loop body x) s Q FQ:=by
 have:∀y s',(Rd.loop body x).run s=.inr (y,s')->Q y s':=by
  show ∀y s',Rd.iter body x s=.inr (y,s')->Q y s'
  fun_induction Rd.iter body x s with
  |case1 x s e h=>simp_all
  |case2 x s y s1 h=>
   intro y' s' h';cases h'
   have:=hb x s h0
   unfold Rd.wp at this
   simp_all
  |case3 x s x' s1 h U ih=>
   have:=hb x s h0
   unfold Rd.wp at this
   simp_all
  |case4 x s x' s1 h U=>simp_all
 exact Rd.U4 this (λ_ _ _=>trivial)
theorem Bf.nn (h:Bf [BA t] s s') (hk:k≠1) (U:k≠30):Bf [Ar k [BA t]] s s':=.node h hk (by
 have:Qm [BA t]=3:=rfl
 unfold qB;simp_all)
theorem Bf.gd (h:Bf l s s') (U:3<=l.length):Bf [Ar 30 l] s s':=.node h Do (by have:=Q1 (l:=l);have:qB 30=2:=rfl;omega)
theorem Bf.Ia {m:Nd} (h:Bf [n] s s1) (k:Bf (m::l) s1 s2):Bf (n::m::l) s s2:=.app h k
theorem Bf.pass (h:Bf l s s1) (k:Bf [] s1 s2):Bf l s s2:=by
 have:=Bf.app h k
 simp_all
theorem Bf.pre (h:Bf [] s s1) (k:Bf l s1 s2):Bf l s s2:=Bf.app h k
theorem Cn {l:List α} {a b:α}:2<=(l++[a]++[b]).length:=i7
structure MS (L:E9):Prop where
 atom:Dv L.atom
 exp:Dv L.exp
 ops:Dv L.ops
 decls:Dv L.decls
 stmts:Dv L.stmts
 alts:Dv L.alts
 Ff:∀o s,Rd.wp (L.Ff o) s (λn s'=>∀s0,Bf [o] s0 s->Bf [n] s0 s') FQ
 list:∀o s,Rd.wp (L.list o) s (λn s'=>∀s0,Bf [o] s0 s->Bf [n] s0 s') FQ
theorem dvO {o:Nd} {B:Nd->Rd Nd} (hB:∀o s,Rd.wp (B o) s (λn s'=>∀s0,Bf [o] s0 s->Bf [n] s0 s') FQ) (U:Bf [o] s0 s) (k:∀n s1,Bf [n] s0 s1->Q n s1):Rd.wp (B o) s Q FQ:=
 Rd.wp_mono (hB o s) (λn s1 _ h=>k n s1 (h s0 U)) (λ_ _ _ _=>trivial)
theorem VA:Dv Jh:=λs=>by
 simp only [Jh,Rd.Aq,Rd.AK,Rd.wp_seq,Rd.wp_ret]
 repeat' (first
  |exact trivial
  |assumption
  |refine BV (λe=>?_) (λe=>?_)
  |refine CK (BN ‹_› Do Do) (λhn=>?_)
  |refine CK (D0 ‹_› Do Do) (λhn=>?_)
  |refine CK (EO ‹_›) (λhn=>?_)
  |refine CK (ER ‹_›) (λhn=>?_)
  |refine CK (EP ‹_›) (λhn=>?_)
  |refine CK ‹_› (λhn=>?_)
  |refine TO Do Do (λn s1 hn=>?_)
  |refine gF Do (λn s1 hn=>?_)
  |refine IM ‹_› (λn s1 hn=>?_)
  |exact Bf.nn ‹_› Do Do
  |refine Bf.two ?_ Do Do (by first|exact Nat.le_of_ble_eq_true rfl|exact Cn|(simp only [List.length_append,List.length_cons,List.length_nil];omega))
  |apply Bf.Ia
  |apply Bf.app)
theorem OE {p:Nd->Bool} (U:Dv A):Dv (DX A p):=λs=>by
 simp only [DX,Rd.Aq,Rd.AK,Rd.wp_seq,Rd.wp_ret,Rd.HB]
 repeat' (first
  |exact trivial
  |assumption
  |refine BV (λe=>?_) (λe=>?_)
  |refine CK (BN ‹_› Do Do) (λhn=>?_)
  |refine CK (D0 ‹_› Do Do) (λhn=>?_)
  |refine CK (EO ‹_›) (λhn=>?_)
  |refine CK (ER ‹_›) (λhn=>?_)
  |refine CK (EP ‹_›) (λhn=>?_)
  |refine CK ‹_› (λhn=>?_)
  |refine TO Do Do (λn s1 hn=>?_)
  |refine gF Do (λn s1 hn=>?_)
  |refine IM ‹_› (λn s1 hn=>?_)
  |refine Bf.two ?_ Do Do (by first|exact Nat.le_of_ble_eq_true rfl|exact Cn|(simp only [List.length_append,List.length_cons,List.length_nil];omega))
  |apply Bf.Ia
  |apply Bf.app)
theorem lM {Q:List Nd->Aj->Prop} (U:Bf l s0 s) (k:∀l s1,Bf l s0 s1->Q l s1):Rd.wp (cj l) s Q FQ:=by
 refine FA (P:=λl s=>Bf l s0 s) (λl s U=>?_) U
 simp only [cg,Rd.Aq,Rd.AK,Rd.wp_seq,Rd.wp_ret]
 repeat' (first
  |exact trivial
  |assumption
  |refine BV (λe=>?_) (λe=>?_)
  |refine CK (BN ‹_› Do Do) (λhn=>?_)
  |refine CK (D0 ‹_› Do Do) (λhn=>?_)
  |refine CK (EO ‹_›) (λhn=>?_)
  |refine CK (ER ‹_›) (λhn=>?_)
  |refine CK (EP ‹_›) (λhn=>?_)
  |refine CK ‹_› (λhn=>?_)
  |refine TO Do Do (λn s1 hn=>?_)
  |refine gF Do (λn s1 hn=>?_)
  |refine IM ‹_› (λn s1 hn=>?_)
  |exact Bf.snoc U (Bf.nn ‹_› Do Do)
  |exact k _ _ U
  |refine Bf.two ?_ Do Do (by first|exact Nat.le_of_ble_eq_true rfl|exact Cn|(simp only [List.length_append,List.length_cons,List.length_nil];omega))
  |apply Bf.Ia
  |apply Bf.app)
theorem lP {Q:List Nd×Bool->Aj->Prop} (hA:Dv A) (k:∀l b s1,1<=l.length->(b=true->2<=l.length/\Bq s1 15 [41]=true)->Bf l s s1->Q (l,b) s1):Rd.wp (Ul A b) s Q FQ:=by
 refine FA (P:=λl s1=>Bf l s s1) (λl s1 h0=>?_) (Bf.nil s)
 simp only [o9,Rd.Aq,Rd.AK,Rd.wp_seq,Rd.wp_ret]
 refine lM h0 (λl s1 h0=>?_)
 have ho:=VA
 refine IM hA (λn s2 hn=>?_)
 refine BV (λe=>?_) (λe=>k _ _ _ i7 (λh=>by cases h) (h0.snoc hn))
 refine IM ho (λo s3 U=>?_)
 exact BV (λ_=>BV (λe=>k _ _ _ (Nat.le_trans Do Cn) (λ_=>⟨Cn,e⟩) ((h0.snoc hn).snoc U)) λe=>(h0.snoc hn).snoc U) λe=>(h0.snoc hn).snoc U
theorem RJ (hA:Dv A):Dv (cz A):=λs=>by
 simp only [cz,Rd.wp_seq,Rd.wp_ret]
 exact lP hA λl b s1 U _ h=>h.one Do Do U
theorem Yi (hA:Dv A) (U:Bf [n] s0 s) (k:∀n s1,Bf [n] s0 s1->Q n s1):Rd.wp (Pv A n) s Q FQ:=by
 simp only [Pv,Rd.Aq,Rd.AK,Rd.wp_seq,Rd.wp_ret]
 repeat' (first
  |exact trivial
  |assumption
  |refine BV (λe=>?_) (λe=>?_)
  |refine CK (BN ‹_› Do Do) (λhn=>?_)
  |refine CK (D0 ‹_› Do Do) (λhn=>?_)
  |refine CK (EO ‹_›) (λhn=>?_)
  |refine CK (ER ‹_›) (λhn=>?_)
  |refine CK (EP ‹_›) (λhn=>?_)
  |refine CK ‹_› (λhn=>?_)
  |refine TO Do Do (λn s1 hn=>?_)
  |refine gF Do (λn s1 hn=>?_)
  |refine IM ‹_› (λn s1 hn=>?_)
  |refine k _ _ ?_
  |refine Bf.two ?_ Do Do (by first|exact Nat.le_of_ble_eq_true rfl|exact Cn|(simp only [List.length_append,List.length_cons,List.length_nil];omega))
  |apply Bf.Ia
  |apply Bf.app)
theorem wq (U:Dv A) (hB:Dv B):Dv (gR A B):=λs=>by
 simp only [gR,Rd.wp_seq]
 exact IM (RJ U) λn s1 h=>Yi hB h λn s1 h=>h
theorem Yg {a b:Nd} (hL:MS L) (U:Bf [a,b] s0 s) (k:∀n s1,Bf [n] s0 s1->Q n s1):Rd.wp (OV L a b) s Q FQ:=by
 have h1:=hL.exp
 simp only [OV,Rd.wp_seq,Rd.wp_ret]
 repeat' (first
  |exact trivial
  |assumption
  |refine BV (λe=>?_) (λe=>?_)
  |refine CK (BN ‹_› Do Do) (λhn=>?_)
  |refine CK (D0 ‹_› Do Do) (λhn=>?_)
  |refine CK (EO ‹_›) (λhn=>?_)
  |refine CK (ER ‹_›) (λhn=>?_)
  |refine CK (EP ‹_›) (λhn=>?_)
  |refine CK ‹_› (λhn=>?_)
  |refine TO Do Do (λn s1 hn=>?_)
  |refine gF Do (λn s1 hn=>?_)
  |refine IM ‹_› (λn s1 hn=>?_)
  |exact k _ _ (Bf.two (l:=[a,b,_,_]) (Bf.app U (Bf.Ia ‹_› ‹_›)) Do Do (Nat.le_of_ble_eq_true rfl))
  |refine Bf.two ?_ Do Do (by first|exact Nat.le_of_ble_eq_true rfl|exact Cn|(simp only [List.length_append,List.length_cons,List.length_nil];omega))
  |apply Bf.Ia
  |apply Bf.app)
theorem gI (hL:MS L) (hA:Dv A) (hr:Real s) (k:∀n s1,Bf [n] s s1->Q n s1):Rd.wp (NJ L A) s Q FQ:=by
 have h1:=hL.exp
 simp only [NJ,Rd.wp_seq]
 refine CK hr λU=>?_
 refine FA (P:=λl s1=>Bf l s s1) (λl s1 U=>?_) U
 .have h2:=OE (p:=Kj) hA
  simp only [VZ,QK,Rd.Aq,Rd.AK,Rd.wp_seq,Rd.wp_ret]
  repeat' (first
   |exact trivial
   |assumption
   |refine BV (λe=>?_) (λe=>?_)
   |refine CK (BN ‹_› Do Do) (λhn=>?_)
   |refine CK (D0 ‹_› Do Do) (λhn=>?_)
   |refine CK (EO ‹_›) (λhn=>?_)
   |refine CK (ER ‹_›) (λhn=>?_)
   |refine CK (EP ‹_›) (λhn=>?_)
   |refine CK ‹_› (λhn=>?_)
   |refine TO Do Do (λn s1 hn=>?_)
   |refine gF Do (λn s1 hn=>?_)
   |refine IM ‹_› (λn s1 hn=>?_)
   |exact k _ _ (Bf.two (Bf.snoc (Bf.snoc U ‹_›) ‹_›) Do Do Cn)
   |refine Bf.two ?_ Do Do (by first|exact Nat.le_of_ble_eq_true rfl|exact Cn|(simp only [List.length_append,List.length_cons,List.length_nil];omega))
   |apply Bf.Ia
   |apply Bf.app)
theorem rJ {Q:Unit->Aj->Prop} (k:∀s1,Bf [] s s1->Q () s1):Rd.wp (fo w) s Q FQ:=by
 simp only [fo,Rd.Aq,Rd.AK,Rd.wp_ret]
 exact BV (λe=>BV (λ_=>zx (Ur e) (k _)) λ_=>k _ (.nil _)) λ_=>k _ (.nil _)
theorem dP {Q:List Nd->Aj->Prop} (hL:MS L) (U:Bf l s0 s) (k:∀a e s1,Bf (l++[a]++[e]) s0 s1->Q (l++[a]++[e]) s1):Rd.wp (PX L l w) s Q FQ:=by
 have h1:=hL.exp
 simp only [PX,Rd.wp_seq,Rd.wp_ret]
 refine rJ λs1 hs=>?_
 have U:=U.pass hs
 repeat' (first
  |exact trivial
  |assumption
  |refine BV (λe=>?_) (λe=>?_)
  |refine CK (BN ‹_› Do Do) (λhn=>?_)
  |refine CK (D0 ‹_› Do Do) (λhn=>?_)
  |refine CK (EO ‹_›) (λhn=>?_)
  |refine CK (ER ‹_›) (λhn=>?_)
  |refine CK (EP ‹_›) (λhn=>?_)
  |refine CK ‹_› (λhn=>?_)
  |refine TO Do Do (λn s1 hn=>?_)
  |refine gF Do (λn s1 hn=>?_)
  |refine IM ‹_› (λn s1 hn=>?_)
  |refine k _ _ _ ?_
  |refine Bf.two ?_ Do Do (by first|exact Nat.le_of_ble_eq_true rfl|exact Cn|(simp only [List.length_append,List.length_cons,List.length_nil];omega))
  |apply Bf.Ia
  |apply Bf.app)
theorem gG (U:MS L) (hr:Real s) (k:∀n s1,Bf [n] s s1->Q n s1):Rd.wp (M9 L) s Q FQ:=by
 have h1:=U.exp
 simp only [M9,Rd.wp_seq,Rd.wp_ret]
 refine CK hr λh0=>?_
 refine IM h1 λc s1 hc=>?_
 exact dP U (h0.cons hc) λa e s2 h2=>dP U h2 λa e s3 h3=>k _ _ (h3.two Do Do Cn)
theorem rG (U:MS L) (hr:Real s) (k:∀n s1,Bf [n] s s1->Q n s1):Rd.wp (dC L) s Q FQ:=by
 have h1:=U.exp
 have h2:=U.alts
 simp only [dC,Rd.wp_seq,Rd.wp_ret]
 refine CK hr λh0=>?_
 repeat' (first
  |exact trivial
  |assumption
  |refine BV (λe=>?_) (λe=>?_)
  |refine CK (BN ‹_› Do Do) (λhn=>?_)
  |refine CK (D0 ‹_› Do Do) (λhn=>?_)
  |refine CK (EO ‹_›) (λhn=>?_)
  |refine CK (ER ‹_›) (λhn=>?_)
  |refine CK (EP ‹_›) (λhn=>?_)
  |refine CK ‹_› (λhn=>?_)
  |refine TO Do Do (λn s1 hn=>?_)
  |refine gF Do (λn s1 hn=>?_)
  |refine IM ‹_› (λn s1 hn=>?_)
  |refine k _ _ ?_
  |refine Bf.two ?_ Do Do (by first|exact Nat.le_of_ble_eq_true rfl|exact Cn|(simp only [List.length_append,List.length_cons,List.length_nil];omega))
  |apply Bf.Ia
  |apply Bf.app)
theorem lS (U:MS L) (hr:Real s) (k:∀n s1,Bf [n] s s1->Q n s1):Rd.wp (Tq L) s Q FQ:=by
 have h1:=U.stmts
 simp only [Tq,Rd.wp_seq,Rd.wp_ret,Rd.AK,Rd.Ep]
 refine CK hr λh0=>?_
 repeat' (first
  |exact trivial
  |assumption
  |refine BV (λe=>?_) (λe=>?_)
  |refine CK (BN ‹_› Do Do) (λhn=>?_)
  |refine CK (D0 ‹_› Do Do) (λhn=>?_)
  |refine CK (EO ‹_›) (λhn=>?_)
  |refine CK (ER ‹_›) (λhn=>?_)
  |refine CK (EP ‹_›) (λhn=>?_)
  |refine CK ‹_› (λhn=>?_)
  |refine TO Do Do (λn s1 hn=>?_)
  |refine gF Do (λn s1 hn=>?_)
  |refine IM ‹_› (λn s1 hn=>?_)
  |refine k _ _ ?_
  |refine Bf.two ?_ Do Do (by first|exact Nat.le_of_ble_eq_true rfl|exact Cn|(simp only [List.length_append,List.length_cons,List.length_nil];omega))
  |apply Bf.Ia
  |apply Bf.app)
theorem wu (U:MS L) (hr:Real s) (k:∀n s1,Bf [n] s s1->Q n s1):Rd.wp (sK L) s Q FQ:=by
 have h1:=U.decls
 simp only [sK,Rd.wp_seq]
 refine CK hr λh0=>?_
 exact IM h1 λb s1 hb=>Yg U (h0.cons hb) k
theorem lK (hA:Dv A) (k:∀n s1,Bf [n] s s1->Q n s1):Rd.wp (Ot A) s Q FQ:=by
 simp only [Ot,Rd.wp_seq,Rd.wp_ret]
 refine IM hA λn s1 hn=>?_
 refine FA (P:=λl s1=>Bf l s s1/\1<=l.length) (λl s1 U=>?_) ⟨hn,Nat.le_refl _⟩
 obtain ⟨U,hl⟩:=U
 simp only [aJ,Rd.Aq,Rd.AK,Rd.wp_seq,Rd.wp_ret]
 exact BV (λ_=>IM hA λn s1 hn=>⟨U.snoc hn,i7⟩) λ_=>k _ _ (U.one Do Do hl)
theorem aU (hL:MS L) (hA:Dv A):Dv (Ji L A):=λs=>by
 simp only [Ji,Rd.Aq,Rd.AK]
 have U:=lK (s:=s) (Q:=λn s'=>Bf [n] s s') hA λ_ _ h=>h
 refine BV (λe=>BV (λ_=>gI hL hA (D0 e Do Do) λ_ _ h=>h) λ_=>U) λ_=>BV (λe=>?_) λ_=>U
 have hr:=D0 e Do Do
 exact BV (λ_=>wu hL hr λ_ _ h=>h) λ_=>BV (λ_=>gG hL hr λ_ _ h=>h) λ_=>BV (λ_=>rG hL hr λ_ _ h=>h) λ_=>BV (λ_=>lS hL hr λ_ _ h=>h) λ_=>U
theorem dO {o:Nd} (U:Bf [o] s0 s) (k:∀n s1,Bf [n] s0 s1->Q n s1):Rd.wp (YA o) s Q FQ:=by
 simp only [YA,Rd.wp_seq,Rd.wp_ret]
 refine FA (P:=λl s1=>Bf l s0 s1/\1<=l.length) (λl s1 U=>?_) ⟨U,Nat.le_refl _⟩
 obtain ⟨U,hl⟩:=U
 simp only [Vn,Rd.Aq,Rd.AK,Rd.wp_seq,Rd.wp_ret]
 exact BV (λe=>CK (BN e Do Do) λh=>⟨U.snoc h,i7⟩) λ_=>TO Do Do λn s1 h=>k _ _ ((U.snoc h).two Do Do i7)
theorem gL {o:Nd} (U:MS L) (h0:Bf [o] s0 s) (k:∀n s1,Bf [n] s0 s1->Q n s1):Rd.wp (S6 L o) s Q FQ:=by
 have h1:=U.ops
 have h2:=VA
 simp only [S6,Rd.Aq,Rd.AK,Rd.wp_seq,Rd.wp_ret]
 repeat' (first
  |exact trivial
  |assumption
  |refine BV (λe=>?_) (λe=>?_)
  |refine CK (BN ‹_› Do Do) (λhn=>?_)
  |refine CK (D0 ‹_› Do Do) (λhn=>?_)
  |refine CK (EO ‹_›) (λhn=>?_)
  |refine CK (ER ‹_›) (λhn=>?_)
  |refine CK (EP ‹_›) (λhn=>?_)
  |refine CK ‹_› (λhn=>?_)
  |refine TO Do Do (λn s1 hn=>?_)
  |refine gF Do (λn s1 hn=>?_)
  |refine IM ‹_› (λn s1 hn=>?_)
  |exact dvO U.Ff h0 k
  |refine k _ _ ?_
  |refine Bf.two ?_ Do Do (by first|exact Nat.le_of_ble_eq_true rfl|exact Cn|(simp only [List.length_append,List.length_cons,List.length_nil];omega))
  |apply Bf.Ia
  |apply Bf.app)
theorem gK {o:Nd} (hL:MS L) (U:Bf [o] s0 s) (k:∀n s1,Bf [n] s0 s1->Q n s1):Rd.wp (Xh L o) s Q FQ:=by
 simp only [Xh,Rd.Aq,Rd.AK,Rd.wp_seq,Rd.wp_ret]
 have hc:=gL (Q:=Q) hL U k
 refine BV (λe=>BV (λe2=>?_) λ_=>hc) λ_=>hc
 exact CK (ER e) λh1=>CK (BN e2 Do Do) λh2=>k _ _ ((U.cons (h1.cons h2)).two Do Do (Nat.le_of_ble_eq_true rfl))
theorem lO (hL:MS L) (hr:Real s) (k:∀n s1,Bf [n] s s1->Q n s1):Rd.wp (S7 L) s Q FQ:=by
 simp only [S7,Rd.Aq,Rd.AK,Rd.wp_seq]
 exact CK hr λU=>BV (λ_=>dO U k) λ_=>BV (λ_=>dO U k) λ_=>gK hL U k
theorem gM (hL:MS L) (hr:Real s) (k:∀n s1,Bf [n] s s1->Q n s1):Rd.wp (Oc L) s Q FQ:=by
 simp only [Oc,Rd.Aq,Rd.AK,Rd.wp_seq,Rd.wp_ret]
 refine CK hr λU=>?_
 repeat' (first
  |exact trivial
  |assumption
  |refine BV (λe=>?_) (λe=>?_)
  |refine CK (BN ‹_› Do Do) (λhn=>?_)
  |refine CK (D0 ‹_› Do Do) (λhn=>?_)
  |refine CK (EO ‹_›) (λhn=>?_)
  |refine CK (ER ‹_›) (λhn=>?_)
  |refine CK (EP ‹_›) (λhn=>?_)
  |refine CK ‹_› (λhn=>?_)
  |refine TO Do Do (λn s1 hn=>?_)
  |refine gF Do (λn s1 hn=>?_)
  |refine IM ‹_› (λn s1 hn=>?_)
  |exact dvO hL.list U k
  |refine k _ _ ?_
  |refine Bf.two ?_ Do Do (by first|exact Nat.le_of_ble_eq_true rfl|exact Cn|(simp only [List.length_append,List.length_cons,List.length_nil];omega))
  |apply Bf.Ia
  |apply Bf.app)
theorem rF (U:MS L):Dv (Ub L):=λs=>by
 have h1:=U.atom
 simp only [Ub,Rd.Aq,Rd.AK,Rd.wp_seq,Rd.wp_ret]
 refine BV (λe=>?_) λ_=>trivial
 have hr:=EO e
 repeat' (first
  |exact trivial
  |assumption
  |refine BV (λe=>?_) (λe=>?_)
  |refine CK (BN ‹_› Do Do) (λhn=>?_)
  |refine CK (D0 ‹_› Do Do) (λhn=>?_)
  |refine CK (EO ‹_›) (λhn=>?_)
  |refine CK (ER ‹_›) (λhn=>?_)
  |refine CK (EP ‹_›) (λhn=>?_)
  |refine CK ‹_› (λhn=>?_)
  |refine TO Do Do (λn s1 hn=>?_)
  |refine gF Do (λn s1 hn=>?_)
  |refine IM ‹_› (λn s1 hn=>?_)
  |exact lO U hr λ_ _ h=>h
  |exact gM U hr λ_ _ h=>h
  |exact Bf.nn ‹_› Do Do
  |refine Bf.two ?_ Do Do (by first|exact Nat.le_of_ble_eq_true rfl|exact Cn|(simp only [List.length_append,List.length_cons,List.length_nil];omega))
  |apply Bf.Ia
  |apply Bf.app)
theorem gJ (hL:MS L) (hr:Real s) (U:Bf [n] s0 s) (k:∀n s1,Bf [n] s0 s1->Q n s1):Rd.wp (LA L n) s Q FQ:=by
 have h1:=hL.exp
 simp only [LA,Rd.wp_seq,Rd.wp_ret]
 refine CK hr λhb=>?_
 refine FA (P:=λl s1=>Bf l s0 s1/\1<=l.length) (λl s1 U=>?_) ⟨U.cons hb,Nat.le_of_ble_eq_true rfl⟩
 obtain ⟨U,hl⟩:=U
 have hend:∀{l:List Nd} {s:Aj},Bf l s0 s->1<=l.length->Rd.wp (Bx 15 [125]) s (λc s'=>Q (Ar 12 (l++[c])) s') FQ:=λU hl=>TO Do Do λn s1 h=>k _ _ ((U.snoc h).two Do Do i7)
 simp only [Xe,VD,Rd.Aq,Rd.AK,Rd.wp_seq,Rd.wp_ret]
 have hf:Rd.wp (Dl [1,3]) s1 (λnm s'=>Rd.wp (Bx 10 [61]) s' (λq s'=>Rd.wp L.exp s' (λe s'=>if Bq s' 15 [44]=true then Rd.wp AR s' (λc s'=>Bf (l++[Ar 13 [nm,q,e]]++[c]) s0 s'/\1<=(l++[Ar 13 [nm,q,e]]++[c]).length) FQ
  else Rd.wp (Bx 15 [125]) s' (λc s'=>Q (Ar 12 (l++[Ar 13 [nm,q,e]]++[c])) s') FQ) FQ) FQ) FQ:=by
  refine gF Do λnm s2 g1=>TO Do Do λq s3 g2=>IM h1 λe s4 g3=>?_
  have h2:=U.snoc ((g1.cons (g2.cons g3)).two (k:=13) Do Do (Nat.le_of_ble_eq_true rfl))
  exact BV (λe=>CK (BN e Do Do) λh=>⟨h2.snoc h,Nat.le_trans Do Cn⟩) λ_=>hend h2 i7
 simp_all
theorem Nk (hL:MS L):Dv (MX L):=λs=>by
 simp only [MX,Rd.wp_seq]
 refine IM (rF hL) λn s1 hn=>?_
 refine FA (P:=λn s1=>Bf [n] s s1) (λn s1 U=>?_) hn
 simp only [kM,Rd.Aq,Rd.AK,Rd.wp_seq,Rd.wp_ret]
 exact BV (λe=>gJ hL (BN e Do Do) U λ_ _ h=>h) λ_=>U
end
section
variable {A B C D E:Rd Nd} {s s0 s1 s2 s':Aj} {Q:Nd->Aj->Prop} {L:E9}
theorem jz:∀{l:List Nd},2<=l.length->l.take (l.length - 1)++[l.getLastD Gg]=l/\1<=(l.take (l.length - 1)).length:=λ{l} h=>by
 have U:l≠[]:=λe=>by simp_all
 refine ⟨?_,by grind⟩
 have h1:=List.dropLast_concat_getLast U
 grind
theorem Bf.split:∀{l:List Nd} {s s':Aj},Bf l s s'->∀{a b:List Nd},l=a++b->∃s1,Bf a s s1/\Bf b s1 s':=by
 intro l s s' h
 induction h with
 |nil s=>intro a b e;obtain ⟨rfl,rfl⟩:=List.append_eq_nil_iff.1 e.symm;exact ⟨s,.nil s,.nil s⟩
 |app h1 h2 i1 i2=>
  intro a b e
  rcases List.append_eq_append_iff.1 e with ⟨x,U,e2⟩|⟨x,U,e2⟩
  .obtain ⟨s1,k1,k2⟩:=i2 e2
   subst U
   exact ⟨s1,.app h1 k1,k2⟩
  .obtain ⟨s1,k1,k2⟩:=i1 U
   subst e2
   exact ⟨s1,k1,.app k2 h2⟩
 |tok g1 g2 g3=>
  intro a b e
  match a with
  |[]=>rw [List.nil_append] at e;subst e;exact ⟨_,.nil _,.tok g1 g2 g3⟩
  |x::r=>
   rw [List.cons_append] at e
   injection e with U e2
   obtain ⟨rfl,rfl⟩:=List.append_eq_nil_iff.1 e2.symm
   subst U
   exact ⟨_,.tok g1 g2 g3,.nil _⟩
 |skip g1 g2=>intro a b e;obtain ⟨rfl,rfl⟩:=List.append_eq_nil_iff.1 e.symm;exact ⟨_,.nil _,.skip g1 g2⟩
 |close g1=>intro a b e;obtain ⟨rfl,rfl⟩:=List.append_eq_nil_iff.1 e.symm;exact ⟨_,.nil _,.close g1⟩
 |node g1 g2 g3 ih=>
  intro a b e
  match a with
  |[]=>rw [List.nil_append] at e;subst e;exact ⟨_,.nil _,.node g1 g2 g3⟩
  |x::r=>
   rw [List.cons_append] at e
   injection e with U e2
   obtain ⟨rfl,rfl⟩:=List.append_eq_nil_iff.1 e2.symm
   subst U
   exact ⟨_,.node g1 g2 g3,.nil _⟩
 |block g1 g2 g3 ih=>
  intro a b e
  match a with
  |[]=>rw [List.nil_append] at e;subst e;exact ⟨_,.nil _,.block g1 g2 g3⟩
  |x::r=>
   rw [List.cons_append] at e
   injection e with U e2
   obtain ⟨rfl,rfl⟩:=List.append_eq_nil_iff.1 e2.symm
   subst U
   exact ⟨_,.block g1 g2 g3,.nil _⟩
theorem lL {o:Nd} (hA:Dv A) (hB:Dv B) (hC:Dv C):∀s,Rd.wp (Fz A B C o) s (λn s'=>∀s0,Bf [o] s0 s->Bf [n] s0 s') FQ:=λs=>by
 simp only [Fz,Rd.AK,Rd.wp_seq,Rd.wp_ret]
 refine lP hA λl b s1 h1 h2 hl=>?_
 dsimp only
 refine BV (λe=>?_) λ_=>?_
 .obtain ⟨h3,h4⟩:=h2 e
  obtain ⟨t1,t2⟩:=jz h3
  obtain ⟨s2,k1,k2⟩:=hl.split t1.symm
  exact CK (BN h4 Do Do) λg1 s0 U=>(U.cons ((k1.one Do Do t2).cons (k2.cons g1))).two Do Do (Nat.le_of_ble_eq_true rfl)
 .refine Yi hB (hl.one Do Do h1) λn s1 hn=>?_
  refine FA (P:=λq s1=>(q.1=4\/q.1=5)/\2<=q.2.length/\∀s0,Bf [o] s0 s->Bf q.2 s0 s1) (λq s1 h0=>?_) ⟨.inl rfl,Nat.le_refl _,λs0 U=>U.cons hn⟩
  obtain ⟨hq,hl,h0⟩:=h0
  simp only [db,Rd.Aq,Rd.AK,Rd.wp_seq,Rd.wp_ret]
  refine BV (λe=>CK (BN e Do Do) λg1=>IM hC λn s2 g2=>⟨.inr trivial,Cn,λs0 U=>((h0 s0 U).snoc g1).snoc g2⟩) λ_=>TO Do Do λc s2 hc s0 U=>?_
  exact ((h0 s0 U).snoc hc).two AC AC (by grind)
theorem Yh {Q:List Nd->Aj->Prop} (hA:Dv A) (U:Bf l s0 s) (k:∀l' s1,l.length+2<=l'.length->Bf l' s0 s1->Q l' s1):Rd.wp (Gx A l) s Q FQ:=by
 simp only [Gx,Rd.wp_seq]
 refine TO Do Do λb s1 hb=>IM hA λt s2 ht=>?_
 refine FA (P:=λl' s1=>Bf l' s0 s1/\l.length+2<=l'.length) (λl' s1 U=>?_) ⟨(U.snoc hb).snoc ht,i7⟩
 obtain ⟨U,hl⟩:=U
 simp only [O3,Rd.Aq,Rd.AK,Rd.wp_seq,Rd.wp_ret]
 exact BV (λe=>CK (BN e Do Do) λg1=>IM hA λn s2 g2=>⟨(U.snoc g1).snoc g2,by grind⟩) λ_=>k _ _ hl U
theorem rI {o:Nd} (hA:Dv A) (hB:Dv B):∀s,Rd.wp (SE A B o) s (λn s'=>∀s0,Bf [o] s0 s->Bf [n] s0 s') FQ:=λs=>by
 simp only [SE,Rd.Aq,Rd.AK,Rd.wp_seq,Rd.wp_ret]
 refine IM hA λe s1 he=>BV (λ_=>?_) λ_=>?_
 .have:Rd.wp (Gx B [o,e]) s1 (λl s2=>Rd.wp (Bx 15 [93]) s2 (λc s'=>∀s0,Bf [o] s0 s->Bf [Ar 8 (l++[c])] s0 s') FQ) FQ:=by
   refine Rd.U4 (λl s2 hr=>?_) (λ_ _ _=>trivial)
   refine TO Do Do λc s3 hc s0 ho=>?_
   have h1:Rd.wp (Gx B [o,e]) s1 (λl s2=>Bf l s0 s2/\2<=l.length) FQ:=Yh hB (ho.cons he) λl' s1 hl h=>⟨h,AC⟩
   unfold Rd.wp at h1
   rw [hr] at h1
   exact (h1.1.snoc hc).two Do Do (by grind)
  omega
 .refine FA (P:=λl s1=>2<=l.length/\∀s0,Bf [o] s0 s->Bf l s0 s1) (λl s1 h0=>?_) ⟨Nat.le_refl _,λs0 ho=>ho.cons he⟩
  obtain ⟨hl,h0⟩:=h0
  have U:∀{k:Int} {l:List Nd} {s1:Aj},k≠1->k≠30->2<=l.length->(∀s0,Bf [o] s0 s->Bf l s0 s1)->Rd.wp (Bx 15 [93]) s1 (λc s'=>∀s0,Bf [o] s0 s->Bf [Ar k (l++[c])] s0 s') FQ:=λhk h30 hl h0=>
   TO Do Do λc s3 hc s0 ho=>((h0 s0 ho).snoc hc).two hk h30 (by grind)
  simp only [nH,ez,Rd.Aq,Rd.AK,Rd.wp_seq,Rd.wp_ret]
  have hc:if Bq s1 15 [44]=true then Rd.wp AR s1 (λc s'=>Rd.wp A s' (λe s'=>2<=(l++[c]++[e]).length/\∀s0,Bf [o] s0 s->Bf (l++[c]++[e]) s0 s') FQ) FQ
   else Rd.wp (Bx 15 [93]) s1 (λc s'=>∀s0,Bf [o] s0 s->Bf [Ar 6 (l++[c])] s0 s') FQ:=
   BV (λe=>CK (BN e Do Do) λg1=>IM hA λn s2 g2=>⟨Cn,λs0 ho=>((h0 s0 ho).snoc g1).snoc g2⟩) λ_=>U Do Do hl h0
  refine BV (λ_=>BV (λe=>CK (BN e Do Do) λg1=>BV (λ_=>?_) λ_=>IM hA λn s2 g2=>?_) λ_=>hc) λ_=>hc
  .exact U Do Do (by grind) λs0 ho=>(h0 s0 ho).snoc g1
  .exact U Do Do Cn λs0 ho=>((h0 s0 ho).snoc g1).snoc g2
theorem dM (hA:Dv A) (U:Bf [n] s0 s) (k:∀n s1,Bf [n] s0 s1->Q n s1):Rd.wp (X6 A n) s Q FQ:=by
 simp only [X6,Rd.Aq,Rd.AK,Rd.wp_seq,Rd.wp_ret,Rd.Ep]
 exact BV (λe=>BV (λ_=>CK (BN e Do Do) λg1=>IM hA λm s2 g2=>k _ _ ((U.cons (g1.cons g2)).two Do Do (Nat.le_of_ble_eq_true rfl))) λ_=>trivial) λ_=>k _ _ U
theorem rK (hL:MS L) (U:Dv A):Dv (UT L A):=λs=>by
 simp only [UT,Rd.Aq,Rd.AK,Rd.wp_seq,Rd.wp_ret]
 exact BV (λe=>CK (BN e Do Do) λg1=>IM hL.decls λb s2 g2=>BV (λ_=>Yg hL (g1.cons g2) λn s3 g3=>dM U g3 λ_ _ h=>h) λ_=>(g1.cons g2).two Do Do (Nat.le_of_ble_eq_true rfl))
  λ_=>IM U λn s3 g3=>dM U g3 λ_ _ h=>h
theorem dQ (hL:MS L) (hA:Dv A) (hB:Dv B) (U:Bf l s0 s) (hl:l=[]\/2<=Qm l) (k:∀n s1,Bf [n] s0 s1->Q n s1):Rd.wp (oZ L A B m l) s Q FQ:=by
 simp only [oZ,Rd.wp_seq,Rd.Aq,Rd.AK,Rd.wp_ret]
 refine FA (P:=λl s1=>Bf l s0 s1/\(l=[]\/2<=Qm l)) (λl s1 U=>?_) ⟨U,hl⟩
 obtain ⟨U,hl⟩:=U
 have hs:Rd.wp (Gx B []) s1 (λg s'=>Rd.wp (Bx 10 m) s' (λq s'=>Rd.wp A s' (λe s'=>Bf (l++[Ar 30 (g++[q]++[e])]) s0 s'/\(l++[Ar 30 (g++[q]++[e])]=[]\/2<=Qm (l++[Ar 30 (g++[q]++[e])]))) FQ) FQ) FQ:=by
  refine Yh hB (.nil s1) λg s2 hg h=>TO Do Do λq s3 g1=>IM hA λe s4 g2=>⟨U.snoc (Bf.gd ((h.snoc g1).snoc g2) (by grind)),.inr ?_⟩
  rw [J9]
  have:Qm [Ar 30 (g++[q]++[e])]=2:=rfl
  omega
 have he:∀{l:List Nd} {s1:Aj},Bf l s0 s1->2<=Qm l->if Bq s1 9 Ke=true then Rd.wp AR s1 (λw s'=>Rd.wp L.decls s' (λb s'=>Q (Ar 29 (l++[Ar 31 [w,b]])) s') FQ) FQ else Q (Ar 29 l) s1:=λ{l s1} U hl=>
  BV (λe=>CK (BN e Do Do) λg1=>IM hL.decls λb s2 g2=>k _ _ (.node (U.snoc ((g1.cons g2).two Do Do (Nat.le_of_ble_eq_true rfl))) Do (by rw [J9];have:qB 29=1:=rfl;omega)))
   λ_=>k _ _ (.node U Do (by have:qB 29=1:=rfl;omega))
 simp only [VP,Sg,Rd.Aq,Rd.AK,Rd.wp_seq,Rd.wp_ret]
 grind
theorem lN (hL:MS L) (hA:Dv A) (hB:Dv B):Dv (cL L A B m):=λs=>by
 simp only [cL,Rd.Aq,Rd.AK,Rd.wp_seq]
 refine BV (λe=>?_) λ_=>BV (λ_=>dQ hL hA hB (.nil s) (.inl rfl) λ_ _ h=>h) λ_=>trivial
 by_cases U:Real s
 .exact CK U λg1=>IM hA λe s2 g2=>dQ hL hA hB (g1.cons g2) (.inr (Nat.le_trans (Nat.le_of_ble_eq_true rfl) Q1)) λ_ _ h=>h
 .exact absurd (BN e Do Do) U
theorem wo (hL:MS L) (U:Dv A) (hB:Dv B) (hC:Dv C):Dv (fR L A B C):=λs=>by
 simp only [fR,Rd.AK,Rd.wp_seq,Rd.wp_ret,Rd.Ep]
 exact IM U λn s1 g1=>BV (λ_=>IM (lN hL hB hC) λr s2 g2=>(g1.cons g2).two Do Do (Nat.le_of_ble_eq_true rfl)) λ_=>trivial
theorem RI (U:Bf l s0 s) (hl:1<=l.length) (k:∀n s1,Bf [n] s0 s1->Q n s1):Rd.wp (Nv l) s Q FQ:=by
 have ho:=OE (p:=JY) VA
 simp only [Nv,Rd.wp_seq]
 refine IM ho λo s1 g1=>?_
 refine FA (P:=λl s1=>Bf l s0 s1/\2<=l.length) (λl s1 U=>?_) ⟨U.snoc g1,i7⟩
 obtain ⟨U,hl⟩:=U
 simp only [VI,Rd.Aq,Rd.AK,Rd.wp_seq,Rd.wp_ret]
 exact BV (λe=>CK (BN e Do Do) λg1=>IM ho λo s2 g2=>⟨(U.snoc g1).snoc g2,Cn⟩) λ_=>k _ _ (U.two Do Do hl)
theorem gH (U:Real s) (k:∀n s1,Bf [n] s s1->Q n s1):Rd.wp Nw s Q FQ:=by
 simp only [Nw,Rd.Aq,Rd.AK,Rd.wp_seq]
 refine CK U λg1=>BV (λe=>?_) λ_=>RI g1 (Nat.le_of_ble_eq_true rfl) k
 simp only [DX,Rd.Aq,Rd.AK,Rd.wp_seq,Rd.wp_ret,Rd.HB]
 exact CK (D0 e Do Do) λg2=>BV (λ_=>RI (g1.cons g2) (Nat.le_of_ble_eq_true rfl) k) λ_=>trivial
theorem lR (hA:Dv A) (hB:Dv B) (U:Bf [n] s0 s) (k:∀n s1,Bf [n] s0 s1->Q n s1):Rd.wp (ji A B n) s Q FQ:=by
 have ho:=OE (p:=Z3) hA
 simp only [ji,Rd.AK,Rd.wp_seq,Rd.Ep]
 refine BV (λ_=>?_) λ_=>trivial
 refine FA (P:=λl s1=>Bf l s0 s1) (λl s1 U=>?_) U
 simp only [xK,Rd.Aq,Rd.AK,Rd.wp_seq,Rd.wp_ret]
 exact BV (λe=>CK (BN e Do Do) λg1=>IM ho λo s2 g2=>(U.snoc g1).snoc g2) λ_=>TO Do Do λc s2 g1=>IM hB λt s3 g2=>k _ _ (((U.snoc g1).snoc g2).two Do Do Cn)
theorem rH (hL:MS L) (U:Dv A) (hB:Dv B) (hC:Dv C) (hD:Dv D) (hE:Dv E):Dv (Ui L A B C D E):=λs=>by
 simp only [Ui,Rd.Aq,Rd.AK,Rd.wp_seq,Rd.wp_ret,Rd.Ep]
 exact BV (λe=>gH (EP e) λ_ _ h=>h) λ_=>IM hB λn s1 g1=>BV (λ_=>lR U hE g1 λ_ _ h=>h) λ_=>BV (λ_=>lR U hE g1 λ_ _ h=>h) λ_=>
  BV (λ_=>IM (lN hL hC hD) λr s2 g2=>(g1.cons g2).two Do Do (Nat.le_of_ble_eq_true rfl)) λ_=>trivial
theorem lQ {Q:Unit->Aj->Prop} (k:∀s1,Bf [] s s1->Q () s1):Rd.wp Tc s Q FQ:=by
 refine FA (P:=λ_ s1=>Bf [] s s1) (λ_ s1 U=>?_) (.nil s)
 simp only [Xn,Rd.Aq,Rd.AK,Rd.wp_seq,Rd.wp_ret]
 exact BV (λe=>zx (Ur e) λh=>U.pass h) λ_=>k _ U
theorem Yf {f m:Bool} {Q:Bool->Aj->Prop} (k:∀b s1,Bf [] s s1->Q b s1):Rd.wp (JI f m) s Q FQ:=by
 simp only [JI,Rd.Aq,Rd.AK,Rd.wp_seq,Rd.wp_ret]
 have hi:∀{f:Bool},(if f then Bq s 15 [125] else (Ac s).1.kind==20)=true->Hf (Ac s).1=true:=λ{f} e=>by
  unfold Hf
  cases f with
  |true=>
   rw [if_pos rfl] at e
   unfold Bq at e
   simp_all
  |false=>
   simp_all
 refine BV (λe=>zx (hi e) λh=>k _ _ h) λ_=>BV (λ_=>BV (λ_=>trivial) λ_=>?_) λ_=>k _ _ (.nil s)
 unfold Rd.wp Oy
 dsimp only
 by_cases e:(CY s).2=true
 .rw [if_pos e];exact k _ _ (.close e)
 .rw [if_neg e];trivial
theorem RG (hA:Dv A):Dv (FV p A):=λs=>by
 simp only [FV,Rd.Aq,Rd.AK,Rd.wp_seq,Rd.wp_ret]
 have hb:∀{f:Bool} {s1:Aj},(Ac s).2.2=0->Hf (Ac s).1=true->(Ac s).2.1=s1->Rd.wp (Rd.loop (Vg p A f) []) s1 (λl s'=>Bf [Ed f l] s s') FQ:=λ{f s1} e1 e2 e3=>by
  subst e3
  refine FA (P:=λl s1=>Bf l (Ac s).2.1 s1) (λl s1 U=>?_) (.nil _)
  simp only [Vg,Rd.Aq,Rd.AK,Rd.wp_seq,Rd.wp_ret]
  refine lQ λs2 g2=>Yf λb s3 g3=>BV (λ_=>.block e1 e2 ((U.pass g2).pass g3)) λ_=>IM hA λn s4 g4=>Yf λb s5 g5=>BV (λ_=>.block e1 e2 ((((U.pass g2).pass g3).snoc g4).pass g5)) λ_=>(((U.pass g2).pass g3).snoc g4).pass g5
 refine BV (λe=>?_) λ_=>?_
 .have hi:Hf (Ac s).1=true:=by rw [beq_iff_eq] at e;simp [Hf,e]
  exact zx hi λ_=>hb (Io (QH hi).1) hi rfl
 .unfold Bx
  rw [Rd.Aq,Rd.AK]
  refine BV (λe=>?_) λ_=>trivial
  have hi:Hf (Ac s).1=true:=by
   unfold Bq at e
   simp only [Bool.and_eq_true,beq_iff_eq] at e
   simp [Hf,e.1,e.2]
  exact CK (BN e Do Do) λ_=>hb (Io (QH hi).1) hi rfl
theorem Nl (d:Nat):Dv (KH d):=Dv.of λs n s' h=>by
 have hd:Du (He (DP (DT (d - 1)))):=rC (dJ (dK _))
 refine hd s n s' ?_
 unfold KH JR at h
 grind
theorem dN {o:Nd} {e:Er}:∀s,Rd.wp (Rd.fail e:Rd Nd) s (λn s'=>∀s0,Bf [o] s0 s->Bf [n] s0 s') FQ:=λs=>trivial
theorem OG (U:MS L):Dv (oE L):=aU U (Nk U)
theorem Ll (U:Dv A) (hL:MS L):Dv (RT A L):=wq (OG hL) U
theorem KD (hA:Dv A) (U:MS L):Dv (Od A L):=rK U (Ll hA U)
theorem dL (hA:Dv A) (U:MS L):Dv (qJ A L):=wo U (RJ (OG U)) (Ll hA U) (KD hA U)
theorem RH (hA:Dv A) (U:MS L):Dv (Uh A L):=rH U (Nk U) (RJ (OG U)) (Ll hA U) (KD hA U) hA
theorem yv (hA:Dv A) (U:MS L):MS (zZ A L) where
 atom:=Nk U
 exp:=Ll hA U
 ops:=RJ (OG U)
 decls:=RG (RH hA U)
 stmts:=RG (KD hA U)
 alts:=RG (dL hA U)
 Ff:=λo=>lL (OG U) hA (Ll hA U)
 list:=λo=>rI (Ll hA U) (KD hA U)
theorem Vz:∀d,MS (iC d)
 |0=>⟨λ_=>trivial,λ_=>trivial,λ_=>trivial,λ_=>trivial,λ_=>trivial,λ_=>trivial,λo=>dN,λo=>dN⟩
 |d+1=>yv (Nl _) (Vz d)
end
theorem Dv.sz {A:Rd Nd} {s:Aj} (h:Dv A) (U:A.run s=.inr (n,s')) (hm:mu s<=100000000):n.size<=1000000000:=by have:=h.size U;omega
theorem oF {s:Aj} (h:Jh.run s=.inr (n,s')):∃x,n.kids[(Int.tdiv (n.kids.length:Int) 2).toNat]? =some x/\n.kids[n.kids.length / 2]? =some x:=by
 unfold Jh at h
 replace h:(if Pg (Ac s).1=true then Rd.seq AR λt=>.ret (Ar 18 [t]) else Rd.seq (Bx 15 [96]) λo=>.seq (Dl [1,2,3,4]) λn=>.seq (Bx 15 [96]) λc=>.ret (Ar 18 [o,n,c]):Rd Nd).run s=.inr (n,s'):=h
 split at h
 .obtain ⟨t,s1,_,h⟩:=Bj h
  cases h
  exact ⟨t,(by show [t][(Int.tdiv (1:Int) 2).toNat]? =some t;rw [show (Int.tdiv (1:Int) 2).toNat=0 by decide];rfl),by simp [Ar,Nd.kids]⟩
 .obtain ⟨o,s1,_,h⟩:=Bj h
  obtain ⟨x,s2,_,h⟩:=Bj h
  obtain ⟨c,s3,_,h⟩:=Bj h
  cases h
  exact ⟨x,(by show [o,x,c][(Int.tdiv (3:Int) 2).toNat]? =some x;rw [show (Int.tdiv (3:Int) 2).toNat=1 by decide];rfl),by simp [Ar,Nd.kids]⟩
section
variable {st0 st:St} {b d:Nat} {s:Aj} {rows:List (AE×List Nd)} {K:Au->St->Prop} {L:E9}
attribute [local irreducible] Go.Aw.Am
theorem rz (h:K (.ret (.bool (OD n))) st):PC 343 [enc n] st K:=by
 refine pB Tryz.func343 ?_
 repeat' ((conv=>whnf);(first|refine Bb ?_|refine Bc ?_ ?_|refine Be ?_ ?_|refine XL ?_)<;>intros)
 all_goals conv=>whnf
 all_goals (refine Av h ?_;clear h;simp_all [OD])
theorem Yu:AZ enc 341 (λb=>[pv b d,.func 344 [] [],.func 345 [] []]) (DX Jh JY):=
 Lo QT λhr _ k=>by obtain ⟨x,U,h2⟩:=oF hr;exact oL U h2 k
theorem rS:AZ enc 341 (λb=>[pv b d,.func 342 [] [],.func 343 [] []]) (DX AR OD):=
 Lo bC λ_ _ k=>rz k
theorem rZ {atom:Rd Nd} (ha:AZ enc 349 (λb=>[pv b d]) atom) (U:Dv atom):AZ enc 341 (λb=>[pv b d,.func 349 [] [],.func 348 [] []]) (DX atom Z3):=
 Lo ha λhr hm k=>eo (Dv.sz U hr hm) k
theorem gU:AZ enc 309 (λb=>[pv b d]) Nw:=by
 refine ⟨λ{st0 b s st rows K} U h=>?_⟩
 simp only [Nw,Nv,Rd.Aq,Rd.AK,Rd.wp_seq,Rd.wp_ret] at h
 have hmu:=U.mu
 refine pB Tryz.func309 ?_
 repeat' ((conv=>whnf);(first|refine Bb ?_|refine Bc ?_ ?_|refine Be ?_ ?_|refine Cx.Hh (l:=[_]) (Cx.push ‹_› [_]) (Nat.le_of_ble_eq_true rfl) ?_|refine Ix ?_|refine Mg ?_ ?_|refine La ?_|refine JA ?_ ?_|exact FR|refine Ku ?_|refine L0 ?_|refine Ae ?_|refine Gh.go (by first|exact AZ.q|exact rS.a|exact Yu.a) ?_ ?_)<;>intros)
 all_goals refine Ct (λl own=>[(3,.slice 6 (l.map Ax) own)]) (λ_ _=>[]) [1,2] [0,1] (λl own=>(own,l)::rows) (λl=>l.length) _ ‹_› ‹_› RK Yl ?_
 all_goals intro l s1 st1 own1 U h hl hm1
 all_goals simp only [VI,Rd.Aq,Rd.AK,Rd.wp_seq,Rd.wp_ret,Rd.Bv] at h
 all_goals (repeat' ((conv=>whnf);(first|refine Bb ?_|refine Bc ?_ ?_|refine Be ?_ ?_|refine Ix ?_|refine Mg ?_ ?_|refine La ?_|refine JA ?_ ?_|exact FR|refine Ku ?_|refine L0 ?_|refine Ae ?_|refine Gh.go (by first|exact AZ.q|exact Yu.a) ?_ ?_)<;>intros))
theorem xL {atom full:Rd Nd} (hn:n.size<=1000000000) (ha:AZ enc 349 (λb=>[pv b d]) atom) (hD:Dv atom) (hf:AZ enc 350 (λb=>[pv b d]) full):AZ enc 312 (λb=>[pv b d,enc n]) (ji atom full n):=by
 refine ⟨λ{st0 b s st rows K} U h=>?_⟩
 simp only [ji,Rd.AK,Rd.wp_seq,Rd.wp_ret,Rd.Ep] at h
 have hmu:=U.mu
 refine pB Tryz.func312 ?_
 repeat' ((conv=>whnf);(first|exact C7|refine Bb ?_|(refine C8 ?_ ?_ ?_;rotate_left)|refine Bc ?_ ?_|refine Be ?_ ?_|refine Ix ?_|refine Mg ?_ ?_|refine La ?_|refine JA ?_ ?_|exact FR|refine Ku ?_|refine L0 ?_|refine Ae ?_|refine eo hn ?_|refine V9 ?_|refine V8 ?_|refine Ad [(0,true),(1,true),(2,false),(3,false)] [] GE ?_|with_reducible refine WF ?_)<;>intros)
 all_goals refine Ct (λl own=>[(5,.slice 6 (l.map Ax) own)]) (λ_ _=>[]) [2,3,4] [0,1,2] (λl own=>(own,l)::rows) (λl=>l.length) .full (Cx.push ‹_› _) ‹_› (by show 1+_<=_;omega) Yl ?_
 all_goals intro l s1 st1 own1 U h hl hm1
 all_goals simp only [xK,Rd.Aq,Rd.AK,Rd.wp_seq,Rd.wp_ret,Rd.Bv] at h
 all_goals (repeat' ((conv=>whnf);(first|exact C7|refine Bb ?_|(refine C8 ?_ ?_ ?_;rotate_left)|refine Bc ?_ ?_|refine Be ?_ ?_|refine Ix ?_|refine Mg ?_ ?_|refine La ?_|refine JA ?_ ?_|exact FR|refine Ku ?_|refine L0 ?_|refine Ae ?_|refine Gh.go (by first|exact AZ.q|exact (rZ ha hD).a) ?_ ?_|with_reducible refine WF ?_)<;>intros))
theorem ry {atom ops exp full:Rd Nd} (hL:Mf d L) (ha:AZ enc 349 (λb=>[pv b d]) atom) (hD:Dv atom) (ho:AZ enc 310 (λb=>[pv b d]) ops) (hE:Dv ops) (he:AZ enc 353 (λb=>[pv b d]) exp)
 (hs:AZ enc 388 (λb=>[pv b d]) stmt) (hf:AZ enc 350 (λb=>[pv b d]) full):AZ enc 272 (λb=>[pv b d]) (Ui L atom ops exp stmt full):=by
 refine ⟨λ{st0 b s st rows K} hc h=>?_⟩
 simp only [Ui,Rd.Aq,Rd.AK,Rd.wp_seq,Rd.wp_ret,Rd.Ep] at h
 have U:=hc.mu
 refine pB Tryz.func272 ?_
 repeat' ((conv=>whnf);(first|exact C7|refine Bb ?_|(refine C8 ?_ ?_ ?_;rotate_left)|refine Bc ?_ ?_|refine Be ?_ ?_|refine Ix ?_|refine Mg ?_ ?_|exact FR|refine Ku ?_|refine Ae ?_|refine VH ?_|refine Gh.go (by first|exact AZ.q|exact gU.a|exact (xL (Dv.sz hE ‹_› U) ha hD hf).a|exact (o0 hL he hs).a) ?_ ?_|refine yO ?_|refine V9 ?_|refine V8 ?_|refine Ad [(0,true),(1,true),(2,false),(3,true),(4,false),(5,false)] [1] GE ?_|with_reducible refine WF ?_)<;>intros)
end
end Go.Proofs.Z
namespace Go.Aw
theorem Ny {fs:List V} {k:List V->Prop} (h:k (fs++cs)):F3 (fs++([]++cs)) k:=A9.2 h
end Go.Aw
namespace Go.Proofs.Z
open Go Go.Aw
theorem Dv.u6 {A:Rd Nd} (h:Dv A):Rd.A6 A:=λs n s' e=>by
 have U:=h.size e
 have h2:=size_pos n
 omega
def Qx (starts:Tk->Bool) (item:List Nd->Rd Nd) (f:Bool) (l:List Nd):Rd (Sum (List Nd) (List Nd)):=.seq Tc λ_=>.look λs=>.seq (JI f (!starts (Ac s).1)) λe=>
 if e=true then .ret (.inr l) else .seq (item l) λn=>.look λs=>.seq (JI f (!L9 (Ac s).1)) λe=>if e=true then .ret (.inr (l++[n])) else .ret (.inl (l++[n]))
def M7 (starts:Tk->Bool) (item:List Nd->Rd Nd):Rd Nd:=.look λs=>if ((Ac s).1.kind==18)=true then .seq K1 λ_=>.seq (.loop (Qx starts item false) []) λl=>.ret (Ed false l)
 else .seq (Bx 15 [123]) λ_=>.seq (.loop (Qx starts item true) []) λl=>.ret (Ed true l)
theorem YV {ih:(AG->Env->St->Prop)->Env->St->Prop} {Q0:AG->Env->St->Prop} {st:St} {b:Nat} {s:Aj} {Q:β->Aj->Prop} {E:Er->Aj->Prop} {body:σ->Rd (Sum σ β)} {x0:σ} (base:σ->St)
 (f:σ->AE->List (Nat×V)) (g:σ->AE->List (Nat×List V)) (keep kb:List Nat) (rw:σ->AE->List (AE×List Nd)) (wt:σ->Nat) (U:AE) (hc:Cx (base x0) b s st (rw x0 U)) (h:Rd.wp (Rd.loop body x0) s Q E) (hl:wt x0+4*mu s<=500000000)
 (he:(env.Mk (f x0 U) (g x0 U) keep kb).E4 env)
 (hb:∀x s1 st1 own1,Cx (base x) b s1 st1 (rw x own1)->Rd.wp (body x) s1 (Rd.again body s1 Q E) E->wt x+4*mu s1<=500000000->mu s1<=mu s->
   ih (BW (λenv' st'=>∃y:LS σ,(Cx (base y.x) b y.s y.m (rw y.x y.o)/\Rd.wp (Rd.loop body y.x) y.s Q E/\wt y.x+4*mu y.s<=500000000/\mu y.s<=mu s)/\mu y.s<mu s1/\(env.Mk (f y.x y.o) (g y.x y.o) keep kb).E4 env'/\St.le y.m st') Q0)
    (env.Mk (f x own1) (g x own1) keep kb) st1):
 ∃(α:Type) (E:α->Env) (S:α->St) (J:α->Prop) (μ:α->Nat) (x0:α),J x0/\(E x0).E4 env/\St.le (S x0) st/\
  ∀x,J x->ih (BW (λenv' st'=>∃y,J y/\μ y<μ x/\(E y).E4 env'/\St.le (S y) st') Q0) (E x) (S x):=
 ⟨LS σ,λy=>env.Mk (f y.x y.o) (g y.x y.o) keep kb,λy=>y.m,
   λy=>Cx (base y.x) b y.s y.m (rw y.x y.o)/\Rd.wp (Rd.loop body y.x) y.s Q E/\wt y.x+4*mu y.s<=500000000/\mu y.s<=mu s,λy=>mu y.s,⟨x0,s,st,U⟩,⟨hc,h,hl,Nat.le_refl _⟩,he,St.le_refl _,
   λy ⟨j1,j2,j3,j4⟩=>hb y.x y.s y.m y.o j1 (by rw [<-Rd.wp_loop];exact j2) j3 j4⟩
section
variable {st0 st:St} {b d:Nat} {s:Aj} {rows:List (AE×List Nd)} {K:Au->St->Prop} {L:E9}
attribute [local irreducible] Go.Aw.Am
theorem dG (hb:s.DN.length<=500000000) (h:K (.ret (.Bp [DD (CY s).1,.bool (CY s).2])) st):PC 269 [DD s] st K:=by
 refine pB Tryz.func269 ?_
 have h0:¬G2 s=0->s.DN≠[]:=λe e2=>e (by unfold G2;rw [e2];rfl)
 unfold CY at h
 by_cases U:LR s=true
 .by_cases hw:s.wait=1
  .rw [if_neg AC] at h
   repeat' ((conv=>whnf);(first|refine Bb ?_|refine Bc ?_ ?_|refine Be ?_ ?_|refine YY ?_|refine Qb ?_)<;>intros)
   all_goals first|exact AY rfl h|(rw [U] at *;simp at *)
  .by_cases ht:G2 s=0
   .rw [if_neg AC] at h
    repeat' ((conv=>whnf);(first|refine Bb ?_|refine Bc ?_ ?_|refine Be ?_ ?_|refine YY ?_|refine Qb ?_)<;>intros)
    all_goals first|exact AY rfl h|(rw [U] at *;simp at *)
   .rw [if_pos ⟨U,hw,ht⟩] at h
    repeat' ((conv=>whnf);(first|refine Bb ?_|refine Bc ?_ ?_|refine Be ?_ ?_|refine YY ?_|refine Qb ?_|refine Nc (h0 ht) hb ?_)<;>intros)
    all_goals first|exact AY rfl h|(rw [U] at *;simp at *)
 .rw [if_neg (by simp [U])] at h
  repeat' ((conv=>whnf);(first|refine Bb ?_|refine Bc ?_ ?_|refine Be ?_ ?_|refine YY ?_|refine Qb ?_)<;>intros)
  all_goals first|exact AY rfl h|exact absurd ‹_› U
def bv (x:Bool):V:=.bool x
theorem l5 {f m:Bool}:AZ bv 223 (λb=>[.ptr b 0,.bool f,.bool m]) (JI f m):=by
 refine ⟨λ{st0 b s st rows K} U h=>?_⟩
 simp only [JI,Rd.Aq,Rd.AK,Rd.wp_seq,Rd.wp_ret] at h
 have hc1:=U.look
 refine pB Tryz.func223 ?_
 have hcl:Rd.wp Oy s (λ_ s'=>∀st',Cx st0 b s' st' rows->K (.ret (.bool true)) st') (λe s'=>∀st',Cy st0 b s' st' rows->K (.B1 (fault e.1)) st')->if (CY s).2=true then mu (CY s).1<=mu s/\∀st',Cx st0 b (CY s).1 st' rows->K (.ret (.bool true)) st'
  else Rd.wp (Ow:Rd Unit) s (λ_ s'=>∀st',Cx st0 b s' st' rows->K (.ret (.bool true)) st') (λe s'=>∀st',Cy st0 b s' st' rows->K (.B1 (fault e.1)) st'):=λh=>by
  unfold Oy Rd.wp at h
  dsimp only at h
  split
  .rename_i e;rw [if_pos e] at h;exact ⟨Oz e,h⟩
  .rename_i e;rw [if_neg e] at h;exact h
 have hmu:=U.mu
 cases f
 .simp only [Bool.false_eq_true,if_false] at h
  cases m
  .simp only [Bool.false_eq_true,if_false] at h
   repeat' ((conv=>whnf);(first|refine Bb ?_|refine Bc ?_ ?_|refine Be ?_ ?_|refine G8 U.has U.hb ?_|refine LI hc1 ‹_› AC ?_|exact CZ hc1 ‹_› rfl|refine Ix ?_|refine kz ?_|exact FR|refine Ae ?_)<;>intros)
  .simp only [if_true] at h
   repeat' ((conv=>whnf);first|refine X4 (hcl h) (λe h=>?_) (λe h=>?_)|(refine Bb ?_;intros)|(refine Bc ?_ ?_<;>intro e h)|(refine Be ?_ ?_<;>intro _)|refine G8 U.has U.hb ?_|refine LI hc1 h AC (λs1 st1 hz hm U h=>?_)|refine An (St.Ah ..) ?_|refine dG U.hb ?_|refine yD hc1 AC (λst1 U=>?_)|exact CZ U h.2 rfl|refine T9 hc1 h (λe s1 st1 U h=>?_)|(refine Ix ?_;intro st1 U)|(refine kz ?_;intro e s1 st1 U h)|exact FR|refine Ae (λe1=>?_))
 .simp only [if_true] at h
  by_cases hi:Bq s 15 [125]=true
  .rw [if_pos hi] at h
   obtain ⟨h1,h2⟩:(Ac s).1.kind=15/\(Ac s).1.text=[125]:=by
    unfold Bq at hi
    simp only [Bool.and_eq_true,beq_iff_eq] at hi
    exact hi
   repeat' ((conv=>whnf);(first|refine Bb ?_|refine Bc ?_ ?_|refine Be ?_ ?_|refine G8 U.has U.hb ?_|refine LI hc1 ‹_› AC ?_|refine Ix ?_|refine kz ?_|exact FR|refine Ae ?_)<;>intros)
  .rw [if_neg hi] at h
   have hx:(Ac s).1.kind=15->¬(Ac s).1.text=[125]:=λh1 h2=>hi (by unfold Bq;rw [h1,h2];rfl)
   cases m
   .simp only [Bool.false_eq_true,if_false] at h
    repeat' ((conv=>whnf);(first|refine kR (beq_eq_false_iff_ne.2 (hx ‹_›)) ?_|refine Bb ?_|refine Bc ?_ ?_|refine Be ?_ ?_|refine G8 U.has U.hb ?_|exact CZ hc1 ‹_› rfl|refine Ix ?_|refine kz ?_|exact FR|refine Ae ?_)<;>intros)
   .simp only [if_true] at h
    repeat' ((conv=>whnf);(first|refine kR (beq_eq_false_iff_ne.2 (hx ‹_›)) ?_|refine Bb ?_|refine Bc ?_ ?_|refine Be ?_ ?_|refine G8 U.has U.hb ?_|refine An (St.Ah ..) ?_|refine dG U.hb ?_|refine T9 hc1 ‹_› ?_|refine Ix ?_|refine kz ?_|exact FR|refine Ae ?_)<;>intros)
theorem QF {f m U:Bool} (e:U=m):AZ bv 223 (λb=>[.ptr b 0,.bool f,.bool m]) (JI f U):=by rw [e];exact l5
theorem vh {b:Bool} (h:b=true):(!b)=false:=by rw [h];rfl
theorem vg {b:Bool} (h:b=false):(!b)=true:=by rw [h];rfl
theorem R5 {own:AE}:Au.ret (enc (Ed false l))=(Au.ret (.agg [.int .i64 2,.int .i64 0,.str [],.int .i64 0,.int .i64 0,.slice 6 (l.map Ax) own])).wk:=by unfold Ed;rw [lX];rfl
theorem R6 {own:AE}:Au.ret (enc (Ed true l))=(Au.ret (.agg [.int .i64 2,.int .i64 1,.str [],.int .i64 0,.int .i64 0,.slice 6 (l.map Ax) own])).wk:=by unfold Ed;rw [lX];rfl
def ye (base:List Nd->St) (st0:St) (b:Nat) (i:FuncId) (cs:List V) (item:List Nd->Rd Nd):Prop:=∀(l:List Nd) (s:Aj) (st:St) (rows:List (AE×List Nd)) (K:Au->St->Prop) (Q:Nd->Aj->Prop) (E:Er->Aj->Prop),Cx (base l) b s st rows->Rd.wp (item l) s Q E->
 (∀n s1 U,mu s1<mu s->Cx (base (l++[n])) b s1 U rows->Q n s1->K (.ret (enc n)) U)->(∀e s1 U,Cy st0 b s1 U rows->E e s1->K (.B1 (fault e.1)) U)->PC i cs st K
theorem Ud {i:FuncId} {fs:List V} {starts:Tk->Bool} {base:List Nd->St} {item:List Nd->Rd Nd} (hg:∀{t:Tk} {st:St} {K:Au->St->Prop},K (.ret (.bool (starts t))) st->PC g [F0 t] st K)
 (hi:ye base st0 b i (fs++cs) item) (hx:∀{l s st rows},Cy (base l) b s st rows->Cy st0 b s st rows) (hc:Cx (base []) b s st rows)
 (h:Rd.wp (M7 starts item) s (λn s'=>∀l st',Cx (base l) b s' st' rows->K (.ret (enc n)) st') (λe s'=>∀st',Cy st0 b s' st' rows->K (.B1 (fault e.1)) st')):
 PC 189 [.ptr b 0,.func g [] [],.func i fs cs] st K:=by
 simp only [M7,Rd.Aq,Rd.AK,Rd.wp_seq,Rd.wp_ret] at h
 have hmu:=hc.mu
 refine pB Tryz.func189 ?_
 repeat' ((conv=>whnf);first|exact C7|(refine Bb ?_;intros)|(refine C8 ?_ ?_ ?_;rotate_left)|(refine Bc ?_ ?_<;>intro e h)|(refine Be ?_ ?_<;>intro _)|(refine Ix ?_;intro U hc)|(refine JA ?_ ?_<;>(first|intro n s1 U hr hm hc h|intro e s1 U hc h))|exact FR|(refine L0 ?_;intro own1 U hc)|refine Ae (λe1=>?_)|refine LI hc h AC (λs1 U hz hm hc h=>?_)|exact BU (hx hc) h|refine Ad [(0,true),(1,true),(2,true),(3,true),(4,true),(5,true),(6,false),(7,false),(8,true),(9,false)] [] GE ?_|refine Ad [(0,true),(1,true),(2,true),(3,false),(4,true),(5,false),(6,true),(7,false)] [1] GE ?_|refine Ad [(0,true),(1,true),(2,true),(3,true),(4,true),(5,false),(6,false),(7,true),(8,false)] [] GE ?_|with_reducible refine WF ?_)
 .refine YV base (λl own=>[]) (λl own=>[(1,[.int .i64 2,.int .i64 0,.str [],.int .i64 0,.int .i64 0,.slice 6 (l.map Ax) own])]) [0,1,2,6,7] [0] (λl own=>(own,l)::rows) (λl=>l.length) .full (hc.push []) h i6 Yl ?_
  intro l s1 U own1 hc h hl hm1
  simp only [Qx,Rd.Aq,Rd.AK,Rd.wp_seq,Rd.wp_ret,Rd.Bv] at h
  repeat' ((conv=>whnf);(first|exact C7|refine Bb ?_|(refine C8 ?_ ?_ ?_;rotate_left)|refine Bc ?_ ?_|refine Be ?_ ?_|with_reducible refine WF ?_)<;>intros)
  unfold Tc at h
  refine Ct (λ_ _=>[]) (λ_ _=>[]) [0,1,2,6,7] [0,1] (λ_ _=>(own1,l)::rows) (λ_=>l.length) .full ‹_› ‹_› hl Yl ?_
  intro u s2 st2 own2 hc h hl hm2
  simp only [Xn,Rd.Aq,Rd.AK,Rd.wp_seq,Rd.wp_ret,Rd.Bv] at h
  repeat' ((conv=>whnf);first|exact C7|(refine Bb ?_;intros)|(refine C8 ?_ ?_ ?_;rotate_left)|(refine Bc ?_ ?_<;>intro e h)|(refine Be ?_ ?_<;>intro _)|(refine Ix ?_;intro U hc)|(refine JA ?_ ?_<;>(first|intro n s1 U hr hm hc h|intro e s1 U hc h))|exact FR|(refine L0 ?_;intro own1 U hc)|refine Ae (λe1=>?_)|refine Xm ?_|refine hg ?_|refine LI hc h (QZ ‹_›) (λs1 U hz hm hc h=>?_)|refine AZ.go (QF (vh ‹_›)) hc h (λv s1 U hr hm hc h=>?_) (λe s1 U hc h=>?_)|refine AZ.go (QF (vg ‹_›)) hc h (λv s1 U hr hm hc h=>?_) (λe s1 U hc h=>?_)|refine Ny ?_|refine hi _ _ _ _ _ _ _ hc h (λn s1 U hm hc h=>?_) (λe s1 U hc h=>?_)|exact BU (hx hc).drop h|exact BU (Cy.drop hc) h|exact CZ hc.drop (h l) R5|exact CZ hc.drop (h (l++[_])) R5|refine Ad [(0,true),(1,true),(2,true),(3,true),(4,true),(5,true),(6,false),(7,false),(8,true),(9,false)] [] GE ?_|refine Ad [(0,true),(1,true),(2,true),(3,false),(4,true),(5,false),(6,true),(7,false)] [1] GE ?_|refine Ad [(0,true),(1,true),(2,true),(3,true),(4,true),(5,false),(6,false),(7,true),(8,false)] [] GE ?_|with_reducible refine WF ?_)
  all_goals conv=>whnf
  all_goals exact ⟨⟨(),_,_,.full⟩,⟨hc,Rd.Fc h AC,So,So⟩,So,Yl,St.le_refl _⟩
 .refine YV base (λl own=>[]) (λl own=>[(1,[.int .i64 2,.int .i64 1,.str [],.int .i64 0,.int .i64 0,.slice 6 (l.map Ax) own])]) [0,1,2,6,7] [0] (λl own=>(own,l)::rows) (λl=>l.length) .full (hc.push []) h i6 Yl ?_
  intro l s1 U own1 hc h hl hm1
  simp only [Qx,Rd.Aq,Rd.AK,Rd.wp_seq,Rd.wp_ret,Rd.Bv] at h
  repeat' ((conv=>whnf);(first|exact C7|refine Bb ?_|(refine C8 ?_ ?_ ?_;rotate_left)|refine Bc ?_ ?_|refine Be ?_ ?_|with_reducible refine WF ?_)<;>intros)
  unfold Tc at h
  refine Ct (λ_ _=>[]) (λ_ _=>[]) [0,1,2,6,7] [0,1] (λ_ _=>(own1,l)::rows) (λ_=>l.length) .full ‹_› ‹_› hl Yl ?_
  intro u s2 st2 own2 hc h hl hm2
  simp only [Xn,Rd.Aq,Rd.AK,Rd.wp_seq,Rd.wp_ret,Rd.Bv] at h
  repeat' ((conv=>whnf);first|exact C7|(refine Bb ?_;intros)|(refine C8 ?_ ?_ ?_;rotate_left)|(refine Bc ?_ ?_<;>intro e h)|(refine Be ?_ ?_<;>intro _)|(refine Ix ?_;intro U hc)|(refine JA ?_ ?_<;>(first|intro n s1 U hr hm hc h|intro e s1 U hc h))|exact FR|(refine L0 ?_;intro own1 U hc)|refine Ae (λe1=>?_)|refine Xm ?_|refine hg ?_|refine LI hc h (QZ ‹_›) (λs1 U hz hm hc h=>?_)|refine AZ.go (QF (vh ‹_›)) hc h (λv s1 U hr hm hc h=>?_) (λe s1 U hc h=>?_)|refine AZ.go (QF (vg ‹_›)) hc h (λv s1 U hr hm hc h=>?_) (λe s1 U hc h=>?_)|refine Ny ?_|refine hi _ _ _ _ _ _ _ hc h (λn s1 U hm hc h=>?_) (λe s1 U hc h=>?_)|exact BU (hx hc).drop h|exact BU (Cy.drop hc) h|exact CZ hc.drop (h l) R6|exact CZ hc.drop (h (l++[_])) R6|refine Ad [(0,true),(1,true),(2,true),(3,true),(4,true),(5,true),(6,false),(7,false),(8,true),(9,false)] [] GE ?_|refine Ad [(0,true),(1,true),(2,true),(3,false),(4,true),(5,false),(6,true),(7,false)] [1] GE ?_|refine Ad [(0,true),(1,true),(2,true),(3,true),(4,true),(5,false),(6,false),(7,true),(8,false)] [] GE ?_|with_reducible refine WF ?_)
  all_goals conv=>whnf
  all_goals exact ⟨⟨(),_,_,.full⟩,⟨hc,Rd.Fc h AC,So,So⟩,So,Yl,St.le_refl _⟩
theorem Rp {i:FuncId} {starts:Tk->Bool} {item:Rd Nd} (hg:∀{t:Tk} {st:St} {K:Au->St->Prop},K (.ret (.bool (starts t))) st->PC g [F0 t] st K) (hi:AZ enc i (λb=>[pv b d]) item) (hF:Dv item):
 AZ enc 189 (λb=>[.ptr b 0,.func g [] [],.func i [pv b d] []]) (FV starts item):=
 ⟨λ{st0 b s st rows K} U h=>Ud (fs:=[pv b d]) (cs:=[]) (base:=λ_=>st0) (item:=λ_=>item) hg (λl s st rows K Q E U h k kb=>hi.u9 hF.u6 U h (λn s1 st1 _ hm U q=>k n s1 st1 hm U q) kb) (λh=>h) U
   (Rd.wp_mono (show Rd.wp (M7 starts λ_=>item) s _ _ from h) (λ_ _ _ h _=>h) (λ_ _ _ h=>h))⟩
end
section
variable {st:St} {R:Au->St->Prop}
attribute [local irreducible] Go.Aw.Am
theorem dD {c:Nat} {s:Aj} {deep:Int} {q:Rs} (hq:¬deep<1->∀(b:Nat) (st5:St) (R:Au->St->Prop),st.le st5->Has st5 b s->Fb st5 b R q->PC f [.ptr b 0,.int .i64 (if 100<deep then 100 else deep),.ptr c 0] st5 R) (h:R (.ret (Ki (Ck s deep q))) st):PC 64 [DD s,.int .i64 deep,.func f [] [.ptr c 0]] st R:=by
 refine Ba.ends (JX Ab [6,7,8,9,12] Tryz.func64 rfl Do rfl rfl rfl rfl rfl rfl ⟨_,Tryz.func107,rfl,Do⟩ rfl ?_)
 repeat' ((conv=>whnf);first|exact C7|(refine Bb ?_;intros)|(refine C8 ?_ ?_ ?_;rotate_left)|(refine Bc ?_ ?_<;>intro e h)|(refine Be ?_ ?_<;>intro _)|refine DZ (λb5 f5=>?_)|refine An (St.Ah ..) ?_|with_reducible refine WF ?_)
 rename_i b1 f1 b2 f2 b3 f3 b4 f4
 obtain ⟨n12,f2a⟩:=AX f2
 obtain ⟨n23,f3a⟩:=AX f3
 obtain ⟨n13,f3b⟩:=AX f3a
 obtain ⟨n34,f4a⟩:=AX f4
 obtain ⟨n24,f4b⟩:=AX f4a
 obtain ⟨n14,f4c⟩:=AX f4b
 obtain ⟨n45,f5a⟩:=AX f5
 obtain ⟨n35,f5b⟩:=AX f5a
 obtain ⟨n25,f5c⟩:=AX f5b
 obtain ⟨n15,f5d⟩:=AX f5c
 conv=>whnf
 refine ⟨rfl,AH rfl ?_⟩
 generalize hst5:St.Aa _ b5 [V.ptr b4 0]=st5
 have k1:st5.box b1=some CD:=by subst hst5;rw [St.Ak n15.symm,St.Ak n15.symm,St.Ak n14.symm,St.Ak n13.symm,St.Ak n12.symm,St.Ah];rfl
 have k2:st5.box b2=some [.slice 4 (AV Fs.Ay) .full,.int .i64 Fs.pos,.slice 1 (ints Fs.DN) .full,.int .i64 Fs.wait]:=by subst hst5;rw [St.Ak n25.symm,St.Ak n25.symm,St.Ak n24.symm,St.Ak n23.symm,St.Ah];rfl
 have k3:st5.box b3=some [.int .i64 0]:=by subst hst5;rw [St.Ak n35.symm,St.Ak n35.symm,St.Ak n34.symm,St.Ah]
 have k4:Has st5 b4 s:=by subst hst5;refine .inr ⟨fB,Fs,.full,.full,0,?_⟩;rw [St.Ak n45.symm,St.Ak n45.symm,St.Ah];rfl
 have k5:st5.box b5=some [.ptr b4 0]:=by subst hst5;rw [St.Ah]
 have kle:st.le st5:=by
  subst hst5
  exact St.Af (St.Af (St.Af (St.Af (St.Af (St.Af (St.le_refl _) f1.1 _) f2a.1 _) f3b.1 _) f4c.1 _) f5d.1 _) f5d.1 _
 have kpan:∀(U:St) (e:Int) (s':Aj),H5 st5 U b4 s'->U.box b5=some [.ptr b4 0]/\U.box b1=some CD/\U.box b2=some [.slice 4 (AV Fs.Ay) .full,.int .i64 Fs.pos,.slice 1 (ints Fs.DN) .full,.int .i64 Fs.wait]/\U.box b3=some [.int .i64 0]/\st.le U:=by
  rintro U e s' ⟨_,cs,rfl⟩
  exact ⟨by rw [St.Ak n45];exact k5,by rw [St.Ak n14.symm];exact k1,by rw [St.Ak n24.symm];exact k2,by rw [St.Ak n34.symm];exact k3,St.Af kle f4c.1 _⟩
 clear hst5 f2 f3 f4 f5 f3a f4a f4b f5a f5b f5c
 refine Ag (Ai Ab ?_)
 repeat' ((conv=>whnf);(first|exact C7|refine Bb ?_|(refine C8 ?_ ?_ ?_;rotate_left)|refine Bc ?_ ?_|refine Be ?_ ?_|refine An k5 ?_|refine Cm ?_|with_reducible refine WF ?_)<;>intros)
 .refine JE (n0:=Gg) (s0:=Fs) k5 k4 k1 k2 k3 n15 n14 n12 n13 n25 n24 n23 ?_
  have g1:(((st5.Aa b1 CD).Aa b2 s.cells).Aa b3 [.int .i64 2]).box b1=some CD:=by rw [St.Ak n13.symm,St.Ak n12.symm,St.Ah]
  have g2:(((st5.Aa b1 CD).Aa b2 s.cells).Aa b3 [.int .i64 2]).box b2=some s.cells:=by rw [St.Ak n23.symm,St.Ah]
  have gl:st.le (((st5.Aa b1 CD).Aa b2 s.cells).Aa b3 [.int .i64 2]):=St.Af (St.Af (St.Af kle f1.1 _) f2a.1 _) f3b.1 _
  unfold Ck at h
  rw [if_pos ‹_›] at h
  repeat' ((conv=>whnf);(first|exact C7|refine Bb ?_|(refine C8 ?_ ?_ ?_;rotate_left)|refine Bc ?_ ?_|refine Be ?_ ?_|refine An g1 ?_|refine An g2 ?_|refine An (St.Ah ..) ?_|with_reducible refine WF ?_)<;>intros)
  all_goals exact EJ gl rfl h
 .rename_i hd
  unfold Ck at h
  rw [if_neg hd] at h
  have hq:=λst5 R h=>hq hd b4 st5 R h
  refine Ag (Ai Ab ?_)
  cases q with
  |inl q=>
   obtain ⟨e,s'⟩:=q
   repeat' ((conv=>whnf);first|exact C7|(refine Bb ?_;intros)|(refine C8 ?_ ?_ ?_;rotate_left)|(refine Bc ?_ ?_<;>intro e h)|(refine Be ?_ ?_<;>intro _)|refine An k5 ?_|refine ⟨_,rfl,?_⟩|refine hq _ _ kle k4 (λU hu=>?_)|with_reducible refine WF ?_)
   obtain ⟨j5,j1,j2,j3,jle⟩:=kpan U e s' hu
   refine JE (n0:=Gg) (s0:=Fs) j5 hu.1 j1 j2 j3 n15 n14 n12 n13 n25 n24 n23 ?_
   have g1:(((U.Aa b1 CD).Aa b2 s'.cells).Aa b3 [.int .i64 e]).box b1=some CD:=by rw [St.Ak n13.symm,St.Ak n12.symm,St.Ah]
   have g2:(((U.Aa b1 CD).Aa b2 s'.cells).Aa b3 [.int .i64 e]).box b2=some s'.cells:=by rw [St.Ak n23.symm,St.Ah]
   have gl:st.le (((U.Aa b1 CD).Aa b2 s'.cells).Aa b3 [.int .i64 e]):=St.Af (St.Af (St.Af jle f1.1 _) f2a.1 _) f3b.1 _
   repeat' ((conv=>whnf);(first|exact C7|refine Bb ?_|(refine C8 ?_ ?_ ?_;rotate_left)|refine Bc ?_ ?_|refine Be ?_ ?_|refine An g1 ?_|refine An g2 ?_|refine An (St.Ah ..) ?_|with_reducible refine WF ?_)<;>intros)
   all_goals exact EJ gl rfl h
  |inr q=>
   obtain ⟨n,s'⟩:=q
   have kret:=λU hu=>kpan U 0 s' hu
   repeat' ((conv=>whnf);first|exact C7|(refine Bb ?_;intros)|(refine C8 ?_ ?_ ?_;rotate_left)|(refine Bc ?_ ?_<;>intro e h)|(refine Be ?_ ?_<;>intro _)|refine An k5 ?_|refine ⟨_,rfl,?_⟩|refine hq _ _ kle k4 (λU hu=>?_)|refine An (kret U hu).2.1 ?_|with_reducible refine WF ?_)
   obtain ⟨j5,j1,j2,j3,jle⟩:=kret U hu
   generalize hst7:U.Aa b1 (Ax n)=st7
   have i1:st7.box b1=some (Ax n):=by subst hst7;rw [St.Ah]
   have i5:st7.box b5=some [.ptr b4 0]:=by subst hst7;rw [St.Ak n15];exact j5
   have i2:st7.box b2=some [.slice 4 (AV Fs.Ay) .full,.int .i64 Fs.pos,.slice 1 (ints Fs.DN) .full,.int .i64 Fs.wait]:=by subst hst7;rw [St.Ak n12];exact j2
   have i3:(st7.Aa b2 s'.cells).box b3=some [.int .i64 0]:=by subst hst7;rw [St.Ak n23,St.Ak n13];exact j3
   have i4:Has st7 b4 s':=by
    subst hst7
    rcases hu.1 with e|⟨t,u,o1,o2,e',e⟩
    .exact .inl (by rw [St.Ak n14];exact e)
    .exact .inr ⟨t,u,o1,o2,e',by rw [St.Ak n14];exact e⟩
   have ile:st.le st7:=by subst hst7;exact St.Af jle f1.1 _
   refine Ag (Ou Ab (BF _) (λbs=>lh bs b1 b2 b3 b4 b5 (Ax n) s'.cells) (lk st7 b2 b3 s'.cells) Qz GE Yl (by rw [<-hst7];exact St.le_refl _) ?_ ?_)
   .skip
    unfold Qz
    rcases i4 with i4|⟨t,u,q1,q2,q3,i4⟩
    all_goals repeat' (first|refine List.forall_mem_cons.2 ⟨?_,?_⟩|exact λ_ h=>nomatch h)
    repeat' ((conv=>whnf);(first|exact C7|refine Bb ?_|(refine C8 ?_ ?_ ?_;rotate_left)|refine Bc ?_ ?_|refine Be ?_ ?_|refine An i5 ?_|refine An i1 ?_|refine An i4 ?_|refine An i2 ?_|refine An i3 ?_|with_reducible refine WF ?_)<;>intros)
    all_goals conv=>whnf
    all_goals (refine ⟨Yl,?_⟩)
    all_goals first|exact St.le_refl _|exact EM i1
   .refine Ai Ab (Ry (bp:=b5) ?_)
    have g1:((st7.Aa b2 s'.cells).Aa b3 [.int .i64 0]).box b1=some (Ax n):=by rw [St.Ak n13.symm,St.Ak n12.symm];exact i1
    have g2:((st7.Aa b2 s'.cells).Aa b3 [.int .i64 0]).box b2=some s'.cells:=by rw [St.Ak n23.symm,St.Ah]
    have gl:st.le ((st7.Aa b2 s'.cells).Aa b3 [.int .i64 0]):=St.Af (St.Af ile f2a.1 _) f3b.1 _
    repeat' ((conv=>whnf);(first|exact C7|refine Bb ?_|(refine C8 ?_ ?_ ?_;rotate_left)|refine Bc ?_ ?_|refine Be ?_ ?_|refine An g1 ?_|refine An g2 ?_|refine An (St.Ah ..) ?_|with_reducible refine WF ?_)<;>intros)
    all_goals exact EJ gl rfl h
end
def De (A:Rd Nd) (s:Aj):Rs:=match A.run s with
 | .inl p=>.inl (p.1.1,p.2)
 | .inr p=>.inr p
section
variable {st0 st:St} {b c d:Nat} {s:Aj} {K R:Au->St->Prop}
theorem Cx.zj {st':St} (h:Has st' b s') (hr:∃cs,Rx (st.Aa b cs) st' []):∃U,H5 st U b s'/\St.le U st':=by
 obtain ⟨cs,hr⟩:=hr
 have hb:=hr.le.1 b cs (St.Ah ..)
 refine ⟨st.Aa b cs,⟨?_,cs,rfl⟩,hr.le⟩
 rcases h with e|⟨t,u,o1,o2,e0,e⟩
 .rw [hb] at e;injection e with e;subst e;exact .inl (St.Ah ..)
 .rw [hb] at e;injection e with e;subst e;exact .inr ⟨t,u,o1,o2,e0,St.Ah ..⟩
theorem Tt {mk:Nat->List V} {A:Rd Nd} (hf:AZ enc f mk A) (hs:Has st b s) (hm:mu s<=100000000) (ht:Fb st b K (De A s)):PC f (mk b) st K:=by
 refine Ba.ends (hf.ap (Cx.start hs hm) (Rd.U4 (λv s' e st' hc=>?_) (λe s' he st' hc=>?_)))
 .unfold De at ht
  rw [e] at ht
  obtain ⟨U,hu,hl⟩:=Cx.zj hc.has hc.rx
  exact ⟨_,U,.inl rfl,hl,ht U hu⟩
 .unfold De at ht
  rw [he] at ht
  obtain ⟨U,hu,hl⟩:=Cx.zj hc.has hc.rx
  exact ⟨_,U,.inl rfl,hl,ht U hu⟩
theorem xF {A:Rd Nd} (hA:AZ enc g (λb=>[pv b d]) A) (hx:st.box c=some [.func g [] []]) (hs:Has st b s) (hm:mu s<=100000000) (ht:Fb st b K (De A s)):PC 308 [.ptr b 0,.int .i64 (d:Int),.ptr c 0] st K:=by
 have U:∀{K:Au->St->Prop},Fb st b K (De A s)->PC g [pv b d] st K:=λh=>Tt hA hs hm h
 refine pB Tryz.func308 ?_
 unfold De at *
 cases hr:A.run s with
 |inl p=>
  rw [hr] at ht U
  repeat' ((conv=>whnf);first|(refine Bb ?_;intros)|(refine Bc ?_ ?_<;>intro e h)|(refine Be ?_ ?_<;>intro _)|refine An hx ?_|refine U (λst1 hu=>?_))
  all_goals exact ⟨_,_,.inl rfl,St.le_refl _,ht _ hu⟩
 |inr p=>
  rw [hr] at ht U
  repeat' ((conv=>whnf);first|(refine Bb ?_;intros)|(refine Bc ?_ ?_<;>intro e h)|(refine Be ?_ ?_<;>intro _)|refine An hx ?_|refine U (λst1 hu=>?_))
  all_goals exact AY rfl (ht _ hu)
theorem l7 {deep:Int} {A:Nat->Rd Nd} (hA:∀d:Nat,1<=d->d<=100->AZ enc g (λb=>[pv b d]) (A d)) (hm:mu s<=100000000) (h:K (.ret (Ki (Ck s deep (De (A (DW deep)) s)))) st):
 PC 271 [DD s,.int .i64 deep,.func g [] []] st K:=by
 refine AO Ab [] Tryz.func271 rfl Do rfl ?_
 refine Ag (Ai Ab ?_)
 repeat' ((conv=>whnf);(first|refine Bb ?_|refine Bc ?_ ?_|refine Be ?_ ?_|fail)<;>intros)
 refine Me 5 1 rfl rfl rfl (λc fc=>?_)
 refine Ai Ab ?_
 have hq:¬deep<1->∀(b:Nat) (U:St) (R:Au->St->Prop),(st.Aa c [.func g [] []]).le U->Has U b s->Fb U b R (De (A (DW deep)) s)->PC 308 [.ptr b 0,.int .i64 (if 100<deep then 100 else deep),.ptr c 0] U R:=λhd b U R hle hs ht=>by
  have e:(if 100<deep then 100 else deep)=((DW deep:Nat):Int):=by unfold DW;split<;>omega
  rw [e]
  exact xF (hA _ (by unfold DW;split<;>omega) (by unfold DW;split<;>omega)) (hle.1 _ _ (St.Ah ..)) hs hm ht
 obtain ⟨n,s',e,hq3⟩:∃n s' e,Ck s deep (De (A (DW deep)) s)=(n,s',e):=⟨_,_,_,rfl⟩
 rw [hq3] at h
 have hcat:∀{K:Au->St->Prop},K (.ret (RN n s' e)) (st.Aa c [.func g [] []])->PC 64 [DD s,.int .i64 deep,.func 308 [] [.ptr c 0]] (st.Aa c [.func g [] []]) K:=λk=>dD (s:=s) (q:=De (A (DW deep)) s) hq (by rw [hq3];exact k)
 repeat' ((conv=>whnf);(first|refine Bb ?_|refine Bc ?_ ?_|refine Be ?_ ?_|refine hcat ?_)<;>intros)
 all_goals exact EJ (St.Af (St.le_refl _) fc.1 _) rfl h
end
section
variable {d:Nat}
theorem lE {st:St} {K:Au->St->Prop} (h:K (.ret (.bool (OC t))) st):PC 389 [F0 t] st K:=by
 refine pB Tryz.func389 ?_
 repeat' ((conv=>whnf);(first|refine Bb ?_|refine Bc ?_ ?_|refine Be ?_ ?_|refine M1 ?_|refine VH ?_)<;>intros)
 all_goals conv=>whnf
 all_goals (refine Av h ?_;clear h;simp_all [OC])
theorem gj {item:Rd Nd} (hi:AZ enc 272 (λb=>[pv b d]) item) (U:Dv item):AZ enc 356 (λb=>[pv b d]) (FV OC item):=by
 refine ⟨λ{st0 b s st rows K} hc h=>?_⟩
 refine pB Tryz.func356 ?_
 repeat' ((conv=>whnf);(first|refine Bb ?_|refine Bc ?_ ?_|refine Be ?_ ?_|exact FR|refine Ae ?_|refine Gh.go (by first|exact AZ.q|exact (Rp (λh=>lE ‹_›) hi U).a) ?_ ?_)<;>intros)
theorem gk {item:Rd Nd} (hi:AZ enc 388 (λb=>[pv b d]) item) (U:Dv item):AZ enc 415 (λb=>[pv b d]) (FV GJ item):=by
 refine ⟨λ{st0 b s st rows K} hc h=>?_⟩
 refine pB Tryz.func415 ?_
 repeat' ((conv=>whnf);(first|refine Bb ?_|refine Bc ?_ ?_|refine Be ?_ ?_|exact FR|refine Ae ?_|refine Gh.go (by first|exact AZ.q|exact (Rp (λh=>M1 ‹_›) hi U).a) ?_ ?_)<;>intros)
theorem kX {item:Rd Nd} (hi:AZ enc 414 (λb=>[pv b d]) item) (U:Dv item):AZ enc 397 (λb=>[pv b d]) (FV GJ item):=by
 refine ⟨λ{st0 b s st rows K} hc h=>?_⟩
 refine pB Tryz.func397 ?_
 repeat' ((conv=>whnf);(first|refine Bb ?_|refine Bc ?_ ?_|refine Be ?_ ?_|exact FR|refine Ae ?_|refine Gh.go (by first|exact AZ.q|exact (Rp (λh=>M1 ‹_›) hi U).a) ?_ ?_)<;>intros)
structure Lev (D:Nat) (full:Rd Nd) (L:E9):Prop where
 atom:AZ enc 349 (λb=>[pv b D]) (uU L)
 exp:AZ enc 353 (λb=>[pv b D]) (RT full L)
 ops:AZ enc 310 (λb=>[pv b D]) (opsL L)
 stmt:AZ enc 388 (λb=>[pv b D]) (Od full L)
 alt:AZ enc 414 (λb=>[pv b D]) (qJ full L)
 decl:AZ enc 272 (λb=>[pv b D]) (Uh full L)
 decls:AZ enc 356 (λb=>[pv b D]) (FV OC (Uh full L))
 stmts:AZ enc 415 (λb=>[pv b D]) (FV GJ (Od full L))
 alts:AZ enc 397 (λb=>[pv b D]) (FV GJ (qJ full L))
 Ff:∀o,AZ enc 418 (λb=>[pv b D,enc o]) (Fz (oE L) full (RT full L) o)
 list:∀o,AZ enc 420 (λb=>[pv b D,enc o]) (SE (RT full L) (Od full L) o)
theorem lev {full:Rd Nd} {L:E9} (hL:Mf d L) (hD:MS L) (hf:AZ enc 350 (λb=>[pv b d]) full) (hF:Dv full):Lev d full L:=by
 have atom:=qP hL
 have dat:=Nk hD
 have U:=cw hL atom Yq
 have ops:=oH U
 have exp:=wA U hf
 have stmt:=ue hL exp
 have alt:=vS hL ops exp stmt
 have decl:=ry hL atom dat ops (RJ (OG hD)) exp stmt hf
 exact ⟨atom,exp,ops,stmt,alt,decl,gj decl (RH hF hD),gk stmt (KD hF hD),kX alt (dL hF hD),λo=>Vj U hf exp,λo=>sR exp stmt⟩
theorem yP:∀d,d<=100->Mf (d+1) (iC d)
 |0,_=>⟨D5 AC (λ_=>rfl) (λh=>absurd rfl h),D5 AC (λ_=>rfl) (λh=>absurd rfl h),D5 AC (λ_=>rfl) (λh=>absurd rfl h),D5 AC (λ_=>rfl) (λh=>absurd rfl h),
   D5 AC (λ_=>rfl) (λh=>absurd rfl h),D5 AC (λ_=>rfl) (λh=>absurd rfl h),λhx U h=>QI AC (λ_=>rfl) U h (λh=>absurd rfl h),λhx U h=>QI AC (λ_=>rfl) U h (λh=>absurd rfl h)⟩
 |d+1,h=>by
  have l:=lev (yP d AC) (Vz d) (ec (d:=d) AC) (Nl _)
  have no:∀{p:Prop},d+1=0->p:=λe=>by cases e
  exact ⟨D5 AC no λ_=>l.atom,D5 AC no λ_=>l.exp,D5 AC no λ_=>l.ops,D5 AC no λ_=>l.decls,D5 AC no λ_=>l.stmts,D5 AC no λ_=>l.alts,
   λhx U h=>QI AC no U h λ_ K h=>o6 (l.Ff _) hx U h,λhx U h=>QI AC no U h λ_ K h=>jr (l.list _) hx U h⟩
theorem yL (U:1<=d) (h:d<=100):Lev d (KH d) (iC (d - 1)):=by
 obtain ⟨d,rfl⟩:∃e,d=e+1:=⟨d - 1,AC⟩
 exact lev (yP d AC) (Vz d) (ec (d:=d) AC) (Nl _)
def Ug (d:Nat):Rd Nd:=Uh (KH d) (iC (d - 1))
def aS (d:Nat):Rd Nd:=FV OC (Ug d)
end
section
variable {st:St} {K:Au->St->Prop} {s:Aj} {deep:Int}
theorem uM (hm:mu s<=100000000) (h:K (.ret (Ki (Ck s deep (De (Ug (DW deep)) s)))) st):PC 226 [DD s,.int .i64 deep] st K:=by
 refine pB Tryz.func226 ?_
 repeat' ((conv=>whnf);(first|refine Bb ?_|refine Bc ?_ ?_|refine Be ?_ ?_|refine l7 (s:=s) (A:=Ug) (λd U h1=>(yL U h1).decl) hm ?_)<;>intros)
 all_goals exact AY rfl h
theorem qt (hm:mu s<=100000000) (h:K (.ret (Ki (Ck s deep (De (aS (DW deep)) s)))) st):PC 326 [DD s,.int .i64 deep] st K:=by
 refine pB Tryz.func326 ?_
 repeat' ((conv=>whnf);(first|refine Bb ?_|refine Bc ?_ ?_|refine Be ?_ ?_|refine l7 (s:=s) (A:=aS) (λd U h1=>(yL U h1).decls) hm ?_)<;>intros)
 all_goals exact AY rfl h
end
variable {S:Sy}
section
variable {α σ:Type} {d:Nat} {s t:Aj} {P:α->Aj->Prop} {Q:α->α->Aj->Aj->Prop} {J:σ->σ->Prop}
theorem SW.go {P:Sum σ α->Aj->Prop} {x y:σ} (h:J x y) (U:S.R d s t):SW S P (.ret (.inl x)) (.ret (.inl y)) s t (zJ S d J Q):=SW.ret ⟨h,U⟩
theorem SW.out {P:Sum σ α->Aj->Prop} {v w:α} (h:Q v w s t):SW S P (.ret (.inr v)) (.ret (.inr w)) s t (zJ S d J Q):=SW.ret h
def SR2 (S:Sy) (A B:Rd Nd):Prop:=∀d s t,S.R d s t->SW S (λ_ _=>True) A B s t (λv w s1 U=>S.T v w/\S.R d s1 U)
theorem Sp.want {k:Nd->Rd α} {v:α} (h:Sp S.c s t) (e:(Rd.seq (Bx 15 [125]) k).run s=.inr (v,s')):mu s'<S.c:=by
 obtain ⟨a,s1,U,h2⟩:=Bj e
 replace U:(if Bq s 15 [125]=true then AR else Ow).run s=.inr (a,s1):=U
 rw [if_pos h.1,C6 (F6 h.1 Do)] at U
 cases U
 have:=(k _).le _ _ _ h2
 have:=h.lt
 omega
end
section
variable {d:Nat} {s t:Aj} {A B C D E:Rd Nd} {L:E9} {n m o:Nd} {l l':List Nd}
structure XaB (S:Sy) (L:E9):Prop where
 atom:SR S L.atom
 exp:SR S L.exp
 ops:SR S L.ops
 decls:SR S L.decls
 stmts:SR S L.stmts
 alts:SR S L.alts
 Ff:∀o o',S.T o o'->SR2 S (L.Ff o) (L.Ff o')
 list:∀o o',S.T o o'->SR2 S (L.list o) (L.list o')
theorem E7.SV {k:Int} (h:E7 S.T l l'):S.T (SV k l) (SV k l'):=by
 unfold Proofs.Z.SV
 have:=h.len
 cases h with
 |nil=>exact S.node .nil
 |cons U h2=>
  cases h2 with
  |nil=>exact U
  |cons h3 h4=>rw [if_neg GT,if_neg GT];exact S.node (.cons U (.cons h3 h4))
theorem E7.take {T:Nd->Nd->Prop} {l m:List Nd} (h:E7 T l m):∀k,E7 T (l.take k) (m.take k):=by
 induction h with
 |nil=>intro k;simp;exact .nil
 |cons U _ ih=>
  intro k
  cases k with
  |zero=>exact .nil
  |succ k=>exact .cons U (ih k)
theorem E7.last {m:List Nd} (U:T Gg Gg) (h:E7 T l m):T (l.getLastD Gg) (m.getLastD Gg):=by
 suffices k:∀a b,T a b->T (l.getLastD a) (m.getLastD b) from k _ _ U
 induction h with
 |nil=>intro a b h;exact h
 |cons h1 _ ih=>intro a b h;rw [List.getLastD_cons,List.getLastD_cons];exact ih _ _ h1
theorem E7.hd {m:List Nd} (U:T Gg Gg) (h:E7 T l m):T (l.headD Gg) (m.headD Gg):=by
 cases h with
 |nil=>exact U
 |cons h1 _=>exact h1
end
end Go.Proofs.Z
