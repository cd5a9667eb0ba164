/-
  Parts of a proof: lemmas that the last text uses.
-/
import Derived.Test.YtpaiiicnhgoijaaGreatDoorJ5
import Derived.Lib.Join
set_option linter.unusedVariables false
set_option linter.unusedSimpArgs false
set_option maxHeartbeats 16000000
variable {l:List Go.Proofs.Z.Tk} {u:Go.Proofs.Z.Tk} {k:Int} {s:Go.Proofs.Z.Ad} {d p:Nat} {x:List Go.Aw.Nd} {n:Go.Aw.Nd} {β:Type} {K:List (List Go.Aw.V)->Prop}
namespace Go.Proofs.Z
open Go Go.Aw
def Te (u:Tk):Int:=if u.kind=15/\u.text=[123] then 1 else if u.kind=15/\u.text=[125] then -1 else 0
def IM:List Tk->Int
 |[]=>0
 |u::r=>Te u+IM r
theorem UW:∀{a b:List Tk},IM (a++b)=IM a+IM b
 |[],b=>by rw [List.nil_append,IM,Int.zero_add]
 |u::r,b=>by rw [List.cons_append,IM,IM,UW];omega
theorem RY {i:Nat} (h:l[i]? =some u):IM (l.take (i+1))=IM (l.take i)+Te u:=by
 rw [List.take_add_one,h,UW]
 simp only [Option.toList_some,IM]
 omega
def mv (L:List Tk) (k:Int) (s:Ad):Ad:=⟨L,s.pos+k,s.CF,s.wait⟩
theorem fS {L:List Tk}:BC u (mv L k s)=((BC u s).1,mv L k (BC u s).2.1,(BC u s).2.2):=by
 unfold BC
 have e:FJ (mv L k s)=FJ s:=rfl
 have U:(mv L k s).CF=s.CF:=rfl
 rw [e,U]
 split
 .unfold mv KF;dsimp only;congr 2;congr 1;omega
 .split
  .split
   .rfl
   .unfold mv EY;dsimp only;congr 2;congr 1;omega
  .unfold mv;dsimp only;congr 2;congr 1;omega
theorem jG (h:0<u.kind/\u.kind<16):JO u=decide (u.kind=15/\u.text=[123])/\L7 u=decide (u.kind=15/\u.text=[125]):=by
 unfold JO L7
 have U:(u.kind==18)=false:=beq_eq_false_iff_ne.2 AC
 have h2:(u.kind==20)=false:=beq_eq_false_iff_ne.2 AC
 rw [U,h2,Bool.or_false,Bool.or_false]
 constructor<;>(rw [Bool.eq_iff_iff];simp)
theorem Ji (h:Pl s) (hu:s.Ag[s.pos.toNat]? =some u) (U:(Ab s).2.2=0):
 (Ab s).1=u/\Pl (Ab s).2.1/\(Ab s).2.1.Ag=s.Ag/\(Ab s).2.1.pos=s.pos+1/\((Ab s).2.1.CF.length:Int)=s.CF.length+Te u:=by
 rw [h.next hu] at U |-
 refine ⟨?_,h.p7 hu U,?_⟩
 .unfold BC at U |-
  split
  .rfl
  .split
   .split
    .rename_i h1 h2 h3;rw [if_neg h1,if_pos h2,if_pos h3] at U;cases U
    .rfl
   .rfl
 .unfold BC at U |-
  unfold Te
  split
  .refine ⟨rfl,rfl,?_⟩
   show (((s.CF++[0]).length:Nat):Int)=_
   rw [List.length_append];rfl
  .rename_i h1
   rw [if_neg h1] at U
   split
   .rename_i h2
    rw [if_pos h2] at U
    split
    .rename_i h3;rw [if_pos h3] at U;cases U
    .rename_i h3
     refine ⟨rfl,rfl,?_⟩
     show ((s.CF.dropLast.length:Nat):Int)=_
     have:0<s.CF.length:=List.length_pos_iff.2 λe=>h3 (.inl e)
     rw [List.length_dropLast];omega
   .exact ⟨rfl,rfl,by show ((s.CF.length:Nat):Int)=(s.CF.length:Int)+0;omega⟩
theorem X3 {R:Nat->Ad->Ad->Prop} {t:Ad} (hu:0<u.kind/\u.kind<16) (k:∀e:Nat,(e:Int)=d+Te u->R e s t) (h0:0<=(d:Int)+Te u):fp R d u s t:=by
 obtain ⟨h1,h2⟩:=jG hu
 unfold fp
 rw [h1,h2]
 unfold Te at k h0
 by_cases U:u.kind=15/\u.text=[123]
 .rw [if_pos U] at k
  rw [if_pos (decide_eq_true U)]
  exact k _ AC
 .rw [if_neg U] at k h0
  rw [if_neg (by simpa using U)]
  by_cases e2:u.kind=15/\u.text=[125]
  .rw [if_pos e2] at k h0
   rw [if_pos (decide_eq_true e2)]
   exact ⟨d - 1,AC,k _ AC⟩
  .rw [if_neg e2] at k
   rw [if_neg (by simpa using e2)]
   exact k _ AC
theorem Pl.end (h:Pl s) (e:s.pos=s.Ag.length):Ab s=if s.CF=[] then (ur,s,0) else (Xu,s,90):=by
 unfold Ab
 rw [if_pos h.may,Nq AC h.p0]
 unfold Gb
 split
 .rfl
 .rw [if_neg (by rw [h.top];decide)]
theorem Pl.TT (h:Pl s):(C0 s).2=false:=by
 unfold C0
 rw [if_neg (λe=>e.2.2 h.top)]
theorem Pl.ou (h:Pl s):(Ab s).1.kind≠18:=by
 rcases h.cases with ⟨u,hu⟩|e
 .have:=h.tk u (List.mem_of_getElem? hu)
  have U:u.kind≠18:=AC
  rw [h.next hu]
  unfold BC
  split
  .exact U
  .split
   .split
    .exact (by decide:(Xu:Tk).kind≠18)
    .exact U
   .exact U
 .rw [h.end e]
  split
  .exact (by decide:(ur:Tk).kind≠18)
  .exact (by decide:(Xu:Tk).kind≠18)
theorem TO {L:List Tk} (h:Pl s) (U:Pl (mv L k s)) (hu:s.Ag[s.pos.toNat]? =some u) (hv:L[(s.pos+k).toNat]? =some u):Ab (mv L k s)=((Ab s).1,mv L k (Ab s).2.1,(Ab s).2.2):=by
 rw [h.next hu,U.next hv,fS]
theorem Lq:∀{l m:List Nd},A4 Eq l m->l=m
 |[],_,.nil=>rfl
 |_::_,_::_,.cons h k=>by rw [h,Lq k]
theorem gS:s7 (Eq:Nd->Nd->Prop):=⟨λh=>h ▸ rfl,λh=>h ▸ rfl,λh=>h ▸ rfl,λh=>h ▸ rfl,λh=>h ▸ rfl,λh=>h ▸ rfl,λh=>h ▸ rfl,λh=>h ▸ rfl⟩
theorem Yd:NR (Eq:Nd->Nd->Prop):=⟨λh=>h ▸ rfl,λh=>h ▸ rfl,λh=>h ▸ rfl,λh=>h ▸ rfl,λh=>h ▸ rfl,λh=>h ▸ rfl,λh=>h ▸ rfl,λh=>h ▸ rfl⟩
def R0 (l:List Tk) (d:Nat) (s t:Ad):Prop:=Pl s/\s.Ag=l/\s.CF.length=d/\(d:Int)=IM (l.take s.pos.toNat)/\t=s
theorem Pl.at (h:Pl s) (U:s.Ag=l) (hu:s.Ag[s.pos.toNat]? =some u):l[s.pos.toNat]? =some u:=U ▸ hu
theorem qq (h:Pl s) (hl:s.Ag=l) (hd:s.CF.length=d) (hp:(d:Int)=IM (l.take s.pos.toNat)) (hu:s.Ag[s.pos.toNat]? =some u) (hz:(Ab s).2.2=0):
 (Ab s).1=u/\Pl (Ab s).2.1/\(Ab s).2.1.Ag=l/\(Ab s).2.1.pos=s.pos+1/\((Ab s).2.1.CF.length:Int)=d+Te u/\((Ab s).2.1.CF.length:Int)=IM (l.take (Ab s).2.1.pos.toNat):=by
 obtain ⟨h1,h2,h3,U,h5⟩:=Ji h hu hz
 have h0:=h.p0
 refine ⟨h1,h2,h3.trans hl,U,AC,?_⟩
 rw [U,show (s.pos+1).toNat=s.pos.toNat+1 by omega,RY (hl ▸ hu),<-hp]
 omega
def tW (l:List Tk):Sy where
 R:=R0 l
 T:=Eq
 c:=0
 next:=by
  rintro d s t ⟨h,hl,hd,hp,rfl⟩
  refine .inl ⟨⟨rfl,rfl,rfl⟩,λU=>⟨U,?_⟩⟩
  rcases h.cases with ⟨u,hu⟩|e
  .obtain ⟨h1,h2,h3,h4,h5,h6⟩:=qq h hl hd hp hu U
   rw [h1]
   exact X3 (h.tk u (List.mem_of_getElem? hu)) (λe he=>⟨h2,h3,AC,AC,rfl⟩) AC
  .rw [h.end e] at U |-
   split at U
   .rename_i h0;rw [if_pos h0];exact ⟨h,hl,hd,hp,rfl⟩
   .cases U
 close:=by
  rintro d s t ⟨h,_⟩ e
  rw [h.TT] at e;cases e
 imp:=by
  rintro d e s t s' t' ⟨h,_⟩ e
  exact absurd e h.ou
 mu:=by
  rintro d e s t s' t' ⟨_,_,_,_,rfl⟩ ⟨_,_,_,_,rfl⟩ h
  exact h
 node:=λh=>by rw [Lq h]
 block:=λh=>by rw [Lq h]
 nd:=rfl
 nt:=gS
theorem Se {L:List Tk} (h:Pl s) (U:Pl (mv L k s)):(mu (mv L k s):Int)=mu s+4*(L.length - k - s.Ag.length):=by
 have h0:=h.p0
 have h1:=h.p1
 have h3:(0:Int)<=s.pos+k:=U.p0
 have h4:s.pos+k<=(L.length:Int):=U.p1
 unfold mu mv
 dsimp only
 omega
def R2 (m L:List Tk) (k:Nat) (d:Nat) (s t:Ad):Prop:=Pl s/\s.Ag=m/\1<=s.pos/\s.CF.length=d/\t=mv L k s/\Pl (mv L k s)
def vr (m L:List Tk) (k:Nat) (hL:∀t ∈ L,0<t.kind/\t.kind<16) (he:∀i,1<=i->L[i+k]? =m[i]?):Sy where
 R:=R2 m L k
 T:=Eq
 c:=0
 next:=by
  rintro d s t ⟨h,hl,h1,hd,rfl,U⟩
  left
  have e0:L[(s.pos+(k:Int)).toNat]? =s.Ag[s.pos.toNat]? :=by
   rw [hl,<-he s.pos.toNat AC];congr 1;omega
  rcases h.cases with ⟨u,hu⟩|e
  .have hn:=TO h U hu (e0.trans hu)
   unfold ff
   rw [hn]
   refine ⟨⟨rfl,rfl,rfl⟩,λhz=>⟨hz,?_⟩⟩
   obtain ⟨g1,g2,g3,g4,g5⟩:=Ji h hu hz
   rw [g1]
   have h2':Pl (mv L k (Ab s).2.1):=by
    have:=(Ji U (e0.trans hu) (by rw [hn];exact hz)).2.1
    rw [hn] at this;exact this
   exact X3 (h.tk u (List.mem_of_getElem? hu)) (λe he=>⟨g2,g3.trans hl,AC,AC,rfl,h2'⟩) AC
  .have e2:(mv L k s).pos=(mv L k s).Ag.length:=by
    have hle:(mv L k s).pos<=(mv L k s).Ag.length:=U.p1
    have hnone:L[(s.pos+(k:Int)).toNat]? =none:=by rw [e0];exact List.getElem?_eq_none AC
    have:=List.getElem?_eq_none_iff.1 hnone
    have h3:(mv L k s).pos=s.pos+k:=rfl
    have h4:(mv L k s).Ag.length=L.length:=rfl
    omega
   unfold ff
   rw [h.end e,U.end e2]
   have e3:(mv L k s).CF=s.CF:=rfl
   rw [e3]
   by_cases h0:s.CF=[]
   .rw [if_pos h0,if_pos h0]
    exact ⟨⟨rfl,rfl,rfl⟩,λ_=>⟨rfl,h,hl,h1,hd,rfl,U⟩⟩
   .rw [if_neg h0,if_neg h0]
    exact ⟨⟨rfl,rfl,rfl⟩,λhz=>by cases hz⟩
 close:=by
  rintro d s t ⟨h,_⟩ e
  rw [h.TT] at e;cases e
 imp:=by
  rintro d e s t s' t' ⟨h,_⟩ e
  exact absurd e h.ou
 mu:=by
  rintro d e s t s' t' ⟨h,hl,_,_,rfl,U⟩ ⟨h',hl',_,_,rfl,h2'⟩ hm
  have a:=Se h U
  have b:=Se h' h2'
  rw [hl] at a
  rw [hl'] at b
  omega
 node:=λh=>by rw [Lq h]
 block:=λh=>by rw [Lq h]
 nd:=rfl
 nt:=gS
def R1 (l L:List Tk) (p:Nat) (d:Nat) (s t:Ad):Prop:=Pl s/\s.Ag=l/\s.pos<=p/\s.CF.length=d/\(d:Int)=IM (l.take s.pos.toNat)/\t=mv L 0 s/\Pl (mv L 0 s)
theorem Jd {t:Ad} (h:Sp 0 s t):False:=by
 have:=Cp h.1 Do Do
 have:=h.2.2
 omega
def vq (l L:List Tk) (p:Nat) (hp:l.length=p+1) (hd:IM (l.take p)=1) (he:∀i,i<p->L[i]? =l[i]?) (hc:∃u,l[p]? =some u/\u.kind=15/\u.text=[125]) (hs:∃u,L[p]? =some u/\u.kind=15/\u.text=[59]):Sy where
 R:=R1 l L p
 T:=Eq
 c:=7
 next:=by
  rintro d s t ⟨h,hl,h1,hn,hq,rfl,h2⟩
  have h0:=h.p0
  obtain ⟨u,hu⟩:∃u,s.Ag[s.pos.toNat]? =some u:=⟨_,List.getElem?_eq_getElem (by rw [hl];omega)⟩
  by_cases hlt:s.pos<p
  .left
   have hv:L[(s.pos+0).toNat]? =some u:=by
    rw [Int.add_zero,he s.pos.toNat AC,<-hl];exact hu
   have e:=TO h h2 hu hv
   unfold ff
   rw [e]
   refine ⟨⟨rfl,rfl,rfl⟩,λhz=>⟨hz,?_⟩⟩
   obtain ⟨g1,g2,g3,g4,g5,g6⟩:=qq h hl hn hq hu hz
   rw [g1]
   have U:Pl (mv L 0 (Ab s).2.1):=by
    have:=(Ji h2 hv (by rw [e];exact hz)).2.1
    rw [e] at this;exact this
   exact X3 (h.tk u (List.mem_of_getElem? hu)) (λx hx=>⟨g2,g3,AC,AC,AC,rfl,U⟩) AC
  .right
   have ep:s.pos=p:=AC
   obtain ⟨c,c1,c2,c3⟩:=hc
   obtain ⟨q,q1,q2,q3⟩:=hs
   have hu2:s.Ag[s.pos.toNat]? =some c:=by rw [hl,ep];exact c1
   have hv2:(mv L 0 s).Ag[(mv L 0 s).pos.toNat]? =some q:=by
    show L[(s.pos+0).toNat]? =some q
    rw [Int.add_zero,ep];exact q1
   have hne:s.CF≠[]:=λe=>by
    rw [ep,Int.toNat_natCast,hd] at hq
    rw [e] at hn
    simp only [List.length_nil] at hn
    omega
   refine ⟨?_,?_,?_⟩
   .unfold AU
    rw [h.next hu2]
    unfold BC
    rw [if_neg (by rw [c3];simp),if_pos ⟨c2,c3⟩,if_neg (λe=>e.elim hne λe=>e h.top),c2,c3];rfl
   .unfold AU
    rw [h2.next hv2]
    unfold BC
    rw [if_neg (by rw [q3];simp),if_neg (by rw [q3];simp),q2,q3];rfl
   .rw [ep,Int.toNat_natCast,hd] at hq
    have hw:=h.wt
    unfold mu
    rw [hl,hp,ep,hn,hw]
    omega
 close:=by
  rintro d s t ⟨h,_⟩ e
  rw [h.TT] at e;cases e
 imp:=by
  rintro d e s t s' t' ⟨h,_⟩ e
  exact absurd e h.ou
 mu:=by
  rintro d e s t s' t' ⟨h,hl,_,_,_,rfl,h2⟩ ⟨h',hl',_,_,_,rfl,U⟩ hm
  have a:=Se h h2
  have b:=Se h' U
  rw [hl] at a
  rw [hl'] at b
  omega
 node:=λh=>by rw [Lq h]
 block:=λh=>by rw [Lq h]
 nd:=rfl
 nt:=gS
abbrev CO (A:Rd Nd) (x:List Nd):Rd (Sum (List Nd) (List Nd)):=DI Gt (D1 A) true x
theorem NJ:JJ Gt:=⟨λa b U h2=>by unfold Gt Cw Eb B5;rw [U,h2],rfl,rfl,rfl,λu e=>by unfold Gt Cw Eb B5;rw [e];rfl,λu e=>by unfold Gt Cw Eb B5;rw [e];rfl⟩
theorem bJ {S:Sy} {A:Rd Nd} {l l':List Nd} (hA:SR S A) (hl:A4 S.T l l'):NS S (D1 A l) (D1 A l'):=λd s t U=>
 SW.look (SW.seq (SW.A hA U λv w s1 t1 hv U=>SW.ite (by rw [S.nt.kd hv,hl.any λh=>by rw [S.nt.kd h]]) (λ_=>SW.DL) λ_=>SW.ret ⟨hv,U⟩))
theorem D0 {A:Rd Nd} {s':Ad} {r:Sum (List Nd) (List Nd)} (h:(CO A x).run s=.inr (r,s')):∃s1,Ci.run s=.inr ((),s1)/\
 ((AU s1 15 [125]=true/\r=.inr x/\s'=(Ab s1).2.1)\/(AU s1 15 [125]=false/\Gt (Ab s1).1=true/\∃n s2,(D1 A x).run s1=.inr (n,s2)/\
   ((AU s2 15 [125]=true/\r=.inr (x++[n])/\s'=(Ab s2).2.1)\/(AU s2 15 [125]=false/\CG (Ab s2).1=true/\r=.inl (x++[n])/\s'=s2)))):=by
 have U:∀{b:Bool} {s s':Ad} {v:Bool},(Dg true b).run s=.inr (v,s')->(AU s 15 [125]=true/\v=true/\s'=(Ab s).2.1)\/(AU s 15 [125]=false/\b=false/\v=false/\s'=s):=λ{b s s' v} h=>by
  replace h:(if AU s 15 [125]=true then Rd.seq DG λ_=>.ret true else if b=true then IG else .ret false:Rd Bool).run s=.inr (v,s'):=h
  by_cases hi:AU s 15 [125]=true
  .rw [if_pos hi] at h
   obtain ⟨a,s1,h1,h2⟩:=AO h
   obtain ⟨a2,s3,h3,h4⟩:=AO h1
   rw [Bu (CS hi Do)] at h3
   cases h3;cases h4;cases h2
   exact .inl ⟨hi,rfl,rfl⟩
  .rw [if_neg hi] at h
   cases b with
   |true=>rw [if_pos rfl] at h;cases h
   |false=>rw [if_neg Do] at h;cases h;exact .inr ⟨Bool.eq_false_iff.2 hi,rfl,rfl,rfl⟩
 obtain ⟨a,s1,h1,h2⟩:=AO h
 refine ⟨s1,h1,?_⟩
 obtain ⟨e,s2,h3,h4⟩:=AO (show (Rd.seq (Dg true (!Gt (Ab s1).1)) λe=>if e=true then .ret (.inr x) else .seq (D1 A x) λn=>.look λs=>.seq (Dg true (!CG (Ab s).1)) λe=>if e=true then .ret (.inr (x++[n])) else .ret (.inl (x++[n]))).run s1=.inr (r,s') from h2)
 rcases U h3 with ⟨e1,rfl,rfl⟩|⟨e1,e2,rfl,rfl⟩
 .rw [if_pos rfl] at h4
  cases h4
  exact .inl ⟨e1,rfl,rfl⟩
 .rw [if_neg Do] at h4
  obtain ⟨n,s3,h5,h6⟩:=AO h4
  refine .inr ⟨e1,by simpa using e2,n,s3,h5,?_⟩
  obtain ⟨e,s4,h7,h8⟩:=AO (show (Rd.seq (Dg true (!CG (Ab s3).1)) λe=>if e=true then .ret (.inr (x++[n])) else .ret (.inl (x++[n]))).run s3=.inr (r,s') from h6)
  rcases U h7 with ⟨e3,rfl,rfl⟩|⟨e3,e4,rfl,rfl⟩
  .rw [if_pos rfl] at h8;cases h8;exact .inl ⟨e3,rfl,rfl⟩
  .rw [if_neg Do] at h8;cases h8;exact .inr ⟨e3,by simpa using e4,rfl,rfl⟩
theorem jV {A:Rd Nd} {s1 s2:Ad} (h1:Ci.run s=.inr ((),s1)) (h2:AU s1 15 [125]=false) (h3:Gt (Ab s1).1=true) (h4:(D1 A x).run s1=.inr (n,s2)) (h5:AU s2 15 [125]=false) (h6:CG (Ab s2).1=true):(CO A x).run s=.inr (.inl (x++[n]),s2):=by
 have U:∀{s:Ad},AU s 15 [125]=false->(Dg true false).run s=.inr (false,s):=λ{s} h=>by
  show (if AU s 15 [125]=true then Rd.seq DG λ_=>.ret true else if false=true then IG else .ret false:Rd Bool).run s=_
  rw [h];rfl
 unfold CO DI
 unfold Rd.seq Rd.look
 dsimp only
 rw [h1]
 dsimp only
 rw [h3,Bool.not_true,U h2]
 dsimp only
 rw [if_neg Do]
 dsimp only
 rw [h4]
 dsimp only
 rw [h6,Bool.not_true,U h5]
 rfl
theorem Vo {σ:Type} {body:σ->Rd (Sum σ β)} {x x':σ} {s':Ad} (h:(body x).run s=.inr (.inl x',s')) (U:mu s'<mu s):Rd.iter body x s=Rd.iter body x' s':=by
 rw [Rd.iter,h];dsimp only;rw [if_pos U]
theorem iG {σ:Type} {body:σ->Rd (Sum σ β)} {x:σ} {y:β} {s':Ad} (h:(body x).run s=.inr (.inr y,s')):Rd.iter body x s=.inr (y,s'):=by
 rw [Rd.iter,h]
theorem Ql {A:Rd Nd} {t:Ad} {q:List Nd×Ad} (he:Ci.run s=Ci.run t) (U:mu t<=mu s) (h:Rd.iter (CO A) x t=.inr q):Rd.iter (CO A) x s=.inr q:=by
 have e:(CO A x).run s=(CO A x).run t:=by
  unfold CO DI
  unfold Rd.seq
  dsimp only
  rw [he]
 rw [Rd.iter] at h |-
 rw [e]
 cases hb:(CO A x).run t with
 |inl p=>rw [hb] at h;cases h
 |inr p=>
  obtain ⟨r,s'⟩:=p
  rw [hb] at h
  cases r with
  |inr y=>exact h
  |inl x'=>
   dsimp only at h |-
   split at h
   .rw [if_pos AC];exact h
   .cases h
theorem QF {t:Ad} (h:CG (Ab t).1=true):Ci.run t=Ci.run (Ab t).2.1:=by
 have U:=Dn (HD h).1
 refine Vo (body:=Fz) (x:=()) (x':=()) ?_ ((Ep U).2 (HD h).2)
 show (if CG (Ab t).1=true then Rd.seq DG λ_=>.ret (.inl ()) else .ret (.inr ()):Rd (Sum Unit Unit)).run t=_
 rw [if_pos h]
 unfold DG Rd.seq
 dsimp only
 rw [Bu U];rfl
theorem Ze {s1:Ad} (h:Ci.run s=.inr ((),s1)):CG (Ab s1).1=false:=by
 refine Rd.iZ (body:=Fz) (P:=λ_ s'=>CG (Ab s').1=false) (λx s y s' h=>?_) () s () s1 h
 replace h:(if CG (Ab s).1=true then Rd.seq DG λ_=>.ret (.inl ()) else .ret (.inr ()):Rd (Sum Unit Unit)).run s=.inr (.inr y,s'):=h
 split at h
 .obtain ⟨a,s2,_,h⟩:=AO h;cases h
 .cases h;exact Bool.eq_false_iff.2 ‹_›
theorem eI {A:Rd Nd} (x:List Nd) (s:Ad):∀v s',Rd.iter (CO A) x s=.inr (v,s')->∃z,v=x++z:=by
 fun_induction Rd.iter (CO A) x s with
 |case1 x s p h1=>intro v s' e;cases e
 |case2 x s y s1 h1=>
  intro v s' e
  cases e
  obtain ⟨s2,_,⟨_,U,_⟩|⟨_,_,n,s3,_,⟨_,U,_⟩|⟨_,_,U,_⟩⟩⟩:=D0 h1
  .cases U;exact ⟨[],GT⟩
  .cases U;exact ⟨_,rfl⟩
  .cases U
 |case3 x s x' s1 h1 hlt ih=>
  intro v s' e
  obtain ⟨z,hz⟩:=ih v s' e
  obtain ⟨s2,_,⟨_,U,_⟩|⟨_,_,n,s3,_,⟨_,U,_⟩|⟨_,_,U,_⟩⟩⟩:=D0 h1
  .cases U
  .cases U
  .cases U;exact ⟨n::z,by rw [hz];simp⟩
 |case4 x s x' s1 h1 hlt=>intro v s' e;cases e
theorem A4.T7:∀l:List Nd,A4 Eq l l
 |[]=>.nil
 |n::r=>.cons rfl (A4.T7 r)
section
variable {l L m:List Tk} {p:Nat} {A:Rd Nd} {s s1 s2 s':Ad} {x:List Nd}
theorem Hd (h:R0 l d s s) (e:Ci.run s=.inr ((),s1)):R0 l d s1 s1:=by
 have h1:SW (tW l) (λ_ _=>True) Ci Ci s s (λ_ _ s1 t1=>R0 l d s1 t1):=MR (S:=tW l) (d:=d) h (λ{s t} _ hs _=>Jd (s:=s) (t:=t) hs) λ_ _ h=>h
 obtain ⟨w,t1,_,U⟩:=h1 () s1 e (Nat.zero_le _) trivial
 have:=U.2.2.2.2
 rw [this] at U;exact U
theorem O4 (hA:∀S:Sy,NR S.T->SR S A) (h:R0 l d s s) (e:(D1 A x).run s=.inr (n,s1)):R0 l d s1 s1:=by
 obtain ⟨w,t1,_,_,U⟩:=bJ (hA (tW l) Yd) (A4.T7 x) d s s h n s1 e (Nat.zero_le _) trivial
 have:=U.2.2.2.2
 rw [this] at U;exact U
theorem pn (hp:l.length=p+1) (hA:∀S:Sy,NR S.T->SR S A) (x:List Nd) (s:Ad):∀v s',R0 l 1 s s->Rd.iter (CO A) x s=.inr (v,s')->s'.pos=l.length->IM (l.take p)=1/\∃u,l[p]? =some u/\u.kind=15/\u.text=[125]:=by
 have U:∀{s s':Ad},R0 l 1 s s->AU s 15 [125]=true->s'=(Ab s).2.1->s'.pos=l.length->IM (l.take p)=1/\∃u,l[p]? =some u/\u.kind=15/\u.text=[125]:=by
  rintro s s' ⟨h,hl,hd,hq,_⟩ hi rfl hf
  have hz:=CS hi Do
  rcases h.cases with ⟨c,hc⟩|e
  .obtain ⟨h5,_,_,h4,_⟩:=Ji h hc hz
   have:s.pos=p:=AC
   have h6:=Bl hi
   rw [h5] at h6
   rw [this,Int.toNat_natCast] at hq
   refine ⟨AC,c,?_,h6⟩
   rw [<-hl,<-hc,this,Int.toNat_natCast]
  .have hn:=h.end e
   have h1:=(Bl hi).1
   rw [hn] at h1
   split at h1<;>cases h1
 fun_induction Rd.iter (CO A) x s with
 |case1 x s p h1=>intro v s' _ e;cases e
 |case2 x s y s1 h1=>
  intro v s' h e hf
  cases e
  obtain ⟨s2,g1,⟨g2,_,g3⟩|⟨_,_,n,s3,g2,⟨g3,_,g4⟩|⟨_,_,g3,_⟩⟩⟩:=D0 h1
  .exact U (Hd h g1) g2 g3 hf
  .exact U (O4 hA (Hd h g1) g2) g3 g4 hf
  .cases g3
 |case3 x s x' s1 h1 hlt ih=>
  intro v s' h e hf
  obtain ⟨s2,g1,⟨_,g3,_⟩|⟨_,_,n,s3,g2,⟨_,g3,_⟩|⟨_,_,g3,g4⟩⟩⟩:=D0 h1
  .cases g3
  .cases g3
  .subst g4;exact ih v s' (O4 hA (Hd h g1) g2) e hf
 |case4 x s x' s1 h1 hlt=>intro v s' _ e;cases e
variable (hp:l.length=p+1) (hd:IM (l.take p)=1) (he:∀i,i<p->L[i]? =l[i]?) (hc:∃u,l[p]? =some u/\u.kind=15/\u.text=[125]) (hs:∃u,L[p]? =some u/\u.kind=15/\u.text=[59]) (hL:∀t ∈ L,0<t.kind/\t.kind<16) (hLl:p<L.length)
include hp hd he hc hs hL hLl
omit hd he hc hs in
theorem VZ (h:R0 l d s s) (U:s.pos<=p):Pl (mv L 0 s):=
 have _:=hp;⟨hL,by have:=h.1.p0;show (0:Int)<=s.pos+0;omega,by show s.pos+0<=(L.length:Int);omega,h.1.op,h.1.wt⟩
omit hd he hc hs in
theorem tQ (h:R0 l d s s) (U:s.pos<=p):R1 l L p d s (mv L 0 s):=⟨h.1,h.2.1,U,h.2.2.1,h.2.2.2.1,rfl,VZ hp hL hLl h U⟩
omit hd hc hs in
theorem T4 (h:R0 l 1 s s) (h1:s.pos<p):Ab (mv L 0 s)=((Ab s).1,mv L 0 (Ab s).2.1,(Ab s).2.2):=by
 have h0:=h.1.p0
 have U:=h.2.1
 obtain ⟨u,hu⟩:∃u,s.Ag[s.pos.toNat]? =some u:=⟨_,List.getElem?_eq_getElem (by rw [U];omega)⟩
 refine TO h.1 (VZ hp hL hLl h AC) hu ?_
 rw [Int.add_zero,he s.pos.toNat AC,<-U];exact hu
omit hd he hs hL hLl in
theorem oC (h:R0 l 1 s s) (h1:s.pos=p):AU s 15 [125]=true:=by
 have _:=hp
 obtain ⟨c,c1,c2,U⟩:=hc
 have hu2:s.Ag[s.pos.toNat]? =some c:=by rw [h.2.1,h1];exact c1
 have hne:s.CF≠[]:=λe=>by have:=h.2.2.1;rw [e] at this;cases this
 unfold AU
 rw [h.1.next hu2]
 unfold BC
 rw [if_neg (by rw [U];simp),if_pos ⟨c2,U⟩,if_neg (λe=>e.elim hne λe=>e h.1.top),c2,U];rfl
omit hd he hs hL hLl in
theorem qs {q:Tk->Bool} (h:R0 l 1 s s) (U:q (Ab s).1=true) (h2:q ⟨15,[125],0,0⟩=false) (h3:q ⟨21,[],0,0⟩=false) (h4:q Xu=false) (hk:∀a b:Tk,a.kind=b.kind->a.text=b.text->q a=q b):s.pos<p:=by
 have h0:=h.1.p0
 have h5:=h.1.p1
 have hl:=h.2.1
 apply Classical.byContradiction
 intro hn
 by_cases e:s.pos=p
 .have:=Bl (oC hp hc h e)
  rw [hk _ ⟨15,[125],0,0⟩ this.1 this.2,h2] at U;cases U
 .have e2:s.pos=s.Ag.length:=by rw [hl] at h5 |-;omega
  rw [h.1.end e2] at U
  split at U
  .rw [show q ur=false from h3] at U;cases U
  .rw [h4] at U;cases U
omit hd he hs hL hLl in
theorem bj (h:R0 l 1 s s) (U:CG (Ab s).1=true):s.pos<p:=qs hp hc h U rfl rfl rfl Ke
omit hd hs in
theorem V0 (s:Ad):∀s1,R0 l 1 s s->Rd.iter Fz () s=.inr ((),s1)->Rd.iter Fz () (mv L 0 s)=Rd.iter Fz () (mv L 0 s1):=by
 suffices H:∀(x:Unit) (s:Ad) s1,R0 l 1 s s->Rd.iter Fz x s=.inr ((),s1)->Rd.iter Fz () (mv L 0 s)=Rd.iter Fz () (mv L 0 s1) from H () s
 intro x s
 fun_induction Rd.iter Fz x s with
 |case1 x s q U=>intro s1 _ e;cases e
 |case2 x s y s1 U=>
  intro s9 h e
  cases e
  replace U:(if CG (Ab s).1=true then Rd.seq DG λ_=>.ret (.inl ()) else .ret (.inr ()):Rd (Sum Unit Unit)).run s=.inr (.inr (),s1):=U
  split at U
  .obtain ⟨a,s2,_,h⟩:=AO U;cases h
  .cases U;rfl
 |case3 x s x' s2 U hlt ih=>
  intro s1 h e
  replace U:(if CG (Ab s).1=true then Rd.seq DG λ_=>.ret (.inl ()) else .ret (.inr ()):Rd (Sum Unit Unit)).run s=.inr (.inl x',s2):=U
  split at U
  .rename_i hsm
   have hz:=Dn (HD hsm).1
   obtain ⟨a,s3,h2,h3⟩:=AO U
   obtain ⟨b,s4,h4,h5⟩:=AO h2
   rw [Bu hz] at h4
   cases h4;cases h5;cases h3
   have hr2:R0 l 1 (Ab s).2.1 (Ab s).2.1:=by
    rcases (tW l).next (d:=1) (s:=s) (t:=s) h with h7|h7
    .exact ((Nm.oI (S:=tW l) (d:=1) (s:=s) (t:=s) h7 hsm).2 hz).2
    .exact (Jd h7).elim
   have hn:=T4 hp he hL hLl h (bj hp hc h hsm)
   have h11:Ci.run (mv L 0 s)=Ci.run (Ab (mv L 0 s)).2.1:=QF (by rw [hn];exact hsm)
   rw [hn] at h11
   exact h11.trans (ih s1 hr2 e)
  .cases U
 |case4 x s x' s2 U hlt=>intro s1 _ e;cases e
omit hp hd he hc hs hL hLl in
theorem jM (h:R0 l 1 s s) (U:s.pos=p):mv L 0 s=⟨L,p,[0],0⟩:=by
 have h2:=h.2.2.1
 have h3:=h.1.op
 have h4:=h.1.wt
 obtain ⟨a,b,c,d⟩:=s
 dsimp only at U h2 h3 h4
 obtain ⟨x,rfl⟩:=List.length_eq_one_iff.1 h2
 rw [h3 x (List.mem_singleton.2 rfl)]
 unfold mv
 dsimp only
 rw [U,h4,Int.add_zero]
theorem nO (hA:∀S:Sy,NR S.T->SR S A) (h:R0 l 1 s s) (h1:s.pos<=p) (U:R0 l 1 s1 s1) (h3:s1.pos<=p) (e:(D1 A x).run s=.inr (n,s1)):(D1 A x).run (mv L 0 s)=.inr (n,mv L 0 s1):=by
 have hm:7<=mu s1:=by
  have:=U.1.p0
  have:=U.1.wt
  have:=U.2.2.1
  unfold mu
  rw [U.2.1]
  omega
 obtain ⟨w,t1,g1,g2,g3⟩:=bJ (S:=vq l L p hp hd he hc hs) (hA _ Yd) (A4.T7 x) 1 s (mv L 0 s) (tQ hp hL hLl h h1) n s1 e hm trivial
 have g2:n=w:=g2
 have:=g3.2.2.2.2.2.1
 rw [g1,<-g2,this]
theorem qk (h:R0 l 1 s s) (h1:s.pos<=p) (U:R0 l 1 s1 s1) (h3:s1.pos<=p) (h4:mu s1<=mu s):mu (mv L 0 s1)<=mu (mv L 0 s)/\(mu s1<mu s->mu (mv L 0 s1)<mu (mv L 0 s)):=by
 have _:=hd;have _:=he
 have a:=Se h.1 (VZ hp hL hLl h h1)
 have b:=Se U.1 (VZ hp hL hLl U h3)
 rw [h.2.1] at a
 rw [U.2.1] at b
 constructor
 .omega
 .intro;omega
theorem rK (hA:∀S:Sy,NR S.T->SR S A) (hF:Rd.AR A) (x:List Nd) (s:Ad):∀v s' q,R0 l 1 s s->s.pos<=p->Rd.iter (CO A) x s=.inr (v,s')->s'.pos=l.length->Rd.iter (CO A) v ⟨L,p,[0],0⟩=.inr q->Rd.iter (CO A) x (mv L 0 s)=.inr q:=by
 have hfin:∀{s s':Ad},R0 l 1 s s->AU s 15 [125]=true->s'=(Ab s).2.1->s'.pos=l.length->s.pos=p:=by
  rintro s s' h hi rfl hf
  have hz:=CS hi Do
  rcases h.1.cases with ⟨c,hc⟩|e
  .have h4:=(Ji h.1 hc hz).2.2.2.1
   omega
  .have hn:=h.1.end e
   have h1:=(Bl hi).1
   rw [hn] at h1
   split at h1<;>cases h1
 have hgo:∀{x:List Nd} {s s2 s3:Ad} {n:Nd} {q:List Nd×Ad},R0 l 1 s s->s.pos<=p->Ci.run s=.inr ((),s2)->Gt (Ab s2).1=true->(D1 A x).run s2=.inr (n,s3)->R0 l 1 s3 s3->s3.pos<=p->AU (mv L 0 s3) 15 [125]=false->CG (Ab (mv L 0 s3)).1=true->
  Rd.iter (CO A) (x++[n]) (mv L 0 s3)=.inr q->Rd.iter (CO A) x (mv L 0 s)=.inr q:=λ{x s s2 s3 n q} h h1 g1 g2 g3 U h4 g4 g5 hq=>by
  have h2:=Hd h g1
  have h5:s2.pos<p:=qs hp hc h2 g2 rfl rfl rfl NJ.k
  have hn:=T4 hp he hL hLl h2 h5
  have hst:=Ze g1
  have g6:Ci.run (mv L 0 s)=.inr ((),mv L 0 s2):=by
   have a:Ci.run (mv L 0 s)=Ci.run (mv L 0 s2):=V0 hp he hc hL hLl s s2 h g1
   rw [a]
   refine iG (body:=Fz) (x:=()) ?_
   show (if CG (Ab (mv L 0 s2)).1=true then Rd.seq DG λ_=>.ret (.inl ()) else .ret (.inr ()):Rd (Sum Unit Unit)).run (mv L 0 s2)=_
   rw [hn]
   rw [if_neg (by rw [hst];decide)];rfl
  have g7:=nO hp hd he hc hs hL hLl hA h2 AC U h4 g3
  have g8:Gt (Ab (mv L 0 s2)).1=true:=by rw [hn];exact g2
  have g9:AU (mv L 0 s2) 15 [125]=false:=by
   unfold AU
   rw [hn]
   exact Bool.eq_false_iff.2 λe=>by
    simp only [Bool.and_eq_true,beq_iff_eq] at e
    rw [NJ.k _ ⟨15,[125],0,0⟩ e.1 e.2] at g2
    cases g2
  rw [Vo (jV g6 g9 g8 g7 g4 g5)]
  .exact hq
  .have a:=Yj hF x _ _ _ g3
   have b:=Ci.le _ _ _ g1
   exact (qk hp hd he hc hs hL hLl h h1 U h4 AC).2 AC
 fun_induction Rd.iter (CO A) x s with
 |case1 x s p h1=>intro v s' q _ _ e;cases e
 |case2 x s y s1 h1=>
  intro v s' q h hle e hf hq
  cases e
  obtain ⟨s2,g1,⟨g2,g3,g4⟩|⟨_,g2,n,s3,g3,⟨g4,g5,g6⟩|⟨_,_,g3,_⟩⟩⟩:=D0 h1
  .cases g3
   have h2:=Hd h g1
   have hpp:=hfin h2 g2 g4 hf
   have a:Ci.run (mv L 0 s)=Ci.run (mv L 0 s2):=V0 hp he hc hL hLl s s2 h g1
   rw [jM h2 hpp] at a
   refine Ql a ?_ hq
   have:=(qk hp hd he hc hs hL hLl h hle h2 AC (Ci.le _ _ _ g1)).1
   rw [jM h2 hpp] at this
   exact this
  .cases g5
   have h2:=Hd h g1
   have U:=O4 hA h2 g3
   have hpp:=hfin U g4 g6 hf
   have ht:=jM (L:=L) U hpp
   obtain ⟨u,u1,u2,u3⟩:=hs
   have hpl:=VZ hp hL hLl U AC
   have hn2:(Ab (mv L 0 s3)).1=u:=by
    rw [hpl.next (t:=u) (by rw [ht];exact u1)]
    unfold BC
    rw [if_neg (by rw [u3];simp),if_neg (by rw [u3];simp)]
   exact hgo h hle g1 g2 g3 U AC (by unfold AU;rw [hn2,u3];simp) (by unfold CG;rw [hn2,u2,u3];rfl) (by rw [ht];exact hq)
  .cases g3
 |case3 x s x' s1 h1 hlt ih=>
  intro v s' q h hle e hf hq
  obtain ⟨s2,g1,⟨_,g3,_⟩|⟨_,g2,n,s3,g3,⟨_,g4,_⟩|⟨g4,g5,g6,g7⟩⟩⟩:=D0 h1
  .cases g3
  .cases g4
  .cases g6
   subst g7
   have U:=O4 hA (Hd h g1) g3
   have hl3:=bj hp hc U g5
   have hn:=T4 hp he hL hLl U hl3
   exact hgo h hle g1 g2 g3 U AC (by unfold AU at g4 |-;rw [hn];exact g4) (by rw [hn];exact g5) (ih v s' q U AC e hf hq)
 |case4 x s x' s1 h1 hlt=>intro v s' q _ _ e;cases e
end
def Sa (v:List Nd):Prop:=∀i n,v[i]? =some n->n.kind=50->((v.take i).any λx=> !(x.kind==50))=false
theorem Qe (h:Sa x) (k:n.kind=50->(x.any λx=> !(x.kind==50))=false):Sa (x++[n]):=λi m hi U=>by
 by_cases e:i<x.length
 .rw [List.getElem?_append_left e] at hi
  rw [List.take_append_of_le_length AC]
  exact h i m hi U
 .rw [List.getElem?_append_right AC] at hi
  have hz:i - x.length=0:=by
   apply Classical.byContradiction
   intro hz
   rw [List.getElem?_eq_none RK] at hi
   cases hi
  rw [hz] at hi
  cases hi
  rw [show i=x.length by omega,List.take_left']
  .exact k U
  .rfl
theorem Vn {A:Rd Nd} {s':Ad} (h:(D1 A x).run s=.inr (n,s')):n.kind=50->(x.any λx=> !(x.kind==50))=false:=λe=>by
 obtain ⟨m,s1,_,U⟩:=AO (show (Rd.seq A λn=>if ((n.kind==50)&&x.any λx=> !(x.kind==50))=true then .DL s G1 else .ret n).run s=.inr (n,s') from h)
 split at U
 .cases U
 .cases U
  rename_i h3 _
  rw [show (n.kind==50)=true from by rw [e];rfl] at h3
  simpa using h3
theorem eJ {A:Rd Nd} (x:List Nd) (s:Ad):∀v s',Sa x->Rd.iter (CO A) x s=.inr (v,s')->Sa v:=by
 fun_induction Rd.iter (CO A) x s with
 |case1 x s p h1=>intro v s' _ e;cases e
 |case2 x s y s1 h1=>
  intro v s' h e
  cases e
  obtain ⟨s2,_,⟨_,U,_⟩|⟨_,_,n,s3,h4,⟨_,U,_⟩|⟨_,_,U,_⟩⟩⟩:=D0 h1
  .cases U;exact h
  .cases U;exact Qe h (Vn h4)
  .cases U
 |case3 x s x' s1 h1 hlt ih=>
  intro v s' h e
  obtain ⟨s2,_,⟨_,U,_⟩|⟨_,_,n,s3,h4,⟨_,U,_⟩|⟨_,_,U,_⟩⟩⟩:=D0 h1
  .cases U
  .cases U
  .cases U;exact ih v s' (Qe h (Vn h4)) e
 |case4 x s x' s1 h1 hlt=>intro v s' _ e;cases e
section
variable {m L:List Tk} {p:Nat} {A:Rd Nd} {s t:Ad} {pre x:List Nd}
def dm (pre v:List Nd):Prop:=(∃n ∈ v,n.kind=50)->(pre.any λx=> !(x.kind==50))=false
theorem rL (hL:∀t ∈ L,0<t.kind/\t.kind<16) (he:∀i,1<=i->L[i+p]? =m[i]?) (hA:∀S:Sy,NR S.T->SR S A) {v:List Nd} {s':Ad} (U:R2 m L p 1 s t) (e:Rd.iter (CO A) x s=.inr (v,s')) (hv:dm pre v):
 ∃t',Rd.iter (CO A) (pre++x) t=.inr (pre++v,t')/\R2 m L p 0 s' t':=by
 let S:=vr m L p hL he
 have hAS:=hA S Yd
 have key:SW S (λv _=>dm pre v) (.loop (CO A) x) (.loop (CO A) (pre++x)) s t (λv w s1 t1=>w=pre++v/\R2 m L p 0 s1 t1):=by
  refine SW.loop (d:=1) (J:=λx y=>y=pre++x) (λx y s t hj U=>?_) rfl U
  subst hj
  refine SW.seq (MR (d:=1) U (λ_ h _=>Jd h) λs1 t1 U=>SW.look (SW.seq (KT (d:=0) U (λh=>by rw [NJ.k _ _ h.1 h.2.1]) (λs1 t1 U=>?_) ?_)))
  .rw [if_pos rfl,if_pos rfl];exact SW.out ⟨rfl,U⟩
  .rw [if_neg Do,if_neg Do]
   refine SW.seq (SW.look (SW.seq (SW.A hAS U λn n' s1 t1 hn U=>?_)))
   have hn:n=n':=hn
   subst hn
   intro v s' e2 hm hp
   split at e2
   .cases e2
   .rename_i hc
    cases e2
    have himp:(n.kind=50->(pre.any λx=> !(x.kind==50))=false):=λhk=>by
     obtain ⟨r,s3,h1,_,h2⟩:=hp
     obtain ⟨e3,s4,h3,h4⟩:=AO (show (Rd.seq (Dg true (!CG (Ab s1).1)) λe=>if e=true then .ret (.inr (x++[n])) else .ret (.inl (x++[n])):Rd (Sum (List Nd) (List Nd))).run s1=.inr (r,s3) from h1)
     split at h4
     .cases h4
      exact h2 ⟨n,GT,hk⟩
     .cases h4
      obtain ⟨v2,s5,h5,_,h6⟩:=h2
      obtain ⟨z,hz⟩:=eI _ _ _ _ h5
      exact h6 ⟨n,by rw [hz];simp,hk⟩
    have hc2:¬((n.kind==50)&&(pre++x).any λx=> !(x.kind==50))=true:=λh=>by
     rw [Bool.and_eq_true,beq_iff_eq,List.any_append,Bool.or_eq_true] at h
     rcases h with ⟨h1,h2|h2⟩
     .rw [himp h1] at h2;cases h2
     .exact hc (by rw [h1,h2];rfl)
    refine ⟨n,t1,by rw [if_neg hc2];rfl,SW.look (SW.seq (KT (d:=0) U (λh=>by rw [Ke _ _ h.1 h.2.1]) (λs1 t1 U=>?_) ?_))⟩
    .rw [if_pos rfl,if_pos rfl];exact SW.out ⟨GT,U⟩
    .rw [if_neg Do,if_neg Do];exact SW.go GT U
 obtain ⟨w,t',h1,h2,h3⟩:=key v s' e (Nat.zero_le _) hv
 subst h2
 exact ⟨t',h1,h3⟩
end
theorem kB {α:Type} {m:Rd β} {k:β->Rd α} {s1:Ad} {a:β} (h:m.run s=.inr (a,s1)):(Rd.seq m k).run s=(k a).run s1:=by unfold Rd.seq;dsimp only;rw [h]
abbrev UF:Tk:=⟨15,[59],0,0⟩
theorem Jt {A:Rd Nd} (hk:∀t ∈ l,0<t.kind/\t.kind<16) (h:(CJ A).run ⟨l,0,[],0⟩=.inr (n,s)):
 ∃u kids,l[0]? =some u/\u.kind=15/\u.text=[123]/\n=BB true kids/\Rd.iter (CO A) [] ⟨l,1,[0],0⟩=.inr (kids,s):=by
 have hp:Pl (⟨l,0,[],0⟩:Ad):=⟨hk,Int.le_refl _,by show (0:Int)<=(l.length:Int);omega,λx hx=>(by cases hx),rfl⟩
 have h18:=hp.ou
 replace h:(if ((Ab (⟨l,0,[],0⟩:Ad)).1.kind==18)=true then Rd.seq DG λ_=>.seq (.loop (DI Gt (D1 A) false) []) λl=>.ret (BB false l) else .seq (Bc 15 [123]) λ_=>.seq (.loop (CO A) []) λl=>.ret (BB true l):Rd Nd).run ⟨l,0,[],0⟩=.inr (n,s):=h
 rw [if_neg (by rw [beq_iff_eq];exact h18)] at h
 obtain ⟨a,s1,U,h2⟩:=AO h
 replace U:(if AU (⟨l,0,[],0⟩:Ad) 15 [123]=true then Ay else IG).run ⟨l,0,[],0⟩=.inr (a,s1):=U
 split at U
 .rename_i hi
  rw [Bu (CS hi Do)] at U
  cases U
  rcases hp.cases with ⟨u,hu⟩|e
  .have hz:=CS hi Do
   obtain ⟨g1,_⟩:=Ji hp hu hz
   have ht:=Bl hi
   rw [g1] at ht
   obtain ⟨kids,s2,h3,h4⟩:=AO h2
   cases h4
   refine ⟨u,kids,hu,ht.1,ht.2,rfl,?_⟩
   rw [hp.next hu] at h3
   unfold BC at h3
   rw [if_pos ht] at h3
   exact h3
  .have h5:=(Bl hi).1
   rw [hp.end e,if_pos rfl] at h5
   cases h5
 .cases U
theorem ew {A:Rd Nd} {kids:List Nd} (hk:∀t ∈ l,0<t.kind/\t.kind<16) (h0:l[0]? =some u) (U:u.kind=15/\u.text=[123]) (h:Rd.iter (CO A) [] ⟨l,1,[0],0⟩=.inr (kids,s)):(CJ A).run ⟨l,0,[],0⟩=.inr (BB true kids,s):=by
 have hp:Pl (⟨l,0,[],0⟩:Ad):=⟨hk,Int.le_refl _,by show (0:Int)<=(l.length:Int);omega,λx hx=>(by cases hx),rfl⟩
 have hn:Ab (⟨l,0,[],0⟩:Ad)=(u,⟨l,1,[0],0⟩,0):=by
  rw [hp.next (t:=u) h0]
  unfold BC
  rw [if_pos U];rfl
 have hi:AU (⟨l,0,[],0⟩:Ad) 15 [123]=true:=by unfold AU;rw [hn,U.1,U.2];rfl
 have hw:(Bc 15 [123]).run ⟨l,0,[],0⟩=.inr (Bk u,⟨l,1,[0],0⟩):=by
  show (if AU (⟨l,0,[],0⟩:Ad) 15 [123]=true then Ay else IG).run ⟨l,0,[],0⟩=_
  rw [if_pos hi,Bu (CS hi Do),hn]
 show (if ((Ab (⟨l,0,[],0⟩:Ad)).1.kind==18)=true then Rd.seq DG λ_=>.seq (.loop (DI Gt (D1 A) false) []) λl=>.ret (BB false l) else .seq (Bc 15 [123]) λ_=>.seq (.loop (CO A) []) λl=>.ret (BB true l):Rd Nd).run ⟨l,0,[],0⟩=_
 rw [hn,if_neg (by rw [U.1];decide),kB hw,kB (m:=.loop (CO A) []) h]
 rfl
theorem rM {m:List Tk} {A:Rd Nd} {o:Nd} {t:Ad} (hA:∀S:Sy,NR S.T->SR S A) (hF:Rd.AR A) (hl:∀t ∈ l,0<t.kind/\t.kind<16) (hm:∀t ∈ m,0<t.kind/\t.kind<16) (h2:2<=l.length)
 (h:(CJ A).run ⟨l,0,[],0⟩=.inr (n,s)) (hs:s.pos=l.length) (k:(CJ A).run ⟨m,0,[],0⟩=.inr (o,t)) (ht:t.pos=m.length) (hv:dm n.kids o.kids):
 ∃u,(CJ A).run ⟨l.take (l.length - 1)++UF::m.drop 1,0,[],0⟩=.inr (BB true (n.kids++o.kids),u)/\u.pos=(l.take (l.length - 1)++UF::m.drop 1).length:=by
 obtain ⟨u,kids,a1,a2,a3,rfl,a4⟩:=Jt hl h
 obtain ⟨u',kids',b1,b2,b3,rfl,b4⟩:=Jt hm k
 have hv:dm kids kids':=hv
 obtain ⟨p,hp⟩:∃p,l.length=p+1:=⟨l.length - 1,AC⟩
 have hp1:l.length - 1=p:=AC
 rw [hp1]
 have hm1:1<=m.length:=by
  have:=(List.getElem?_eq_some_iff.1 b1).1;omega
 have U:(l.take p).length=p:=Pi
 generalize hL:l.take p++UF::m.drop 1=L
 have lL:L.length=p+m.length:=by rw [<-hL,List.length_append,U,List.length_cons,List.length_drop];omega
 have kL:∀t ∈ L,0<t.kind/\t.kind<16:=by
  intro t ht
  rw [<-hL] at ht
  rcases List.mem_append.1 ht with ht|ht
  .exact hl t (List.mem_of_mem_take ht)
  .rcases List.mem_cons.1 ht with rfl|ht
   .decide
   .exact hm t (List.mem_of_mem_drop ht)
 have e1:∀i,i<p->L[i]? =l[i]? :=λi hi=>by
  rw [<-hL,List.getElem?_append_left (by rw [U];exact hi),List.getElem?_take_of_lt hi]
 have e2:L[p]? =some UF:=by
  rw [<-hL,List.getElem?_append_right (by rw [U];exact Nat.le_refl _),U,Nat.sub_self];rfl
 have e3:∀i,1<=i->L[i+p]? =m[i]? :=λi hi=>by
  rw [<-hL,List.getElem?_append_right (by rw [U];omega),U,show i+p - p=(i - 1)+1 by omega,List.getElem?_cons_succ,List.getElem?_drop]
  congr 1;omega
 have pl1:Pl (⟨l,1,[0],0⟩:Ad):=⟨hl,by show (0:Int)<=1;decide,by show (1:Int)<=(l.length:Int);omega,λx hx=>List.mem_singleton.1 hx,rfl⟩
 have hd1:IM (l.take 1)=1:=by
  rw [RY (i:=0) a1]
  unfold Te
  rw [if_pos ⟨a2,a3⟩];rfl
 have r01:R0 l 1 ⟨l,1,[0],0⟩ ⟨l,1,[0],0⟩:=⟨pl1,rfl,rfl,hd1.symm,rfl⟩
 obtain ⟨hd,hc⟩:=pn hp hA [] _ kids s r01 a4 hs
 have plq:Pl (⟨L,(p:Int)+1,[0],0⟩:Ad):=⟨kL,by show (0:Int)<=(p:Int)+1;omega,by show (p:Int)+1<=(L.length:Int);omega,λx hx=>List.mem_singleton.1 hx,rfl⟩
 have plp:Pl (⟨L,(p:Int),[0],0⟩:Ad):=⟨kL,by show (0:Int)<=(p:Int);omega,by show (p:Int)<=(L.length:Int);omega,λx hx=>List.mem_singleton.1 hx,rfl⟩
 have plm:Pl (⟨m,1,[0],0⟩:Ad):=⟨hm,by show (0:Int)<=1;decide,by show (1:Int)<=(m.length:Int);omega,λx hx=>List.mem_singleton.1 hx,rfl⟩
 have emv:mv L p ⟨m,1,[0],0⟩=⟨L,(p:Int)+1,[0],0⟩:=by unfold mv;dsimp only;rw [Int.add_comm]
 have r2:R2 m L p 1 ⟨m,1,[0],0⟩ ⟨L,(p:Int)+1,[0],0⟩:=⟨plm,rfl,by show (1:Int)<=1;decide,rfl,emv.symm,by rw [emv];exact plq⟩
 obtain ⟨t',g1,g2⟩:=rL (pre:=kids) kL e3 hA r2 b4 hv
 rw [List.append_nil] at g1
 have np:Ab (⟨L,(p:Int),[0],0⟩:Ad)=(UF,⟨L,(p:Int)+1,[0],0⟩,0):=by
  rw [plp.next (t:=UF) (by show L[((p:Int)).toNat]? =_;rw [Int.toNat_natCast];exact e2)];rfl
 have g3:Rd.iter (CO A) kids ⟨L,p,[0],0⟩=.inr (kids++kids',t'):=by
  refine Ql (t:=⟨L,(p:Int)+1,[0],0⟩) ?_ ?_ g1
  .have:=QF (t:=⟨L,(p:Int),[0],0⟩) (by rw [np];rfl)
   rw [np] at this;exact this
  .unfold mu;dsimp only;omega
 have g4:=rK hp hd e1 hc ⟨UF,e2,rfl,rfl⟩ kL AC hA hF [] _ kids s _ r01 (by show (1:Int)<=(p:Int);omega) a4 hs g3
 have emv0:mv L 0 ⟨l,1,[0],0⟩=⟨L,1,[0],0⟩:=rfl
 rw [emv0] at g4
 refine ⟨t',ew (u:=u) kL (by rw [e1 0 AC];exact a1) ⟨a2,a3⟩ g4,?_⟩
 rw [g2.2.2.2.2.1]
 show t.pos+(p:Int)=_
 rw [ht,lL];omega
theorem Path.mu {s t:Ad} {l:List Tk} (h:Path s l t):Proofs.Z.mu t+l.length<=Proofs.Z.mu s:=by
 induction h with
 |nil s=>exact Nat.le_refl _
 |cons U h2 _ ih=>rw [List.length_cons];omega
theorem Gx (l:List Tk):(Az l).length=l.length:=by unfold Az;rw [List.length_map]
theorem qW {x:Tk} {own:AJ} {st:St} {K:V->St->Prop} (h:own.BM st) (hb:l.length+1<=1000000000)
 (k:∀U:AJ,U.BM st->K (.slice 4 (Az (l++[x])) U) (U.st st ((l++[x]).length*4))):Ah 4 40 (Az l) own [x.cells] (own.st st (l.length*4)) K:=by
 have:=El (sz:=4) (bytes:=40) (es:=Az l) (new:=[x.cells]) (K:=K) h (by rw [Gx];show (l.length+1)*40<=_;omega) (by rw [Gx];show l.length+1<C9;simp only [C9];omega) rfl (λU ho=>by
  have:=k U ho
  rw [Gx]
  have e:Az l++[x.cells].map (·.map V.JI)=Az (l++[x]):=by unfold Az;rw [List.map_append];rfl
  rw [e]
  rw [List.length_append] at this
  exact this)
 rw [Gx] at this
 exact this
theorem QJ {a b:Int} (h0:0<=a) (h1:a<=b) (h2:b<=l.length) (k:K (Az (Fi l a b))):
 (0<=a/\a<=b/\b<=(Az l).length)/\∀U,U=(((Az l).take b.toNat).drop a.toNat)->K U:=by
 refine ⟨⟨h0,h1,by rw [Ej];exact h2⟩,λU e=>?_⟩
 have:((Az l).take b.toNat).drop a.toNat=Az (Fi l a b):=by simp [Az,Fi,List.map_drop,List.map_take]
 rw [this] at e;subst e;exact k
section
variable {st:St} {R:AA->St->Prop}
attribute [local irreducible] Go.Aw.Ah
theorem RR {s':Ad} {deep:Int} {A:Rd Nd} (h:B8 s deep (Dy A s)=(n,s',0)):A.run s=.inr (n,s'):=by
 unfold B8 at h
 split at h
 .cases h
 .unfold Dy at h
  cases U:A.run s with
  |inl p=>rw [U] at h;obtain ⟨⟨x,hx⟩,t⟩:=p;cases h;exact absurd rfl hx
  |inr p=>rw [U] at h;obtain ⟨a,b⟩:=p;cases h;rfl
end
def l9 (st m:St) (nv:V) (l:List Nt):Prop:=
 (nv=.slice 5 [] .full/\l=[])\/∃b cap rest,nv=.FU 5 b l.length cap/\m.box b=some ((H3 l).flatten++rest)/\((H3 l).flatten++rest).length=cap*5/\st.box b=none/\l≠[]
structure RW where
 i:Nat
 x:Lx
 wait:Bool
 w1:AJ
 nv:V
 m:St
def RW.BM (s:List UInt8) (st:St) (y:RW):Prop:=
 l9 st y.m y.nv y.x.notes/\BU st y.m y.w1 (y.x.Ag.length*4) .full 0/\BF s y.i/\0<=y.x.Dx/\y.x.Dx<=y.i/\y.x.Ag.length<=y.i/\y.x.notes.length<=y.i/\(y.wait=true->y.x.notes≠[])
theorem iO (a b:List (List UInt8)):Lib.lens (a++b)=Lib.lens a+Lib.lens b:=by simp [Lib.lens]
theorem iS {s:List UInt8} {x y:Lx} (hv:Vd s) (hp:BF s p) (h:x.Ag.length<=p/\Lib.lens (x.Ag.map Tk.text)<=p) (e:GF s p x=.inr y):y.Ag.length<=s.length/\Lib.lens (y.Ag.map Tk.text)<=s.length:=by
 have hpl:=hp.le
 fun_induction GF s p x with
 |case1 p x U h1=>cases e
 |case2 p x U h1 h2 h3 ih=>
  obtain ⟨q,e1,e2,e3,e4⟩:=VQ hv hp AC h2
  have eq:(CE s p).1.toNat=q:=AC
  rw [eq] at ih e
  have hb:=IH e3
  exact ih (e4.my hv) ⟨by show x.Ag.length<=_;omega,by show Lib.lens (x.Ag.map Tk.text)<=_;omega⟩ e hb.2
 |case3 p x U h1 h2 h3=>injection e with e;subst e;omega
 |case4 p x U h1 h2 h3=>cases e
 |case5 p x U h1 h2 h3 h4 ih=>
  obtain ⟨e0,q,e1,e2,e3,e4⟩:=Vx hv hp AC
  have eq:(Cj s p).2.1.toNat=q:=AC
  rw [eq] at ih e
  have hb:=IH e3
  have hpc:(A1 s p q).length=q - p:=Io AC e3
  have l1:(LN s p q (Cj s p).1 x).Ag.length=x.Ag.length+1:=by simp [LN]
  have l2:Lib.lens ((LN s p q (Cj s p).1 x).Ag.map Tk.text)=Lib.lens (x.Ag.map Tk.text)+(q - p):=by
   show Lib.lens ((x.Ag++[_]).map Tk.text)=_
   rw [List.map_append,iO]
   simp [Lib.lens,hpc]
  exact ih (e4.my hv) ⟨AC,AC⟩ e hb.2
 |case6 p x U h1 h2 h3 h4=>injection e with e;subst e;omega
 |case7 p x U=>injection e with e;subst e;omega
theorem Vv {s:List UInt8} {y:Lx} (e:EO s=.inr y):y.Ag.length<=s.length/\Lib.lens (y.Ag.map Tk.text)<=s.length:=by
 have ok:=nX e
 unfold EO at e
 split at e
 .cases e
 .split at e
  .cases e
  .split at e
   .cases e
   .exact iS ok.2.1 (BF.my ok.2.1 (.zero s)) ⟨Nat.zero_le _,Nat.zero_le _⟩ e
theorem da {s:List UInt8} {x:Lx} {i e:Int} (h:GF s p x=.inl (i,e)):e≠0:=by
 fun_induction GF s p x with
 |case1 p x U h1=>injection h with h;injection h with h h';omega
 |case2 p x U h1 h2 h3 ih=>exact ih h
 |case3 p x U h1 h2 h3=>cases h
 |case4 p x U h1 h2 h3=>injection h with h;injection h with h h';omega
 |case5 p x U h1 h2 h3 h4 ih=>exact ih h
 |case6 p x U h1 h2 h3 h4=>cases h
 |case7 p x U=>cases h
theorem Vu {s:List UInt8} {i e:Int} (h:EO s=.inl (i,e)):e≠0:=by
 unfold EO at h
 split at h
 .injection h with h;injection h with h h';omega
 .split at h
  .rename_i U
   injection h with h
   rw [h] at U;exact U
  .split at h
   .injection h with h;injection h with h h';omega
   .exact da h
section
variable {st:St} {R:AA->St->Prop}
theorem aD {s:List UInt8} {i e:Int} (hs:EO s=.inl (i,e)) (h:∀st',st.le st'->R (.ret (.Bz [.slice 4 [] .full,.slice 5 [] .full,.int .i64 i,.int .i64 e])) st'):PC 22 [.str s] st R:=by
 refine iU (λi' e' he=>?_) (λi' e' st' hle he=>?_) (λx w1 w2 st' he=>?_)
 .rw [hs] at he;injection he with he;injection he with U e2;subst U;subst e2;exact h st (St.le_refl _)
 .rw [hs] at he;injection he with he;injection he with U e2;subst U;subst e2;exact h st' hle
 .rw [hs] at he;cases he
theorem Sb {s:List UInt8} {x:Lx} (hs:EO s=.inr x) (h:∀w1 w2 st',st.le st'->R (.ret (.Bz [.slice 4 (Az x.Ag) w1,.slice 5 (H3 x.notes) w2,.int .i64 0,.int .i64 0])) st'):PC 22 [.str s] st R:=by
 refine iU (λU e' he=>?_) (λU e' st' hle he=>?_) (λx w1 w2 st' he hle=>?_)
 .rw [hs] at he;cases he
 .rw [hs] at he;cases he
 .rw [hs] at he;injection he with he;subst he;exact h w1 w2 st' hle
end
theorem DK (l:List Tk):(Az l).length=l.length:=by unfold Az;rw [List.length_map]
theorem ZN {m:List Tk} {own:AJ} {st:St} {K:V->St->Prop} (h:own.BM st) (hb:l.length+m.length<=1000000000)
 (k:∀U:AJ,U.BM st->K (.slice 4 (Az (l++m)) U) (U.st st ((l++m).length*4))):Ah 4 40 (Az l) own (Az m) (own.st st (l.length*4)) K:=by
 have hw:(Az m).map (·.map V.JI)=Az m:=by
  unfold Az
  rw [List.map_map]
  exact List.map_congr_left λx _=>rfl
 have hsc:((Az m).all λv=>v.all V.sc)=true:=by
  unfold Az
  rw [List.all_map,List.all_eq_true]
  intro x _;rfl
 have:=El (sz:=4) (bytes:=40) (es:=Az l) (new:=Az m) (K:=K) h (by rw [DK,DK];omega) (by rw [DK,DK];simp only [C9];omega) hsc (λU ho=>by
  have:=k U ho
  rw [DK,DK,hw,show Az l++Az m=Az (l++m) by unfold Az;rw [List.map_append],<-List.length_append]
  exact this)
 rw [DK] at this
 exact this
theorem dz (l:List UInt8):0<=(Bt l).1/\(Bt l).1<16:=by
 unfold Bt lh
 (repeat' split)<;>(dsimp only;omega)
theorem jL (k:Int):0<=Kc k/\Kc k<16:=by
 unfold Kc
 (repeat' split)<;>decide
theorem ky {s:List UInt8} {n:Nat} (h:0<=k/\k<16):0<=(Gg s n k).1/\(Gg s n k).1<16:=by
 fun_induction Gg s n k with
 |case1 n k hn hc U=>exact U (jL _)
 |case2 n k hn hc=>exact h
 |case3 n k hn=>exact h
theorem nZ {s:List UInt8} (h:(Cj s p).2.2=0):0<(Cj s p).1/\(Cj s p).1<16:=by
 unfold Cj at h |-
 split
 .rename_i h1
  show 0<(Mx s p).1/\(Mx s p).1<16
  unfold Mx at h1 |-
  split
  .rename_i U;rw [if_pos U] at h1;exact absurd rfl h1
  .rename_i U
   show 0<(D6 (s.drop p)).1/\(D6 (s.drop p)).1<16
   unfold D6 at U |-
   split
   .dsimp only;omega
   .rename_i h3
    rw [if_neg h3] at U
    split
    .rename_i h4;rw [if_pos h4] at U;exact absurd rfl U
    .show 0<(if _ then (12:Int) else 11)/\(if _ then (12:Int) else 11)<16
     split<;>exact ⟨Do,Do⟩
 .rename_i h1
  rw [if_neg h1] at h
  split
  .rename_i U
   rw [if_pos U] at h
   split
   .rename_i h3;rw [if_pos h3] at h;exact absurd h (show ¬(70:Int)=0 by decide)
   .rename_i h3
    show 0<(FF s p).1/\(FF s p).1<16
    unfold FF at h3 |-
    split
    .rename_i h4;rw [if_pos h4] at h3;exact absurd rfl h3
    .rename_i h4
     have:=ky (s:=s.drop p) (n:=(Bt (s.drop p)).2) (dz (s.drop p))
     show 0<(FE (s.drop p)).1/\(FE (s.drop p)).1<16
     unfold FE at h4 |-
     omega
  .rename_i U
   rw [if_neg U] at h
   have hq:(Cn s p).1=0\/(Cn s p).1=14\/(Cn s p).1=13:=by
    unfold Cn
    (repeat' split)<;>simp
   omega
theorem nY {s:List UInt8} {x y:Lx} (h:∀t ∈ x.Ag,0<t.kind/\t.kind<16) (e:GF s p x=.inr y):∀t ∈ y.Ag,0<t.kind/\t.kind<16:=by
 fun_induction GF s p x with
 |case1 p x U h1=>cases e
 |case2 p x U h1 h2 h3 ih=>exact ih h e
 |case3 p x U h1 h2 h3=>injection e with e;subst e;exact h
 |case4 p x U h1 h2 h3=>cases e
 |case5 p x U h1 h2 h3 h4 ih=>
  refine ih (λt ht=>?_) e
  rcases List.mem_append.1 (show t ∈ x.Ag++[_] from ht) with ht|ht
  .exact h t ht
  .rw [List.mem_singleton.1 ht];exact nZ AC
 |case6 p x U h1 h2 h3 h4=>injection e with e;subst e;exact h
 |case7 p x U=>injection e with e;subst e;exact h
theorem aC {s:List UInt8} {y:Lx} (e:EO s=.inr y):∀t ∈ y.Ag,0<t.kind/\t.kind<16:=by
 unfold EO at e
 split at e
 .cases e
 .split at e
  .cases e
  .split at e
   .cases e
   .exact nY (λt U=>by cases U) e
inductive pU:Nd->Nd->Prop where
 |mk {k f:Int} {t:List UInt8} {a b a' b':Int} {l m:List Nd}:A4 pU l m->pU (.mk k f t a b l) (.mk k f t a' b' m)
theorem A4.at {T:Nd->Nd->Prop} {l m:List Nd} (h:A4 T l m):∀{i:Nat} {x y:Nd},l[i]? =some x->m[i]? =some y->T x y:=by
 induction h with
 |nil=>intro i x y h;simp at h
 |cons h1 _ ih=>
  intro i x y U hy
  cases i with
  |zero=>simp at U hy;subst U;subst hy;exact h1
  |succ i=>rw [List.getElem?_cons_succ] at U hy;exact ih U hy
mutual
theorem pU.dF:∀n:Nd,pU n n
 | .mk k f t a b l=>.mk (A4.dF l)
theorem A4.dF:∀l:List Nd,A4 pU l l
 |[]=>.nil
 |n::r=>.cons (pU.dF n) (A4.dF r)
end
section
variable {st:St} {R:AA->St->Prop}
attribute [local irreducible] Go.Aw.Ah
theorem gT {f:FuncId} {l l':List Nd} {o1 o2:AJ} (hl:l.length=l'.length) (hf:∀(i:Nat) x y (st:St) (R:AA->St->Prop),l[i]? =some x->l'[i]? =some y->R (.ret (.bool true)) st->PC f [enc x,enc y] st R) (h:R (.ret (.bool true)) st):
 PC 64 [.slice 6 (Ck l) o1,.slice 6 (Ck l') o2,.func f [] []] st R:=by
 refine pB Tryz.func64 ?_
 repeat' ((conv=>whnf);first|(refine Bv ?_;intros)|(refine Bw ?_ ?_<;>intro _)|fail)
 refine Ly 17 [15,16,1,2] l.length (λk=>k<=l.length) (Nat.zero_le _) Yl ?_
 intro k hk
 by_cases U:k<l.length
 .obtain ⟨x,hx⟩:∃x,l[(k:Int).toNat]? =some x:=⟨_,List.getElem?_eq_getElem U⟩
  obtain ⟨y,hy⟩:∃y,l'[(k:Int).toNat]? =some y:=⟨_,List.getElem?_eq_getElem (show k<l'.length by omega)⟩
  repeat' ((conv=>whnf);first|(refine Bv ?_;intros)|(refine Bw ?_ ?_<;>intro _)|refine hf k x y _ _ hx hy ?_|refine Wq (a:=(k:Int)+1) AC AC ?_)
  all_goals conv=>whnf
  all_goals exact ⟨k+1,U,Nat.sub_lt_sub_left U (Nat.lt_succ_self k),Yl,St.le_refl _⟩
 .skip
  repeat' ((conv=>whnf);first|(refine Bv ?_;intros)|(refine Bw ?_ ?_<;>intro _)|fail)
  all_goals exact fin h rfl
theorem ku:∀(m:Nat) {n U:Nd} {st:St} {R:AA->St->Prop},n.size<=m->pU n U->R (.ret (.bool true)) st->PC 23 [enc n,enc U] st R:=by
 intro m
 induction m with
 |zero=>intro n U st R hm;cases n;rw [Nd.size] at hm;omega
 |succ m ih=>
  intro n U st R hm ha h
  cases ha with
  |@mk k f t a b a' b' l l' hl=>
   refine pB Tryz.func23 ?_
   repeat' ((conv=>whnf);first|with_reducible refine Wt rfl ?_|with_reducible refine Wi ?_|(refine Bv ?_;intros)|(refine Bw ?_ ?_<;>intro _)|refine gT hl.len (λi x y st R hx hy h=>ih (by have:=Gh (n:=.mk k f t a b l) (List.mem_of_getElem? hx)<;>omega) (hl.at hx hy) h) ?_)
   all_goals exact fin h rfl
end
def sY {α:Type} (A:Rd α):Prop:=∀s,Pl s->s.pos=s.Ag.length->Fa A s
theorem Pl.no {p:Tk->Bool} (h:Pl s) (e:s.pos=s.Ag.length) (hp:Tst0 p):p (Ab s).1=false:=by
 rcases h.fin e with U|U
 .rw [U];exact hp.e
 .rw [U];exact hp.z
section
variable {A B C D E:Rd Nd} {L:EX} {s:Ad} {o:Nd}
structure uU (L:EX):Prop where
 atom:Em L.atom
 exp:Em L.exp
 ops:Em L.ops
 decls:Em L.decls
 stmts:Em L.stmts
 alts:Em L.alts
 DT:∀o,Em (L.DT o)
 list:∀o,Em (L.list o)
 vo:sY L.ops
 hb:∀o,sY (L.DT o)
 R6:∀o s,Pl s->AU s 5 [45]=true->(Ab s).2.1.pos=(Ab s).2.1.Ag.length->Fa (L.DT o) s
end
theorem I8 {n:Nat} {p:Prop} (h:n<C9) (k:p):n<C9/\p:=⟨h,k⟩
theorem WU {a:Int} (h0:0<=a) (h1:a<=l.length) (k:K (Az (Fi l a l.length))):
 (0<=a/\a<=((Az l).length:Int)/\((Az l).length:Int)<=(Az l).length)/\∀U,U=(((Az l).take ((Az l).length:Int).toNat).drop a.toNat)->K U:=by
 refine ⟨⟨h0,by rw [Ej];exact h1,Int.le_refl _⟩,λU he=>?_⟩
 subst he
 have:=(QJ h0 h1 (Int.le_refl _) k).2 _ rfl
 rw [Ej]
 exact this
theorem YN {pre v:List Nd} (hi:Sa pre) (h:pre=[]\/(∃y,pre[pre.length - 1]? =some y/\(y.kind=50\/∀x ∈ v,¬x.kind=50))):dm pre v:=λ⟨n,hn,hk⟩=>by
 rcases h with rfl|⟨y,hy,h|h⟩
 .rfl
 .have U:=hi _ _ hy h
  rcases List.eq_nil_or_concat pre with e|⟨q,z,e⟩
  .subst e;rfl
  .rw [List.concat_eq_append] at e
   subst e
   have hl:(q++[z]).length - 1=q.length:=GT
   rw [hl] at U hy
   rw [List.take_left' rfl] at U
   rw [List.getElem?_append_right (Nat.le_refl _),Nat.sub_self] at hy
   cases hy
   rw [List.any_append,U]
   simp [h]
 .exact absurd hk (h n hn)
theorem Us {A:Rd Nd} (hk:∀t ∈ l,0<t.kind/\t.kind<16) (h:(CJ A).run ⟨l,0,[],0⟩=.inr (n,s)):Sa n.kids:=by
 obtain ⟨u,kids,_,_,_,rfl,U⟩:=Jt hk h
 exact eJ _ _ _ _ (λi n hi=>by cases hi) U
theorem Ol {A:Rd Nd} (hk:∀t ∈ l,0<t.kind/\t.kind<16) (h:(CJ A).run ⟨l,0,[],0⟩=.inr (n,s)):n.kids.length<=1+4*mu ⟨l,1,[0],0⟩:=by
 obtain ⟨u,kids,_,_,_,rfl,h5⟩:=Jt hk h
 have:=Rd.VB (body:=CO A) (w:=List.length) (w':=List.length) (c:=1) (λx s x' s' h=>by
  obtain ⟨s1,_,⟨_,U,_⟩|⟨_,_,n,s2,_,⟨_,U,_⟩|⟨_,_,U,_⟩⟩⟩:=D0 h
  .cases U
  .cases U
  .cases U;simp) (λx s y s' h=>by
  obtain ⟨s1,_,⟨_,U,_⟩|⟨_,_,n,s2,_,⟨_,U,_⟩|⟨_,_,U,_⟩⟩⟩:=D0 h
  .cases U;omega
  .cases U;simp
  .cases U) [] ⟨l,1,[0],0⟩ kids s h5
 show kids.length<=_
 simp only [List.length_nil] at this
 omega
theorem gr (h:2<=l.length):Fi l 0 ((l.length:Int) - 1)=l.take (l.length - 1):=by
 unfold Fi
 rw [show ((l.length:Int) - 1).toNat=l.length - 1 by omega];rfl
theorem UT:Fi l 1 (l.length:Int)=l.drop 1:=by
 unfold Fi
 rw [Int.toNat_natCast,List.take_length];rfl
section
variable {st:St} {R:AA->St->Prop}
attribute [local irreducible] Go.Aw.Ah
theorem Tb {a b:List UInt8} (h:∀st',R (.ret (.bool true)) st'):PC 8 [.str a,.str b] st R:=by
 refine pB Tryz.func8 ?_
 by_cases ha:(a.length:Int)>1000
 .skip
  repeat' ((conv=>whnf);first|(refine Bv ?_;intros)|(refine Bw ?_ ?_<;>intro _)|refine JP (λ_=>?_) ?_|refine Hh (λst1 hle1=>?_)|refine WJ (λ_=>?_)|refine I8 (by simp only [List.length_append,List.length_cons,List.length_nil,C9]<;>omega) ?_)
  all_goals exact fin (h _) rfl
 by_cases hb:(b.length:Int)>1000
 .skip
  repeat' ((conv=>whnf);first|(refine Bv ?_;intros)|(refine Bw ?_ ?_<;>intro _)|refine JP (λ_=>?_) ?_|refine Hh (λst1 hle1=>?_)|refine WJ (λ_=>?_)|refine I8 (by simp only [List.length_append,List.length_cons,List.length_nil,C9]<;>omega) ?_)
  all_goals exact fin (h _) rfl
 cases eA:EO ([123]++a++[10,125]) with
 |inl q=>
  obtain ⟨i,e'⟩:=q
  have he:=Vu eA
  cases eB:EO ([123]++b++[10,125]) with
  |inl q2=>
   obtain ⟨i2,e2⟩:=q2
   repeat' ((conv=>whnf);first|(refine Bv ?_;intros)|(refine Bw ?_ ?_<;>intro _)|refine JP (λ_=>?_) ?_|refine Hh (λst1 hle1=>?_)|refine WJ (λ_=>?_)|refine I8 (by simp only [List.length_append,List.length_cons,List.length_nil,C9]<;>omega) ?_|refine aD eA (λst2 hle2=>?_)|refine aD eB (λst2 hle2=>?_))
   all_goals exact fin (h _) rfl
  |inr y=>
   repeat' ((conv=>whnf);first|(refine Bv ?_;intros)|(refine Bw ?_ ?_<;>intro _)|refine JP (λ_=>?_) ?_|refine Hh (λst1 hle1=>?_)|refine WJ (λ_=>?_)|refine I8 (by simp only [List.length_append,List.length_cons,List.length_nil,C9]<;>omega) ?_|refine aD eA (λst2 hle2=>?_)|refine Sb eB (λw1 w2 st2 hle2=>?_))
   all_goals exact fin (h _) rfl
 |inr x=>
  cases eB:EO ([123]++b++[10,125]) with
  |inl q2=>
   obtain ⟨i2,e2⟩:=q2
   have he:=Vu eB
   repeat' ((conv=>whnf);first|(refine Bv ?_;intros)|(refine Bw ?_ ?_<;>intro _)|refine JP (λ_=>?_) ?_|refine Hh (λst1 hle1=>?_)|refine WJ (λ_=>?_)|refine I8 (by simp only [List.length_append,List.length_cons,List.length_nil,C9]<;>omega) ?_|refine Sb eA (λw1 w2 st2 hle2=>?_)|refine aD eB (λst2 hle2=>?_))
   all_goals exact fin (h _) rfl
  |inr y=>
   have l1:=(Vv eA).1
   have l2:=(Vv eB).1
   have k1:=aC eA
   have k2:=aC eB
   have n1:([123]++a++[10,125]).length<=1003:=So
   have n2:([123]++b++[10,125]).length<=1003:=So
   have hm1:mu ⟨x.Ag,0,[],0⟩<=100000000:=by unfold mu;simp only [List.length_nil];omega
   have hm2:mu ⟨y.Ag,0,[],0⟩<=100000000:=by unfold mu;simp only [List.length_nil];omega
   generalize hq1:B8 ⟨x.Ag,0,[],0⟩ 50 (Dy (Dp (Dt 50)) ⟨x.Ag,0,[],0⟩)=q1
   generalize hq2:B8 ⟨y.Ag,0,[],0⟩ 50 (Dy (Dp (Dt 50)) ⟨y.Ag,0,[],0⟩)=q2
   obtain ⟨n,s,g⟩:=q1
   obtain ⟨o,t,g'⟩:=q2
   have hc1:∀{st:St} {K:AA->St->Prop} {w:AJ},K (.ret (NY n s g)) st->PC 12 [.agg [.slice 4 (Az x.Ag) w,.int .i64 0,.slice 1 [] .full,.int .i64 0],.int .i64 50] st K:=λh=>Il (args':=[DJ ⟨x.Ag,0,[],0⟩,.int .i64 50]) rfl (IC hm1 hq1 h)
   have hc2:∀{st:St} {K:AA->St->Prop} {w:AJ},K (.ret (NY o t g')) st->PC 12 [.agg [.slice 4 (Az y.Ag) w,.int .i64 0,.slice 1 [] .full,.int .i64 0],.int .i64 50] st K:=λh=>Il (args':=[DJ ⟨y.Ag,0,[],0⟩,.int .i64 50]) rfl (IC hm2 hq2 h)
   have hgo:(¬g=0\/(g=0/\¬g'=0)\/(g=0/\g'=0/\¬s.pos=(x.Ag.length:Nat))\/(g=0/\g'=0/\s.pos=(x.Ag.length:Nat)/\¬t.pos=(y.Ag.length:Nat))\/(g=0/\g'=0/\s.pos=(x.Ag.length:Nat)/\t.pos=(y.Ag.length:Nat)/\(x.Ag.length:Int)<2)\/
    (g=0/\g'=0/\s.pos=(x.Ag.length:Nat)/\t.pos=(y.Ag.length:Nat)/\¬(x.Ag.length:Int)<2/\(y.Ag.length:Int)<2))\/(g=0/\g'=0/\s.pos=(x.Ag.length:Nat)/\t.pos=(y.Ag.length:Nat)/\¬(x.Ag.length:Int)<2/\¬(y.Ag.length:Int)<2):=AC
   rcases hgo with (g1|⟨g1,g2⟩|⟨g1,g2,g3⟩|⟨g1,g2,g3,g4⟩|⟨g1,g2,g3,g4,g5⟩|⟨g1,g2,g3,g4,g5,g6⟩)|⟨g1,g2,g3,g4,g5,g6⟩
   iterate 6
    .skip
     repeat' ((conv=>whnf);first|(refine Bv ?_;intros)|(refine Bw ?_ ?_<;>intro _)|refine JP (λ_=>?_) ?_|refine Hh (λst1 hle1=>?_)|refine WJ (λ_=>?_)|refine I8 (by simp only [List.length_append,List.length_cons,List.length_nil,C9]<;>omega) ?_|refine Sb eA (λw1 w2 st2 hle2=>?_)|refine Sb eB (λw3 w4 st3 hle3=>?_)|refine hc1 ?_|refine hc2 ?_|refine Wz (λ_=>?_))
     all_goals exact fin (h _) rfl
   subst g1;subst g2
   have r1:=RR hq1
   have r2:=RR hq2
   have hi:=Us k1 (show (CJ (Xw 50)).run _=_ from r1)
   repeat' ((conv=>whnf);first|(refine Bv ?_;intros)|(refine Bw ?_ ?_<;>intro _)|refine JP (λ_=>?_) ?_|refine Hh (λst1 hle1=>?_)|refine WJ (λ_=>?_)|refine I8 (by simp only [List.length_append,List.length_cons,List.length_nil,C9]<;>omega) ?_|refine Sb eA (λw1 w2 st2 hle2=>?_)|refine Sb eB (λw3 w4 st3 hle3=>?_)|refine hc1 ?_|refine hc2 ?_|refine Wz (λ_=>?_))
   refine aF 20 [5,6,10,14,17] [0,2] o.kids.length (λk=>k<=o.kids.length/\(n.kids=[]\/(∃y,n.kids[n.kids.length - 1]? =some y/\(y.kind=50\/∀x ∈ o.kids.take k,¬x.kind=50))\/k=0)) ⟨Nat.zero_le _,.inr (.inr rfl)⟩ Yl ?_
   rintro k ⟨j1,j2⟩
   by_cases hgo:(k:Int)<o.kids.length/\((n.kids.length:Nat):Int)>0
   .obtain ⟨hlt,hpos⟩:=hgo
    obtain ⟨z,hz⟩:∃z,o.kids[(k:Int).toNat]? =some z:=⟨_,List.getElem?_eq_getElem (show k<o.kids.length by omega)⟩
    obtain ⟨y',hy⟩:∃y,n.kids[((n.kids.length:Int) - 1).toNat]? =some y:=⟨_,List.getElem?_eq_getElem (show ((n.kids.length:Int) - 1).toNat<n.kids.length by omega)⟩
    have hy2:n.kids[n.kids.length - 1]? =some y':=by rw [<-hy];congr 1;omega
    have hlt2:k<o.kids.length:=AC
    have hz2:o.kids[k]? =some z:=hz
    have hne:n.kids≠[]:=λe=>by rw [e] at hpos;cases hpos
    have htk:o.kids.take (k+1)=o.kids.take k++[z]:=by rw [List.take_add_one,hz2];rfl
    by_cases z5:z.kind=50
    .by_cases y5:y'.kind=50
     .skip
      repeat' ((conv=>whnf);first|(refine Bv ?_;intros)|(refine Bw ?_ ?_<;>intro _)|refine JP (λ_=>?_) ?_|refine U (λ_=>?_)|refine Wm hz AC ?_|refine Wm hy AC ?_|refine Wq (a:=(k:Int)+1) AC AC ?_|refine Wq (a:=(n.kids.length:Int) - 1) AC AC ?_)
      all_goals conv=>whnf
      all_goals exact ⟨k+1,⟨hlt2,.inr (.inl ⟨y',hy2,.inl y5⟩)⟩,Nat.sub_lt_sub_left hlt2 (Nat.lt_succ_self k),Yl,St.le_refl _⟩
     .skip
      repeat' ((conv=>whnf);first|(refine Bv ?_;intros)|(refine Bw ?_ ?_<;>intro _)|refine JP (λ_=>?_) ?_|refine U (λ_=>?_)|refine Wm hz AC ?_|refine Wm hy AC ?_|refine Wq (a:=(k:Int)+1) AC AC ?_|refine Wq (a:=(n.kids.length:Int) - 1) AC AC ?_)
      all_goals exact fin (h _) rfl
    .have hJ:n.kids=[]\/(∃y,n.kids[n.kids.length - 1]? =some y/\(y.kind=50\/∀x ∈ o.kids.take (k+1),¬x.kind=50))\/k+1=0:=by
      refine .inr (.inl ⟨y',hy2,?_⟩)
      rcases j2 with j2|⟨y3,hy3,j2⟩|j2
      .exact absurd j2 hne
      .rw [hy2] at hy3
       cases hy3
       refine j2.imp id λj x hx=>?_
       rw [htk] at hx
       rcases List.mem_append.1 hx with hx|hx
       .exact j x hx
       .rw [List.mem_singleton.1 hx];exact z5
      .subst j2
       refine .inr λx hx=>?_
       rw [htk] at hx
       rcases List.mem_append.1 hx with hx|hx
       .rw [List.take_zero] at hx;cases hx
       .rw [List.mem_singleton.1 hx];exact z5
     repeat' ((conv=>whnf);first|(refine Bv ?_;intros)|(refine Bw ?_ ?_<;>intro _)|refine JP (λ_=>?_) ?_|refine U (λ_=>?_)|refine Wm hz AC ?_|refine Wq (a:=(k:Int)+1) AC AC ?_)
     all_goals conv=>whnf
     all_goals exact ⟨k+1,⟨hlt2,hJ⟩,Nat.sub_lt_sub_left hlt2 (Nat.lt_succ_self k),Yl,St.le_refl _⟩
   .have hv:dm n.kids o.kids:=YN hi (by
     by_cases he:n.kids=[]
     .exact .inl he
     .have hpos:0<n.kids.length:=List.length_pos_iff.2 he
      have hk:k=o.kids.length:=AC
      rcases j2 with j2|⟨y,hy,j2⟩|j2
      .exact .inl j2
      .exact .inr ⟨y,hy,j2.imp id λj=>by rw [hk,List.take_length] at j;exact j⟩
      .obtain ⟨y,hy⟩:∃y,n.kids[n.kids.length - 1]? =some y:=⟨_,List.getElem?_eq_getElem (show n.kids.length - 1<n.kids.length by omega)⟩
       exact .inr ⟨y,hy,.inr λx hx=>by rw [List.length_eq_zero_iff.1 (show o.kids.length=0 by omega)] at hx;cases hx⟩)
    obtain ⟨u,r3,hu⟩:=rM (A:=Xw 50) (λS N=>o0 N 50) (P1 50) k1 k2 AC r1 g3 r2 g4 hv
    have b1:=Ol k1 (show (CJ (Xw 50)).run _=_ from r1)
    have b2:=Ol k2 (show (CJ (Xw 50)).run _=_ from r2)
    have b3:n.kids.length<=1000000:=by unfold mu at b1;simp only [List.length_cons,List.length_nil] at b1;omega
    have b4:o.kids.length<=1000000:=by unfold mu at b2;simp only [List.length_cons,List.length_nil] at b2;omega
    have hL2:[]++Fi x.Ag 0 ((x.Ag.length:Int) - 1)++[UF]++Fi y.Ag 1 (y.Ag.length:Int)=x.Ag.take (x.Ag.length - 1)++UF::y.Ag.drop 1:=by rw [gr AC,UT];simp
    have hq3:(Fi x.Ag 0 ((x.Ag.length:Int) - 1)).length<=1003:=by rw [gr AC,List.length_take];omega
    have hq4:(Fi y.Ag 1 (y.Ag.length:Int)).length<=1003:=by rw [UT,List.length_drop];omega
    have hLl:(x.Ag.take (x.Ag.length - 1)++UF::y.Ag.drop 1).length<=3000:=by rw [List.length_append,List.length_cons,List.length_take,List.length_drop];omega
    have hul:u.pos=(([]++Fi x.Ag 0 ((x.Ag.length:Int) - 1)++[UF]++Fi y.Ag 1 (y.Ag.length:Int)).length:Nat):=by rw [hL2];exact hu
    have hm3:mu ⟨x.Ag.take (x.Ag.length - 1)++UF::y.Ag.drop 1,0,[],0⟩<=100000000:=by unfold mu;simp only [List.length_nil];omega
    have c3:B8 ⟨x.Ag.take (x.Ag.length - 1)++UF::y.Ag.drop 1,0,[],0⟩ 50 (Dy (Dp (Dt 50)) ⟨x.Ag.take (x.Ag.length - 1)++UF::y.Ag.drop 1,0,[],0⟩)=(BB true (n.kids++o.kids),u,0):=by
     unfold B8 Dy
     rw [if_neg Do,show (Dp (Dt 50)).run _=_ from r3]
    have hc3:∀{st:St} {K:AA->St->Prop} {w:AJ},K (.ret (NY (BB true (n.kids++o.kids)) u 0)) st->PC 12 [.agg [.slice 4 (Az ([]++Fi x.Ag 0 ((x.Ag.length:Int) - 1)++[UF]++Fi y.Ag 1 (y.Ag.length:Int))) w,.int .i64 0,.slice 1 [] .full,.int .i64 0],.int .i64 50] st K:=λh=>by
     rw [hL2]
     exact Il (args':=[DJ ⟨x.Ag.take (x.Ag.length - 1)++UF::y.Ag.drop 1,0,[],0⟩,.int .i64 50]) rfl (IC hm3 c3 h)
    have hsm:∀{st:St} {K:AA->St->Prop} {w:AJ},K (.ret (.bool true)) st->PC 23 [enc (BB true (n.kids++o.kids)),.agg [.int .i64 2,.int .i64 1,.str [],.int .i64 0,.int .i64 0,.slice 6 (Ck ([]++n.kids++o.kids)) w]] st K:=λh=>Il (args':=[enc (BB true (n.kids++o.kids)),enc (BB true (n.kids++o.kids))]) rfl (ku _ (Nat.le_refl _) (pU.dF _) h)
    have hx:¬((k:Int)<o.kids.length)\/((k:Int)<o.kids.length/\¬((n.kids.length:Nat):Int)>0):=AC
    rcases hx with hx|⟨hx,hx2⟩
    all_goals (repeat' ((conv=>whnf);first|(refine Bv ?_;intros)|(refine Bw ?_ ?_<;>intro _)|refine JP (λ_=>?_) ?_|refine U (λ_=>?_)|refine Wz (λ_=>?_)|refine hc3 ?_|refine hsm ?_|refine Wq (a:=(x.Ag.length:Int) - 1) AC AC ?_|refine QJ (l:=x.Ag) AC AC AC ?_|refine WU (l:=y.Ag) AC AC ?_|refine ZN (l:=[]) (m:=Fi x.Ag 0 ((x.Ag.length:Int) - 1)) (own:=.full) trivial (by show 0+_<=_<;>omega) (λown1 ho1=>?_)|refine qW (l:=[]++Fi x.Ag 0 ((x.Ag.length:Int) - 1)) (x:=UF) ho1 (by simp only [List.length_append,List.length_nil]<;>omega) (λown2 ho2=>?_)|refine ZN (l:=[]++Fi x.Ag 0 ((x.Ag.length:Int) - 1)++[UF]) (m:=Fi y.Ag 1 (y.Ag.length:Int)) ho2 UV (λown3 ho3=>?_)|refine Kr (l:=[]) (new:=n.kids) (own:=.full) trivial (by show 0+_<=_<;>omega) (λown4 ho4=>?_)|refine Kr (l:=[]++n.kids) (new:=o.kids) ho4 (by simp only [List.length_append,List.length_nil]<;>omega) (λown5 ho5=>?_)|fail))
    all_goals exact fin (h _) rfl
end
end Go.Proofs.Z
