/-
  Parts of a proof: lemmas that the last text uses.
-/
import Derived.Test.YtkidoddkbhchkaaGreatDoorU4
import Derived.RangeFuncRecord
import Derived.RangeFuncSeq
import Derived.OrdersIn
set_option linter.unusedVariables false
set_option linter.unusedSimpArgs false
set_option maxHeartbeats 16000000
variable {A item:Go.Proofs.Z.Rd Go.Aw.Nd} {s r l x:List UInt8} {n:Go.Aw.Nd} {ops:Array Go.Oper} {i v D base:Int} {b a:UInt8} {pos id d n1 n2:Nat} {o:List Int} {t:Go.Proofs.Z.Tk} {f:Go.FuncId} {m:Bool} {g:List (Nat×Nat)} {Q:Go.Aw.AM->Go.Aw.Env->Go.Aw.St->Prop} {st' st0:Go.Aw.St} {K:Go.Aw.V->Go.Aw.St->Prop} {args:Array Go.Value} {w':Go.World} {Im:Go.Aw.Mem} {fn:Go.Func} {p:Nat×Nat->Bool} {w1 w2:Go.Aw.AF}
namespace Go.Proofs.Z
open Go Go.Aw
theorem Dv.sz {s s':Af} (h:Dv A) (U:A.run s=.inr (n,s')) (hm:mu s<=100000000):n.size<=1000000000:=by have:=h.size U;omega
theorem jl {s s':Af} (h:EK.run s=.inr (n,s')):∃x,n.kids[(Int.tdiv (n.kids.length:Int) 2).toNat]? =some x/\n.kids[n.kids.length / 2]? =some x:=by
 unfold EK at h
 replace h:(if H0 (Aa s).1=true then Rd.seq A0 λt=>.ret (Ar 18 [t]) else Rd.seq (BU 15 [96]) λo=>.seq (HK [1,2,3,4]) λn=>.seq (BU 15 [96]) λc=>.ret (Ar 18 [o,n,c]):Rd Nd).run s=.inr (n,s'):=h
 split at h
 .obtain ⟨t,s1,_,h⟩:=B4 h
  cases h
  exact ⟨t,(by show [t][(Int.tdiv (1:Int) 2).toNat]? =some t;rw [show (Int.tdiv (1:Int) 2).toNat=0 by decide];rfl),by simp [Ar,Nd.kids]⟩
 .obtain ⟨o,s1,_,h⟩:=B4 h
  obtain ⟨x,s2,_,h⟩:=B4 h
  obtain ⟨c,U,_,h⟩:=B4 h
  cases h
  exact ⟨x,(by show [o,x,c][(Int.tdiv (3:Int) 2).toNat]? =some x;rw [show (Int.tdiv (3:Int) 2).toNat=1 by decide];rfl),by simp [Ar,Nd.kids]⟩
section
variable {st0 st:St} {b d:Nat} {s:Af} {rows:List (AF×List Nd)} {K:AL->St->Prop} {L:C8}
attribute [local irreducible] Go.Aw.Ag
theorem ml (h:K (.ret (.bool (NU n))) st):PC 198 [enc n] st K:=by
 refine pB Tryz.func198 ?_
 repeat' ((conv=>whnf);first|(refine AG ?_;intros)|(refine AH ?_ ?_<;>intro e h)|(refine AJ ?_ ?_<;>intro _)|refine o4 ?_)
 all_goals conv=>whnf
 all_goals (refine Ao h ?_;clear h;simp_all [NU])
theorem Vs:Bx enc 196 (λb=>[pv b d,.func 199 [] [],.func 200 [] []]) (CA EK Ez):=
 Lf PG λhr _ k=>by obtain ⟨x,U,h2⟩:=jl hr;exact jr U h2 k
theorem mO:Bx enc 196 (λb=>[pv b d,.func 197 [] [],.func 198 [] []]) (CA A0 NU):=
 Lf YG λ_ _ k=>ml k
theorem mU {atom:Rd Nd} (ha:Bx enc 202 (λb=>[pv b d]) atom) (U:Dv atom):Bx enc 196 (λb=>[pv b d,.func 202 [] [],.func 201 [] []]) (CA atom MA):=
 Lf ha λhr hm k=>aE (Dv.sz U hr hm) k
theorem dg:Bx enc 136 (λb=>[pv b d]) Hm:=by
 refine ⟨λ{st0 b s st rows K} hc h=>?_⟩
 simp only [Hm,Gc,Rd.Ah,Rd.Az,Rd.wp_seq,Rd.wp_ret] at h
 have hmu:=hc.mu
 refine pB Tryz.func136 ?_
 repeat' ((conv=>whnf);first|(refine AG ?_;intros)|(refine AH ?_ ?_<;>intro e h)|(refine AJ ?_ ?_<;>intro _)|refine Cx.Fk (l:=[_]) (hc.push [_]) (Nat.le_of_ble_eq_true rfl) (λown1 U hc=>?_)|(refine It ?_;intro U hc)|(refine L1 ?_ ?_<;>intro U hc e h)|(refine K1 ?_;intro s1 U hz hm hc h)|refine Jv (λn s1 U hr hm hc h=>?_) (λe s1 U hc h=>?_)|exact F5|refine Kq ?_|(refine LJ ?_;intro own1 U hc)|refine Ac (λe1=>?_)|refine Bx.go mO hc h (λn s1 U hr hm hc h=>?_) (λe s1 U hc h=>?_)|refine Bx.go Vs hc h (λn s1 U hr hm hc h=>?_) (λe s1 U hc h=>?_))
 all_goals refine Dh (λl own=>[(3,.slice 6 (l.map Ax) own)]) (λ_ _=>[]) [1,2] [0,1] (λl own=>(own,l)::rows) (λl=>l.length) _ hc h RK Yl ?_
 all_goals intro l s1 U own1 hc h hl hm1
 all_goals simp only [Ld,Rd.Ah,Rd.Az,Rd.wp_seq,Rd.wp_ret,Rd.A5] at h
 all_goals (repeat' ((conv=>whnf);first|(refine AG ?_;intros)|(refine AH ?_ ?_<;>intro e h)|(refine AJ ?_ ?_<;>intro _)|(refine It ?_;intro U hc)|(refine L1 ?_ ?_<;>intro U hc e h)|(refine K1 ?_;intro s1 U hz hm hc h)|refine Jv (λn s1 U hr hm hc h=>?_) (λe s1 U hc h=>?_)|exact F5|refine Kq ?_|(refine LJ ?_;intro own1 U hc)|refine Ac (λe1=>?_)|refine Bx.go Vs hc h (λn s1 U hr hm hc h=>?_) (λe s1 U hc h=>?_)))
theorem rX {atom full:Rd Nd} (hn:n.size<=1000000000) (ha:Bx enc 202 (λb=>[pv b d]) atom) (hD:Dv atom) (hf:Bx enc 203 (λb=>[pv b d]) full):Bx enc 138 (λb=>[pv b d,enc n]) (Xx atom full n):=by
 refine ⟨λ{st0 b s st rows K} hc h=>?_⟩
 simp only [Xx,Rd.Az,Rd.wp_seq,Rd.wp_ret,Rd.BK] at h
 have hmu:=hc.mu
 refine pB Tryz.func138 ?_
 repeat' ((conv=>whnf);first|exact Dk|(refine AG ?_;intros)|(refine Dl ?_ ?_ ?_;rotate_left)|(refine AH ?_ ?_<;>intro e h)|(refine AJ ?_ ?_<;>intro _)|(refine It ?_;intro U hc)|(refine L1 ?_ ?_<;>intro U hc e h)|(refine K1 ?_;intro s1 U hz hm hc h)|refine Jv (λn s1 U hr hm hc h=>?_) (λe s1 U hc h=>?_)|exact F5|refine Kq ?_|(refine LJ ?_;intro own1 U hc)|refine Ac (λe1=>?_)|refine aE hn ?_|refine T6 ?_|refine T5 ?_|refine Ae [(0,true),(1,true),(2,false),(3,false)] [] GE ?_|with_reducible refine WF ?_)
 all_goals refine Dh (λl own=>[(5,.slice 6 (l.map Ax) own)]) (λ_ _=>[]) [2,3,4] [0,1,2] (λl own=>(own,l)::rows) (λl=>l.length) .full (hc.push _) h (by show 1+_<=_;omega) Yl ?_
 all_goals intro l s1 U own1 hc h hl hm1
 all_goals simp only [kO,Rd.Ah,Rd.Az,Rd.wp_seq,Rd.wp_ret,Rd.A5] at h
 all_goals (repeat' ((conv=>whnf);first|exact Dk|(refine AG ?_;intros)|(refine Dl ?_ ?_ ?_;rotate_left)|(refine AH ?_ ?_<;>intro e h)|(refine AJ ?_ ?_<;>intro _)|(refine It ?_;intro U hc)|(refine L1 ?_ ?_<;>intro U hc e h)|(refine K1 ?_;intro s1 U hz hm hc h)|refine Jv (λn s1 U hr hm hc h=>?_) (λe s1 U hc h=>?_)|exact F5|refine Kq ?_|(refine LJ ?_;intro own1 U hc)|refine Ac (λe1=>?_)|refine Bx.go (mU ha hD) hc h (λn s1 U hr hm hc h=>?_) (λe s1 U hc h=>?_)|refine Bx.go hf hc h (λn s1 U hr hm hc h=>?_) (λe s1 U hc h=>?_)|with_reducible refine WF ?_))
theorem mj {atom ops exp stmt full:Rd Nd} (hL:L0 d L) (ha:Bx enc 202 (λb=>[pv b d]) atom) (hD:Dv atom) (ho:Bx enc 130 (λb=>[pv b d]) ops) (hE:Dv ops) (he:Bx enc 80 (λb=>[pv b d]) exp)
 (hs:Bx enc 60 (λb=>[pv b d]) stmt) (hf:Bx enc 203 (λb=>[pv b d]) full):Bx enc 72 (λb=>[pv b d]) (Qv L atom ops exp stmt full):=by
 refine ⟨λ{st0 b s st rows K} hc h=>?_⟩
 simp only [Qv,Rd.Ah,Rd.Az,Rd.wp_seq,Rd.wp_ret,Rd.BK] at h
 have hmu:=hc.mu
 refine pB Tryz.func72 ?_
 repeat' ((conv=>whnf);first|exact Dk|(refine AG ?_;intros)|(refine Dl ?_ ?_ ?_;rotate_left)|(refine AH ?_ ?_<;>intro e h)|(refine AJ ?_ ?_<;>intro _)|(refine It ?_;intro U hc)|(refine L1 ?_ ?_<;>intro U hc e h)|exact F5|refine Kq ?_|refine Ac (λe1=>?_)|refine au ?_|refine Bx.go dg hc h (λn s1 U hr hm hc h=>?_) (λe s1 U hc h=>?_)|refine Bx.go ho hc h (λn s1 U hr hm hc h=>?_) (λe s1 U hc h=>?_)|refine Bx.go (rX (Dv.sz hE hr hmu) ha hD hf) hc h (λn s1 U hr hm hc h=>?_) (λe s1 U hc h=>?_)|refine s7 ?_|refine T6 ?_|refine T5 ?_|refine Bx.go (jK hL he hs) hc h (λn s1 U hr hm hc h=>?_) (λe s1 U hc h=>?_)|refine Ae [(0,true),(1,true),(2,false),(3,true),(4,false),(5,false)] [1] GE ?_|with_reducible refine WF ?_)
end
section
variable {st:St} {R:AL->St->Prop}
theorem Hz {b:Int} {n v:Nat} (e:i=n) (hv:Bo b (s.drop n)=v) (U:s.length<=4611686018427387903) (hn:n<=4611686018427387905) (h:R (.ret (.int .i64 (n+v:Nat))) st):PC 313 [.str s,.int .i64 i,.int .i64 b] st R:=by
 subst e
 exact dT U hn (by rw [hv];exact h)
theorem dI (h:Bo 10 (s.drop pos)=0):Hq s pos=(0,0):=by
 have e:Ep (s.drop pos)=(0,0):=by
  refine Za ?_ h
  unfold BN
  rw [if_neg]
  rintro ⟨U,_⟩
  have hp:pos<s.length:=Cf (k:=pos) AC
  rw [List.drop_eq_getElem_cons hp] at U h
  have U:((s[pos].toNat:Nat):Int)=48:=U
  rw [Bo,U,if_neg Do] at h
  cases h
 unfold Hq;rw [e];rfl
theorem Ll {n:Nat} {k:Int} (h:Ep (s.drop pos)=(k,n)) (U:k≠0) (hi:i=(pos+n:Nat)):AL.ret (.Bh [.int .i64 (Hq s pos).1,.int .i64 (Hq s pos).2])=AL.ret (.Bh [.int .i64 k,.int .i64 i]):=by
 unfold Hq;rw [h,if_neg U,hi]
theorem rL (hl:s.length<=4611686018427387903) (hp:pos<s.length) (h:R (.ret (.Bh [.int .i64 (Hq s pos).1,.int .i64 (Hq s pos).2])) st):PC 267 [.str s,.int .i64 pos] st R:=by
 have h1:=C2 10 (s.drop pos)
 rw [List.length_drop] at h1
 generalize hr:Bo 10 (s.drop pos)=r at h1
 refine Bu Ad [] Tryz.func267 rfl Do rfl ?_
 refine Ak (Al Ad ?_)
 repeat' ((conv=>whnf);first|(refine BV ?_;intros)|(refine BW ?_ ?_<;>intro _)|fail)
 refine Ak (Al Ad ?_)
 repeat' ((conv=>whnf);first|(refine BV ?_;intros)|(refine BW ?_ ?_<;>intro _)|refine Hz AC hr hl AC ?_)
 .exact fin h (by rw [dI AC])
 have hr0:r≠0:=AC
 refine Pj (α:=Unit) (λ_=>{tmps:=[(0,.str s),(1,.int .i64 (pos:Int))],boxes:=[],BI:=0,sz:=149,gl:=[]}) (λ_=>st) (λ_=>(BN (s.drop pos)).1=10) (λ_ e0=>?_) (Al Ad ?_)
 .have h2:=QO (s.drop (pos+r))
  rw [List.length_drop] at h2
  have hlt:=Yr s (pos+r)
  have h4:=C2 10 (s.drop (pos+r+1))
  rw [List.length_drop] at h4
  generalize hf:HD (s.drop (pos+r))=f at h2
  generalize hd:Bo 10 (s.drop (pos+r+1))=d at h4
  have hfd:(AV (s.drop (pos+r))=46/\d≠0/\f=1+d)\/((AV (s.drop (pos+r))≠46\/d=0)/\f=0):=by
   rw [<-hf,<-hd]
   unfold HD
   rw [List.drop_drop]
   split<;>omega
  refine Ak (Al Ad ?_)
  repeat' ((conv=>whnf);first|(refine BV ?_;intros)|(refine BW ?_ ?_<;>intro _)|fail)
  refine Ak (Al Ad ?_)
  repeat' ((conv=>whnf);first|(refine BV ?_;intros)|(refine BW ?_ ?_<;>intro _)|refine Hz AC hr hl AC ?_)
  refine Pj (α:=Int×Nat) (λp=>{tmps:=[(0,.str s),(1,.int .i64 (pos:Int)),(7,.int .i64 p.1),(8,.int .i64 (p.2:Int))],boxes:=[],BI:=0,sz:=149,gl:=[]}) (λ_=>st) (λp=>p.1=(if f=0 then 11 else 12)/\p.2=pos+r+f) ?_ (Al Ad ?_)
  .rintro ⟨k,n⟩ ⟨hk,hn⟩
   dsimp only at hk hn |-
   subst hk;subst hn
   have h3:=TG (s.drop (pos+r+f))
   rw [List.length_drop] at h3
   have e1:=Uc (f:=f) e0 hr hr0 (by rw [List.drop_drop];exact hf) rfl
   rw [List.drop_drop,<-Nat.add_assoc] at e1
   have ha:=C2 10 (s.drop (pos+r+f+1))
   have hb:=C2 10 (s.drop (pos+r+f+2))
   rw [List.length_drop] at ha hb
   generalize hra:Bo 10 (s.drop (pos+r+f+1))=ra at ha
   generalize hrb:Bo 10 (s.drop (pos+r+f+2))=rb at hb
   have d1:(s.drop (pos+r+f)).drop 1=s.drop (pos+r+f+1):=List.drop_drop
   have d2:(s.drop (pos+r+f)).drop 2=s.drop (pos+r+f+2):=List.drop_drop
   have hx:((AV (s.drop (pos+r+f))=101\/AV (s.drop (pos+r+f))=69)/\(AV (s.drop (pos+r+f+1))=43\/AV (s.drop (pos+r+f+1))=45)/\rb≠0->IX (s.drop (pos+r+f))=2+rb)/\
    ((AV (s.drop (pos+r+f))=101\/AV (s.drop (pos+r+f))=69)/\¬(AV (s.drop (pos+r+f+1))=43\/AV (s.drop (pos+r+f+1))=45)/\ra≠0->IX (s.drop (pos+r+f))=1+ra)/\
    (¬(AV (s.drop (pos+r+f))=101\/AV (s.drop (pos+r+f))=69)->IX (s.drop (pos+r+f))=0)/\
    ((AV (s.drop (pos+r+f))=101\/AV (s.drop (pos+r+f))=69)/\(AV (s.drop (pos+r+f+1))=43\/AV (s.drop (pos+r+f+1))=45)/\rb=0->IX (s.drop (pos+r+f))=0)/\
    ((AV (s.drop (pos+r+f))=101\/AV (s.drop (pos+r+f))=69)/\¬(AV (s.drop (pos+r+f+1))=43\/AV (s.drop (pos+r+f+1))=45)/\ra=0->IX (s.drop (pos+r+f))=0):=
    ⟨λk=>by rw [TF (j:=2) k.1 (by rw [d1,PU k.2.1]) (by rw [d2,hrb];exact k.2.2),d2,hrb],
     λk=>by rw [TF (j:=1) k.1 (by rw [d1,PT k.2.1]) (by rw [d1,hra];exact k.2.2),d1,hra],
     λk=>aq k,
     λk=>TE (j:=2) k.1 (by rw [d1,PU k.2.1]) (by rw [d2,hrb];exact k.2.2),
     λk=>TE (j:=1) k.1 (by rw [d1,PT k.2.1]) (by rw [d1,hra];exact k.2.2)⟩
   generalize hx0:IX (s.drop (pos+r+f))=x at hx h3 e1
   refine Al Ad ?_
   repeat' ((conv=>whnf);first|(refine BV ?_;intros)|(refine BW ?_ ?_<;>intro _)|refine Hz AC hra hl AC ?_|refine Hz AC hrb hl AC ?_)
   all_goals try have f0:=Ds (show s[pos+r+f]? =some _ by assumption)
   all_goals try have f0:=EF (s:=s) (i:=pos+r+f) AC
   all_goals try have f1:=Ds (show s[pos+r+f+1]? =some _ by assumption)
   all_goals try have f1:=EF (s:=s) (i:=pos+r+f+1) AC
   all_goals first
    |(have hq:0<x:=by omega
      rw [if_pos (.inr hq)] at e1
      exact fin h (Ll e1 Do AC))
    |(have hq:x=0:=by omega
      have e2:Ep (s.drop pos)=(if f=0 then 11 else 12,r+f+x):=by rw [e1];congr 1;(split<;>split<;>first|rfl|omega)
      exact fin h (Ll e2 (by split<;>decide) AC))
  .skip
   repeat' ((conv=>whnf);first|(refine BV ?_;intros)|(refine BW ?_ ?_<;>intro _)|refine Hz AC hd hl AC ?_)
   all_goals try have f0:=Ds (show s[pos+r]? =some _ by assumption)
   all_goals try have f0:=EF (s:=s) (i:=pos+r) AC
   .have:f=1+d:=AC
    conv=>whnf
    exact ⟨(12,pos+r+1+d),⟨(if_neg AC).symm,UV⟩,Yl,St.le_refl _⟩
   all_goals have:f=0:=AC
   all_goals conv=>whnf
   all_goals exact ⟨(11,pos+r),⟨(if_pos this).symm,UV⟩,Yl,St.le_refl _⟩
 .have h8:=C2 8 (s.drop (pos+2))
  have h16:=C2 16 (s.drop (pos+2))
  rw [List.length_drop] at h8 h16
  generalize hr8:Bo 8 (s.drop (pos+2))=r8 at h8
  generalize U:Bo 16 (s.drop (pos+2))=r16 at h16
  have d1:(s.drop pos).drop 1=s.drop (pos+1):=List.drop_drop
  have d2:(s.drop pos).drop 2=s.drop (pos+2):=List.drop_drop
  have p8:AV (s.drop pos)=48->(AV (s.drop (pos+1))=111\/AV (s.drop (pos+1))=79)->r8≠0->Ep (s.drop pos)=(11,2+r8):=λk1 k2 k3=>by
   have e:=Hv k1 (Pm (by rw [d1];exact k2)) Do (by rw [d2,hr8];exact k3)
   rw [Rc (by rw [e];decide),e,d2,hr8]
  have p16:AV (s.drop pos)=48->(AV (s.drop (pos+1))=120\/AV (s.drop (pos+1))=88)->r16≠0->Ep (s.drop pos)=(11,2+r16):=λk1 k2 k3=>by
   have e:=Hv k1 (MK (by rw [d1];exact k2)) Do (by rw [d2,U];exact k3)
   rw [Rc (by rw [e];decide),e,d2,U]
  have p10:(AV (s.drop pos)≠48\/(AV (s.drop (pos+1))≠111/\AV (s.drop (pos+1))≠79/\AV (s.drop (pos+1))≠120/\AV (s.drop (pos+1))≠88)\/((AV (s.drop (pos+1))=111\/AV (s.drop (pos+1))=79)/\r8=0)\/((AV (s.drop (pos+1))=120\/AV (s.drop (pos+1))=88)/\r16=0))->(BN (s.drop pos)).1=10:=λk=>by
   rcases k with k|k|k|k
   .rw [G5 (.inl k)]
   .rw [G5 (.inr (.inl (U0 (by rw [d1];exact k))))]
   .rw [G5 (.inr (.inr (by rw [Pm (by rw [d1];exact k.1),d2,hr8];exact k.2)))]
   .rw [G5 (.inr (.inr (by rw [MK (by rw [d1];exact k.1),d2,U];exact k.2)))]
  repeat' ((conv=>whnf);first|(refine BV ?_;intros)|(refine BW ?_ ?_<;>intro _)|refine Hz AC hr8 hl AC ?_|refine Hz AC U hl AC ?_)
  all_goals try have f0:=Ds (show s[pos]? =some _ by assumption)
  all_goals try have f1:=Ds (show s[pos+1]? =some _ by assumption)
  all_goals try have f1:=EF (s:=s) (i:=pos+1) AC
  all_goals first
   |exact fin h (Ll (p8 AC AC AC) Do AC)
   |exact fin h (Ll (p16 AC AC AC) Do AC)
   |(have e0:=p10 AC
     conv=>whnf
     exact ⟨(),e0,Yl,St.le_refl _⟩)
end
end Go.Proofs.Z
namespace Go.Aw
open Go
theorem ng:AV (a::r)=((a.toNat:Nat):Int):=rfl
theorem Ze (h:s.length<=2):BN s=(10,0):=by
 unfold BN
 rw [if_neg]
 rintro ⟨_,_,U⟩
 exact U (by rw [List.drop_eq_nil_iff.2 h];rfl)
theorem NO:Ej (a::b::r)=if ((b.toNat:Nat):Int)=111\/((b.toNat:Nat):Int)=79 then 8 else if ((b.toNat:Nat):Int)=120\/((b.toNat:Nat):Int)=88 then 16 else 10:=rfl
theorem gw (h:b.toNat=111\/b.toNat=79\/b.toNat=120\/b.toNat=88):Bw ((b.toNat:Nat):Int) 10<0:=by
 rcases h with h|h|h|h<;>(rw [h];decide)
theorem bw (h:b.toNat=111\/b.toNat=79\/b.toNat=120\/b.toNat=88) (hn:FM (a::b::r) 11=true):BN (a::b::r)≠(10,0):=λe=>by
 have U:=(Ot hn).1
 rw [e] at U
 replace U:Bo 10 (a::b::r)=r.length+2:=U
 rw [Bo,Bo,if_pos (gw h)] at U
 split at U<;>omega
theorem ru (hb:b.toNat=111\/b.toNat=79) (hn:FM (a::b::r) 11=true):BN (a::b::r)=(8,2):=by
 have U:Ej (a::b::r)=8:=by
  rw [NO,if_pos AC]
 rcases HS (a::b::r) with e|⟨e,_⟩|⟨_,e⟩
 .exact absurd e (bw AC hn)
 .exact e
 .rw [U] at e;cases e
theorem nT (hb:b.toNat=120\/b.toNat=88) (hn:FM (a::b::r) 11=true):BN (a::b::r)=(16,2):=by
 have U:Ej (a::b::r)=16:=by
  rw [NO,if_neg AC,if_pos AC]
 rcases HS (a::b::r) with e|⟨_,e⟩|⟨e,_⟩
 .exact absurd e (bw AC hn)
 .rw [U] at e;cases e
 .exact e
theorem bu (hb:¬a.toNat=48\/¬(b.toNat=111\/b.toNat=79\/b.toNat=120\/b.toNat=88)):BN (a::b::r)=(10,0):=by
 unfold BN
 rw [if_neg]
 rintro ⟨U,h2,_⟩
 rw [ng] at U
 refine h2 ?_
 rw [NO,if_neg AC,if_neg AC]
end Go.Aw
namespace Go.Proofs.Z
open Go Go.Aw
section
variable {st:St} {R:AL->St->Prop}
theorem kv (hn:FM s 11=true) (h:R (.ret (.Bh [.int .i64 (BN s).1,.int .i64 ((BN s).2:Nat)])) st):PC 207 [.str s] st R:=by
 refine pB Tryz.func207 ?_
 by_cases hl:s.length<=2
 .rw [Ze hl] at h
  repeat' ((conv=>whnf);first|(refine AG ?_;intros)|(refine AH ?_ ?_<;>intro e h)|(refine AJ ?_ ?_<;>intro _)|refine WJ (λ_=>?_))
  all_goals exact fin h rfl
 .obtain ⟨a,b,c,r,rfl⟩:∃a b c r,s=a::b::c::r:=by
   cases s with
   |nil=>exact absurd (Nat.zero_le _) hl
   |cons a s=>
    cases s with
    |nil=>exact absurd (by show 1<=2;omega) hl
    |cons b s=>
     cases s with
     |nil=>exact absurd (by show 2<=2;omega) hl
     |cons c r=>exact ⟨a,b,c,r,rfl⟩
  have h0:(a::b::c::r)[(0:Int).toNat]? =some a:=rfl
  have h1:(a::b::c::r)[(1:Int).toNat]? =some b:=rfl
  have hlen:(((a::b::c::r).length:Nat):Int)>2:=by simp only [List.length_cons];omega
  by_cases ha:((a.toNat:Nat):Int)=48
  .by_cases U:b.toNat=111\/b.toNat=79
   .rw [ru U hn] at h
    rcases U with U|U
    all_goals have U:((b.toNat:Nat):Int)=_:=congrArg Nat.cast U
    all_goals (repeat' ((conv=>whnf);first|(refine AG ?_;intros)|(refine AH ?_ ?_<;>intro e h)|(refine AJ ?_ ?_<;>intro _)|refine WJ (λ_=>?_)|refine WL ‹_› AC ?_))
    all_goals exact fin h rfl
   .by_cases h16:b.toNat=120\/b.toNat=88
    .rw [nT h16 hn] at h
     repeat' ((conv=>whnf);first|(refine AG ?_;intros)|(refine AH ?_ ?_<;>intro e h)|(refine AJ ?_ ?_<;>intro _)|refine WJ (λ_=>?_)|refine WL ‹_› AC ?_)
     all_goals exact fin h rfl
    .rw [bu (.inr AC)] at h
     repeat' ((conv=>whnf);first|(refine AG ?_;intros)|(refine AH ?_ ?_<;>intro e h)|(refine AJ ?_ ?_<;>intro _)|refine WJ (λ_=>?_)|refine WL ‹_› AC ?_)
     all_goals exact fin h rfl
  .rw [bu (.inl AC)] at h
   repeat' ((conv=>whnf);first|(refine AG ?_;intros)|(refine AH ?_ ?_<;>intro e h)|(refine AJ ?_ ?_<;>intro _)|refine WJ (λ_=>?_)|refine WL ‹_› AC ?_)
   all_goals exact fin h rfl
theorem Xr (hl:s.length<=4611686018427387903) (h:R (.ret (.bool (FM s 11))) st):PC 206 [.str s,.int .i64 11] st R:=by
 refine pB Tryz.func206 ?_
 cases s with
 |nil=>
  have hz:((([]:List UInt8).length:Nat):Int)=0:=rfl
  have h0:∀{st:St} {R:AL->St->Prop},R (.ret (.Bh [.int .i64 0,.int .i64 0])) st->PC 267 [.str [],.int .i64 0] st R:=λh=>by
   refine pB Tryz.func267 ?_
   repeat' ((conv=>whnf);first|(refine AG ?_;intros)|(refine AH ?_ ?_<;>intro e h)|(refine AJ ?_ ?_<;>intro _)|refine WJ (λ_=>?_))
   all_goals exact fin h rfl
  repeat' ((conv=>whnf);first|(refine AG ?_;intros)|(refine AH ?_ ?_<;>intro e h)|(refine AJ ?_ ?_<;>intro _)|refine h0 ?_|refine WJ (λ_=>?_))
  all_goals exact fin h rfl
 |cons a r=>
  have hk:(FM (a::r) 11=true↔(Hq (a::r) 0).1=11/\(Hq (a::r) 0).2=(((a::r).length:Nat):Int)):=by
   rw [Jd]
   unfold Hq
   rw [List.drop_zero]
   split
   .rename_i e
    rw [e]
    constructor
    .intro h;exact absurd h.1 Do
    .intro h;exact absurd h.1 (by show ¬(0:Int)=11;decide)
   .simp only [Nat.zero_add]
    constructor
    .rintro ⟨h1,h2⟩;exact ⟨h1,by rw [h2]⟩
    .rintro ⟨h1,h2⟩;exact ⟨h1,AC⟩
  have hpos:(((a::r).length:Nat):Int)>0:=by simp only [List.length_cons];omega
  have U:∀{st:St} {R:AL->St->Prop},R (.ret (.Bh [.int .i64 (Hq (a::r) 0).1,.int .i64 (Hq (a::r) 0).2])) st->PC 267 [.str (a::r),.int .i64 0] st R:=λh=>rL (pos:=0) hl (by rw [List.length_cons];omega) h
  generalize Hq (a::r) 0=q at hk U
  repeat' ((conv=>whnf);first|(refine AG ?_;intros)|(refine AH ?_ ?_<;>intro e h)|(refine AJ ?_ ?_<;>intro _)|refine U ?_|refine WJ (λ_=>?_))
  all_goals conv=>whnf
  all_goals refine Ao h ?_
  all_goals clear h U
  all_goals first
   |exact hk.2 ⟨FS,FS⟩
   |(apply Bool.eq_false_iff.2;intro e;have:=hk.1 e;omega)
theorem jC {b:Int} (hb:b<=16) (U:s[pos]? =some a) (hr:Bo b (s.drop pos)=s.length - pos) (k:∀d,d=Bw ((a.toNat:Nat):Int) b->0<=d->d<b->R (.ret (.int .i64 d)) st):PC 208 [.int .i64 ((a.toNat:Nat):Int),.int .i64 b] st R:=by
 have hn:¬Bw ((a.toNat:Nat):Int) b<0:=λe=>by
  rw [PK U,if_pos e] at hr
  have:=(List.getElem?_eq_some_iff.1 U).1
  omega
 obtain ⟨h1,h2,_⟩:=Sp hb hn
 exact WW (k _ rfl h1 h2)
theorem kH (h:R (.ret (.Bh [.int .i64 (Fj s).1,.int .i64 (Fj s).2])) st):PC 140 [.str s] st R:=by
 refine SN ⟨_,Tryz.func140,Do,Do⟩ λhl0=>?_
 have hl:s.length<=4611686018427387903:=AC
 refine pB Tryz.func140 ?_
 cases hn:FM s 11 with
 |false=>
  have hw:Fj s=(0,40):=by
   unfold Fj
   rw [if_neg λe=>?_]
   rw [Jd.2 e] at hn;cases hn
  rw [hw] at h
  have hwh:∀{st:St} {R:AL->St->Prop},R (.ret (.bool false)) st->PC 206 [.str s,.int .i64 11] st R:=λh=>Xr hl (by rw [hn];exact h)
  repeat' ((conv=>whnf);first|(refine AG ?_;intros)|(refine AH ?_ ?_<;>intro e h)|(refine AJ ?_ ?_<;>intro _)|refine hwh ?_)
  all_goals exact fin h rfl
 |true=>
  obtain ⟨hr,hle⟩:=Ot hn
  have key:∀(b:Int) (n:Nat),BN s=(b,n)->b=10\/b=8\/b=16:=λb n e=>by
   rcases HS s with h|⟨h,_⟩|⟨h,_⟩<;>(rw [h] at e;cases e;omega)
  have hwh:∀{st:St} {R:AL->St->Prop},R (.ret (.bool true)) st->PC 206 [.str s,.int .i64 11] st R:=λh=>Xr hl (by rw [hn];exact h)
  have hpa:=λ{st:St} {R:AL->St->Prop}=>kv (st:=st) (R:=R) hn
  generalize hp:BN s=p at hr hle hpa
  obtain ⟨b,n⟩:=p
  dsimp only at hr hle hpa
  have hb:=key b n hp
  rw [Tj hn hp] at h
  clear hp key
  repeat' ((conv=>whnf);first|(refine AG ?_;intros)|(refine AH ?_ ?_<;>intro e h)|(refine AJ ?_ ?_<;>intro _)|refine hwh ?_|refine hpa ?_)
  refine TZ (α:=Nat) (β:=Int) (λpos v=>[(5,.int .i64 (pos:Nat)),(6,.int .i64 v)]) (λpos v=>[]) [0,4] [] (λ_ _=>st) (λpos v=>pos<=s.length/\Bo b (s.drop pos)=s.length - pos/\GN b (s.drop n) 0=GN b (s.drop pos) v/\0<=v/\v<=4611686018427387904) (λpos v=>s.length - pos) n 0 ⟨hle,hr,rfl,AC,AC⟩ Yl (St.le_refl _) ?_
  rintro pos v ⟨j1,j2,j3,j4,j5⟩
  rw [j3] at h
  have hb0:0<b:=AC
  by_cases hlt:pos<s.length
  .obtain ⟨a,ha⟩:∃a,s[((pos:Nat):Int).toNat]? =some a:=⟨_,List.getElem?_eq_getElem hlt⟩
   have ha':s[pos]? =some a:=ha
   have ha256:a.toNat<256:=a.toNat_lt
   have hg:GN b (s.drop pos) v=if (4611686018427387904 - Bw ((a.toNat:Nat):Int) b) / b<v then (0,3) else GN b (s.drop (pos+1)) (v*b+Bw ((a.toNat:Nat):Int) b):=by rw [drop_at ha',GN]
   have hr1:=PK (base:=b) ha'
   repeat' ((conv=>whnf);first|(refine AG ?_;intros)|(refine AH ?_ ?_<;>intro e h)|(refine AJ ?_ ?_<;>intro _)|refine WJ (λ_=>?_)|refine WL ‹_› AC ?_|refine jC AC ha' j2 (λd hd0 hd1 hd2=>?_)|refine Wr hb0 AC AC ?_|refine pP hb j4 hd1 hd2 AC ?_|refine pq hb j4 hd1 hd2 AC ?_|refine Wq (a:=(pos:Int)+1) AC AC ?_)
   .rename_i U
    rw [hg,<-hd0,if_pos U] at h
    exact fin h rfl
   .rename_i U
    have hf:=pE hb j4 hd1 hd2 U
    rw [<-hd0,if_neg U] at hg
    rw [<-hd0,if_neg AC] at hr1
    conv=>whnf
    exact ⟨(pos+1,v*b+d),⟨UV,UV,by rw [j3,hg],hf.1,hf.2⟩,UV,Yl,St.le_refl _⟩
  .skip
   repeat' ((conv=>whnf);first|(refine AG ?_;intros)|(refine AH ?_ ?_<;>intro e h)|(refine AJ ?_ ?_<;>intro _)|refine WJ (λ_=>?_))
   rw [List.drop_eq_nil_iff.2 AC] at h
   all_goals exact fin h rfl
end
def P8 (n:Nd):Prop:=(n.kind=1->n.kids=[])/\∀y ∈ n.kids,y.kind=1->y.kids=[]
theorem Be.pL {l:List Nd} {s s':Af} (h:Be l s s'):∀x ∈ l,P8 x:=by
 induction h with
 |nil s=>intro x U;cases U
 |app _ _ h1 h2=>intro x U;exact (List.mem_append.1 U).elim (h1 x) (h2 x)
 |tok _ _ _=>intro x U;rw [List.mem_singleton.1 U];exact ⟨λ_=>rfl,λy hy=>by cases hy⟩
 |skip _ _=>intro x U;cases U
 |close _=>intro x U;cases U
 |node _ hk _ ih=>intro x U;rw [List.mem_singleton.1 U];exact ⟨λe=>absurd e hk,λy hy e=>(ih y hy).1 e⟩
 |block _ _ _ ih=>intro x U;rw [List.mem_singleton.1 U];exact ⟨λe=>(by cases e),λy hy e=>(ih y hy).1 e⟩
theorem TN {y:Nd} {o:List UInt8} {l:List Nd} (h:Bs n o s=some l) (hy:y ∈ n.kids):B9 y 15 o=true\/B9 y 15 s=true\/y ∈ l:=by
 unfold Bs at h
 split at h
 .rename_i hc
  obtain ⟨h1,U,h3⟩:=hc
  cases h
  obtain ⟨i,hi,rfl⟩:=List.getElem_of_mem hy
  by_cases e0:i=0
  .subst e0;rw [List.getElem?_eq_getElem hi] at U;exact .inl U
  .by_cases e1:i=n.kids.length - 1
   .rw [<-e1,List.getElem?_eq_getElem hi] at h3;exact .inr (.inl h3)
   .refine .inr (.inr ?_)
    rw [List.mem_iff_getElem]
    refine ⟨i - 1,by rw [List.length_drop,List.length_take];omega,?_⟩
    rw [List.getElem_drop,List.getElem_take]
    congr 1
    omega
 .cases h
theorem PS {y:Nd} {k:Int} {t:List UInt8} (h:B9 y k t=true):y.kind=1/\y.form=k:=by
 unfold B9 Ey at h
 simp only [Bool.and_eq_true,beq_iff_eq,List.contains_cons,List.contains_nil,Bool.or_false] at h
 exact h.1
theorem aP {q:Nd->List (List UInt8)} {f:Bool}:∀{l:List Nd} {i:Nat},(∀y ∈ l,q y=[])->Fg q f i l=[]
 |[],_,_=>rfl
 |x::r,i,h=>by
  rw [Fg,aP λy hy=>h y (List.mem_cons_of_mem _ hy),h x List.mem_cons_self]
  split<;>rfl
theorem ll {y:Nd} (h:y.kind=1) (U:y.form≠1):Br y=none:=by
 unfold Br EJ Ey
 rw [if_neg (by simp [U]),if_neg (by rw [h];decide)]
theorem Y4 {y:Nd} {k:Nat} (h:y.kind=1) (U:y.form≠1) (h2:y.kids=[]):FQ k y=[]:=by
 cases k with
 |zero=>rfl
 |succ k=>rw [FQ,Cv,ll h U,h2];dsimp only;split<;>rfl
theorem di {y:Nd} (hk:n.kind=3) (hv:Br n=none) (hh:M0 n=true) (hy:y ∈ n.kids):y.kind=1/\y.form≠1:=by
 have key:∀{k:Int} {t:List UInt8},B9 y k t=true->k≠1->y.kind=1/\y.form≠1:=λh h1=>⟨(PS h).1,by rw [(PS h).2];exact h1⟩
 unfold M0 at hh
 rw [hv] at hh
 simp only [Option.isSome_none,Bool.false_or,Bool.or_eq_true] at hh
 rcases hh with h|h
 .unfold Gh at h
  have e1:Ey n [2,4]=false:=by unfold Ey;rw [hk];rfl
  rw [e1] at h
  simp only [Bool.false_or] at h
  cases hn:EJ n with
  |none=>rw [hn] at h;simp at h
  |some x=>
   rw [hn] at h
   have U:GW x=true:=by simpa using h
   unfold EJ at hn
   rw [if_pos hk] at hn
   split at hn
   .rename_i l hl
    split at hn
    .rcases TN hl hy with e|e|e
     .exact key e Do
     .exact key e Do
     .match l,‹l.length=1› with
      |[z],_=>
       injection hn with hn
       rw [List.mem_singleton.1 e,hn]
       unfold GW at U
       simp only [Bool.or_eq_true] at U
       rcases U with U|U
       .unfold Ey at U
        simp only [Bool.and_eq_true,beq_iff_eq,List.contains_cons,List.contains_nil,Bool.or_false,Bool.or_eq_true] at U
        exact ⟨U.1,AC⟩
       .exact ⟨(PS U).1,by rw [(PS U).2];decide⟩
    .cases hn
   .cases hn
 .split at h
  .rename_i l hl
   rcases TN hl hy with e|e|e
   .exact key e Do
   .exact key e Do
   .cases l with
    |nil=>cases e
    |cons=>cases h
  .split at h
   .rename_i l hl
    rcases TN hl hy with e|e|e
    .exact key e Do
    .exact key e Do
    .refine key (k:=15) (t:=[44]) ?_ Do
     simp only [Bool.not_eq_true',List.any_eq_false] at h
     simpa using h y e
   .cases h
theorem oW (hw:P8 n):MA n=(Br n).isSome:=by
 obtain ⟨k,hk⟩:∃k,n.size=k+1:=⟨n.size - 1,by have:=size_pos n;omega⟩
 unfold MA GG G4
 rw [hk,FQ,Cv,VR,DP]
 cases hv:Br n with
 |some t=>
  have:n.kind=1/\Ey n [1]=true\/n.kind=3/\M0 n=true:=by
   unfold Br at hv
   split at hv
   .rename_i e
    exact .inl ⟨by unfold Ey at e;simp only [Bool.and_eq_true,beq_iff_eq] at e;exact e.1,e⟩
   .have h3:n.kind=3:=by
     apply Classical.byContradiction
     intro h
     unfold EJ at hv
     rw [if_neg h] at hv
     cases hv
    refine .inr ⟨h3,?_⟩
    unfold M0
    rw [show Br n=some t by unfold Br;rw [if_neg ‹_›];exact hv]
    rfl
  rcases this with ⟨U,h2⟩|⟨U,h2⟩
  .have h3:Ey n [1,2,4,11,12,13,14]=true:=by
    unfold Ey at h2 |-
    simp only [Bool.and_eq_true,List.contains_cons,List.contains_nil,Bool.or_false,beq_iff_eq,Bool.or_eq_true] at h2 |-
    exact ⟨h2.1,.inl h2.2⟩
   simp [U,h3]
  .simp [U,h2]
 |none=>
  dsimp only [Option.isSome_none]
  have key:∀c:Bool,((if c=true then (([]:List (List UInt8)),(0:Int)) else ([],120)).2==0&&(if c=true then (([]:List (List UInt8)),(0:Int)) else ([],120)).1.length==1)=false:=λc=>by cases c<;>rfl
  have e0:∀{l:List Nd},(∀y ∈ l,FQ k y=[])->(if n.kind=18\/n.kind=19 then ([]:List (List UInt8)) else Fg (FQ k) (n.kind==13) 0 l)=[]:=λh=>by
   split
   .rfl
   .exact aP h
  by_cases U:n.kind=1
  .rw [hw.1 U,e0 (λy hy=>by cases hy),key,Bool.and_false]
  .by_cases h3:n.kind=3
   .cases hh:M0 n with
    |false=>rw [if_neg U,if_neg (show ¬n.kind=14 by omega),if_pos h3];simp
    |true=>
     rw [e0 (λy hy=>by
      obtain ⟨g1,g2⟩:=di h3 hv hh hy
      exact Y4 g1 g2 (hw.2 y hy g1)),key,Bool.and_false]
   .have:(n.kind==1||n.kind==3)=false:=by simp [U,h3]
    rw [this];rfl
section
variable {st0 st:St} {s:Af} {rows:List (AF×List Nd)} {K:AL->St->Prop}
theorem rR (hw:P8 n) (h:K (.ret (.bool (MA n))) st):PC 211 [enc n] st K:=by
 rw [oW hw] at h
 refine pB Tryz.func211 ?_
 repeat' ((conv=>whnf);first|(refine AG ?_;intros)|(refine AH ?_ ?_<;>intro e h)|(refine AJ ?_ ?_<;>intro _)|refine KU (λt e=>?_) (λe=>?_))
 all_goals (rw [e] at h;exact AZ rfl h)
theorem rS (hw:P8 n) (h:K (.ret (.bool (MA n))) st):PC 143 [enc n] st K:=by
 refine pB Tryz.func143 ?_
 repeat' ((conv=>whnf);first|(refine AG ?_;intros)|(refine AH ?_ ?_<;>intro e h)|(refine AJ ?_ ?_<;>intro _)|refine rR hw ?_)
 all_goals exact Ao h ‹_›
theorem kG {P R:Prop} (hw:P8 n) (h:if MA n=true then P else R) (U:MA n=true->P->K (.ret (.bool true)) st) (k2:MA n=false->R->K (.ret (.bool false)) st):PC 143 [enc n] st K:=
 rS hw (by
  cases e:MA n with
  |true=>exact U e (by rw [if_pos e] at h;exact h)
  |false=>exact k2 e (by rw [if_neg (by rw [e];decide)] at h;exact h))
end
theorem RG {s s':Af} {t:Nd} (h:A0.run s=.inr (t,s')):t=Av (Aa s).1/\s'=(Aa s).2.1:=by
 by_cases e:(Aa s).2.2=0
 .rw [CU e] at h;cases h;exact ⟨rfl,rfl⟩
 .rw [H2 e] at h;cases h
theorem dM {s s':Af} (h:EK.run s=.inr (n,s')):(∃t,n=Ar 18 [Av t]/\H0 t=true)\/∃o t c,n=Ar 18 [o,Av t,c]/\([1,2,3,4]:List Int).contains t.kind=true:=by
 unfold EK at h
 replace h:(if H0 (Aa s).1=true then Rd.seq A0 λt=>.ret (Ar 18 [t]) else Rd.seq (BU 15 [96]) λo=>.seq (HK [1,2,3,4]) λn=>.seq (BU 15 [96]) λc=>.ret (Ar 18 [o,n,c]):Rd Nd).run s=.inr (n,s'):=h
 split at h
 .obtain ⟨t,s1,h1,h⟩:=B4 h
  cases h
  exact .inl ⟨_,by rw [(RG h1).1],FS⟩
 .obtain ⟨o,s1,_,h⟩:=B4 h
  obtain ⟨x,s2,U,h⟩:=B4 h
  obtain ⟨c,s3,_,h⟩:=B4 h
  cases h
  replace U:(if ([1,2,3,4]:List Int).contains (Aa s1).1.kind=true then A0 else L7:Rd Nd).run s1=.inr (x,s2):=U
  split at U
  .exact .inr ⟨o,_,c,by rw [(RG U).1],FS⟩
  .cases U
theorem hX (h:FJ t=true):t.kind≠0/\t.kind≠21:=by
 unfold FJ at h
 simp only [Bool.and_eq_true,beq_iff_eq] at h
 omega
section
variable {st0 st:St} {s:Af} {rows:List (AF×List Nd)} {K:AL->St->Prop} {Q:Nd->Af->Prop} {E:Er->Af->Prop} {d:Nat}
theorem eo {s s':Af} (hr:EK.run s=.inr (n,s')) (h:K (.ret (.bool (Ez n))) st):PC 142 [enc n] st K:=by
 rcases dM hr with ⟨t,hn,U⟩|⟨o,t,c,hn,U⟩
 .have e:Ez n= !(t.kind==7||t.kind==8):=by
   have:(t.kind==3)=false/\(t.kind==4)=false:=by
    unfold H0 at U
    simp only [Bool.or_eq_true,Bool.and_eq_true,beq_iff_eq] at U
    simp only [beq_eq_false_iff_ne,ne_eq]
    omega
   subst hn
   simp [Ez,Ar,Nd.kids,Av,Nd.form,this.1,this.2]
  have hl:((n.kids.length:Nat):Int)=1:=by subst hn;rfl
  have hk:n.kids[(0:Int).toNat]? =some (Av t):=by subst hn;rfl
  rw [e] at h
  refine pB Tryz.func142 ?_
  clear e hr U
  repeat' ((conv=>whnf);first|(refine AG ?_;intros)|(refine AH ?_ ?_<;>intro e h)|(refine AJ ?_ ?_<;>intro _)|fail)
  all_goals conv=>whnf
  all_goals (refine Ao h ?_;clear h;simp_all [Av,Nd.form])
 .have e:Ez n=(t.kind==1||t.kind==2):=by
   subst hn
   simp only [List.contains_cons,List.contains_nil,Bool.or_eq_true,beq_iff_eq,Bool.or_false] at U
   rcases U with e|e|e|e<;>simp [Ez,Ar,Nd.kids,Av,Nd.form,e]
  have hl:¬((n.kids.length:Nat):Int)=1:=by subst hn;show ¬(3:Int)=1;decide
  have hk:n.kids[(1:Int).toNat]? =some (Av t):=by subst hn;rfl
  rw [e] at h
  refine pB Tryz.func142 ?_
  clear e hr U
  repeat' ((conv=>whnf);first|(refine AG ?_;intros)|(refine AH ?_ ?_<;>intro e h)|(refine AJ ?_ ?_<;>intro _)|fail)
  all_goals conv=>whnf
  all_goals (refine Ao h ?_;clear h;simp_all [Av,Nd.form])
theorem SY {s s':Af} {P R:Prop} (U:EK.run s=.inr (n,s')) (h:if Ez n=true then P else R) (k1:Ez n=true->P->K (.ret (.bool true)) st) (k2:Ez n=false->R->K (.ret (.bool false)) st):PC 142 [enc n] st K:=
 eo U (by
  cases e:Ez n with
  |true=>exact k1 e (by rw [if_pos e] at h;exact h)
  |false=>exact k2 e (by rw [if_neg (by rw [e];decide)] at h;exact h))
theorem kI {P R:Prop} (h:if NU (Av t)=true then P else R) (k1:∀v,¬9<v->P->K (.ret (.Bh [.int .i64 v,.int .i64 0])) st) (k2:∀v,9<v->R->K (.ret (.Bh [.int .i64 v,.int .i64 0])) st) (k3:∀v e,¬e=0->R->K (.ret (.Bh [.int .i64 v,.int .i64 e])) st):PC 140 [.str t.text] st K:=by
 have U:NU (Av t)=((Fj t.text).2==0&&decide ((Fj t.text).1<=9)):=rfl
 refine kH ?_
 by_cases e:(Fj t.text).2=0
 .by_cases e9:(Fj t.text).1<=9
  .rw [e];exact k1 _ AC (by rw [if_pos (by rw [U];simp [e,e9])] at h;exact h)
  .rw [e];exact k2 _ AC (by rw [if_neg (by rw [U];simp [e9])] at h;exact h)
 .exact k3 _ _ e (by rw [if_neg (by rw [U];simp [e])] at h;exact h)
theorem pF {l:List Nd} (h:Rd.wp (Gc l) s Q E):Rd.wp EK s (λo s1=>if Ez o=true then (if A9 s1 15 [44]=true then Rd.wp A0 s1 (λc s2=>mu s2<mu s1->Rd.wp (Gc (l++[o]++[c])) s2 Q E) E else Q (Ar 35 (l++[o])) s1) else E LM s) E:=by
 unfold Gc at h
 simp only [CA,Rd.Ah,Rd.wp_seq,Rd.Az,Rd.wp_ret,Rd.GO] at h
 refine Rd.wp_mono h (λo s1 _ h=>?_) λ_ _ _ h=>h
 split at h
 .rename_i hp
  rw [if_pos hp]
  rw [Rd.wp_loop] at h
  replace h:Rd.wp (Ld (l++[o])) s1 (Rd.again Ld s1 (λv s'=>Q (Ar 35 v) s') E) E:=h
  unfold Ld at h
  rw [Rd.Ah,Rd.Az] at h
  split at h
  .rename_i hi
   rw [if_pos hi]
   rw [Rd.wp_seq] at h
   refine Rd.wp_mono h (λc s2 hr h U=>?_) λ_ _ _ h=>h
   unfold Gc
   rw [Rd.wp_seq] at h |-
   refine Rd.wp_mono h (λo2 s3 hr3 h=>?_) λ_ _ _ h=>h
   rw [Rd.wp_seq]
   exact Rd.BF h (Nat.lt_of_le_of_lt ((CA EK Ez).le _ _ _ hr3) U)
  .rename_i hi
   rw [if_neg hi]
   rw [Rd.wp_ret,Rd.A5] at h
   exact h
 .rename_i hp
  rw [if_neg hp]
  exact h
attribute [local irreducible] Go.Aw.Ag
theorem dY (hm:mu s<=100000000) (hc:Rx st0 st rows) (hf:FJ (Aa s).1=true) (h:Rd.wp Hm s (λv s'=>∀st',Rx st0 st' rows->K (.ret (AO v s' 0)) st') (λe s'=>∀n st',Rx st0 st' rows->K (.ret (AO n s' e.1)) st')):
 PC 74 [Am s] st K:=by
 have hk:=hX hf
 simp only [Hm,CA,Rd.Ah,Rd.wp_seq,Rd.Az,Rd.wp_ret,Rd.GO] at h
 refine pB Tryz.func74 ?_
 repeat' ((conv=>whnf);first|(refine AG ?_;intros)|(refine AH ?_ ?_<;>intro e h)|(refine AJ ?_ ?_<;>intro _)|refine FC ‹_› h (by first|exact hk|omega) (λs1 hz hl hm h=>?_)|refine kI h (λv e1 h=>?_) (λv e1 h=>?_) (λv e e1 h=>?_)|refine Rx.Fk (l:=[_]) (hc.push [_]) (Nat.le_of_ble_eq_true rfl) (λown1 U hc=>?_)|refine Ca ?_|(refine D4 ?_ ?_<;>intro e h)|(refine D5 ?_;intro s1 hz hl hm h)|refine DQ (λn s1 U hr hl hm hc h=>?_) (λe n s1 U he hc h=>?_)|(refine CN ?_;intro own1 U hc)|refine Ac (λe1=>?_)|exact B3|fail)
 .rename_i s2 z1 z2 z3 z4 z5 z6
  repeat' ((conv=>whnf);first|(refine AG ?_;intros)|(refine AH ?_ ?_<;>intro e h)|(refine AJ ?_ ?_<;>intro _)|fail)
  refine GV (λp=>Gc p.1) (x0:=(_,Av (Aa s2).1)) (λp s own=>[(4,.slice 6 (p.1.map Ax) own)]) (λp s own=>[(2,CY p.2 s 0)]) [2,3] [1] (λp own=>(own,p.1)::rows) (λp=>p.1.length) _ hm hc h (by show 2+_<=_;omega) Yl ?_
  rintro ⟨l,x⟩ s1 U own1 hm1 hm2 hc h hl
  dsimp only at hc h hl
  have h:=pF h
  repeat' ((conv=>whnf);first|(refine AG ?_;intros)|(refine AH ?_ ?_<;>intro e h)|(refine AJ ?_ ?_<;>intro _)|refine BO.go G8 ‹_› hc h (λn s1 U hr hl hm hc h=>?_) (λe n s1 U he hc h=>?_)|refine SY hr h (λe h=>?_) (λe h=>?_)|exact ⟨⟨(_,_),_,_,_⟩,⟨‹_›,(by dsimp only<;>omega),hc,h ‹_›,So⟩,(by dsimp only<;>omega),Yl,St.le_refl _⟩|refine Ca ?_|(refine D4 ?_ ?_<;>intro e h)|(refine D5 ?_;intro s1 hz hl hm h)|refine DQ (λn s1 U hr hl hm hc h=>?_) (λe n s1 U he hc h=>?_)|(refine CN ?_;intro own1 U hc)|refine Ac (λe1=>?_)|exact B3|fail)
 .skip
  repeat' ((conv=>whnf);first|(refine AG ?_;intros)|(refine AH ?_ ?_<;>intro e h)|(refine AJ ?_ ?_<;>intro _)|fail)
  refine GV (λp=>Gc p.1) (x0:=([_],Av (Aa s).1)) (λp s own=>[(4,.slice 6 (p.1.map Ax) own)]) (λp s own=>[(2,CY p.2 s 0)]) [2,3] [1] (λp own=>(own,p.1)::rows) (λp=>p.1.length) .full hm (hc.push _) h (by show 1+_<=_;omega) Yl ?_
  rintro ⟨l,x⟩ s1 U own1 hm1 hm2 hc h hl
  dsimp only at hc h hl
  have h:=pF h
  repeat' ((conv=>whnf);first|(refine AG ?_;intros)|(refine AH ?_ ?_<;>intro e h)|(refine AJ ?_ ?_<;>intro _)|refine BO.go G8 ‹_› hc h (λn s1 U hr hl hm hc h=>?_) (λe n s1 U he hc h=>?_)|refine SY hr h (λe h=>?_) (λe h=>?_)|exact ⟨⟨(_,_),_,_,_⟩,⟨‹_›,(by dsimp only<;>omega),hc,h ‹_›,So⟩,(by dsimp only<;>omega),Yl,St.le_refl _⟩|refine Ca ?_|(refine D4 ?_ ?_<;>intro e h)|(refine D5 ?_;intro s1 hz hl hm h)|refine DQ (λn s1 U hr hl hm hc h=>?_) (λe n s1 U he hc h=>?_)|(refine CN ?_;intro own1 U hc)|refine Ac (λe1=>?_)|exact B3|fail)
end
def oF (atom full:Rd Nd) (l:List Nd):Rd Nd:=.seq (.loop (kO atom) l) λl=>.seq (BU 10 [58,58]) λc=>.seq full λt=>.ret (Ar 34 (l++[c]++[t]))
section
variable {st0 st:St} {s:Af} {rows:List (AF×List Nd)} {K:AL->St->Prop} {Q:Nd->Af->Prop} {E:Er->Af->Prop} {d:Nat} {L:C8} {atom stm opd full opd0 full0 exp stmt:Rd Nd}
theorem Zo (U:mu s<=100000000) (hc:Rx st0 st rows) (hf:FJ (Aa s).1=true) (h:Rd.wp Hm s Q E)
 (k:∀n s' st',mu s'<=100000000->Rx st0 st' rows->Q n s'->K (.ret (AO n s' 0)) st')
 (kb:∀e n s' st',¬e.1=0->Rx st0 st' rows->E e s'->K (.ret (AO n s' e.1)) st'):PC 74 [Am s] st K:=
 dY U hc hf (Rd.wp_mono h (λv s' r q st' c=>k v s' st' (Nat.le_trans (Hm.le _ _ _ r) U) c q) (λe s' _ q n st' c=>kb e n s' st' e.2 c q))
attribute [local irreducible] Go.Aw.Ag
theorem oB (hn:P8 n) (ha:BO 144 (λs=>[Am s,.int .i64 D]) atom) (hD:Dv atom) (hf:BO 145 (λs=>[Am s,.int .i64 D]) full):
 BO 76 (λs=>[AO n s 0,.int .i64 D]) (Xx atom full n):=by
 refine ⟨λ{st0 s st rows K} hm hc h=>?_⟩
 have e:Xx atom full n=if MA n=true then oF atom full [n] else .fail LM:=rfl
 rw [e,Rd.Az,Rd.BK] at h
 refine pB Tryz.func76 ?_
 repeat' ((conv=>whnf);first|(refine AG ?_;intros)|(refine AH ?_ ?_<;>intro e h)|(refine AJ ?_ ?_<;>intro _)|refine kG hn h (λe h=>?_) (λe h=>?_)|refine Ca ?_|(refine D4 ?_ ?_<;>intro e h)|(refine D5 ?_;intro s1 hz hl hm h)|refine DQ (λn s1 U hr hl hm hc h=>?_) (λe n s1 U he hc h=>?_)|(refine CN ?_;intro own1 U hc)|refine Ac (λe1=>?_)|exact B3|fail)
 refine GV (λp=>oF atom full p.1) (x0:=([n],n)) (λp s own=>[(5,.slice 6 (p.1.map Ax) own)]) (λp s own=>[(0,CY p.2 s 0)]) [1,2,4] [1] (λp own=>(own,p.1)::rows) (λp=>p.1.length) .full hm (hc.push [n]) h (by show 1+_<=_;omega) Yl ?_
 rintro ⟨l,x⟩ s1 U own1 hm1 hm2 hc h hl
 dsimp only at hc h hl
 simp only [oF,kO,CA,Rd.wp_seq,Rd.wp_loop,Rd.Ah,Rd.Az,Rd.wp_ret,Rd.GO,Rd.A5] at h
 repeat' ((conv=>whnf);first|(refine AG ?_;intros)|(refine AH ?_ ?_<;>intro e h)|(refine AJ ?_ ?_<;>intro _)|refine BO.go ha ‹_› hc h (λn s1 U hr hl hm hc h=>?_) (λe n s1 U he hc h=>?_)|refine BO.go hf ‹_› hc h (λn s1 U hr hl hm hc h=>?_) (λe n s1 U he hc h=>?_)|refine kG ((hD.at hr).pL _ List.mem_cons_self) h (λe h=>?_) (λe h=>?_)|exact ⟨⟨(_,_),_,_,_⟩,⟨hm,(by dsimp only<;>omega),hc,(by simp only [oF,Rd.wp_seq]<;>exact Rd.BF h AC),So⟩,(by dsimp only<;>omega),Yl,St.le_refl _⟩|refine Ca ?_|(refine D4 ?_ ?_<;>intro e h)|(refine D5 ?_;intro s1 hz hl hm h)|refine DQ (λn s1 U hr hl hm hc h=>?_) (λe n s1 U he hc h=>?_)|(refine CN ?_;intro own1 U hc)|refine Ac (λe1=>?_)|exact B3|fail)
theorem jB (hD:cq D d) (hL:Jy d L stm opd0 full0) (hV:LD L) (ho:BO 193 (λs=>[Am s,.int .i64 ((d+1:Nat):Int)]) opd) (hO:Dv opd) (ha:BO 144 (λs=>[Am s,.int .i64 ((d+1:Nat):Int)]) atom) (hA:Dv atom) (hf:BO 145 (λs=>[Am s,.int .i64 ((d+1:Nat):Int)]) full)
 (he:BO 66 (λs=>[Am s,.int .i64 ((d+1:Nat):Int)]) exp) (hs:BO 27 (λs=>[Am s,.int .i64 ((d+1:Nat):Int)]) stmt):MG 31 (λs=>[Am s,.int .i64 D]) (Qv L atom (N6 opd) exp stmt full):=by
 obtain ⟨hd,hge,hlim⟩:=hD
 refine ⟨λ{st0 s st rows K} hm hc h=>?_⟩
 simp only [Qv,Rd.Ah,Rd.Az,Rd.wp_seq,Rd.wp_ret,Rd.BK] at h
 have hm0:=hm
 have hE:=Md hO
 refine pB Tryz.func31 ?_
 by_cases hx:FJ (Aa s).1=true
 .rw [if_pos hx] at h
  have hy:=hx
  unfold FJ at hy
  simp only [Bool.and_eq_true,Bool.or_eq_true,beq_iff_eq] at hy
  obtain ⟨h9,hy⟩:=hy
  rcases hy with (hy|hy)|hy
  all_goals (repeat' ((conv=>whnf);first|(refine AG ?_;intros)|(refine AH ?_ ?_<;>intro e h)|(refine AJ ?_ ?_<;>intro _)|refine hlim ?_|refine Zo ‹_› hc hx h (λn s1 U hm hc h=>?_) (λe n s1 U he hc h=>?_)|refine Ca ?_|(refine D4 ?_ ?_<;>intro e h)|(refine CN ?_;intro own1 U hc)|refine Ac (λe1=>?_)|exact B3|fail))
 .rw [if_neg hx] at h
  have hy:((Aa s).1.kind=9/\¬(Aa s).1.text=[105,110,102,105,120,108]/\¬(Aa s).1.text=[105,110,102,105,120,114]/\¬(Aa s).1.text=[105,110,102,105,120])\/¬(Aa s).1.kind=9:=by
   by_cases h9:(Aa s).1.kind=9
   .refine .inl ⟨h9,λe=>hx ?_,λe=>hx ?_,λe=>hx ?_⟩<;>(unfold FJ;rw [h9,e];decide)
   .exact .inr h9
  have hcheck:∀{n:Nd} {s':Af},(N6 opd).run s=.inr (n,s')->n.size<=1000000000:=λhr=>hE.tU hr hm0
  have hleaf:∀{n:Nd} {s':Af},(N6 opd).run s=.inr (n,s')->P8 n:=λhr=>(hE.at hr).pL _ List.mem_cons_self
  rcases hy with ⟨h9,g1,g2,g3⟩|h9
  all_goals (repeat' ((conv=>whnf);first|(refine AG ?_;intros)|(refine AH ?_ ?_<;>intro e h)|(refine AJ ?_ ?_<;>intro _)|refine hlim ?_|refine BO.go (PJ ho) ‹_› hc h (λn s1 U hr hl hm hc h=>?_) (λe n s1 U he hc h=>?_)|refine BO.go (oB (hleaf hr) ha hA hf) ‹_› hc h (λn s1 U hr hl hm hc h=>?_) (λe n s1 U he hc h=>?_)|refine rK (hcheck hr) ?_|refine BO.go (bQ hd hL he hs) ‹_› hc h (λn s1 U hr hl hm hc h=>?_) (λe n s1 U he hc h=>?_)|refine Rx.Fk (l:=[_]) (hc.push [_]) (Nat.le_of_ble_eq_true rfl) (λown1 U hc=>?_)|refine Ca ?_|(refine D4 ?_ ?_<;>intro e h)|(refine CN ?_;intro own1 U hc)|refine Ac (λe1=>?_)|exact B3|fail))
theorem nW (hD:cq D d) (hL:Jy d L stm opd0 full0) (ho:BO 193 (λs=>[Am s,.int .i64 ((d+1:Nat):Int)]) opd) (hO:Dv opd)
 (he:BO 66 (λs=>[Am s,.int .i64 ((d+1:Nat):Int)]) exp) (hs:BO 27 (λs=>[Am s,.int .i64 ((d+1:Nat):Int)]) stmt):MG 29 (λs=>[Am s,.int .i64 D]) (Ye L (N6 opd) exp stmt):=by
 obtain ⟨hd,hge,hlim⟩:=hD
 refine ⟨λ{st0 s st rows K} hm hc h=>?_⟩
 simp only [Ye,Rd.Ah,Rd.Az,Rd.wp_seq,Rd.wp_ret,Rd.BK] at h
 have hm0:=hm
 have hE:=Md hO
 have hcheck:∀{n:Nd} {s':Af},(N6 opd).run s=.inr (n,s')->n.size<=1000000000:=λhr=>hE.tU hr hm0
 refine pB Tryz.func29 ?_
 repeat' ((conv=>whnf);first|(refine AG ?_;intros)|(refine AH ?_ ?_<;>intro e h)|(refine AJ ?_ ?_<;>intro _)|refine hlim ?_|refine BO.go (PJ ho) ‹_› hc h (λn s1 U hr hl hm hc h=>?_) (λe n s1 U he hc h=>?_)|refine ND (hcheck hr) h (λe h=>?_) (λe h=>?_)|refine BO.go (bQ hd hL he hs) ‹_› hc h (λn s1 U hr hl hm hc h=>?_) (λe n s1 U he hc h=>?_)|refine Rx.Fk (l:=[_]) (hc.push [_]) (Nat.le_of_ble_eq_true rfl) (λown1 U hc=>?_)|refine Ca ?_|(refine CN ?_;intro own1 U hc)|refine Ac (λe1=>?_)|exact B3|fail)
end
theorem Dv.Vm (h:Dv A):Rd.A7 A:=λs n s' e=>by
 have U:=h.size e
 have h2:=size_pos n
 omega
section
variable {st0 st:St} {b d:Nat} {s:Af} {rows:List (AF×List Nd)} {K:AL->St->Prop} {L:C8}
attribute [local irreducible] Go.Aw.Ag
theorem Z4 (hb:s.BT.length<=500000000) (h:K (.ret (.Bh [Am (Dr s).1,.bool (Dr s).2])) st):PC 237 [Am s] st K:=by
 refine pB Tryz.func237 ?_
 have h0:¬Fi s=0->s.BT≠[]:=λe e2=>e (by unfold Fi;rw [e2];rfl)
 unfold Dr at h
 by_cases U:HM s=true
 .by_cases hw:s.wait=1
  .rw [if_neg AC] at h
   repeat' ((conv=>whnf);first|(refine AG ?_;intros)|(refine AH ?_ ?_<;>intro e h)|(refine AJ ?_ ?_<;>intro _)|refine VT ?_|refine OZ ?_)
   all_goals first|exact AZ rfl h|(rw [U] at *;simp at *)
  .by_cases ht:Fi s=0
   .rw [if_neg AC] at h
    repeat' ((conv=>whnf);first|(refine AG ?_;intros)|(refine AH ?_ ?_<;>intro e h)|(refine AJ ?_ ?_<;>intro _)|refine VT ?_|refine OZ ?_)
    all_goals first|exact AZ rfl h|(rw [U] at *;simp at *)
   .rw [if_pos ⟨U,hw,ht⟩] at h
    repeat' ((conv=>whnf);first|(refine AG ?_;intros)|(refine AH ?_ ?_<;>intro e h)|(refine AJ ?_ ?_<;>intro _)|refine VT ?_|refine OZ ?_|refine MN (h0 ht) hb ?_)
    all_goals first|exact AZ rfl h|(rw [U] at *;simp at *)
 .rw [if_neg (by simp [U])] at h
  repeat' ((conv=>whnf);first|(refine AG ?_;intros)|(refine AH ?_ ?_<;>intro e h)|(refine AJ ?_ ?_<;>intro _)|refine VT ?_|refine OZ ?_)
  all_goals first|exact AZ rfl h|exact absurd ‹_› U
def bv (x:Bool):V:=.bool x
theorem gL {f:Bool}:Bx bv 169 (λb=>[.ptr b 0,.bool f,.bool m]) (HA f m):=by
 refine ⟨λ{st0 b s st rows K} hc h=>?_⟩
 simp only [HA,Rd.Ah,Rd.Az,Rd.wp_seq,Rd.wp_ret] at h
 have hc1:=hc.look
 refine pB Tryz.func169 ?_
 have hcl:Rd.wp NT s (λ_ s'=>∀st',Cx st0 b s' st' rows->K (.ret (.bool true)) st') (λe s'=>∀st',Cy st0 b s' st' rows->K (.Cz (fault e.1)) st')->if (Dr s).2=true then mu (Dr s).1<=mu s/\∀st',Cx st0 b (Dr s).1 st' rows->K (.ret (.bool true)) st'
  else Rd.wp (L7:Rd Unit) s (λ_ s'=>∀st',Cx st0 b s' st' rows->K (.ret (.bool true)) st') (λe s'=>∀st',Cy st0 b s' st' rows->K (.Cz (fault e.1)) st'):=λh=>by
  unfold NT Rd.wp at h
  dsimp only at h
  split
  .rename_i e;rw [if_pos e] at h;exact ⟨K8 e,h⟩
  .rename_i e;rw [if_neg e] at h;exact h
 have hmu:=hc.mu
 cases f
 .simp only [Bool.false_eq_true,if_false] at h
  cases m
  .simp only [Bool.false_eq_true,if_false] at h
   repeat' ((conv=>whnf);first|(refine AG ?_;intros)|(refine AH ?_ ?_<;>intro e h)|(refine AJ ?_ ?_<;>intro _)|refine Hc hc.has hc.hb ?_|refine Ly hc1 h AC (λs1 U hz hm hc h=>?_)|exact Fo hc1 h rfl|(refine It ?_;intro U hc)|(refine fp ?_;intro e s1 U hc h)|exact F5|refine Ac (λe1=>?_))
  .simp only [if_true] at h
   repeat' ((conv=>whnf);first|refine U1 (hcl h) (λe h=>?_) (λe h=>?_)|(refine AG ?_;intros)|(refine AH ?_ ?_<;>intro e h)|(refine AJ ?_ ?_<;>intro _)|refine Hc hc.has hc.hb ?_|refine Ly hc1 h AC (λs1 U hz hm hc h=>?_)|refine AB (St.An ..) ?_|refine Z4 hc.hb ?_|refine sU hc1 AC (λU hc=>?_)|exact Fo hc h.2 rfl|refine UX hc1 h (λe s1 U hc h=>?_)|(refine It ?_;intro U hc)|(refine fp ?_;intro e s1 U hc h)|exact F5|refine Ac (λe1=>?_))
 .simp only [if_true] at h
  by_cases hi:A9 s 15 [125]=true
  .rw [if_pos hi] at h
   obtain ⟨h1,h2⟩:(Aa s).1.kind=15/\(Aa s).1.text=[125]:=by
    unfold A9 at hi
    simp only [Bool.and_eq_true,beq_iff_eq] at hi
    exact hi
   repeat' ((conv=>whnf);first|(refine AG ?_;intros)|(refine AH ?_ ?_<;>intro e h)|(refine AJ ?_ ?_<;>intro _)|refine Hc hc.has hc.hb ?_|refine Ly hc1 h AC (λs1 U hz hm hc h=>?_)|(refine It ?_;intro U hc)|(refine fp ?_;intro e s1 U hc h)|exact F5|refine Ac (λe1=>?_))
  .rw [if_neg hi] at h
   have hx:(Aa s).1.kind=15->¬(Aa s).1.text=[125]:=λh1 h2=>hi (by unfold A9;rw [h1,h2];rfl)
   cases m
   .simp only [Bool.false_eq_true,if_false] at h
    repeat' ((conv=>whnf);first|refine fJ (beq_eq_false_iff_ne.2 (hx ‹_›)) ?_|(refine AG ?_;intros)|(refine AH ?_ ?_<;>intro e h)|(refine AJ ?_ ?_<;>intro _)|refine Hc hc.has hc.hb ?_|exact Fo hc1 h rfl|(refine It ?_;intro U hc)|(refine fp ?_;intro e s1 U hc h)|exact F5|refine Ac (λe1=>?_))
   .simp only [if_true] at h
    repeat' ((conv=>whnf);first|refine fJ (beq_eq_false_iff_ne.2 (hx ‹_›)) ?_|(refine AG ?_;intros)|(refine AH ?_ ?_<;>intro e h)|(refine AJ ?_ ?_<;>intro _)|refine Hc hc.has hc.hb ?_|refine AB (St.An ..) ?_|refine Z4 hc.hb ?_|refine UX hc1 h (λe s1 U hc h=>?_)|(refine It ?_;intro U hc)|(refine fp ?_;intro e s1 U hc h)|exact F5|refine Ac (λe1=>?_))
theorem Pt {f U:Bool} (e:U=m):Bx bv 169 (λb=>[.ptr b 0,.bool f,.bool m]) (HA f U):=by rw [e];exact gL
theorem aW {b:Bool} (h:b=true):(!b)=false:=by rw [h];rfl
theorem aV {b:Bool} (h:b=false):(!b)=true:=by rw [h];rfl
theorem YE {l:List Nd} {own:AF}:AL.ret (enc (DS false l))=(AL.ret (.agg [.int .i64 2,.int .i64 0,.str [],.int .i64 0,.int .i64 0,.slice 6 (l.map Ax) own])).wk:=by unfold DS;rw [gJ];rfl
theorem YF {l:List Nd} {own:AF}:AL.ret (enc (DS true l))=(AL.ret (.agg [.int .i64 2,.int .i64 1,.str [],.int .i64 0,.int .i64 0,.slice 6 (l.map Ax) own])).wk:=by unfold DS;rw [gJ];rfl
theorem Ql {g i:FuncId} {starts:Tk->Bool} (hg:∀{t:Tk} {st:St} {K:AL->St->Prop},K (.ret (.bool (starts t))) st->PC g [Eb t] st K) (hi:Bx enc i (λb=>[pv b d]) item) (hF:Dv item):
 Bx enc 108 (λb=>[.ptr b 0,.func g [] [],.func i [pv b d] []]) (CX starts item):=by
 refine ⟨λ{st0 b s st rows K} hc h=>?_⟩
 simp only [CX,Rd.Ah,Rd.Az,Rd.wp_seq,Rd.wp_ret] at h
 have hmu:=hc.mu
 refine pB Tryz.func108 ?_
 repeat' ((conv=>whnf);first|exact Dk|(refine AG ?_;intros)|(refine Dl ?_ ?_ ?_;rotate_left)|(refine AH ?_ ?_<;>intro e h)|(refine AJ ?_ ?_<;>intro _)|(refine It ?_;intro U hc)|refine Jv (λn s1 U hr hm hc h=>?_) (λe s1 U hc h=>?_)|exact F5|(refine LJ ?_;intro own1 U hc)|refine Ac (λe1=>?_)|refine Ly hc h AC (λs1 U hz hm hc h=>?_)|refine Ae [(0,true),(1,true),(2,true),(3,true),(4,true),(5,true),(6,false),(7,false),(8,true),(9,false)] [] GE ?_|refine Ae [(0,true),(1,true),(2,true),(3,false),(4,true),(5,false),(6,true),(7,false)] [1] GE ?_|refine Ae [(0,true),(1,true),(2,true),(3,true),(4,true),(5,false),(6,false),(7,true),(8,false)] [] GE ?_|with_reducible refine WF ?_)
 .refine Dh (λl own=>[]) (λl own=>[(1,[.int .i64 2,.int .i64 0,.str [],.int .i64 0,.int .i64 0,.slice 6 (l.map Ax) own])]) [0,1,2,6,7] [0] (λl own=>(own,l)::rows) (λl=>l.length) .full (hc.push []) h la Yl ?_
  intro l s1 U own1 hc h hl hm1
  simp only [Iw,Rd.Ah,Rd.Az,Rd.wp_seq,Rd.wp_ret,Rd.A5] at h
  repeat' ((conv=>whnf);first|exact Dk|(refine AG ?_;intros)|(refine Dl ?_ ?_ ?_;rotate_left)|(refine AH ?_ ?_<;>intro e h)|(refine AJ ?_ ?_<;>intro _)|with_reducible refine WF ?_)
  unfold Mv at h
  refine Dh (λ_ _=>[]) (λ_ _=>[]) [0,1,2,6,7] [0,1] (λ_ _=>(own1,l)::rows) (λ_=>l.length) .full hc h hl Yl ?_
  intro u s2 st2 own2 hc h hl hm2
  simp only [Mu,Rd.Ah,Rd.Az,Rd.wp_seq,Rd.wp_ret,Rd.A5] at h
  repeat' ((conv=>whnf);first|exact Dk|(refine AG ?_;intros)|(refine Dl ?_ ?_ ?_;rotate_left)|(refine AH ?_ ?_<;>intro e h)|(refine AJ ?_ ?_<;>intro _)|(refine It ?_;intro U hc)|refine Jv (λn s1 U hr hm hc h=>?_) (λe s1 U hc h=>?_)|exact F5|(refine LJ ?_;intro own1 U hc)|refine Ac (λe1=>?_)|refine Uv ?_|refine hg ?_|refine Ly hc h (Ip ‹_›) (λs1 U hz hm hc h=>?_)|refine Bx.go (Pt (aW ‹_›)) hc h (λv s1 U hr hm hc h=>?_) (λe s1 U hc h=>?_)|refine Bx.go (Pt (aV ‹_›)) hc h (λv s1 U hr hm hc h=>?_) (λe s1 U hc h=>?_)|refine Bx.UN hi hF.Vm hc h (λn s1 U hr hm hc h=>?_) (λe s1 U hc h=>?_)|exact Fo hc.drop h YE|refine Ae [(0,true),(1,true),(2,true),(3,true),(4,true),(5,true),(6,false),(7,false),(8,true),(9,false)] [] GE ?_|refine Ae [(0,true),(1,true),(2,true),(3,false),(4,true),(5,false),(6,true),(7,false)] [1] GE ?_|refine Ae [(0,true),(1,true),(2,true),(3,true),(4,true),(5,false),(6,false),(7,true),(8,false)] [] GE ?_|with_reducible refine WF ?_)
  all_goals conv=>whnf
  all_goals exact ⟨⟨(),_,_,.full⟩,⟨hc,Rd.BF h AC,UV,UV⟩,UV,Yl,St.le_refl _⟩
 .refine Dh (λl own=>[]) (λl own=>[(1,[.int .i64 2,.int .i64 1,.str [],.int .i64 0,.int .i64 0,.slice 6 (l.map Ax) own])]) [0,1,2,6,7] [0] (λl own=>(own,l)::rows) (λl=>l.length) .full (hc.push []) h la Yl ?_
  intro l s1 U own1 hc h hl hm1
  simp only [Iw,Rd.Ah,Rd.Az,Rd.wp_seq,Rd.wp_ret,Rd.A5] at h
  repeat' ((conv=>whnf);first|exact Dk|(refine AG ?_;intros)|(refine Dl ?_ ?_ ?_;rotate_left)|(refine AH ?_ ?_<;>intro e h)|(refine AJ ?_ ?_<;>intro _)|with_reducible refine WF ?_)
  unfold Mv at h
  refine Dh (λ_ _=>[]) (λ_ _=>[]) [0,1,2,6,7] [0,1] (λ_ _=>(own1,l)::rows) (λ_=>l.length) .full hc h hl Yl ?_
  intro u s2 st2 own2 hc h hl hm2
  simp only [Mu,Rd.Ah,Rd.Az,Rd.wp_seq,Rd.wp_ret,Rd.A5] at h
  repeat' ((conv=>whnf);first|exact Dk|(refine AG ?_;intros)|(refine Dl ?_ ?_ ?_;rotate_left)|(refine AH ?_ ?_<;>intro e h)|(refine AJ ?_ ?_<;>intro _)|(refine It ?_;intro U hc)|refine Jv (λn s1 U hr hm hc h=>?_) (λe s1 U hc h=>?_)|exact F5|(refine LJ ?_;intro own1 U hc)|refine Ac (λe1=>?_)|refine Uv ?_|refine hg ?_|refine Ly hc h (Ip ‹_›) (λs1 U hz hm hc h=>?_)|refine Bx.go (Pt (aW ‹_›)) hc h (λv s1 U hr hm hc h=>?_) (λe s1 U hc h=>?_)|refine Bx.go (Pt (aV ‹_›)) hc h (λv s1 U hr hm hc h=>?_) (λe s1 U hc h=>?_)|refine Bx.UN hi hF.Vm hc h (λn s1 U hr hm hc h=>?_) (λe s1 U hc h=>?_)|exact Fo hc.drop h YF|refine Ae [(0,true),(1,true),(2,true),(3,true),(4,true),(5,true),(6,false),(7,false),(8,true),(9,false)] [] GE ?_|refine Ae [(0,true),(1,true),(2,true),(3,false),(4,true),(5,false),(6,true),(7,false)] [1] GE ?_|refine Ae [(0,true),(1,true),(2,true),(3,true),(4,true),(5,false),(6,false),(7,true),(8,false)] [] GE ?_|with_reducible refine WF ?_)
  all_goals conv=>whnf
  all_goals exact ⟨⟨(),_,_,.full⟩,⟨hc,Rd.BF h AC,UV,UV⟩,UV,Yl,St.le_refl _⟩
end
def L8 (U:Tk->Bool) (item:Rd Nd) (f:Bool) (l:List Nd):Rd Nd:=.seq (.loop (Iw U item f) l) λl=>.ret (DS f l)
theorem QL {f:Bool} {l:List Nd} {own:AF} {s:Af} {e:Int}:AL.ret (AO (DS f l) s e)=(AL.ret (.agg [.int .i64 2,.int .i64 (if f then 1 else 0),.str [],.int .i64 0,.int .i64 0,.slice 6 (l.map Ax) own,.slice 4 (A4 s.As) .any,.int .i64 s.pos,.slice 1 (ints s.BT) .any,.int .i64 s.wait,.int .i64 e])).wk:=by
 have:AO (DS f l) s e=AO (Ar 2 l) s e\/True:=.inr trivial
 unfold DS AO
 rw [show Cc (Nd.mk 2 (if f then 1 else 0) [] 0 0 l).kids=Cc l from rfl,BG]
 rfl
section
variable {st0 st:St} {s:Af} {rows:List (AF×List Nd)} {K:AL->St->Prop} {E:Er->Af->Prop} {d:Nat}
attribute [local irreducible] Go.Aw.Ag
theorem WT (hb:s.BT.length<=500000000) (h:K (.ret (.Bh [Am (Dr s).1,.bool (Dr s).2])) st):PC 172 [Am s] st K:=by
 refine pB Tryz.func172 ?_
 have h0:¬Fi s=0->s.BT≠[]:=λe e2=>e (by unfold Fi;rw [e2];rfl)
 unfold Dr at h
 by_cases U:HM s=true
 .by_cases hw:s.wait=1
  .rw [if_neg AC] at h
   repeat' ((conv=>whnf);first|(refine AG ?_;intros)|(refine AH ?_ ?_<;>intro e h)|(refine AJ ?_ ?_<;>intro _)|refine Nu ?_|refine Ro ?_)
   all_goals first|exact AZ rfl h|(rw [U] at *;simp at *)
  .by_cases ht:Fi s=0
   .rw [if_neg AC] at h
    repeat' ((conv=>whnf);first|(refine AG ?_;intros)|(refine AH ?_ ?_<;>intro e h)|(refine AJ ?_ ?_<;>intro _)|refine Nu ?_|refine Ro ?_)
    all_goals first|exact AZ rfl h|(rw [U] at *;simp at *)
   .rw [if_pos ⟨U,hw,ht⟩] at h
    repeat' ((conv=>whnf);first|(refine AG ?_;intros)|(refine AH ?_ ?_<;>intro e h)|(refine AJ ?_ ?_<;>intro _)|refine Nu ?_|refine Ro ?_|refine jt (h0 ht) hb ?_)
    all_goals first|exact AZ rfl h|(rw [U] at *;simp at *)
 .rw [if_neg (by simp [U])] at h
  repeat' ((conv=>whnf);first|(refine AG ?_;intros)|(refine AH ?_ ?_<;>intro e h)|(refine AJ ?_ ?_<;>intro _)|refine Nu ?_|refine Ro ?_)
  all_goals first|exact AZ rfl h|exact absurd ‹_› U
theorem bW (h:F0 t=true):t.kind=19\/t.kind=15/\t.text=[59]:=by
 unfold F0 at h
 simp only [Bool.or_eq_true,Bool.and_eq_true,beq_iff_eq] at h
 exact h
theorem Xv (h:¬F0 t=true):¬t.kind=19/\(¬t.kind=15\/t.kind=15/\¬t.text=[59]):=by
 unfold F0 at h
 simp only [Bool.or_eq_true,Bool.and_eq_true,beq_iff_eq] at h
 by_cases e:t.kind=15
 .exact ⟨AC,.inr ⟨e,λU=>h (.inr ⟨e,U⟩)⟩⟩
 .exact ⟨λe=>h (.inl e),.inl e⟩
theorem SS (hm:mu s<=100000000) (h:K (.ret (.bool (F0 (Aa s).1))) st):PC 119 [Am s] st K:=by
 refine pB Tryz.func119 ?_
 by_cases U:F0 (Aa s).1=true
 .have hz:=EY (Ip U).1
  rw [U] at h
  rcases bW U with e|⟨e,e2⟩
  all_goals (repeat' ((conv=>whnf);first|(refine AG ?_;intros)|(refine AH ?_ ?_<;>intro e h)|(refine AJ ?_ ?_<;>intro _)|refine Ca ?_|refine Ac (λe1=>?_)|exact B3|fail))
  all_goals exact AZ rfl h
 .rw [Bool.eq_false_iff.2 U] at h
  obtain ⟨e1,e|⟨e,e2⟩⟩:=Xv U
  all_goals (repeat' ((conv=>whnf);first|(refine AG ?_;intros)|(refine AH ?_ ?_<;>intro e h)|(refine AJ ?_ ?_<;>intro _)|refine Ca ?_|refine Ac (λe1=>?_)|exact B3|fail))
  all_goals exact AZ rfl h
theorem Xl {Q:Unit->Af->Prop} (hm:mu s<=100000000) (hc:Rx st0 st rows) (h:Rd.wp Mv s Q E) (k:∀s' st',mu s'<=mu s->mu s'<=100000000->Rx st0 st' rows->Q () s'->K (.ret (Am s')) st'):PC 114 [Am s] st K:=by
 refine pB Tryz.func114 ?_
 repeat' ((conv=>whnf);first|(refine AG ?_;intros)|(refine AH ?_ ?_<;>intro e h)|(refine AJ ?_ ?_<;>intro _)|fail)
 refine GV (λ_:Unit=>Mv) (x0:=()) (λ_ s own=>[]) (λ_ s own=>[(0,s.cells)]) [1,2] [1] (λ_ own=>rows) (λ_=>0) .full hm hc h AC Yl ?_
 intro u s1 st1 own1 hm1 hm2 hc h hl
 unfold Mv at h
 rw [Rd.wp_loop] at h
 replace h:Rd.wp (Mu ()) s1 (Rd.again Mu s1 Q E) E:=h
 simp only [Mu,Rd.Ah,Rd.Az,Rd.wp_seq,Rd.wp_ret,Rd.A5] at h
 by_cases U:F0 (Aa s1).1=true
 .have hz:=EY (Ip U).1
  have hlt:=(CK hz).2 (Ip U).2
  rw [if_pos U,Hh,Rd.wp_seq,NC hz,Rd.wp_ret] at h
  rcases bW U with e|⟨e,e2⟩
  all_goals (repeat' ((conv=>whnf);first|(refine AG ?_;intros)|(refine AH ?_ ?_<;>intro e h)|(refine AJ ?_ ?_<;>intro _)|refine Ca ?_|refine Ac (λe1=>?_)|exact B3|fail))
  all_goals exact ⟨⟨(),(Aa s1).2.1,_,.full⟩,⟨UV,UV,hc,Rd.BF h hlt,UV⟩,hlt,Yl,St.le_refl _⟩
 .rw [if_neg U] at h
  have hk:=k s1 st1 hm2 hm1 hc h
  obtain ⟨e1,e|⟨e,e2⟩⟩:=Xv U
  all_goals (repeat' ((conv=>whnf);first|(refine AG ?_;intros)|(refine AH ?_ ?_<;>intro e h)|(refine AJ ?_ ?_<;>intro _)|refine Ca ?_|refine Ac (λe1=>?_)|exact B3|fail))
  all_goals exact AZ rfl hk
theorem WZ {f:Bool} {P R:Af->Prop} (hm:mu s<=100000000) (h:Rd.wp (HA f m) s (λe s'=>if e=true then P s' else R s') E)
 (k1:∀s',mu s'<=mu s->mu s'<=100000000->P s'->K (.ret (.Bh [.bool true,AO FR s' 0])) st) (k2:R s->K (.ret (.Bh [.bool false,AO FR s 0])) st) (kb:∀e:Er,¬e.1=0->E e s->K (.ret (.Bh [.bool true,AO FR s e.1])) st):
 PC 117 [Am s,.int .i64 (if f then 1 else 0),.bool m] st K:=by
 have hgo:∀{Q:Unit->Af->Prop},(Aa s).2.2=0->Rd.wp Hh s Q E->Q () (Aa s).2.1:=λhz h=>by rw [Hh,Rd.wp_seq,NC hz,Rd.wp_ret] at h;exact h
 have hfin:∀{s':Af},mu s'<=mu s->P s'->K (.ret (.Bh [.bool true,AO FR s' 0])) st:=λhl hp=>k1 _ hl AC hp
 have hbad:Rd.wp (L7:Rd Bool) s (λe s'=>if e=true then P s' else R s') E->∀{K2:AL->St->Prop},(∀e:Er,¬e.1=0->E e s->K2 (.ret (AO FR s e.1)) st)->PC 133 [Am s] st K2:=λh _ k=>qa hm h k
 unfold HA at h
 rw [Rd.Ah,Rd.Az] at h
 cases f with
 |true=>
  simp only [if_true] at h |-
  by_cases hi:A9 s 15 [125]=true
  .rw [if_pos hi,Rd.wp_seq] at h
   have hz:=FK hi Do
   replace h:=hgo hz h
   rw [Rd.wp_ret,if_pos rfl] at h
   have hk:=hfin (CK hz).1 h
   obtain ⟨c1,c2⟩:(Aa s).1.kind=15/\(Aa s).1.text=[125]:=by unfold A9 at hi;simpa using hi
   refine pB Tryz.func117 ?_
   repeat' ((conv=>whnf);first|exact Dk|(refine AG ?_;intros)|(refine Dl ?_ ?_ ?_;rotate_left)|(refine AH ?_ ?_<;>intro e h)|(refine AJ ?_ ?_<;>intro _)|refine Ca ?_|(refine ME ?_;intro e he h)|refine Ac (λe1=>?_)|exact B3|refine Ae [(0,true),(1,true),(2,true),(3,false)] [1] GE ?_|refine Ae [(0,true),(1,true),(2,true),(3,false)] [1] GE ?_|refine Ae [(0,true),(1,true),(2,true),(3,false)] [1] GE ?_|refine Ae [(0,true),(1,true),(2,true),(3,false)] [1] GE ?_|refine Ae [(0,true),(1,true),(2,true),(3,false)] [1] GE ?_|with_reducible refine WF ?_)
   all_goals exact AZ rfl hk
  .rw [if_neg hi] at h
   have hx:¬(Aa s).1.kind=15\/(Aa s).1.kind=15/\¬(Aa s).1.text=[125]:=by
    by_cases e:(Aa s).1.kind=15
    .exact .inr ⟨e,λe2=>hi (by unfold A9;rw [e,e2];rfl)⟩
    .exact .inl e
   cases m with
   |true=>
    simp only [if_true] at h
    refine pB Tryz.func117 ?_
    rcases hx with e|⟨e,e2⟩
    all_goals (repeat' ((conv=>whnf);first|exact Dk|(refine AG ?_;intros)|(refine Dl ?_ ?_ ?_;rotate_left)|(refine AH ?_ ?_<;>intro e h)|(refine AJ ?_ ?_<;>intro _)|refine hbad h (λe he h=>?_)|exact AZ rfl (kb e he h)|refine Ca ?_|(refine ME ?_;intro e he h)|refine Ac (λe1=>?_)|exact B3|refine Ae [(0,true),(1,true),(2,true),(3,false)] [1] GE ?_|refine Ae [(0,true),(1,true),(2,true),(3,false)] [1] GE ?_|refine Ae [(0,true),(1,true),(2,true),(3,false)] [1] GE ?_|refine Ae [(0,true),(1,true),(2,true),(3,false)] [1] GE ?_|refine Ae [(0,true),(1,true),(2,true),(3,false)] [1] GE ?_|with_reducible refine WF ?_))
   |false=>
    simp only [Bool.false_eq_true,if_false] at h
    rw [Rd.wp_ret,if_neg Do] at h
    have hk:=k2 h
    refine pB Tryz.func117 ?_
    rcases hx with e|⟨e,e2⟩
    all_goals (repeat' ((conv=>whnf);first|exact Dk|(refine AG ?_;intros)|(refine Dl ?_ ?_ ?_;rotate_left)|(refine AH ?_ ?_<;>intro e h)|(refine AJ ?_ ?_<;>intro _)|refine Ca ?_|(refine ME ?_;intro e he h)|refine Ac (λe1=>?_)|exact B3|refine Ae [(0,true),(1,true),(2,true),(3,false)] [1] GE ?_|refine Ae [(0,true),(1,true),(2,true),(3,false)] [1] GE ?_|refine Ae [(0,true),(1,true),(2,true),(3,false)] [1] GE ?_|refine Ae [(0,true),(1,true),(2,true),(3,false)] [1] GE ?_|refine Ae [(0,true),(1,true),(2,true),(3,false)] [1] GE ?_|with_reducible refine WF ?_))
    all_goals exact AZ rfl hk
 |false=>
  simp only [Bool.false_eq_true,if_false] at h |-
  by_cases hi:(Aa s).1.kind=20
  .rw [if_pos (beq_iff_eq.2 hi),Rd.wp_seq] at h
   have hz:=EY (s:=s) AC
   replace h:=hgo hz h
   rw [Rd.wp_ret,if_pos rfl] at h
   have hk:=hfin (CK hz).1 h
   refine pB Tryz.func117 ?_
   repeat' ((conv=>whnf);first|exact Dk|(refine AG ?_;intros)|(refine Dl ?_ ?_ ?_;rotate_left)|(refine AH ?_ ?_<;>intro e h)|(refine AJ ?_ ?_<;>intro _)|refine Ca ?_|(refine ME ?_;intro e he h)|refine Ac (λe1=>?_)|exact B3|refine Ae [(0,true),(1,true),(2,true),(3,false)] [1] GE ?_|refine Ae [(0,true),(1,true),(2,true),(3,false)] [1] GE ?_|refine Ae [(0,true),(1,true),(2,true),(3,false)] [1] GE ?_|refine Ae [(0,true),(1,true),(2,true),(3,false)] [1] GE ?_|refine Ae [(0,true),(1,true),(2,true),(3,false)] [1] GE ?_|with_reducible refine WF ?_)
   all_goals exact AZ rfl hk
  .rw [if_neg (λe=>hi (beq_iff_eq.1 e))] at h
   cases m with
   |true=>
    simp only [if_true] at h
    rw [Rd.wp_seq] at h
    have hb:=BB hm
    by_cases hcl:(Dr s).2=true
    .unfold NT Rd.wp at h
     dsimp only at h
     rw [if_pos hcl] at h
     replace h:P (Dr s).1:=h
     have hk:=hfin (K8 hcl) h
     have U:∀{K2:AL->St->Prop},K2 (.ret (.Bh [Am (Dr s).1,.bool true])) st->PC 172 [Am s] st K2:=λh=>WT hb (by rw [hcl];exact h)
     refine pB Tryz.func117 ?_
     repeat' ((conv=>whnf);first|exact Dk|(refine AG ?_;intros)|(refine Dl ?_ ?_ ?_;rotate_left)|(refine AH ?_ ?_<;>intro e h)|(refine AJ ?_ ?_<;>intro _)|refine U ?_|refine Ca ?_|(refine ME ?_;intro e he h)|refine Ac (λe1=>?_)|exact B3|refine Ae [(0,true),(1,true),(2,true),(3,false)] [1] GE ?_|refine Ae [(0,true),(1,true),(2,true),(3,false)] [1] GE ?_|refine Ae [(0,true),(1,true),(2,true),(3,false)] [1] GE ?_|refine Ae [(0,true),(1,true),(2,true),(3,false)] [1] GE ?_|refine Ae [(0,true),(1,true),(2,true),(3,false)] [1] GE ?_|with_reducible refine WF ?_)
     all_goals exact AZ rfl hk
    .unfold NT Rd.wp at h
     dsimp only at h
     rw [if_neg hcl] at h
     replace h:Rd.wp (L7:Rd Bool) s (λe s'=>if e=true then P s' else R s') E:=h
     have U:∀{K2:AL->St->Prop},K2 (.ret (.Bh [Am (Dr s).1,.bool false])) st->PC 172 [Am s] st K2:=λh=>WT hb (by rw [Bool.eq_false_iff.2 hcl];exact h)
     refine pB Tryz.func117 ?_
     repeat' ((conv=>whnf);first|exact Dk|(refine AG ?_;intros)|(refine Dl ?_ ?_ ?_;rotate_left)|(refine AH ?_ ?_<;>intro e h)|(refine AJ ?_ ?_<;>intro _)|refine U ?_|refine hbad h (λe he h=>?_)|exact AZ rfl (kb e he h)|refine Ca ?_|(refine ME ?_;intro e he h)|refine Ac (λe1=>?_)|exact B3|refine Ae [(0,true),(1,true),(2,true),(3,false)] [1] GE ?_|refine Ae [(0,true),(1,true),(2,true),(3,false)] [1] GE ?_|refine Ae [(0,true),(1,true),(2,true),(3,false)] [1] GE ?_|refine Ae [(0,true),(1,true),(2,true),(3,false)] [1] GE ?_|refine Ae [(0,true),(1,true),(2,true),(3,false)] [1] GE ?_|with_reducible refine WF ?_)
   |false=>
    simp only [Bool.false_eq_true,if_false] at h
    rw [Rd.wp_ret,if_neg Do] at h
    have hk:=k2 h
    refine pB Tryz.func117 ?_
    repeat' ((conv=>whnf);first|exact Dk|(refine AG ?_;intros)|(refine Dl ?_ ?_ ?_;rotate_left)|(refine AH ?_ ?_<;>intro e h)|(refine AJ ?_ ?_<;>intro _)|refine Ca ?_|(refine ME ?_;intro e he h)|refine Ac (λe1=>?_)|exact B3|refine Ae [(0,true),(1,true),(2,true),(3,false)] [1] GE ?_|refine Ae [(0,true),(1,true),(2,true),(3,false)] [1] GE ?_|refine Ae [(0,true),(1,true),(2,true),(3,false)] [1] GE ?_|refine Ae [(0,true),(1,true),(2,true),(3,false)] [1] GE ?_|refine Ae [(0,true),(1,true),(2,true),(3,false)] [1] GE ?_|with_reducible refine WF ?_)
    all_goals exact AZ rfl hk
end
def NL (atom:Rd Nd) (l:List Nd):Rd Nd:=.seq atom λn=>.seq (.loop (L4 atom) (l++[n])) λl=>.ret (IJ 11 l)
section
variable {st0 st:St} {s:Af} {rows:List (AF×List Nd)} {K:AL->St->Prop} {Q:Nd->Af->Prop} {E:Er->Af->Prop} {d:Nat} {L:C8} {atom stm opd full exp stmt:Rd Nd}
theorem lT {l:List Nd} (U:Rd.A7 atom) (h:Rd.wp (NL atom l) s Q E):Rd.wp atom s (λn s1=>if Df (Aa s1).1=true then Rd.wp (NL atom (l++[n])) s1 Q E else Q (IJ 11 (l++[n])) s1) E:=by
 unfold NL at h
 rw [Rd.wp_seq] at h
 refine Rd.wp_mono h (λn s1 _ h=>?_) λ_ _ _ h=>h
 rw [Rd.wp_seq,Rd.wp_loop] at h
 replace h:Rd.wp (L4 atom (l++[n])) s1 (Rd.again (L4 atom) s1 (λv s'=>Q (IJ 11 v) s') E) E:=h
 unfold L4 at h
 rw [Rd.Ah,Rd.Az] at h
 split at h
 .rename_i hi
  rw [if_pos hi]
  unfold NL
  rw [Rd.wp_seq] at h |-
  refine Rd.wp_mono h (λn2 s2 hr h=>?_) λ_ _ _ h=>h
  rw [Rd.wp_seq]
  exact Rd.BF h (U _ _ _ hr)
 .rename_i hi
  rw [if_neg hi]
  rw [Rd.wp_ret,Rd.A5] at h
  exact h
theorem eX (U:mu s<=100000000) (k:∀n s' e,K (.ret (AO n s' e)) st):PC 63 [Am s] st K:=by
 refine PN (BB U) ?_
 split<;>exact k _ _ _
attribute [local irreducible] Go.Aw.Ag
theorem Ri (hm:mu s<=100000000) (hc:Rx st0 st rows) (ha:BO 144 (λs=>[Am s,.int .i64 ((d+1:Nat):Int)]) atom) (hF:Rd.A7 atom)
 (hk:(Aa s).1.kind=10/\¬(Aa s).1.text=[92]\/(Aa s).1.kind=9/\¬(Aa s).1.text=UK/\¬(Aa s).1.text=sx/\¬(Aa s).1.text=Tf/\¬(Aa s).1.text=sw\/¬(Aa s).1.kind=10/\¬(Aa s).1.kind=9)
 (h:Rd.wp (L5 atom) s (λv s'=>∀st',Rx st0 st' rows->K (.ret (AO v s' 0)) st') (λe s'=>∀n st',Rx st0 st' rows->K (.ret (AO n s' e.1)) st')):PC 193 [Am s,.int .i64 ((d+1:Nat):Int)] st K:=by
 replace h:Rd.wp (NL atom []) s (λv s'=>∀st',Rx st0 st' rows->K (.ret (AO v s' 0)) st') (λe s'=>∀n st',Rx st0 st' rows->K (.ret (AO n s' e.1)) st'):=h
 refine Bu Ad [] Tryz.func193 rfl Do rfl ?_
 refine Ak (Al Ad ?_)
 repeat' ((conv=>whnf);first|(refine AG ?_;intros)|(refine AH ?_ ?_<;>intro e h)|(refine AJ ?_ ?_<;>intro _)|refine Hx (λ_=>?_) ?_|fail)
 refine Ak (Al Ad ?_)
 repeat' ((conv=>whnf);first|(refine AG ?_;intros)|(refine AH ?_ ?_<;>intro e h)|(refine AJ ?_ ?_<;>intro _)|refine Hx (λ_=>?_) ?_|refine Ca ?_|(refine D5 ?_;intro s1 hz hl hm h)|refine DQ (λn s1 U hr hl hm hc h=>?_) (λe n s1 U he hc h=>?_)|(refine CN ?_;intro own1 U hc)|refine Bj (λ_=>?_)|refine Ac (λe1=>?_)|exact B3|fail)
 refine Ak (Al Ad ?_)
 repeat' ((conv=>whnf);first|(refine AG ?_;intros)|(refine AH ?_ ?_<;>intro e h)|(refine AJ ?_ ?_<;>intro _)|refine Hx (λ_=>?_) ?_|refine eX hm (λn s' e=>?_))
 refine Ak (Al Ad ?_)
 repeat' ((conv=>whnf);first|(refine AG ?_;intros)|(refine AH ?_ ?_<;>intro e h)|(refine AJ ?_ ?_<;>intro _)|refine Hx (λ_=>?_) ?_|fail)
 refine P5 [] [(3,CY n s' e)] [1,2,4,6] [0,1] (Al Ad ?_) ?_
 .rcases hk with ⟨k1,k2⟩|⟨k1,k2,k3,k4,k5⟩|⟨k1,k2⟩
  all_goals (repeat' ((conv=>whnf);first|(refine AG ?_;intros)|(refine AH ?_ ?_<;>intro e h)|(refine AJ ?_ ?_<;>intro _)|refine Hx (λ_=>?_) ?_|fail))
  all_goals exact ⟨Yl,St.le_refl _⟩
 refine Ak (Al Ad ?_)
 repeat' ((conv=>whnf);first|(refine AG ?_;intros)|(refine AH ?_ ?_<;>intro e h)|(refine AJ ?_ ?_<;>intro _)|refine Hx (λ_=>?_) ?_|fail)
 refine Al Ad ?_
 repeat' ((conv=>whnf);first|(refine AG ?_;intros)|(refine AH ?_ ?_<;>intro e h)|(refine AJ ?_ ?_<;>intro _)|refine Hx (λ_=>?_) ?_|fail)
 refine GV (λp=>NL atom p.1) (x0:=([],n,s',e)) (λp s own=>[(7,.slice 6 (p.1.map Ax) own)]) (λp s own=>[(0,s.cells),(3,CY p.2.1 p.2.2.1 p.2.2.2)]) [1,2,4,6] [1] (λp own=>(own,p.1)::rows) (λp=>p.1.length) .full hm (hc.push []) h la Yl ?_
 rintro ⟨l,n,s',e⟩ s1 U own1 hm1 hm2 hc h hl
 dsimp only at hc h hl
 have h:=lT hF h
 by_cases hn:l=[]
 .subst hn
  have e1:∀n:Nd,¬(((([]++[n]:List Nd).length:Nat):Int)>1):=λn=>by show ¬(1:Int)>1;omega
  repeat' ((conv=>whnf);first|refine Ww (e1 _) ?_|(refine AG ?_;intros)|(refine AH ?_ ?_<;>intro e h)|(refine AJ ?_ ?_<;>intro _)|refine Hx (λ_=>?_) ?_|refine BO.UN ha hF ‹_› hc h (λn s1 U hr hl hm hc h=>?_) (λe n s1 U he hc h=>?_)|exact ⟨⟨(_,_,_,_),_,_,_⟩,⟨hm,(by dsimp only<;>omega),hc,h,So⟩,(by dsimp only<;>omega),Yl,St.le_refl _⟩|refine Ca ?_|(refine D5 ?_;intro s1 hz hl hm h)|refine DQ (λn s1 U hr hl hm hc h=>?_) (λe n s1 U he hc h=>?_)|(refine CN ?_;intro own1 U hc)|refine Bj (λ_=>?_)|refine Ac (λe1=>?_)|exact B3|fail)
 .have e1:∀n:Nd,((((l++[n]:List Nd).length:Nat):Int))>1:=λn=>by rw [List.length_append,List.length_singleton];have:=List.length_pos_iff.2 hn;omega
  have e2:∀n:Nd,IJ 11 (l++[n])=Ar 11 (l++[n]):=λn=>by have:=e1 n;unfold IJ;rw [if_neg AC]
  simp only [e2] at h
  repeat' ((conv=>whnf);first|refine Wv (e1 _) ?_|(refine AG ?_;intros)|(refine AH ?_ ?_<;>intro e h)|(refine AJ ?_ ?_<;>intro _)|refine Hx (λ_=>?_) ?_|refine BO.UN ha hF ‹_› hc h (λn s1 U hr hl hm hc h=>?_) (λe n s1 U he hc h=>?_)|exact ⟨⟨(_,_,_,_),_,_,_⟩,⟨hm,(by dsimp only<;>omega),hc,h,So⟩,(by dsimp only<;>omega),Yl,St.le_refl _⟩|refine Ca ?_|(refine D5 ?_;intro s1 hz hl hm h)|refine DQ (λn s1 U hr hl hm hc h=>?_) (λe n s1 U he hc h=>?_)|(refine CN ?_;intro own1 U hc)|refine Bj (λ_=>?_)|refine Ac (λe1=>?_)|exact B3|fail)
theorem Xg (hd:d<=1000000) (hL:Jy d L stm opd full) (ha:BO 144 (λs=>[Am s,.int .i64 ((d+1:Nat):Int)]) atom) (hF:Rd.A7 atom) (hD:Dv atom) (hA:sB atom):
 BO 193 (λs=>[Am s,.int .i64 ((d+1:Nat):Int)]) (HR L atom):=by
 refine ⟨λ{st0 s st rows K} hm hc h=>?_⟩
 simp only [HR,Rd.Ah,Rd.Az,iv,sY,fR,qp,oL,Rd.wp_seq,beq_iff_eq] at h
 by_cases k1:(Aa s).1.kind=10
 .rw [if_pos k1] at h
  by_cases k2:(Aa s).1.text=[92]
  .rw [if_pos k2] at h
   refine pB Tryz.func193 ?_
   repeat' ((conv=>whnf);first|(refine AG ?_;intros)|(refine AH ?_ ?_<;>intro e h)|(refine AJ ?_ ?_<;>intro _)|refine Hx (λ_=>?_) ?_|refine FC ‹_› h AC (λs1 hz hl hm h=>?_)|refine BO.go (Zp hd hL ha hF hD hA) ‹_› hc h (λn s1 U hr hl hm hc h=>?_) (λe n s1 U he hc h=>?_)|refine Ca ?_|(refine D5 ?_;intro s1 hz hl hm h)|refine DQ (λn s1 U hr hl hm hc h=>?_) (λe n s1 U he hc h=>?_)|(refine CN ?_;intro own1 U hc)|refine Bj (λ_=>?_)|refine Ac (λe1=>?_)|exact B3|fail)
  .rw [if_neg k2] at h
   exact Ri hm hc ha hF (.inl ⟨k1,k2⟩) h
 rw [if_neg k1] at h
 by_cases k9:(Aa s).1.kind=9
 .rw [if_pos k9] at h
  by_cases t1:(Aa s).1.text=UK
  .rw [if_pos t1] at h
   refine pB Tryz.func193 ?_
   repeat' ((conv=>whnf);first|(refine AG ?_;intros)|(refine AH ?_ ?_<;>intro e h)|(refine AJ ?_ ?_<;>intro _)|refine Hx (λ_=>?_) ?_|refine FC ‹_› h AC (λs1 hz hl hm h=>?_)|refine BO.go (dZ hd hL) ‹_› hc h (λn s1 U hr hl hm hc h=>?_) (λe n s1 U he hc h=>?_)|refine Ca ?_|(refine D5 ?_;intro s1 hz hl hm h)|refine DQ (λn s1 U hr hl hm hc h=>?_) (λe n s1 U he hc h=>?_)|(refine CN ?_;intro own1 U hc)|refine Bj (λ_=>?_)|refine Ac (λe1=>?_)|exact B3|fail)
  rw [if_neg t1] at h
  by_cases t2:(Aa s).1.text=sx
  .rw [if_pos t2] at h
   have t1:¬(Aa s).1.text=[108,101,116]:=by rw [t2];decide
   refine pB Tryz.func193 ?_
   repeat' ((conv=>whnf);first|(refine AG ?_;intros)|(refine AH ?_ ?_<;>intro e h)|(refine AJ ?_ ?_<;>intro _)|refine Hx (λ_=>?_) ?_|refine FC ‹_› h AC (λs1 hz hl hm h=>?_)|refine BO.go (Zk hd hL) ‹_› hc h (λn s1 U hr hl hm hc h=>?_) (λe n s1 U he hc h=>?_)|refine Ca ?_|(refine D5 ?_;intro s1 hz hl hm h)|refine DQ (λn s1 U hr hl hm hc h=>?_) (λe n s1 U he hc h=>?_)|(refine CN ?_;intro own1 U hc)|refine Bj (λ_=>?_)|refine Ac (λe1=>?_)|exact B3|fail)
  rw [if_neg t2] at h
  by_cases t3:(Aa s).1.text=Tf
  .rw [if_pos t3] at h
   refine pB Tryz.func193 ?_
   repeat' ((conv=>whnf);first|(refine AG ?_;intros)|(refine AH ?_ ?_<;>intro e h)|(refine AJ ?_ ?_<;>intro _)|refine Hx (λ_=>?_) ?_|refine FC ‹_› h AC (λs1 hz hl hm h=>?_)|refine BO.go (dR hd hL) ‹_› hc h (λn s1 U hr hl hm hc h=>?_) (λe n s1 U he hc h=>?_)|refine Ca ?_|(refine D5 ?_;intro s1 hz hl hm h)|refine DQ (λn s1 U hr hl hm hc h=>?_) (λe n s1 U he hc h=>?_)|(refine CN ?_;intro own1 U hc)|refine Bj (λ_=>?_)|refine Ac (λe1=>?_)|exact B3|fail)
  rw [if_neg t3] at h
  by_cases t4:(Aa s).1.text=sw
  .rw [if_pos t4] at h
   refine pB Tryz.func193 ?_
   repeat' ((conv=>whnf);first|(refine AG ?_;intros)|(refine AH ?_ ?_<;>intro e h)|(refine AJ ?_ ?_<;>intro _)|refine Hx (λ_=>?_) ?_|refine FC ‹_› h AC (λs1 hz hl hm h=>?_)|refine BO.go (et hd hL) ‹_› hc h (λn s1 U hr hl hm hc h=>?_) (λe n s1 U he hc h=>?_)|refine Ca ?_|(refine D5 ?_;intro s1 hz hl hm h)|refine DQ (λn s1 U hr hl hm hc h=>?_) (λe n s1 U he hc h=>?_)|(refine CN ?_;intro own1 U hc)|refine Bj (λ_=>?_)|refine Ac (λe1=>?_)|exact B3|fail)
  rw [if_neg t4] at h
  exact Ri hm hc ha hF (.inr (.inl ⟨k9,t1,t2,t3,t4⟩)) h
 .rw [if_neg k9] at h
  exact Ri hm hc ha hF (.inr (.inr ⟨k1,k9⟩)) h
end
theorem Vp {l:List Nd} {own:AF} {s:Af} {e:Int}:AL.ret (AO (DS false l) s e)=(AL.ret (.agg [.int .i64 2,.int .i64 0,.str [],.int .i64 0,.int .i64 0,.slice 6 (l.map Ax) own,.slice 4 (A4 s.As) .any,.int .i64 s.pos,.slice 1 (ints s.BT) .any,.int .i64 s.wait,.int .i64 e])).wk:=QL (f:=false)
theorem OB {l:List Nd} {own:AF} {s:Af} {e:Int}:AL.ret (AO (DS true l) s e)=(AL.ret (.agg [.int .i64 2,.int .i64 1,.str [],.int .i64 0,.int .i64 0,.slice 6 (l.map Ax) own,.slice 4 (A4 s.As) .any,.int .i64 s.pos,.slice 1 (ints s.BT) .any,.int .i64 s.wait,.int .i64 e])).wk:=QL (f:=true)
section
variable {st0 st:St} {s:Af} {rows:List (AF×List Nd)} {K:AL->St->Prop} {E:Er->Af->Prop} {d:Nat}
theorem om {Q:Unit->Af->Prop} (U:mu s<=100000000) (hk:(Aa s).1.kind=18) (h:Rd.wp Hh s Q E) (k:∀n s1,mu s1<mu s->mu s1<=100000000->Q () s1->K (.ret (.Bh [.int .i64 0,AO n s1 0])) st):PC 113 [Am s] st K:=by
 rw [Hh,Rd.wp_seq] at h
 refine pB Tryz.func113 ?_
 repeat' ((conv=>whnf);first|(refine AG ?_;intros)|(refine AH ?_ ?_<;>intro e h)|(refine AJ ?_ ?_<;>intro _)|refine FC ‹_› h AC (λs1 hz hl U h=>?_)|exact AZ rfl (k _ _ hl U h)|refine Ca ?_|(refine D5 ?_;intro s1 hz hl U h)|refine DQ (λn s1 st1 hr hl U hc h=>?_) (λe n s1 st1 he hc h=>?_)|refine Ac (λe1=>?_)|exact B3|fail)
theorem oo {Q:Nd->Af->Prop} (hm:mu s<=100000000) (hc:Rx st0 st rows) (hk:¬(Aa s).1.kind=18) (h:Rd.wp (BU 15 [123]) s Q E) (k:∀n s1 st',mu s1<mu s->mu s1<=100000000->Rx st0 st' rows->Q n s1->K (.ret (.Bh [.int .i64 1,AO n s1 0])) st')
 (kb:∀e n s1 st',¬e.1=0->Rx st0 st' rows->E e s1->K (.ret (.Bh [.int .i64 1,AO n s1 e.1])) st'):PC 113 [Am s] st K:=by
 refine pB Tryz.func113 ?_
 repeat' ((conv=>whnf);first|(refine AG ?_;intros)|(refine AH ?_ ?_<;>intro e h)|(refine AJ ?_ ?_<;>intro _)|refine BO.UN (KV Do) (Mg Do) ‹_› hc h (λn s1 U hr hl hm hc h=>?_) (λe n s1 U he hc h=>?_)|exact AZ rfl (k _ _ _ hl hm hc h)|exact AZ rfl (kb _ _ _ _ he hc h)|refine Ca ?_|(refine D5 ?_;intro s1 hz hl hm h)|refine DQ (λn s1 U hr hl hm hc h=>?_) (λe n s1 U he hc h=>?_)|refine Ac (λe1=>?_)|exact B3|fail)
theorem oe (h0:BO 31 (λs=>[Am s,.int .i64 D]) A):BO 118 (λs=>[Am s,.int .i64 D,.int .i64 0]) A:=by
 refine ⟨λ{st0 s st rows K} hm hc h=>?_⟩
 refine pB Tryz.func118 ?_
 repeat' ((conv=>whnf);first|(refine AG ?_;intros)|(refine AH ?_ ?_<;>intro e h)|(refine AJ ?_ ?_<;>intro _)|refine BO.go h0 ‹_› hc h (λn s1 U hr hl hm hc h=>?_) (λe n s1 U he hc h=>?_)|refine Ac (λe1=>?_)|exact B3|fail)
theorem og (h0:BO 27 (λs=>[Am s,.int .i64 D]) A):BO 118 (λs=>[Am s,.int .i64 D,.int .i64 1]) A:=by
 refine ⟨λ{st0 s st rows K} hm hc h=>?_⟩
 refine pB Tryz.func118 ?_
 repeat' ((conv=>whnf);first|(refine AG ?_;intros)|(refine AH ?_ ?_<;>intro e h)|(refine AJ ?_ ?_<;>intro _)|refine BO.go h0 ‹_› hc h (λn s1 U hr hl hm hc h=>?_) (λe n s1 U he hc h=>?_)|refine Ac (λe1=>?_)|exact B3|fail)
theorem oh (h0:BO 29 (λs=>[Am s,.int .i64 D]) A):BO 118 (λs=>[Am s,.int .i64 D,.int .i64 2]) A:=by
 refine ⟨λ{st0 s st rows K} hm hc h=>?_⟩
 refine pB Tryz.func118 ?_
 repeat' ((conv=>whnf);first|(refine AG ?_;intros)|(refine AH ?_ ?_<;>intro e h)|(refine AJ ?_ ?_<;>intro _)|refine BO.go h0 ‹_› hc h (λn s1 U hr hl hm hc h=>?_) (λe n s1 U he hc h=>?_)|refine Ac (λe1=>?_)|exact B3|fail)
theorem WX {U:Bool} {P R:Af->Prop} (e:U=m) (hm:mu s<=100000000) (h:Rd.wp (HA false U) s (λe s'=>if e=true then P s' else R s') E)
 (k1:∀s',mu s'<=mu s->mu s'<=100000000->P s'->K (.ret (.Bh [.bool true,AO FR s' 0])) st) (k2:R s->K (.ret (.Bh [.bool false,AO FR s 0])) st) (kb:∀e:Er,¬e.1=0->E e s->K (.ret (.Bh [.bool true,AO FR s e.1])) st):
 PC 117 [Am s,.int .i64 0,.bool m] st K:=by
 subst e
 exact WZ (f:=false) hm h k1 k2 kb
theorem WY {U:Bool} {P R:Af->Prop} (e:U=m) (hm:mu s<=100000000) (h:Rd.wp (HA true U) s (λe s'=>if e=true then P s' else R s') E)
 (k1:∀s',mu s'<=mu s->mu s'<=100000000->P s'->K (.ret (.Bh [.bool true,AO FR s' 0])) st) (k2:R s->K (.ret (.Bh [.bool false,AO FR s 0])) st) (kb:∀e:Er,¬e.1=0->E e s->K (.ret (.Bh [.bool true,AO FR s e.1])) st):
 PC 117 [Am s,.int .i64 1,.bool m] st K:=by
 subst e
 exact WZ (f:=true) hm h k1 k2 kb
attribute [local irreducible] Go.Aw.Ag
theorem N9 {w:Int} {U:Tk->Bool} (hd:d+1<=100) (hst:w=0/\U=Hb\/¬w=0/\U=DA) (hi:BO 118 (λs=>[Am s,.int .i64 ((d+1:Nat):Int),.int .i64 w]) item) (hF:Rd.A7 item):
 BO 58 (λs=>[Am s,.int .i64 ((d+1:Nat):Int),.int .i64 w]) (CX U item):=by
 refine ⟨λ{st0 s st rows K} hm hc h=>?_⟩
 have hb:∀f,(Rd.seq (.loop (Iw U item f) []) λl=>.ret (DS f l))=L8 U item f []:=λ_=>rfl
 unfold CX at h
 rw [Rd.Ah,Rd.Az,Rd.wp_seq,Rd.wp_seq,hb,hb] at h
 have hdcl:∀{t:Tk} {st:St} {K:AL->St->Prop},K (.ret (.bool (Hb t))) st->PC 116 [Eb t] st K:=λh=>jA h
 by_cases hk:(Aa s).1.kind=18
 .rw [if_pos (beq_iff_eq.2 hk)] at h
  refine pB Tryz.func58 ?_
  repeat' ((conv=>whnf);first|exact Dk|(refine AG ?_;intros)|(refine Dl ?_ ?_ ?_;rotate_left)|(refine AH ?_ ?_<;>intro e h)|(refine AJ ?_ ?_<;>intro _)|refine om ‹_› hk h (λn s1 hl hm h=>?_)|refine Ca ?_|(refine CN ?_;intro own1 st1 hc)|refine Ac (λe1=>?_)|exact B3|with_reducible refine WF ?_)
  refine GV (λl=>L8 U item false l) (x0:=[]) (λl s own=>[]) (λl s own=>[(0,s.cells),(3,[.int .i64 2,.int .i64 0,.str [],.int .i64 0,.int .i64 0,.slice 6 (l.map Ax) own])]) [1,2,3,6,7,9] [1] (λl own=>(own,l)::rows) (λl=>l.length) .full hm (hc.push []) h la Yl ?_
  intro l s1 st1 own1 hm1 hm2 hc h hl
  simp only [L8,Iw,Rd.Ah,Rd.Az,Rd.wp_seq,Rd.wp_loop,Rd.wp_ret,Rd.A5] at h
  rcases hst with ⟨hw,rfl⟩|⟨hw,rfl⟩
  all_goals (repeat' ((conv=>whnf);first|exact Dk|(refine AG ?_;intros)|(refine Dl ?_ ?_ ?_;rotate_left)|(refine AH ?_ ?_<;>intro e h)|(refine AJ ?_ ?_<;>intro _)|refine Xl ‹_› hc h (λs1 st1 hl hm hc h=>?_)|refine hdcl ?_|refine SS ‹_› ?_|refine WX (aW ‹_›) ‹_› h (λs1 hl hm h=>?_) (λh=>?_) (λe he h=>?_)|refine WX (aV ‹_›) ‹_› h (λs1 hl hm h=>?_) (λh=>?_) (λe he h=>?_)|refine BO.UN hi hF ‹_› hc h (λn s1 st1 hr hl hm hc h=>?_) (λe n s1 st1 he hc h=>?_)|exact Fc hc.drop h Vp|exact ⟨⟨_,_,_,_⟩,⟨hm,(by dsimp only<;>omega),hc,(by simp only [L8,Rd.wp_seq,Rd.wp_ret]<;>exact Rd.BF h AC),So⟩,(by dsimp only<;>omega),Yl,St.le_refl _⟩|refine Ca ?_|(refine CN ?_;intro own1 st1 hc)|refine Ac (λe1=>?_)|exact B3|refine Ae [(0,true),(1,true),(2,true),(3,false),(4,true),(5,false),(6,true),(7,true),(8,true),(9,true),(10,false)] [5] GE ?_|with_reducible refine WF ?_))
 .rw [if_neg (λe=>hk (beq_iff_eq.1 e))] at h
  refine pB Tryz.func58 ?_
  repeat' ((conv=>whnf);first|exact Dk|(refine AG ?_;intros)|(refine Dl ?_ ?_ ?_;rotate_left)|(refine AH ?_ ?_<;>intro e h)|(refine AJ ?_ ?_<;>intro _)|refine oo ‹_› hc hk h (λn s1 st1 hl hm hc h=>?_) (λe n s1 st1 he hc h=>?_)|refine Ca ?_|(refine CN ?_;intro own1 st1 hc)|refine Ac (λe1=>?_)|exact B3|with_reducible refine WF ?_)
  refine GV (λl=>L8 U item true l) (x0:=[]) (λl s own=>[]) (λl s own=>[(0,s.cells),(3,[.int .i64 2,.int .i64 1,.str [],.int .i64 0,.int .i64 0,.slice 6 (l.map Ax) own])]) [1,2,3,6,7,9] [1] (λl own=>(own,l)::rows) (λl=>l.length) .full hm (hc.push []) h la Yl ?_
  intro l s1 st1 own1 hm1 hm2 hc h hl
  simp only [L8,Iw,Rd.Ah,Rd.Az,Rd.wp_seq,Rd.wp_loop,Rd.wp_ret,Rd.A5] at h
  rcases hst with ⟨hw,rfl⟩|⟨hw,rfl⟩
  all_goals (repeat' ((conv=>whnf);first|exact Dk|(refine AG ?_;intros)|(refine Dl ?_ ?_ ?_;rotate_left)|(refine AH ?_ ?_<;>intro e h)|(refine AJ ?_ ?_<;>intro _)|refine Xl ‹_› hc h (λs1 st1 hl hm hc h=>?_)|refine hdcl ?_|refine SS ‹_› ?_|refine WY (aW ‹_›) ‹_› h (λs1 hl hm h=>?_) (λh=>?_) (λe he h=>?_)|refine WY (aV ‹_›) ‹_› h (λs1 hl hm h=>?_) (λh=>?_) (λe he h=>?_)|refine BO.UN hi hF ‹_› hc h (λn s1 st1 hr hl hm hc h=>?_) (λe n s1 st1 he hc h=>?_)|exact Fc hc.drop h OB|exact Fc hc.drop (h _) OB|exact ⟨⟨_,_,_,_⟩,⟨hm,(by dsimp only<;>omega),hc,(by simp only [L8,Rd.wp_seq,Rd.wp_ret]<;>exact Rd.BF h AC),So⟩,(by dsimp only<;>omega),Yl,St.le_refl _⟩|refine Ca ?_|(refine CN ?_;intro own1 st1 hc)|refine Ac (λe1=>?_)|exact B3|refine Ae [(0,true),(1,true),(2,true),(3,false),(4,true),(5,false),(6,true),(7,true),(8,true),(9,true),(10,false)] [5] GE ?_|with_reducible refine WF ?_))
end
section
variable {st:St} {R:AL->St->Prop}
attribute [local irreducible] Go.Aw.Ag
theorem mb {c:Nat} {s:Af} {deep:Int} {q:Rs} (hq:¬deep<1->∀(b:Nat) (st5:St) (R:AL->St->Prop),st.le st5->Has st5 b s->Gu st5 b R q->PC f [.ptr b 0,.int .i64 (if 100<deep then 100 else deep),.ptr c 0] st5 R) (h:R (.ret (Kd (Ct s deep q))) st):PC 49 [Am s,.int .i64 deep,.func f [] [.ptr c 0]] st R:=by
 refine Bc.ends (Nj Ad [6,7,8,9,12] Tryz.func49 rfl Do rfl rfl rfl rfl rfl rfl ⟨_,Tryz.func95,rfl,Do⟩ rfl ?_)
 repeat' ((conv=>whnf);first|exact Dk|(refine AG ?_;intros)|(refine Dl ?_ ?_ ?_;rotate_left)|(refine AH ?_ ?_<;>intro e h)|(refine AJ ?_ ?_<;>intro _)|refine aQ (λb5 f5=>?_)|refine AB (St.An ..) ?_|with_reducible refine WF ?_)
 rename_i b1 f1 b2 f2 b3 f3 b4 f4
 obtain ⟨n12,f2a⟩:=B8 f2
 obtain ⟨n23,f3a⟩:=B8 f3
 obtain ⟨n13,f3b⟩:=B8 f3a
 obtain ⟨n34,f4a⟩:=B8 f4
 obtain ⟨n24,f4b⟩:=B8 f4a
 obtain ⟨n14,f4c⟩:=B8 f4b
 obtain ⟨n45,f5a⟩:=B8 f5
 obtain ⟨n35,f5b⟩:=B8 f5a
 obtain ⟨n25,f5c⟩:=B8 f5b
 obtain ⟨n15,f5d⟩:=B8 f5c
 conv=>whnf
 refine ⟨rfl,Ay rfl ?_⟩
 generalize hst5:St.Ab _ b5 [V.ptr b4 0]=st5
 have k1:st5.box b1=some D0:=by subst hst5;rw [St.AA n15.symm,St.AA n15.symm,St.AA n14.symm,St.AA n13.symm,St.AA n12.symm,St.An];rfl
 have k2:st5.box b2=some [.slice 4 (A4 Fy.As) .full,.int .i64 Fy.pos,.slice 1 (ints Fy.BT) .full,.int .i64 Fy.wait]:=by subst hst5;rw [St.AA n25.symm,St.AA n25.symm,St.AA n24.symm,St.AA n23.symm,St.An];rfl
 have k3:st5.box b3=some [.int .i64 0]:=by subst hst5;rw [St.AA n35.symm,St.AA n35.symm,St.AA n34.symm,St.An]
 have k4:Has st5 b4 s:=by subst hst5;refine .inr ⟨eO,Fy,.full,.full,0,?_⟩;rw [St.AA n45.symm,St.AA n45.symm,St.An];rfl
 have k5:st5.box b5=some [.ptr b4 0]:=by subst hst5;rw [St.An]
 have kle:st.le st5:=by
  subst hst5
  exact St.Au (St.Au (St.Au (St.Au (St.Au (St.Au (St.le_refl _) f1.1 _) f2a.1 _) f3b.1 _) f4c.1 _) f5d.1 _) f5d.1 _
 have kpan:∀(U:St) (e:Int) (s':Af),H9 st5 U b4 s'->U.box b5=some [.ptr b4 0]/\U.box b1=some D0/\U.box b2=some [.slice 4 (A4 Fy.As) .full,.int .i64 Fy.pos,.slice 1 (ints Fy.BT) .full,.int .i64 Fy.wait]/\U.box b3=some [.int .i64 0]/\st.le U:=by
  rintro U e s' ⟨_,cs,rfl⟩
  exact ⟨by rw [St.AA n45];exact k5,by rw [St.AA n14.symm];exact k1,by rw [St.AA n24.symm];exact k2,by rw [St.AA n34.symm];exact k3,St.Au kle f4c.1 _⟩
 clear hst5 f2 f3 f4 f5 f3a f4a f4b f5a f5b f5c
 refine Ak (Al Ad ?_)
 repeat' ((conv=>whnf);first|exact Dk|(refine AG ?_;intros)|(refine Dl ?_ ?_ ?_;rotate_left)|(refine AH ?_ ?_<;>intro e h)|(refine AJ ?_ ?_<;>intro _)|refine AB k5 ?_|refine FI ?_|with_reducible refine WF ?_)
 .refine JD (n0:=FR) (s0:=Fy) k5 k4 k1 k2 k3 n15 n14 n12 n13 n25 n24 n23 ?_
  have g1:(((st5.Ab b1 D0).Ab b2 s.cells).Ab b3 [.int .i64 2]).box b1=some D0:=by rw [St.AA n13.symm,St.AA n12.symm,St.An]
  have g2:(((st5.Ab b1 D0).Ab b2 s.cells).Ab b3 [.int .i64 2]).box b2=some s.cells:=by rw [St.AA n23.symm,St.An]
  have gl:st.le (((st5.Ab b1 D0).Ab b2 s.cells).Ab b3 [.int .i64 2]):=St.Au (St.Au (St.Au kle f1.1 _) f2a.1 _) f3b.1 _
  unfold Ct at h
  rw [if_pos ‹_›] at h
  repeat' ((conv=>whnf);first|exact Dk|(refine AG ?_;intros)|(refine Dl ?_ ?_ ?_;rotate_left)|(refine AH ?_ ?_<;>intro e h)|(refine AJ ?_ ?_<;>intro _)|refine AB g1 ?_|refine AB g2 ?_|refine AB (St.An ..) ?_|with_reducible refine WF ?_)
  all_goals exact CI gl rfl h
 .rename_i hd
  unfold Ct at h
  rw [if_neg hd] at h
  have hq:=λst5 R h=>hq hd b4 st5 R h
  refine Ak (Al Ad ?_)
  cases q with
  |inl q=>
   obtain ⟨e,s'⟩:=q
   repeat' ((conv=>whnf);first|exact Dk|(refine AG ?_;intros)|(refine Dl ?_ ?_ ?_;rotate_left)|(refine AH ?_ ?_<;>intro e h)|(refine AJ ?_ ?_<;>intro _)|refine AB k5 ?_|refine ⟨_,rfl,?_⟩|refine hq _ _ kle k4 (λU hu=>?_)|with_reducible refine WF ?_)
   obtain ⟨j5,j1,j2,j3,jle⟩:=kpan U e s' hu
   refine JD (n0:=FR) (s0:=Fy) j5 hu.1 j1 j2 j3 n15 n14 n12 n13 n25 n24 n23 ?_
   have g1:(((U.Ab b1 D0).Ab b2 s'.cells).Ab b3 [.int .i64 e]).box b1=some D0:=by rw [St.AA n13.symm,St.AA n12.symm,St.An]
   have g2:(((U.Ab b1 D0).Ab b2 s'.cells).Ab b3 [.int .i64 e]).box b2=some s'.cells:=by rw [St.AA n23.symm,St.An]
   have gl:st.le (((U.Ab b1 D0).Ab b2 s'.cells).Ab b3 [.int .i64 e]):=St.Au (St.Au (St.Au jle f1.1 _) f2a.1 _) f3b.1 _
   repeat' ((conv=>whnf);first|exact Dk|(refine AG ?_;intros)|(refine Dl ?_ ?_ ?_;rotate_left)|(refine AH ?_ ?_<;>intro e h)|(refine AJ ?_ ?_<;>intro _)|refine AB g1 ?_|refine AB g2 ?_|refine AB (St.An ..) ?_|with_reducible refine WF ?_)
   all_goals exact CI gl rfl h
  |inr q=>
   obtain ⟨n,s'⟩:=q
   have kret:=λU hu=>kpan U 0 s' hu
   repeat' ((conv=>whnf);first|exact Dk|(refine AG ?_;intros)|(refine Dl ?_ ?_ ?_;rotate_left)|(refine AH ?_ ?_<;>intro e h)|(refine AJ ?_ ?_<;>intro _)|refine AB k5 ?_|refine ⟨_,rfl,?_⟩|refine hq _ _ kle k4 (λU hu=>?_)|refine AB (kret U hu).2.1 ?_|with_reducible refine WF ?_)
   obtain ⟨j5,j1,j2,j3,jle⟩:=kret U hu
   generalize hst7:U.Ab b1 (Ax n)=st7
   have i1:st7.box b1=some (Ax n):=by subst hst7;rw [St.An]
   have i5:st7.box b5=some [.ptr b4 0]:=by subst hst7;rw [St.AA n15];exact j5
   have i2:st7.box b2=some [.slice 4 (A4 Fy.As) .full,.int .i64 Fy.pos,.slice 1 (ints Fy.BT) .full,.int .i64 Fy.wait]:=by subst hst7;rw [St.AA n12];exact j2
   have i3:(st7.Ab b2 s'.cells).box b3=some [.int .i64 0]:=by subst hst7;rw [St.AA n23,St.AA n13];exact j3
   have i4:Has st7 b4 s':=by
    subst hst7
    rcases hu.1 with e|⟨t,u,o1,o2,e',e⟩
    .exact .inl (by rw [St.AA n14];exact e)
    .exact .inr ⟨t,u,o1,o2,e',by rw [St.AA n14];exact e⟩
   have ile:st.le st7:=by subst hst7;exact St.Au jle f1.1 _
   refine Ak (Yj Ad (CB _) (λbs=>fU bs b1 b2 b3 b4 b5 (Ax n) s'.cells) (fW st7 b2 b3 s'.cells) Pp GE Yl (by rw [<-hst7];exact St.le_refl _) ?_ ?_)
   .skip
    unfold Pp
    rcases i4 with i4|⟨t,u,q1,q2,q3,i4⟩
    all_goals repeat' (first|refine List.forall_mem_cons.2 ⟨?_,?_⟩|exact λ_ h=>nomatch h)
    repeat' ((conv=>whnf);first|exact Dk|(refine AG ?_;intros)|(refine Dl ?_ ?_ ?_;rotate_left)|(refine AH ?_ ?_<;>intro e h)|(refine AJ ?_ ?_<;>intro _)|refine AB i5 ?_|refine AB i1 ?_|refine AB i4 ?_|refine AB i2 ?_|refine AB i3 ?_|with_reducible refine WF ?_)
    all_goals conv=>whnf
    all_goals (refine ⟨Yl,?_⟩)
    all_goals first|exact St.le_refl _|exact aH i1
   .refine Al Ad (Qp (bp:=b5) ?_)
    have g1:((st7.Ab b2 s'.cells).Ab b3 [.int .i64 0]).box b1=some (Ax n):=by rw [St.AA n13.symm,St.AA n12.symm];exact i1
    have g2:((st7.Ab b2 s'.cells).Ab b3 [.int .i64 0]).box b2=some s'.cells:=by rw [St.AA n23.symm,St.An]
    have gl:st.le ((st7.Ab b2 s'.cells).Ab b3 [.int .i64 0]):=St.Au (St.Au ile f2a.1 _) f3b.1 _
    repeat' ((conv=>whnf);first|exact Dk|(refine AG ?_;intros)|(refine Dl ?_ ?_ ?_;rotate_left)|(refine AH ?_ ?_<;>intro e h)|(refine AJ ?_ ?_<;>intro _)|refine AB g1 ?_|refine AB g2 ?_|refine AB (St.An ..) ?_|with_reducible refine WF ?_)
    all_goals exact CI gl rfl h
end
def CS (A:Rd Nd) (s:Af):Rs:=match A.run s with
 | .inl p=>.inl (p.1.1,p.2)
 | .inr p=>.inr p
section
variable {st0 st:St} {b c d:Nat} {s:Af} {K R:AL->St->Prop}
theorem Cx.tv {s':Af} (h:Has st' b s') (hr:∃cs,Rx (st.Ab b cs) st' []):∃U,H9 st U b s'/\St.le U st':=by
 obtain ⟨cs,hr⟩:=hr
 have hb:=hr.le.1 b cs (St.An ..)
 refine ⟨st.Ab b cs,⟨?_,cs,rfl⟩,hr.le⟩
 rcases h with e|⟨t,u,o1,o2,e0,e⟩
 .rw [hb] at e;injection e with e;subst e;exact .inl (St.An ..)
 .rw [hb] at e;injection e with e;subst e;exact .inr ⟨t,u,o1,o2,e0,St.An ..⟩
theorem kZ {mk:Nat->List V} (hf:Bx enc f mk A) (hs:Has st b s) (hm:mu s<=100000000) (ht:Gu st b K (CS A s)):PC f (mk b) st K:=by
 refine Bc.ends (hf.ap (Cx.start hs hm) (Rd.O3 (λv s' e st' hc=>?_) (λe s' he st' hc=>?_)))
 .unfold CS at ht
  rw [e] at ht
  obtain ⟨U,hu,hl⟩:=Cx.tv hc.has hc.rx
  exact ⟨_,U,.inl rfl,hl,ht U hu⟩
 .unfold CS at ht
  rw [he] at ht
  obtain ⟨U,hu,hl⟩:=Cx.tv hc.has hc.rx
  exact ⟨_,U,.inl rfl,hl,ht U hu⟩
theorem rQ {g:FuncId} (hA:Bx enc g (λb=>[pv b d]) A) (hx:st.box c=some [.func g [] []]) (hs:Has st b s) (hm:mu s<=100000000) (ht:Gu st b K (CS A s)):PC 107 [.ptr b 0,.int .i64 (d:Int),.ptr c 0] st K:=by
 have U:∀{K:AL->St->Prop},Gu st b K (CS A s)->PC g [pv b d] st K:=λh=>kZ hA hs hm h
 refine pB Tryz.func107 ?_
 unfold CS at *
 cases hr:A.run s with
 |inl p=>
  rw [hr] at ht U
  repeat' ((conv=>whnf);first|(refine AG ?_;intros)|(refine AH ?_ ?_<;>intro e h)|(refine AJ ?_ ?_<;>intro _)|refine AB hx ?_|refine U (λst1 hu=>?_))
  all_goals exact ⟨_,_,.inl rfl,St.le_refl _,ht _ hu⟩
 |inr p=>
  rw [hr] at ht U
  repeat' ((conv=>whnf);first|(refine AG ?_;intros)|(refine AH ?_ ?_<;>intro e h)|(refine AJ ?_ ?_<;>intro _)|refine AB hx ?_|refine U (λst1 hu=>?_))
  all_goals exact AZ rfl (ht _ hu)
theorem Me {g:FuncId} {deep:Int} {A:Nat->Rd Nd} (hA:∀d:Nat,1<=d->d<=100->Bx enc g (λb=>[pv b d]) (A d)) (hm:mu s<=100000000) (h:K (.ret (Kd (Ct s deep (CS (A (B7 deep)) s)))) st):
 PC 55 [Am s,.int .i64 deep,.func g [] []] st K:=by
 refine Bu Ad [] Tryz.func55 rfl Do rfl ?_
 refine Ak (Al Ad ?_)
 repeat' ((conv=>whnf);first|(refine AG ?_;intros)|(refine AH ?_ ?_<;>intro e h)|(refine AJ ?_ ?_<;>intro _)|fail)
 refine Tl 5 1 rfl rfl rfl (λc fc=>?_)
 refine Al Ad ?_
 have hq:¬deep<1->∀(b:Nat) (U:St) (R:AL->St->Prop),(st.Ab c [.func g [] []]).le U->Has U b s->Gu U b R (CS (A (B7 deep)) s)->PC 107 [.ptr b 0,.int .i64 (if 100<deep then 100 else deep),.ptr c 0] U R:=λhd b U R hle hs ht=>by
  have e:(if 100<deep then 100 else deep)=((B7 deep:Nat):Int):=by unfold B7;split<;>omega
  rw [e]
  exact rQ (hA _ (by unfold B7;split<;>omega) (by unfold B7;split<;>omega)) (hle.1 _ _ (St.An ..)) hs hm ht
 obtain ⟨n,s',e,hq3⟩:∃n s' e,Ct s deep (CS (A (B7 deep)) s)=(n,s',e):=⟨_,_,_,rfl⟩
 rw [hq3] at h
 have hcat:∀{K:AL->St->Prop},K (.ret (Su n s' e)) (st.Ab c [.func g [] []])->PC 49 [Am s,.int .i64 deep,.func 107 [] [.ptr c 0]] (st.Ab c [.func g [] []]) K:=λk=>mb (s:=s) (q:=CS (A (B7 deep)) s) hq (by rw [hq3];exact k)
 repeat' ((conv=>whnf);first|(refine AG ?_;intros)|(refine AH ?_ ?_<;>intro e h)|(refine AJ ?_ ?_<;>intro _)|refine hcat ?_)
 all_goals exact CI (St.Au (St.le_refl _) fc.1 _) rfl h
end
section
variable {d:Nat}
theorem gq {st:St} {K:AL->St->Prop} (h:K (.ret (.bool (Hb t))) st):PC 109 [Eb t] st K:=by
 refine pB Tryz.func109 ?_
 repeat' ((conv=>whnf);first|(refine AG ?_;intros)|(refine AH ?_ ?_<;>intro e h)|(refine AJ ?_ ?_<;>intro _)|refine Qi ?_|refine au ?_)
 all_goals conv=>whnf
 all_goals (refine Ao h ?_;clear h;simp_all [Hb])
theorem cD (hi:Bx enc 72 (λb=>[pv b d]) item) (hD:Dv item):Bx enc 56 (λb=>[pv b d]) (CX Hb item):=by
 refine ⟨λ{st0 b s st rows K} hc h=>?_⟩
 refine pB Tryz.func56 ?_
 repeat' ((conv=>whnf);first|(refine AG ?_;intros)|(refine AH ?_ ?_<;>intro e h)|(refine AJ ?_ ?_<;>intro _)|exact F5|refine Ac (λe1=>?_)|refine Bx.go (Ql (λh=>gq h) hi hD) hc h (λn s1 U hr hm hc h=>?_) (λe s1 U hc h=>?_))
theorem cE (hi:Bx enc 60 (λb=>[pv b d]) item) (hD:Dv item):Bx enc 78 (λb=>[pv b d]) (CX DA item):=by
 refine ⟨λ{st0 b s st rows K} hc h=>?_⟩
 refine pB Tryz.func78 ?_
 repeat' ((conv=>whnf);first|(refine AG ?_;intros)|(refine AH ?_ ?_<;>intro e h)|(refine AJ ?_ ?_<;>intro _)|exact F5|refine Ac (λe1=>?_)|refine Bx.go (Ql (λh=>Qi h) hi hD) hc h (λn s1 U hr hm hc h=>?_) (λe s1 U hc h=>?_))
theorem fO (hi:Bx enc 69 (λb=>[pv b d]) item) (hD:Dv item):Bx enc 79 (λb=>[pv b d]) (CX DA item):=by
 refine ⟨λ{st0 b s st rows K} hc h=>?_⟩
 refine pB Tryz.func79 ?_
 repeat' ((conv=>whnf);first|(refine AG ?_;intros)|(refine AH ?_ ?_<;>intro e h)|(refine AJ ?_ ?_<;>intro _)|exact F5|refine Ac (λe1=>?_)|refine Bx.go (Ql (λh=>Qi h) hi hD) hc h (λn s1 U hr hm hc h=>?_) (λe s1 U hc h=>?_))
structure uA (D:Nat) (full:Rd Nd) (L:C8):Prop where
 atom:Bx enc 202 (λb=>[pv b D]) (fD L)
 exp:Bx enc 80 (λb=>[pv b D]) (LH full L)
 ops:Bx enc 130 (λb=>[pv b D]) (opsL L)
 stmt:Bx enc 60 (λb=>[pv b D]) (Jr full L)
 alt:Bx enc 69 (λb=>[pv b D]) (UR full L)
 decl:Bx enc 72 (λb=>[pv b D]) (Kw full L)
 decls:Bx enc 56 (λb=>[pv b D]) (CX Hb (Kw full L))
 stmts:Bx enc 78 (λb=>[pv b D]) (CX DA (Jr full L))
 alts:Bx enc 79 (λb=>[pv b D]) (CX DA (UR full L))
 DT:∀o,Bx enc 340 (λb=>[pv b D,enc o]) (EE (Zb L) full (LH full L) o)
 list:∀o,Bx enc 342 (λb=>[pv b D,enc o]) (OG (LH full L) (Jr full L) o)
theorem uG {full:Rd Nd} {L:C8} (hL:L0 d L) (U:LD L) (hf:Bx enc 203 (λb=>[pv b d]) full) (hF:Dv full):uA d full L:=by
 have atom:=lS hL
 have dat:=Ky U
 have opd:=Zc hL atom Oy
 have ops:=jm opd
 have exp:=qB opd hf
 have stmt:=oM hL exp
 have alt:=qh hL ops exp stmt
 have decl:=mj hL atom dat ops (Md (Mc U)) exp stmt hf
 exact ⟨atom,exp,ops,stmt,alt,decl,cD decl (QA hF U),cE stmt (IW hF U),fO alt (TC hF U),λo=>Ts opd hf exp,λo=>nC exp stmt⟩
theorem s9:∀d,d<=100->L0 (d+1) (Kl d)
 |0,_=>⟨Eo AC (λ_=>rfl) (λh=>absurd rfl h),Eo AC (λ_=>rfl) (λh=>absurd rfl h),Eo AC (λ_=>rfl) (λh=>absurd rfl h),Eo AC (λ_=>rfl) (λh=>absurd rfl h),
   Eo AC (λ_=>rfl) (λh=>absurd rfl h),Eo AC (λ_=>rfl) (λh=>absurd rfl h),λU hc h=>Pw AC (λ_=>rfl) hc h (λh=>absurd rfl h),λU hc h=>Pw AC (λ_=>rfl) hc h (λh=>absurd rfl h)⟩
 |d+1,h=>by
  have l:=uG (s9 d AC) (QE d) (av (d:=d) AC) (MS _)
  have no:∀{p:Prop},d+1=0->p:=λe=>by cases e
  exact ⟨Eo AC no λ_=>l.atom,Eo AC no λ_=>l.exp,Eo AC no λ_=>l.ops,Eo AC no λ_=>l.decls,Eo AC no λ_=>l.stmts,Eo AC no λ_=>l.alts,
   λU hc h=>Pw AC no hc h λ_ K h=>jQ (l.DT _) U hc h,λU hc h=>Pw AC no hc h λ_ K h=>eC (l.list _) U hc h⟩
theorem YV (U:1<=d) (h:d<=100):uA d (D6 d) (Kl (d - 1)):=by
 obtain ⟨d,rfl⟩:∃e,d=e+1:=⟨d - 1,AC⟩
 exact uG (s9 d AC) (QE d) (av (d:=d) AC) (MS _)
def Yw (d:Nat):Rd Nd:=LH (D6 d) (Kl (d - 1))
def S9 (d:Nat):Rd Nd:=Jr (D6 d) (Kl (d - 1))
def ct (d:Nat):Rd Nd:=UR (D6 d) (Kl (d - 1))
def Sn (d:Nat):Rd Nd:=Kw (D6 d) (Kl (d - 1))
def Hy (d:Nat):Rd Nd:=CX Hb (Sn d)
def RE (d:Nat):Rd Nd:=CX DA (S9 d)
def US (d:Nat):Rd Nd:=CX DA (ct d)
end
section
variable {st:St} {K:AL->St->Prop} {s:Af} {deep:Int}
theorem sn (hm:mu s<=100000000) (h:K (.ret (Kd (Ct s deep (CS (Yw (B7 deep)) s)))) st):PC 36 [Am s,.int .i64 deep] st K:=by
 refine pB Tryz.func36 ?_
 repeat' ((conv=>whnf);first|(refine AG ?_;intros)|(refine AH ?_ ?_<;>intro e h)|(refine AJ ?_ ?_<;>intro _)|refine Me (s:=s) (A:=Yw) (λd U h1=>(YV U h1).exp) hm ?_)
 all_goals exact AZ rfl h
theorem pd (hm:mu s<=100000000) (h:K (.ret (Kd (Ct s deep (CS (S9 (B7 deep)) s)))) st):PC 26 [Am s,.int .i64 deep] st K:=by
 refine pB Tryz.func26 ?_
 repeat' ((conv=>whnf);first|(refine AG ?_;intros)|(refine AH ?_ ?_<;>intro e h)|(refine AJ ?_ ?_<;>intro _)|refine Me (s:=s) (A:=S9) (λd U h1=>(YV U h1).stmt) hm ?_)
 all_goals exact AZ rfl h
theorem sl (hm:mu s<=100000000) (h:K (.ret (Kd (Ct s deep (CS (ct (B7 deep)) s)))) st):PC 28 [Am s,.int .i64 deep] st K:=by
 refine pB Tryz.func28 ?_
 repeat' ((conv=>whnf);first|(refine AG ?_;intros)|(refine AH ?_ ?_<;>intro e h)|(refine AJ ?_ ?_<;>intro _)|refine Me (s:=s) (A:=ct) (λd U h1=>(YV U h1).alt) hm ?_)
 all_goals exact AZ rfl h
theorem o9 (hm:mu s<=100000000) (h:K (.ret (Kd (Ct s deep (CS (Sn (B7 deep)) s)))) st):PC 30 [Am s,.int .i64 deep] st K:=by
 refine pB Tryz.func30 ?_
 repeat' ((conv=>whnf);first|(refine AG ?_;intros)|(refine AH ?_ ?_<;>intro e h)|(refine AJ ?_ ?_<;>intro _)|refine Me (s:=s) (A:=Sn) (λd U h1=>(YV U h1).decl) hm ?_)
 all_goals exact AZ rfl h
theorem X0 (hm:mu s<=100000000) (h:K (.ret (Kd (Ct s deep (CS (Hy (B7 deep)) s)))) st):PC 20 [Am s,.int .i64 deep] st K:=by
 refine pB Tryz.func20 ?_
 repeat' ((conv=>whnf);first|(refine AG ?_;intros)|(refine AH ?_ ?_<;>intro e h)|(refine AJ ?_ ?_<;>intro _)|refine Me (s:=s) (A:=Hy) (λd U h1=>(YV U h1).decls) hm ?_)
 all_goals exact AZ rfl h
theorem lA (hm:mu s<=100000000) (h:K (.ret (Kd (Ct s deep (CS (RE (B7 deep)) s)))) st):PC 32 [Am s,.int .i64 deep] st K:=by
 refine pB Tryz.func32 ?_
 repeat' ((conv=>whnf);first|(refine AG ?_;intros)|(refine AH ?_ ?_<;>intro e h)|(refine AJ ?_ ?_<;>intro _)|refine Me (s:=s) (A:=RE) (λd U h1=>(YV U h1).stmts) hm ?_)
 all_goals exact AZ rfl h
theorem o7 (hm:mu s<=100000000) (h:K (.ret (Kd (Ct s deep (CS (US (B7 deep)) s)))) st):PC 33 [Am s,.int .i64 deep] st K:=by
 refine pB Tryz.func33 ?_
 repeat' ((conv=>whnf);first|(refine AG ?_;intros)|(refine AH ?_ ?_<;>intro e h)|(refine AJ ?_ ?_<;>intro _)|refine Me (s:=s) (A:=US) (λd U h1=>(YV U h1).alts) hm ?_)
 all_goals exact AZ rfl h
end
section
variable {st0 st:St} {s:Af} {rows:List (AF×List Nd)} {K:AL->St->Prop} {E:Er->Af->Prop} {d:Nat}
theorem Xb (h0:1<=d) (h1:d<=100):BO 145 (λs=>[Am s,.int .i64 (d:Int)]) (D6 d):=by
 refine ⟨λ{st0 s st rows K} hm hc h=>?_⟩
 refine od hm rfl ?_
 have e:B7 ((d:Nat):Int)=d:=by unfold B7;split<;>omega
 have hB:C5 (EA (Cp (DL (d - 1)))):=Sg (FW (Du _))
 unfold Ew
 rw [if_neg AC,e]
 unfold Rd.wp D6 at h
 cases U:EA (Cp (DL (d - 1))) s with
 |inl p=>obtain ⟨e,s'⟩:=p;rw [Re hB U] at h;exact h FR st hc
 |inr p=>rw [PF U] at h;exact h st hc
theorem rH (hD:D<1):MG 66 (λs=>[Am s,.int .i64 D]) (.fail E9):=by
 refine ⟨λ{st0 s st rows K} hm hc h=>?_⟩
 rw [Rd.BK] at h
 refine pB Tryz.func66 ?_
 repeat' ((conv=>whnf);first|(refine AG ?_;intros)|(refine AH ?_ ?_<;>intro e h)|(refine AJ ?_ ?_<;>intro _)|refine Ca ?_|refine Ac (λU=>?_)|exact B3|fail)
theorem bT (hD:D<1):MG 27 (λs=>[Am s,.int .i64 D]) (.fail E9):=by
 refine ⟨λ{st0 s st rows K} hm hc h=>?_⟩
 rw [Rd.BK] at h
 refine pB Tryz.func27 ?_
 repeat' ((conv=>whnf);first|(refine AG ?_;intros)|(refine AH ?_ ?_<;>intro e h)|(refine AJ ?_ ?_<;>intro _)|refine Ca ?_|(refine D4 ?_ ?_<;>intro e h)|(refine D5 ?_;intro s1 hz hl hm h)|refine DQ (λn s1 U hr hl hm hc h=>?_) (λe n s1 U he hc h=>?_)|(refine CN ?_;intro own1 U hc)|refine Ac (λe1=>?_)|exact B3|fail)
theorem rA (hD:D<1):MG 29 (λs=>[Am s,.int .i64 D]) (.fail E9):=by
 refine ⟨λ{st0 s st rows K} hm hc h=>?_⟩
 rw [Rd.BK] at h
 refine pB Tryz.func29 ?_
 repeat' ((conv=>whnf);first|(refine AG ?_;intros)|(refine AH ?_ ?_<;>intro e h)|(refine AJ ?_ ?_<;>intro _)|refine Ca ?_|(refine CN ?_;intro U st1 hc)|refine Ac (λe1=>?_)|exact B3|fail)
theorem nZ (hD:D<1):MG 31 (λs=>[Am s,.int .i64 D]) (.fail E9):=by
 refine ⟨λ{st0 s st rows K} hm hc h=>?_⟩
 rw [Rd.BK] at h
 refine pB Tryz.func31 ?_
 repeat' ((conv=>whnf);first|(refine AG ?_;intros)|(refine AH ?_ ?_<;>intro e h)|(refine AJ ?_ ?_<;>intro _)|refine Ca ?_|(refine D4 ?_ ?_<;>intro e h)|(refine CN ?_;intro U st1 hc)|refine Ac (λe1=>?_)|exact B3|fail)
theorem Jk {w:Int} (hD:D<1):MG 58 (λs=>[Am s,.int .i64 D,.int .i64 w]) (.fail E9):=by
 refine ⟨λ{st0 s st rows K} hm hc h=>?_⟩
 rw [Rd.BK] at h
 refine pB Tryz.func58 ?_
 repeat' ((conv=>whnf);first|exact Dk|(refine AG ?_;intros)|(refine Dl ?_ ?_ ?_;rotate_left)|(refine AH ?_ ?_<;>intro e h)|(refine AJ ?_ ?_<;>intro _)|refine Ca ?_|(refine CN ?_;intro U st1 hc)|refine Ac (λe1=>?_)|exact B3|with_reducible refine WF ?_)
structure sD (d:Nat) (D:Int) (full:Rd Nd) (L:C8):Prop where
 atom:BO 144 (λs=>[Am s,.int .i64 ((d+1:Nat):Int)]) (fD L)
 ops:BO 70 (λs=>[Am s,.int .i64 ((d+1:Nat):Int)]) (opsL L)
 row:pk 132 (λs=>[Am s,.int .i64 ((d+1:Nat):Int),.bool true]) (HB (Zb L) true)
 exp:MG 66 (λs=>[Am s,.int .i64 D]) (LH full L)
 stmt:MG 27 (λs=>[Am s,.int .i64 D]) (Jr full L)
 alt:MG 29 (λs=>[Am s,.int .i64 D]) (UR full L)
 decl:MG 31 (λs=>[Am s,.int .i64 D]) (Kw full L)
 decls:BO 58 (λs=>[Am s,.int .i64 ((d+1:Nat):Int),.int .i64 0]) (CX Hb (Kw full L))
 stmts:BO 58 (λs=>[Am s,.int .i64 ((d+1:Nat):Int),.int .i64 1]) (CX DA (Jr full L))
 alts:BO 58 (λs=>[Am s,.int .i64 ((d+1:Nat):Int),.int .i64 2]) (CX DA (UR full L))
theorem tt {L:C8} {stm opd full:Rd Nd} (hD:cq D d) (hL:Jy d L stm opd full) (U:LD L):sD d D (D6 (d+1)) L:=by
 have hd:=hD.le
 have hd2:d<=1000000:=AC
 have hF:=MS (d+1)
 have atom:=jx hd2 hL (jy hd2 hL λo=>er (o:=o) hd2 hL)
 have dat:=Ky U
 have opd:=Xg hd2 hL atom Oy dat fB
 have dop:=Mc U
 have full:=Xb (d:=d+1) AC hd
 have key:∀{D:Int},cq D d->MG 66 (λs=>[Am s,.int .i64 D]) (LH (D6 (d+1)) L)/\MG 27 (λs=>[Am s,.int .i64 D]) (Jr (D6 (d+1)) L)/\MG 29 (λs=>[Am s,.int .i64 D]) (UR (D6 (d+1)) L)/\MG 31 (λs=>[Am s,.int .i64 D]) (Kw (D6 (d+1)) L):=λhD=>by
  have exp:=bI (VI hd) opd full
  have stmt:=Xm (VI hd) hL U exp.c (Ic hF U)
  exact ⟨bI hD opd full,Xm hD hL U exp.c (Ic hF U),nW hD hL opd dop exp.c stmt.c,jB hD hL U opd dop atom dat full exp.c stmt.c⟩
 obtain ⟨e1,e2,e3,e4⟩:=key hD
 obtain ⟨f1,f2,f3,f4⟩:=key (VI hd)
 exact ⟨atom,PJ opd,bS opd,e1,e2,e3,e4,N9 hd (.inl ⟨rfl,rfl⟩) (oe f4.c) (QA hF U).Vm,N9 hd (.inr ⟨Do,rfl⟩) (og f2.c) (IW hF U).Vm,N9 hd (.inr ⟨Do,rfl⟩) (oh f3.c) (TC hF U).Vm⟩
theorem tu:∀d,d<=100->∃stm opd full,Jy d (Kl d) stm opd full
 |0,_=>⟨.fail E9,.fail E9,.fail E9,(rH Do).c,(bT Do).c,(Jk Do).c,(Jk Do).c,(Jk Do).c,λ_=>rfl,λh=>absurd rfl h,λh=>absurd rfl h,λh=>absurd rfl h,λh=>absurd rfl h,λh=>absurd rfl h,λh=>absurd rfl h⟩
 |d+1,h=>by
  obtain ⟨_,_,_,U⟩:=tu d AC
  have l:=tt (VI h) U (QE d)
  exact ⟨Jr (D6 (d+1)) (Kl d),Zb (Kl d),D6 (d+1),l.exp.c,l.stmt.c,l.decls,l.stmts,l.alts,λe=>(by cases e),λ_=>l.atom,λ_=>l.ops,λ_=>l.row,λ_=>Xb AC h,λ_ _=>rfl,λ_ _=>rfl⟩
theorem SW {deep:Int} (h:¬deep<1):sD (B7 deep - 1) deep (D6 (B7 deep)) (Kl (B7 deep - 1)):=by
 obtain ⟨d,e,hL⟩:∃d,B7 deep=d+1/\cq deep d:=by
  by_cases U:100<deep
  .exact ⟨99,by unfold B7;rw [if_pos U];rfl,s8 U⟩
  .obtain ⟨k,rfl⟩:∃k:Nat,deep=((k+1:Nat):Int):=⟨deep.toNat - 1,AC⟩
   exact ⟨k,by unfold B7;rw [if_neg U];omega,VI AC⟩
 rw [e]
 obtain ⟨_,_,_,hl⟩:=tu d (by have:=hL.le;omega)
 exact tt hL hl (QE d)
theorem MG.end_ {mk:Af->List V} (U:MG f mk A) (hm:mu s<=100000000) (h:∀st',St.le st st'->K (.ret (AO (rn (CS A s)) (rs (CS A s)) (re (CS A s)))) st'):PC f (mk s) st K:=
 U.ap (st0:=st) (rows:=[]) hm Rx.start (Rd.O3 (λv s' e st' c=>(by unfold CS at h;rw [e] at h;exact h st' c.le)) (λe s' hr st' c=>(by unfold CS at h;rw [hr] at h;exact h st' c.le)))
end
end Go.Proofs.Z
namespace Go.Aw
open Go
abbrev fw (ro:Option Nat):Fence:={Fence.wide with round:=ro}
section
variable {P:Program} {n:Nat} {ro:Option Nat}
theorem fT {w:World} {R:Ending->World->Prop} (h:Calls P f args w R):CallsIn (fw ro) n P f args w R:=callsIn_wide.2 h
theorem oA {row:String} {w:World} {R:Value->World->Prop} (h:Rows P row args w R):RowsIn (fw ro) n P row args w R:=λc cs _=>let ⟨v,w',r,s⟩:=h c cs;⟨v,w',r,stepsIn_wide.2 s⟩
theorem pS {o:Oper} {a:Act} {w:World} {next next':Act->World->Prop} {Q0 Q:Exit->Act->World->Prop} (nd:∀c,o.op≠.defer c) (h:o.wp P a w next Q0) (hn:∀a w,next a w->next' a w) (hq:∀e a w,e≠.normal->Q0 e a w->Q e a w):o.wpIn (fw ro) n P a w next' Q:=by
 refine ⟨λ_ _=>trivial,?_⟩
 rw [Oper.semAt_eq _ _ _ nd]
 unfold Oper.wp at h
 generalize (execOp a.eval o).run P w=r at h
 cases r with
 |ok x w'=>
  cases x<;>simp only [Oper.upon] at h<;>simp only [Oper.uponIn]
  all_goals first
   |exact hn _ _ h
   |exact ⟨λe=>(by cases e),(fT h).mono λe w'' U=>by cases e<;>first|exact hn _ _ U|exact hq _ _ _ GT U|exact U.imp λa U=>U.imp λw U=>hq _ _ _ GT U⟩
   |exact ⟨λe=>(by cases e),(oA h).mono λv w'' U=>hn _ _ U⟩
 |halt x w'=>cases x<;>simp only [Oper.upon] at h<;>simp only [Oper.uponIn]<;>exact hq _ _ _ GT h
theorem Py {ops:Array Oper} {Q0 Q:Exit->Act->World->Prop} (hl:¬LetsOut Q0) (hq:∀e a w,e≠.normal->Q0 e a w->Q e a w) {l2:List Oper} (hN:∀a w,Q0 .normal a w->wpListIn (fw ro) n P ops Q l2 a w):
 ∀(l1:List Oper) (a:Act) (w:World),(∀o ∈ l1,∀c,o.op≠.defer c)->wpList P ops Q0 l1 a w->wpListIn (fw ro) n P ops Q (l1++l2) a w
 |[],a,w,_,h=>hN a w h
 |o::r,a,w,nd,h=>by
  have ih:=Py hl hq hN r
  unfold wpList at h
  rw [List.cons_append]
  unfold wpListIn
  split
  .rename_i hw
   rw [if_pos hw] at h
   rcases h with h|h
   .exact pS (nd o List.mem_cons_self) h (λa w h=>ih a w (λo U=>nd o (List.mem_cons_of_mem _ U)) h) hq
   .exact absurd h.2 hl
  .rename_i hw
   rw [if_neg hw] at h
   exact ⟨λ_ _=>trivial,ih _ w (λo U=>nd o (List.mem_cons_of_mem _ U)) h⟩
theorem ft {ops:Array Oper} {md:Region.Mode} {Q0:Exit->Act->World->Prop} (hl:¬LetsOut Q0) (nd:∀o ∈ ops.toList,∀c,o.op≠.defer c):∀(fuel:Nat) (listed:Array Bool) (a:Act) (w:World),
 wpAny P md ops Q0 fuel listed a w->wpAnyIn (fw ro) n P md ops Q0 fuel listed a w
 |0,listed,a,w,h=>h
 |fuel+1,listed,a,w,h=>by
  have ih:=ft (md:=md) hl nd fuel
  refine ⟨h.1,λi hi=>?_⟩
  have U:=h.2 i hi
  unfold wpOp at U
  unfold wpOpIn
  split
  .rename_i ho;rw [ho] at U;exact ih _ _ _ U
  .rename_i o ho
   rw [ho] at U
   dsimp only at U
   split
   .rename_i hw
    rw [if_pos hw] at U
    rcases U with U|U
    .exact pS (nd o (by have:=Array.mem_of_getElem? ho;simpa using this)) U (λa w h=>ih _ a w h) (λ_ _ _ _ h=>h)
    .exact absurd U.2 hl
   .rename_i hw
    rw [if_neg hw] at U
    exact ⟨λ_ _=>trivial,ih _ _ _ U⟩
theorem M7 {D:List Deferred} {I0:Mem} {w0:World}:¬LetsOut (Cg D I0 st0 w0 Q):=by
 rintro ⟨a,w,I,β,env,st,U,_,h,_⟩
 cases U<;>exact h
end
def PB (l:List Oper):Bool:=l.all λo=>match o.op with| .defer _=>false|_=>true
theorem KK {l:List Oper} (h:PB l=true):∀o ∈ l,∀c,o.op≠.defer c:=λo U c e=>by
 have:=List.all_eq_true.1 h o U
 rw [e] at this;cases this
def GY:Code->Bool
 | .skip=>true
 | .region _ ops _=>PB ops.toList
 | .seq x y=>GY x&&GY y
 | .cond _ x y=>GY x&&GY y
 | .block _ c=>GY c
 |_=>false
section
variable {P:Program} {T:List (Nat×Ty)}
def uN (P:Program) (ro:Option Nat) (c:Code) (Q:AM->Env->St->Prop) (env:Env) (st:St):Prop:=
 ∀n D I0 st0 w0 I β a w,Rel D I0 st0 w0 I β env st a w->c.wpIn (fw ro) n P (Cg D I0 st0 w0 Q) a w
theorem L6 (hP:UP P T) (ro:Option Nat):∀(c:Code) {Q:AM->Env->St->Prop} {env:Env} {st:St},GY c=true->Pk T (Bc P) c Q env st->uN P ro c Q env st
 | .skip,Q,env,st,_,k=>λn D I0 st0 w0 I β a w h=>wpIn_skip ⟨I,β,env,st,.normal,h,trivial,k⟩
 | .region id ops true,Q,env,st,U,k=>λn D I0 st0 w0 I β a w h=>by
   have hC:=CB P
   have hM:∀f args st (R R':AL->St->Prop),(∀r s,R r s->R' r s)->Bc P f args st R->Bc P f args st R':=λ_ _ _ _ _ h k=>k.mono h
   have k:(HH env ops.toList ops.toList λk L=>(Kx k ops.toList&&II L)=true/\ID T (Bc P) ops.toList Q env env.boxes (Cd L env.boxes) ops.toList env st)\/∃(sched:List (Nat×Bool)) (L:List Nat),OH sched ops.toList=true/\Ik T (Bc P) ops.toList sched L (Cd (L.map some) env.boxes) Q sched env st:=k
   refine wpIn_region_any hP.m (ft M7 (KK U) _ _ _ _ ?_)
   rcases k with k|⟨sched,L,k1,k2⟩
   .obtain ⟨h1,h2⟩:=JN.1 k
    have:=Qx hP.t hC hM h1 h2 h
    simpa using this
   .have:=SD hP.t hC hM k1 k2 h
    simpa using this
 | .region id ops false,Q,env,st,U,k=>λn D I0 st0 w0 I β a w h=>by
   have:=FZ hP.t (CB P) h (show EL T (Bc P) ops.toList Q ops.toList env st from k)
   have h2:=Py (ro:=ro) (n:=n) (l2:=[]) M7 (λ_ _ _ _ h=>h) (λa w h=>h) ops.toList a w (KK U) (by simpa using this)
   rw [List.append_nil] at h2
   exact wpIn_region_list h2
 | .seq x y,Q,env,st,U,k=>λn D I0 st0 w0 I β a w h=>by
   simp only [GY,Bool.and_eq_true] at U
   refine wpIn_seq (wpIn_mono (L6 hP ro x U.1 (show Pk T (Bc P) x _ env st from k) n D I0 st0 w0 I β a w h) ?_)
   rintro e a w ⟨I,β,env,st,ae,h1,h2,h3⟩
   cases ae with
   |normal=>cases e<;>first|exact L6 hP ro y U.2 h3 n D I0 st0 w0 I β a w h1|exact h2.elim
   |exit i=>cases e<;>first|exact ⟨I,β,env,st,.exit i,h1,h2,h3⟩|exact h2.elim
   |goto i=>cases e<;>first|exact ⟨I,β,env,st,.goto i,h1,h2,h3⟩|exact h2.elim
   |ret=>cases e<;>first|exact ⟨I,β,env,st,.ret,h1,h2,h3⟩|exact h2.elim
   |Cz v=>cases e<;>first|exact ⟨I,β,env,st,.Cz v,h1,h2,h3⟩|exact h2.elim
 | .cond c x y,Q,env,st,U,k=>λn D I0 st0 w0 I β a w h=>by
   simp only [GY,Bool.and_eq_true] at U
   have hc:=h.f.eval c
   have k:(match env.eval c with
    | .bool t=>lit t (Pk T (Bc P) x Q env st) (Pk T (Bc P) y Q env st)
    |_=>False):=k
   split at k
   .rename_i t he
    rw [he] at hc
    have hc:=KQ hc
    cases t with
    |true=>exact wpIn_cond_true hc (L6 hP ro x U.1 (show Pk T (Bc P) x Q env st from k) n D I0 st0 w0 I β a w h)
    |false=>exact wpIn_cond_false hc (L6 hP ro y U.2 (show Pk T (Bc P) y Q env st from k) n D I0 st0 w0 I β a w h)
   .exact k.elim
 | .block id c,Q,env,st,U,k=>λn D I0 st0 w0 I β a w h=>by
   refine wpIn_block (wpIn_mono (L6 hP ro c U (show Pk T (Bc P) c _ env st from k) n D I0 st0 w0 I β a w h) ?_)
   rintro e a w ⟨I,β,env,st,ae,h1,h2,h3⟩
   cases ae with
   |normal=>cases e<;>first|exact ⟨I,β,env,st,.normal,h1,trivial,h3⟩|exact h2.elim
   |exit i=>
    cases e<;>try exact h2.elim
    rename_i i'
    have h2:i'=i:=h2
    subst h2
    simp only [Qk] at h3
    show (if i'=id then Cg D I0 st0 w0 Q .normal a w else Cg D I0 st0 w0 Q (.exit i') a w)
    by_cases hi:i'=id
    .subst hi
     rw [if_pos rfl]
     simp only [Nat.beq_refl,cond_true] at h3
     exact ⟨I,β,env,st,.normal,h1,trivial,h3⟩
    .rw [if_neg hi]
     have:Nat.beq i' id=false:=by
      cases hb:Nat.beq i' id with
      |false=>rfl
      |true=>exact absurd (Nat.eq_of_beq_eq_true hb) hi
     rw [this] at h3
     exact ⟨I,β,env,st,.exit i',h1,rfl,h3⟩
   |goto i=>cases e<;>first|exact ⟨I,β,env,st,.goto i,h1,h2,h3⟩|exact h2.elim
   |ret=>cases e<;>first|exact ⟨I,β,env,st,.ret,h1,h2,h3⟩|exact h2.elim
   |Cz v=>cases e<;>first|exact ⟨I,β,env,st,.Cz v,h1,h2,h3⟩|exact h2.elim
 | .loop _,_,_,_,U,_| .exit _,_,_,_,U,_| .goto _,_,_,_,U,_| .label _,_,_,_,U,_| .ret,_,_,_,U,_| .rangeFunc ..,_,_,_,U,_| .scope _,_,_,_,U,_| .refuse _,_,_,_,U,_=>by cases U
end
section
variable {D:List Deferred} {P:Program} {T:List (Nat×Ty)} {I0 I:Mem} {st0 st:St} {w0 w:World} {β:Nat->Option Nat} {env:Env} {a:Act}
theorem nP {l:Nat} {r:Loop} {b o:Nat} {v:Value} (U:w.heap[l]? =some (.loop r)) (h:w.cell? ⟨b,o,none⟩=some v):b≠l:=by
 rintro rfl
 simp [World.cell?,U] at h
theorem CH.put {l:Nat} {r r':Loop} (h:CH I st w) (hl:w.heap[l]? =some (.loop r)):CH I st (w.putObj l (.loop r')):=by
 have ne:∀{b:Nat} {c:Array Value} {ty:TypeId},w.heap[b]? =some (.cells c ty (0,0))->b≠l:=λe=>by
  rintro rfl
  rw [hl] at e;cases e
 refine ⟨λb o v e=>?_,λb n e=>?_,λb cs e=>?_,h.JB,λb n e=>?_,h.UF⟩
 .have e:=h.cell b o v e
  rw [Ia (World.putObj_heap_other (nP hl e))];exact e
 .obtain ⟨c,ty,U,h2⟩:=h.shape b n e
  exact ⟨c,ty,by rw [World.putObj_heap_other (ne U)];exact U,h2⟩
 .obtain ⟨vs,ty,U,h2⟩:=h.box b cs e
  exact ⟨vs,ty,by rw [World.putObj_heap_other (ne U)];exact U,h2⟩
 .rw [World.putObj_size];exact h.hw b n e
def Idle (l:Nat) (st:St):Prop:=st.box l=none/\st.hw l=none
theorem Idle.fr {l:Nat} {I':Mem} (h:Idle l st) (hl:l<w.heap.size) (U:Fr I st w I' st' w'):Idle l st'/\w'.heap[l]? =w.heap[l]? :=by
 refine ⟨?_,U.Mq l hl h.1 h.2⟩
 have:¬(st'.box l≠none\/st'.hw l≠none):=λe=>by
  rcases U.Mb l e with e|e|e
  .omega
  .exact e h.1
  .exact e h.2
 exact ⟨Classical.byContradiction λe=>this (.inl e),Classical.byContradiction λe=>this (.inr e)⟩
theorem Ij {l:Nat} {o:Obj} (h:w.heap[l]? =some o):l<w.heap.size:=(Array.getElem?_eq_some_iff.1 h).1
def YS (P:Program) (l:Nat) (r:Loop) (Im:Mem) (vs:List V) (st:St) (K:St->Prop):Prop:=
 ∀n I w (U:List Value),Im.le I->CH I st w->Aj I vs U->w.heap[l]? =some (.loop r)->Idle l st->
  YieldAt (fw none) n P l U.toArray w λe w'=>e=.returned (.bool true)/\∃I' st',Fr I st w I' st' w'/\CH I' st' w'/\K st'
theorem YS.mono {l:Nat} {r:Loop} {Im:Mem} {vs:List V} {K K':St->Prop} (h:YS P l r Im vs st K) (k:∀st,K st->K' st):YS P l r Im vs st K':=λn I w U h1 h2 h3 h4 h5=>by
 obtain ⟨fn,tmps,assign,body,e,hr⟩:=h n I w U h1 h2 h3 h4 h5
 exact ⟨fn,tmps,assign,body,e,hr.mono λe w' ⟨e1,I',st',q1,q2,q3⟩=>⟨e1,I',st',q1,q2,k _ q3⟩⟩
def bM (P:Program) (T:List (Nat×Ty)) (assign body:Code) (env:Env) (st:St) (K:St->Prop):Prop:=
 Pk T (Bc P) assign (Bp (λenv st=>(env.boxes=[]/\(env.tmps.all λp=>p.2.plain)=true)/\Pk T (Bc P) body (Bp (λ_ st=>K st) lF) env st) lF) env st
theorem SV {v:V} {c:Value} (h:A8 I β v c) (U:v.plain=true):A8 I (λ_=>none) v c:=by
 cases v<;>first|exact h|cases U
theorem Rel.bare (h:Is D w0.heap.size I β env st a w) (hb:env.boxes=[]) (hp:(env.tmps.all λp=>p.2.plain)=true) {U:Mem} (hs:CH U st' w') (hle:I.le U) {D':List Deferred}:Rel D' U st' w' U (λ_=>none) env st' {a with defers:=D'} w':=by
 refine ⟨Fr.refl,hs,⟨h.size,λt v e=>?_,λid cs e=>?_,(λid b e=>by cases e),(λi j b e=>by cases e),(λid b e=>by cases e),rfl⟩⟩
 .have hv:=List.all_eq_true.1 hp _ (Gy e)
  have:=SV (h.tmps t v e) hv
  have e2:v.plain=true:=hv
  cases v<;>first|exact AE.mono hle _ _ this|cases e2
 .rw [hb] at e;cases e
theorem lD (hP:UP P T) {l:Nat} {r:Loop} {wm:World} {stm:St} {B:Nat} (hF:Is D B Im β env stm a wm) (hb:env.boxes=[]) (hp:(env.tmps.all λp=>p.2.plain)=true) {fn:FuncId} {p1 p2:Tmp} {assign body:Code} {df:Nat}
 (hr:r={state:=.ready,pending:=none,fn,tmps:=a.tmps,params:=#[p1,p2],assign,body,defers:=df}) (ok:(GY assign&&GY body)=true) (hlt:(Nat.blt p1 env.sz&&Nat.blt p2 env.sz)=true) {v1 v2:V} {K:St->Prop} (hv:(v1.plain&&v2.plain)=true)
 (h:bM P T assign body {env with tmps:=(p2,v2)::(p1,v1)::env.tmps} st K):YS P l r Im [v1,v2] st K:=by
 intro n I w cargs hle hs hargs hl hid
 simp only [Aj] at hargs
 obtain ⟨c1,r1,rfl,q1,c2,r2,rfl,q2,rfl⟩:=hargs
 simp only [Bool.and_eq_true] at ok hlt hv
 have hl1:p1<env.sz:=by simpa [Nat.blt_eq] using hlt.1
 have hl2:p2<env.sz:=by simpa [Nat.blt_eq] using hlt.2
 have hy:=run_yield (P:=P) (args:=#[c1,c2]) hl (by rw [hr];rfl)
 rw [hr] at hy
 have ht:(#[p1,p2].zip #[c1,c2]).foldl (λtmps (x:Nat×Value)=>match x with|(t,a)=>tmps.setIfInBounds t a) a.tmps=(a.tmps.setIfInBounds p1 c1).setIfInBounds p2 c2:=by
  simp [Array.zip]
 dsimp only at hy
 rw [ht] at hy
 refine ⟨fn,_,assign,body,hy,roundIn_of_wpIn trivial ?_⟩
 have hsz:=hF.size
 have r0:Rel [] I st w I (λ_=>none) {env with tmps:=(p2,v2)::(p1,v1)::env.tmps} st {tmps:=(a.tmps.setIfInBounds p1 c1).setIfInBounds p2 c2,defers:=[]} w:=by
  refine ⟨Fr.refl,hs,⟨by simpa using hsz,λt v e=>?_,λid cs e=>?_,λid b e=>(by cases e),λi j b e=>(by cases e),λid b e=>(by cases e),rfl⟩⟩
  .have key:∀{x:V} {c:Value},AE I x c->x.plain=true->A8 I (λ_=>none) x c:=λh _=>A8.of h
   rw [BC] at e
   cases KE:Nat.beq p2 t with
   |true=>
    rw [KE] at e
    have:=Nat.eq_of_beq_eq_true KE
    subst this
    simp only [cond_true,Option.some.injEq] at e
    subst e
    have:((a.tmps.setIfInBounds p1 c1).setIfInBounds p2 c2).getD p2 undef=c2:=by
     simp [Array.getD_eq_getD_getElem?,hsz,hl2]
    rw [this];exact key q2 hv.2
   |false=>
    rw [KE] at e
    have hn2:p2≠t:=λx=>by subst x;rw [Nat.beq_refl] at KE;cases KE
    simp only [cond_false] at e
    rw [BC] at e
    cases hb1:Nat.beq p1 t with
    |true=>
     rw [hb1] at e
     have:=Nat.eq_of_beq_eq_true hb1
     subst this
     simp only [cond_true,Option.some.injEq] at e
     subst e
     have:((a.tmps.setIfInBounds p1 c1).setIfInBounds p2 c2).getD p1 undef=c1:=by
      rw [Array.getD_eq_getD_getElem?,Array.getElem?_setIfInBounds_ne hn2]
      simp [hsz,hl1]
     rw [this];exact key q1 hv.1
    |false=>
     rw [hb1] at e
     have hn1:p1≠t:=λx=>by subst x;rw [Nat.beq_refl] at hb1;cases hb1
     simp only [cond_false] at e
     have hpl:v.plain=true:=List.all_eq_true.1 hp _ (Gy e)
     have h0:=SV (hF.tmps t v e) hpl
     have:((a.tmps.setIfInBounds p1 c1).setIfInBounds p2 c2).getD t undef=a.tmps.getD t undef:=by
      simp [Array.getD_eq_getD_getElem?,Array.getElem?_setIfInBounds_ne hn2,Array.getElem?_setIfInBounds_ne hn1]
     rw [this]
     cases v<;>first|exact AE.mono hle _ _ h0|cases hpl
  .rw [show ({env with tmps:=(p2,v2)::(p1,v1)::env.tmps}:Env).boxes=[] from hb] at e;cases e
 have hltl:=Ij hl
 refine wpIn_mono (L6 hP (some l) assign ok.1 h n [] I st w I _ _ w r0) ?_
 rintro e a1 w1 ⟨I1,β1,env1,st1,ae,r1,x1,k1⟩
 cases ae with
 |exit _|goto _|ret|Cz _=>exact k1.elim
 |normal=>
 cases e with
 |exit _|goto _|ret|panic _|outgrown=>exact x1.elim
 |normal=>
 obtain ⟨⟨b1,b2⟩,k1⟩:=k1
 obtain ⟨hid1,U⟩:=hid.fr hltl r1.fr
 rw [hl] at U
 have hrdy:r.state=.ready:=by rw [hr]
 refine ⟨_,run_beginRound U hrdy,?_⟩
 have hs2:CH I1 st1 (w1.putObj l (.loop {r with state:=.busy})):=r1.s.put U
 have r2:=Rel.bare (D':=[]) r1.f b1 b2 hs2 (Mem.le_refl _)
 have hd1:a1={a1 with defers:=[]}:=by
  have:=r1.f.defers
  cases a1;simp_all
 rw [hd1]
 refine wpIn_mono (L6 hP (some l) body ok.2 k1 n [] I1 st1 _ I1 _ _ _ r2) ?_
 rintro e a3 w3 ⟨I3,β3,env3,st3,ae,r3,x3,k3⟩
 cases ae with
 |exit _|goto _|ret|Cz _=>exact k3.elim
 |normal=>
 cases e with
 |exit _|goto _|ret|panic _|outgrown=>exact x3.elim
 |normal=>
 have hlt1:l<w1.heap.size:=Ij U
 obtain ⟨hid3,hl3⟩:=hid1.fr (w:=w1.putObj l (.loop {r with state:=.busy})) (by rw [World.putObj_size];exact hlt1) r3.fr
 rw [World.putObj_heap_same hlt1] at hl3
 refine ⟨_,_,run_endRound none hl3,?_⟩
 have hrr:({({r with state:=.busy}:Loop) with state:=if (none:Option Code).isNone then .ready else .done,pending:=none}:Loop)=r:=by rw [hr];rfl
 rw [hrr]
 refine ⟨rfl,I3,st3,?_,r3.s.put hl3,k3⟩
 have f1:=r1.fr
 have f3:=r3.fr
 have z1:(w1.putObj l (.loop {r with state:=.busy})).heap.size=w1.heap.size:=World.putObj_size
 have z3:(w3.putObj l (.loop r)).heap.size=w3.heap.size:=World.putObj_size
 have f13:Fr I1 st1 w1 I3 st3 (w3.putObj l (.loop r)):=by
  refine ⟨f3.os,f3.tape,f3.output,by rw [z3,<-z1];exact f3.size,λb hb h1 h2=>?_,f3.le,λb o h1 h2=>by rw [<-z1];exact f3.new b o h1 h2,λb h1 h2=>by rw [<-z1];exact f3.Mo b h1 h2,λb h1=>by rw [<-z1];exact f3.Mb b h1⟩
  by_cases e:b=l
  .subst e
   rw [World.putObj_heap_same (Ij hl3),U]
  .rw [World.putObj_heap_other e,f3.Mq b (by rw [z1];exact hb) h1 h2,World.putObj_heap_other e]
 exact f1.trans f13
def P6 (P:Program) (l:Nat) (r:Loop) (Im:Mem) (c:Code) (Q:AM->Env->St->Prop) (env:Env) (st:St):Prop:=
 ∀D I0 st0 w0 I β a w,Im.le I0->w0.heap[l]? =some (.loop r)->Idle l st0->Rel D I0 st0 w0 I β env st a w->c.wp P (Cg D I0 st0 w0 Q) a w
variable {l:Nat} {r:Loop} {Im:Mem} {Q:AM->Env->St->Prop}
theorem P6.of {c:Code} (h:AW P c Q env st):P6 P l r Im c Q env st:=λD I0 st0 w0 I β a w _ _ _ U=>h D I0 st0 w0 I β a w U
theorem GP {x y:Code} (h:P6 P l r Im x (Bp (λenv st=>P6 P l r Im y Q env st) Q) env st):P6 P l r Im (.seq x y) Q env st:=λD I0 st0 w0 I β a w g1 g2 g3 hr=>by
 refine wp_seq (wp_mono (h D I0 st0 w0 I β a w g1 g2 g3 hr) ?_)
 rintro e a w ⟨I,β,env,st,ae,h1,U,h3⟩
 cases ae with
 |normal=>cases e<;>first|exact h3 D I0 st0 w0 I β a w g1 g2 g3 h1|exact U.elim
 |exit i=>cases e<;>first|exact ⟨I,β,env,st,.exit i,h1,U,h3⟩|exact U.elim
 |goto i=>cases e<;>first|exact ⟨I,β,env,st,.goto i,h1,U,h3⟩|exact U.elim
 |ret=>cases e<;>first|exact ⟨I,β,env,st,.ret,h1,U,h3⟩|exact U.elim
 |Cz v=>cases e<;>first|exact ⟨I,β,env,st,.Cz v,h1,U,h3⟩|exact U.elim
theorem R9 {c:Code} (h:P6 P l r Im c (Qk id Q) env st):P6 P l r Im (.block id c) Q env st:=λD I0 st0 w0 I β a w g1 g2 g3 hr=>by
 refine wp_block (wp_mono (h D I0 st0 w0 I β a w g1 g2 g3 hr) ?_)
 rintro e a w ⟨I,β,env,st,ae,h1,U,h3⟩
 cases ae with
 |normal=>cases e<;>first|exact ⟨I,β,env,st,.normal,h1,trivial,h3⟩|exact U.elim
 |exit i=>
  cases e<;>try exact U.elim
  rename_i i'
  have U:i'=i:=U
  subst U
  simp only [Qk] at h3
  show (if i'=id then Cg D I0 st0 w0 Q .normal a w else Cg D I0 st0 w0 Q (.exit i') a w)
  by_cases hi:i'=id
  .subst hi
   rw [if_pos rfl]
   simp only [Nat.beq_refl,cond_true] at h3
   exact ⟨I,β,env,st,.normal,h1,trivial,h3⟩
  .rw [if_neg hi]
   have:Nat.beq i' id=false:=by
    cases hb:Nat.beq i' id with
    |false=>rfl
    |true=>exact absurd (Nat.eq_of_beq_eq_true hb) hi
   rw [this] at h3
   exact ⟨I,β,env,st,.exit i',h1,rfl,h3⟩
 |goto i=>cases e<;>first|exact ⟨I,β,env,st,.goto i,h1,U,h3⟩|exact U.elim
 |ret=>cases e<;>first|exact ⟨I,β,env,st,.ret,h1,U,h3⟩|exact U.elim
 |Cz v=>cases e<;>first|exact ⟨I,β,env,st,.Cz v,h1,U,h3⟩|exact U.elim
theorem fj {c:Code} (h:∃(α:Type) (E:α->Env) (S:α->St) (J:α->Prop) (μ:α->Nat) (x0:α),J x0/\(E x0).C7 env/\St.le (S x0) st/\
 ∀x,J x->P6 P l r Im c (Bp (λenv' st'=>∃y,J y/\μ y<μ x/\(E y).C7 env'/\St.le (S y) st') Q) (E x) (S x)):P6 P l r Im (.loop c) Q env st:=λD I0 st0 w0 I β a w g1 g2 g3 hr=>by
 obtain ⟨α,E,S,J,μ,x0,h0,he,hs,round⟩:=h
 refine O2 (λn a w=>∃I β x,Rel D I0 st0 w0 I β (E x) (S x) a w/\J x/\n=μ x) (n0:=μ x0) ⟨I,_,x0,(hr.IK hs).Ke (Env.Kf he),h0,rfl⟩ ?_
 rintro n a w ⟨I,β,x,h,hi,rfl⟩
 refine wp_mono (round x hi D I0 st0 w0 I β a w g1 g2 g3 h) ?_
 rintro e a w ⟨I,β,env,st,ae,h1,U,h3⟩
 cases ae with
 |normal=>
  cases e<;>try exact U.elim
  obtain ⟨y,q1,q2,q3,q4⟩:=h3
  exact ⟨μ y,q2,I,_,y,(h1.IK q4).Ke (Env.Kf q3),q1,rfl⟩
 |exit i=>cases e<;>first|exact ⟨I,β,env,st,.exit i,h1,U,h3⟩|exact U.elim
 |goto i=>cases e<;>first|exact ⟨I,β,env,st,.goto i,h1,U,h3⟩|exact U.elim
 |ret=>cases e<;>first|exact ⟨I,β,env,st,.ret,h1,U,h3⟩|exact U.elim
 |Cz v=>cases e<;>first|exact ⟨I,β,env,st,.Cz v,h1,U,h3⟩|exact U.elim
theorem cn (hP:UP P T) {all pre post:List Oper} {oc:Oper} {c:Call} {f:Operand} (hall:all=pre++oc::post) (hnd:PB all=true) (hc:oc.op=.call c) (hf:c.callee=.value f) (hg:oc.guard=none)
 (h:EL T (Bc P) all (Bp (λenv st=>env.eval f=.ff l/\UM env c.args.toList λvs=>YS P l r Im vs st λst'=>env.go oc.dst (.bool true) λenv=>EL T (Bc P) all Q post env st') Q) pre env st):
 P6 P l r Im (.region id all.toArray false) Q env st:=λD I0 st0 w0 I β a w g1 g2 g3 hr=>by
 have hC:=CB P
 have nd:=KK hnd
 rw [<-wpIn_wide (n:=1)]
 refine wpIn_region_list (F:=fw none) (n:=1) ?_
 rw [show all.toArray.toList=pre++oc::post by rw [hall]]
 have hpre:∀o ∈ pre,∀c,o.op≠.defer c:=λo ho=>nd o (by rw [hall];exact List.mem_append_left _ ho)
 refine Py (ro:=none) (n:=1) (Q0:=Cg D I0 st0 w0 (Bp (λenv st=>env.eval f=.ff l/\UM env c.args.toList λvs=>YS P l r Im vs st λst'=>env.go oc.dst (.bool true) λenv=>EL T (Bc P) all Q post env st') Q)) M7 ?_ ?_ pre a w hpre (FZ hP.t hC hr h)
 .rintro e a w hne ⟨I,β,env,st,ae,U,h2,h3⟩
  cases ae with
  |normal=>cases e<;>first|exact absurd rfl hne|exact h2.elim
  |exit i=>exact ⟨I,β,env,st,.exit i,U,h2,h3⟩
  |goto i=>exact ⟨I,β,env,st,.goto i,U,h2,h3⟩
  |ret=>exact ⟨I,β,env,st,.ret,U,h2,h3⟩
  |Cz v=>exact ⟨I,β,env,st,.Cz v,U,h2,h3⟩
 .rintro a1 w1 ⟨I1,β1,env1,st1,ae,U,h2,h3⟩
  cases ae with
  |exit _|goto _|ret|Cz _=>exact h2.elim
  |normal=>
  obtain ⟨he,h3⟩:=h3
  have hfv:=U.f.eval f
  rw [he] at hfv
  have hfv':AE I1 (.ff l) (a1.eval f):=hfv
  simp only [AE] at hfv'
  obtain ⟨vs,q1,q2⟩:=GA U.f h3
  obtain ⟨hid,hl⟩:=g3.fr (Ij g2) U.fr
  rw [g2] at hl
  obtain ⟨fn,tmps,assign,body,hy,hround⟩:=q2 (1 - 1) I1 w1 _ (Mem.le_trans g1 U.fr.le) U.s q1 hl hid
  have harr:(c.args.toList.map a1.eval).toArray=c.args.map a1.eval:=by apply Array.ext';simp
  rw [harr] at hy
  have hrun:(execOp a1.eval oc).run P w1=.ok (.round l fn tmps assign body) w1:=by
   simp only [execOp,hc,resolve,hf,hfv',Deferred.ofValue,Sem.run_bind,Sem.run_pure,Result.andThen_ok,invoke]
   simpa using hy
  unfold wpListIn
  rw [if_pos (by simp [Region.wanted,hg])]
  refine ⟨λ_ _=>trivial,?_⟩
  rw [Oper.semAt_eq _ _ _ (by rw [hc];intro c h;cases h),hrun]
  refine ⟨λe=>(by cases e),hround.mono λe w' ⟨e1,I2,st2,f1,f2,k⟩=>?_⟩
  subst e1
  have r2:=U.called f1 f2
  obtain ⟨env3,r3,k3⟩:=Ce r2 (c:=.bool true) (A8.of (by simp only [AE])) k
  have hpost:∀o ∈ post,∀c,o.op≠.defer c:=λo ho=>nd o (by rw [hall];exact List.mem_append_right _ (List.mem_cons_of_mem _ ho))
  have:=Py (ro:=none) (n:=1) (l2:=[]) M7 (λ_ _ _ _ h=>h) (λa w h=>h) post _ w' hpost (FZ hP.t hC r3 k3)
  rw [List.append_nil] at this
  exact this
end
def bk:Obj->Bool
 | .loop _| .deferred _=>true
 |_=>false
section
variable {D:List Deferred} {P:Program} {T:List (Nat×Ty)} {I0 I:Mem} {st0 st:St} {w0 w:World} {β:Nat->Option Nat} {env:Env} {a:Act}
theorem l4 {l b o:Nat} {x:Obj} {v:Value} (U:w.heap[l]? =some x) (hx:bk x=true) (h:w.cell? ⟨b,o,none⟩=some v):b≠l:=by
 rintro rfl
 cases x<;>first|(simp [World.cell?,U] at h;done)|cases hx
theorem Qj {l b:Nat} {x:Obj} {c:Array Value} {ty:TypeId} (U:w.heap[l]? =some x) (hx:bk x=true) (h:w.heap[b]? =some (.cells c ty (0,0))):b≠l:=by
 rintro rfl
 rw [U] at h;cases h;cases hx
theorem CH.dO {l:Nat} {x y:Obj} (h:CH I st w) (hl:w.heap[l]? =some x) (hx:bk x=true):CH I st (w.putObj l y):=by
 refine ⟨λb o v e=>?_,λb n e=>?_,λb cs e=>?_,h.JB,λb n e=>?_,h.UF⟩
 .have e:=h.cell b o v e
  rw [Ia (World.putObj_heap_other (l4 hl hx e))];exact e
 .obtain ⟨c,ty,U,h2⟩:=h.shape b n e
  exact ⟨c,ty,by rw [World.putObj_heap_other (Qj hl hx U)];exact U,h2⟩
 .obtain ⟨vs,ty,U,h2⟩:=h.box b cs e
  exact ⟨vs,ty,by rw [World.putObj_heap_other (Qj hl hx U)];exact U,h2⟩
 .rw [World.putObj_size];exact h.hw b n e
theorem Fr.dO {l:Nat} {y:Obj} (h:Fr I0 st0 w0 I st w) (hl:w0.heap.size<=l):Fr I0 st0 w0 I st (w.putObj l y):=
 ⟨h.os,h.tape,h.output,by rw [World.putObj_size];exact h.size,λb hb U h2=>by rw [World.putObj_heap_other AC];exact h.Mq b hb U h2,h.le,h.new,h.Mo,h.Mb⟩
theorem Rel.dO {l:Nat} {x y:Obj} (h:Rel D I0 st0 w0 I β env st a w) (hl:w.heap[l]? =some x) (hx:bk x=true) (hw:w0.heap.size<=l):Rel D I0 st0 w0 I β env st a (w.putObj l y):=by
 refine ⟨h.fr.dO hw,h.s.dO hl hx,⟨h.f.size,h.f.tmps,λid cs e=>?_,h.f.BI,h.f.inj,λid b e=>?_,h.f.defers⟩⟩
 .obtain ⟨b,h1,U⟩:=h.f.box id cs e
  refine ⟨b,h1,?_⟩
  have hne:b≠l:=by
   rintro rfl
   rcases U with ⟨vs,ty,U,_⟩|⟨s,pos,_,_,U⟩
   .exact Qj hl hx U rfl
   .rw [hl] at U;cases U;cases hx
  rw [World.putObj_heap_other hne];exact U
 .rw [World.putObj_size];exact h.f.sep id b e
theorem CH.idle {l:Nat} (h:CH I st w) (hl:w.heap.size<=l):Idle l st:=by
 refine ⟨?_,?_⟩
 .cases e:st.box l with
  |none=>rfl
  |some cs=>
   obtain ⟨vs,ty,U,_⟩:=h.box l cs e
   have:=Ij U
   omega
 .cases e:st.hw l with
  |none=>rfl
  |some n=>have:=(h.hw l n e).1;omega
theorem Tt (hP:UP P T) {c:Code} (hf:P.funcs[f]? =some fn) (hb:fn.body=some c) (hres:fn.results.toList=[]) {l:Nat} {r:Loop} {args:List V} {K:St->Prop} (hle:Nat.ble args.length fn.ntmps=true)
 (h:P6 P l r Im c (λae _ st=>(ae=.normal\/ae=.ret)/\K st) {tmps:=J9 0 args,boxes:=[],BI:=0,sz:=fn.ntmps,gl:=[]} st) {U:List Value} (hm:Im.le I) (hs:CH I st w) (hargs:Aj I args U) (hl:w.heap[l]? =some (.loop r)) (hi:Idle l st):
 Calls P f U.toArray w λe w'=>(∃v,e=.returned v)/\∃I' st',Fr I st w I' st' w'/\CH I' st' w'/\K st':=by
 refine calls_of_wp hf hb (wp_mono (h [] I st w I _ _ w hm hl hi (Hw [] hs hargs hle)) ?_)
 rintro e a w' ⟨I1,β1,env1,st1,ae,h1,h2,h3,h4⟩
 have hret:a.defers=[]/\∃v,(results fn a.tmps).run P w'=.ok v w'/\((∃v',Ending.returned v=.returned v')/\∃I' st',Fr I st w I' st' w'/\CH I' st' w'/\K st'):=by
  obtain ⟨v,c,g1,g2,g3⟩:=C4 (P:=P) (fn:=fn) (R:=λ_ s=>K s) hP.t h1 (by rw [hres];exact h4)
  exact ⟨h1.f.defers,c,g1,⟨_,rfl⟩,I1,st1,h1.fr,h1.s,g3⟩
 rcases h3 with rfl|rfl<;>(cases e<;>first|exact hret|exact h2.elim)
def rC (P:Program) (T:List (Nat×Ty)) (fn:Func) (g:Operand) (p1 p2:Tmp) (assign body rest:Code) (R:AL->St->Prop) (env:Env) (st:St):Prop:=
 (env.boxes=[]/\(env.tmps.all λp=>p.2.plain)=true)/\∃(gf:FuncId) (caps:List V) (K:St->Prop),(env.eval g=.func gf [] caps/\Plain P gf)/\
   (∀(D:List Deferred) (B:Nat) (Im:Mem) (β:Nat->Option Nat) (a:Act) (wm:World) (l df:Nat) (fi:FuncId),Is D B Im β env st a wm->
     ∀(I:Mem) (w:World) (U:List Value),Im.le I->CH I st w->Aj I caps U->w.heap[l]? =some (.loop {state:=.ready,pending:=none,fn:=fi,tmps:=a.tmps,params:=#[p1,p2],assign,body,defers:=df})->Idle l st->
      Calls P gf (Value.func (.yield l) #[] #[]::U).toArray w λe w'=>(∃v,e=.returned v)/\∃I' st',Fr I st w I' st' w'/\CH I' st' w'/\K st')/\
   ∀st',K st'->AW P rest (λae env st=>(ae=.normal\/ae=.ret)/\Xa T fn R env st) env st'
theorem Uj (hP:UP P T) {args:List V} {R:AL->St->Prop} (hf:P.funcs[f]? =some fn) {c0 c1 c2 assign body rest:Code} {bid:Nat} {g:Operand} {p1 p2:Tmp}
 (hb : fn.body = some (.seq c0 (.seq c1 (.seq (.seq c2 (.block bid (.rangeFunc g #[p1, p2] assign body))) rest)))) (hn : (fn.name == "runtime.NumGoroutine") = false) (hle : Nat.ble args.length fn.ntmps = true)
 (h:AW P c0 (Bp (λenv st=>AW P c1 (Bp (λenv st=>AW P c2 (Bp (eY (rC P T fn g p1 p2 assign body rest R)) lF) env st) lF) env st) lF) {tmps:=J9 0 args,boxes:=[],BI:=0,sz:=fn.ntmps,gl:=[]} st):Bc P f args st R:=by
 refine ⟨?_,fn,hf,by rw [hb];rfl,hn⟩
 intro I w cargs hs hargs
 rw [<-callsIn_wide (n:=3)]
 refine callsIn_of_wp_marks hf hb trivial ?_
 have norm:∀{c:Code} {Q:Env->St->Prop} {n:Nat} {D:List Deferred} {I0:Mem} {st0:St} {w0:World} {X:Act->World->Prop} {Y:Exit->Act->World->Prop} {a:Act} {w:World},c.wp P (Cg D I0 st0 w0 (Bp Q lF)) a w->
  (∀I β env st a w,Rel D I0 st0 w0 I β env st a w->Q env st->X a w)->c.wpIn Fence.wide n P (Exit.then X Y) a w:=λh k=>by
  refine wpIn_wide.2 (wp_mono h ?_)
  rintro e a w ⟨I,β,env,st,ae,h1,h2,h3⟩
  cases ae with
  |exit _|goto _|ret|Cz _=>exact h3.elim
  |normal=>
  cases e with
  |exit _|goto _|ret|panic _|outgrown=>exact h2.elim
  |normal=>exact k I β env st a w h1 h3
 refine wpIn_seq (norm (h [] I st w I _ _ w (Hw [] hs hargs hle)) λI1 β1 env1 st1 a1 w1 r1 k1=>?_)
 refine wpIn_seq (norm (k1 [] I st w I1 β1 a1 w1 r1) λI2 β2 env2 st2 a2 w2 r2 k2=>?_)
 refine wpIn_seq (wpIn_seq (norm (k2 [] I st w I2 β2 a2 w2 r2) λI3 β3 env3 st3 a3 U r3 k3=>?_))
 refine wpIn_block ?_
 obtain ⟨I4,β4,env4,st4,r4,k4⟩:=k3 [] I st w I3 β3 a3 U r3
 obtain ⟨⟨b1,b2⟩,gf,caps,K,⟨hg,fg,q1,q2,q3⟩,hit,hrest⟩:=k4
 have hgv:=r4.f.eval g
 rw [hg] at hgv
 have hgv':AE I4 (.func gf [] caps) (a3.eval g):=hgv
 simp only [AE,Aj] at hgv'
 obtain ⟨az,lb,hge,haz,hlb⟩:=hgv'
 subst haz
 refine wpIn_rangeFunc λfi hfi=>?_
 obtain ⟨rec,hrec⟩:∃rec:Loop,rec={state:=.ready,pending:=none,fn:=fi,tmps:=a3.tmps,params:=#[p1,p2],assign,body,defers:=U.heap.size}:=⟨_,rfl⟩
 obtain ⟨W1,hW1⟩:∃W1,(U.alloc (.deferred (some []))).alloc (.loop rec)=W1:=⟨_,rfl⟩
 have hL1:W1.heap[U.heap.size+1]? =some (.loop rec):=by
  rw [<-hW1];have:=World.alloc_heap_new (U.alloc (.deferred (some []))) (.loop rec);rwa [World.size_alloc] at this
 have hK1:W1.heap[U.heap.size]? =some (.deferred (some [])):=by
  rw [<-hW1];exact (RowKit.Below.heap_alloc _ _ _ GT).trans (World.alloc_heap_new U _)
 have r5:Rel [] I st w I4 β4 env4 st4 a3 W1:=by rw [<-hW1];exact (r4.Kk (GZ.alloc _ _)).Kk (GZ.alloc _ _)
 have hidL:Idle (U.heap.size+1) st4:=r4.s.idle AC
 have hidD:Idle U.heap.size st4:=r4.s.idle (Nat.le_refl _)
 have hsz:w.heap.size<=U.heap.size:=r4.fr.size
 have heg:∀args w,(callFunc gf args).run P w=.ok (.enter gf args) w:=λargs w=>by
  have hb:fg.body.isNone=false:=by cases hb:fg.body<;>simp_all
  simp only [callFunc,Sem.run_bind,Sem.run_pure,Result.andThen_ok,run_program,q1]
  rw [q3]
  simp [hb]
 refine ⟨U.heap.size+1,[{target:=.collected U.heap.size,args:=#[]}],W1,{target:=.fn (.func gf) lb.toArray,args:=#[.func (.yield (U.heap.size+1)) #[] #[]]},W1,gf,#[.func (.yield (U.heap.size+1)) #[] #[]]++lb.toArray,W1,?_,?_,λ_ _=>trivial,?_,λe=>(by cases e),?_⟩
 .rw [<-hW1,hrec];exact run_enterLoop_outer _ _ _ _ _
 .simp only [resolve,hge,Deferred.ofValue,Sem.run_pure]
  simp [Act.eval]
 .simp [invoke,heg]
 .have hcall:=hit [] w.heap.size I4 β4 a3 U (U.heap.size+1) U.heap.size fi r4.f I4 W1 lb (Mem.le_refl _) r5.s hlb (by rw [<-hrec];exact hL1) hidL
  have harr:(Value.func (.yield (U.heap.size+1)) #[] #[]::lb).toArray=#[.func (.yield (U.heap.size+1)) #[] #[]]++lb.toArray:=by apply Array.ext';simp
  rw [harr] at hcall
  refine (callsIn_wide.2 hcall).mono ?_
  rintro e W2 ⟨⟨v,rfl⟩,I6,st6,f6,s6,k6⟩
  have r6:=r5.called f6 s6
  obtain ⟨hidL6,hL6⟩:=hidL.fr (Ij hL1) f6
  obtain ⟨hidD6,hD6⟩:=hidD.fr (Ij hK1) f6
  rw [hL1] at hL6
  rw [hK1] at hD6
  refine ⟨none,W2.putObj (U.heap.size+1) (.loop {rec with state:=.exhausted}),by have:=run_endLoop (P:=P) hL6 (by rw [hrec];simp);rw [hrec] at this |-;exact this,?_⟩
  have r7:=r6.dO (y:=.loop {rec with state:=.exhausted}) hL6 rfl AC
  have hD7:(W2.putObj (U.heap.size+1) (.loop {rec with state:=.exhausted})).heap[U.heap.size]? =some (.deferred (some [])):=(World.putObj_heap_other AC).trans hD6
  generalize W2.putObj (U.heap.size+1) (.loop {rec with state:=.exhausted})=W3 at r7 hD7
  show rest.wpIn Fence.wide 3 P _ _ W3
  have r8:=Rel.bare (D':=[{target:=.collected U.heap.size,args:=#[]}]) r7.f b1 b2 r7.s (Mem.le_refl _)
  have hd0:a3.defers=[]:=r7.f.defers
  rw [hd0]
  refine wpIn_wide.2 (wp_mono (hrest st6 k6 _ I6 st6 W3 I6 _ _ W3 r8) ?_)
  rintro e a9 w9 ⟨I9,β9,env9,st9,ae,r9,x9,k9,q9⟩
  have hlast:LeavesInM Fence.wide 3 P fn a9.tmps (λe w'=>∃I' st' r,Fr I st w I' st' w'/\CH I' st' w'/\W6 I' e r/\R r st') a9.defers .returning w9:=by
   rw [r9.f.defers]
   obtain ⟨_,hD9⟩:=hidD6.fr (Ij hD7) r9.fr
   rw [hD7] at hD9
   refine ⟨GT,.inl ⟨_,_,rfl,run_takeDeferred hD9,?_⟩⟩
   have hle9:W3.heap.size<=w9.heap.size:=r9.fr.size
   have hfr:Fr I st w I9 st9 w9:=r7.fr.trans r9.fr
   have r10:Rel [{target:=.collected U.heap.size,args:=#[]}] I st w I9 β9 env9 st9 a9 w9:=⟨hfr,r9.s,⟨r9.f.size,r9.f.tmps,r9.f.box,r9.f.BI,r9.f.inj,λid b e=>by
    obtain ⟨h1,h2⟩:=r9.f.sep id b e
    have:=r7.fr.size
    exact ⟨AC,h2⟩,r9.f.defers⟩⟩
   have r11:=r10.dO (y:=.deferred none) hD9 rfl hsz
   obtain ⟨v,c,g1,g2,g3⟩:=C4 (P:=P) hP.t r11 q9
   exact ⟨c,g1,I9,st9,.ret v,r11.fr,r11.s,g2,g3⟩
  rcases k9 with rfl|rfl
  .cases e<;>first|exact hlast|exact x9.elim
  .cases e<;>first|exact hlast|exact x9.elim
theorem ZR (hP:UP P T) {l:Nat} {r:Loop} {all:List Oper} (k:Nat) {U:Oper} {c:Call} {f:Operand} (hk:all[k]? =some U) (hnd:PB all=true) (hc:U.op=.call c) (hf:c.callee=.value f) (hg:U.guard=none)
 (h:EL T (Bc P) all (Bp (λenv st=>env.eval f=.ff l/\UM env c.args.toList λvs=>YS P l r Im vs st λst'=>env.go U.dst (.bool true) λenv=>EL T (Bc P) all Q (all.drop (k+1)) env st') Q) (all.take k) env st):
 P6 P l r Im (.region id all.toArray false) Q env st:=
 cn hP (by
  obtain ⟨h1,h2⟩:=List.getElem?_eq_some_iff.1 hk
  rw [<-h2,<-List.drop_eq_getElem_cons h1,List.take_append_drop]) hnd hc hf hg h
end
end Go.Aw
namespace Go.Proofs.Z
open Go Go.Aw
theorem dp {l:List (List UInt8)} {K:Nat->Prop} (k:l.length<4611686018427387904->K l.length):∀m,m=(strs l).length->m<Fe->K m:=λm U h=>by
 rw [show (strs l).length=l.length by simp [strs]] at U;subst U;exact k h
theorem YX (s:List UInt8) (U pos:Nat):(Ec s U pos).length<=s.length - pos+1:=by
 fun_induction Ec s U pos with
 |case1 U pos h1 h2 ih=>rw [List.length_cons];omega
 |case2 U pos h1 h2 ih=>omega
 |case3 U pos h1=>rw [List.length_singleton];omega
def Q2 (t:Tk):Bool:=t.kind==9&&(t.text==[108,101,116]||t.text==[119,104,101,114,101]||t.text==[100,111]||t.text==[111,102])
def YP (t:Tk) (k:Int) (x:List UInt8):Bool:=t.kind==k&&t.text==x
def pD (t:Tk):Int:=t.line+((Ec t.text 0 0).length:Nat) - 1
def VQ (p:Option Tk) (t:Tk):Int:=match p with
 |none=>if (YP t 9 [109,111,100,117,108,101]||YP t 15 [123])=true then 17 else 16
 |some p=>if (Q2 p&& !YP t 15 [123])=true then 16 else if (!(t.line==p.line)&& !(t.line==pD p))=true then 17 else 0
def markT (m:Int) (t:Tk):List Tk:=if m=0 then [t] else [⟨m,[],t.line,t.CC⟩,t]
def EB:Option Tk->List Tk->List Tk
 |_,[]=>[]
 |p,t::r=>markT (VQ p t) t++EB (some t) r
def SB (l:List Tk):List Tk:=match l.getLast? with
 |none=>[⟨16,[],0,0⟩]
 |some t=>if Q2 t=true then [⟨16,[],0,0⟩] else []
def Gx (l:List Tk):List Tk:=EB none l++SB l
def ahead (l:List Tk) (i:Nat):Option Tk:=if i=0 then none else l[i - 1]?
def Gi (l:List Tk) (i:Nat):Int:=match l[i]? with
 |some t=>VQ (ahead l i) t
 |none=>0
section
variable {st:St} {K:AL->St->Prop}
theorem Q3 (h:K (.ret (.bool (Q2 t))) st):PC 106 [Eb t] st K:=by
 refine pB Tryz.func106 ?_
 repeat' ((conv=>whnf);first|(refine Bl ?_;intros)|(refine Bm ?_ ?_<;>intro _)|fail)
 all_goals conv=>whnf
 all_goals (refine Ao h ?_;clear h;simp_all [Q2])
theorem pO {k:Int} (h:K (.ret (.bool (YP t k x))) st):PC 165 [Eb t,.int .i64 k,.str x] st K:=by
 refine pB Tryz.func165 ?_
 repeat' ((conv=>whnf);first|(refine Bl ?_;intros)|(refine Bm ?_ ?_<;>intro _)|fail)
 all_goals conv=>whnf
 all_goals (refine Ao h ?_;clear h;simp_all [YP])
theorem qx (U:t.text.length<=100000000) (h2: -1000000000<=t.line) (h3:t.line<=1000000000) (h:K (.ret (.int .i64 (pD t))) st):PC 166 [Eb t] st K:=by
 refine pB Tryz.func166 ?_
 have hb:=YX t.text 0 0
 repeat' ((conv=>whnf);first|exact Di|(refine Bl ?_;intros)|(refine Dj ?_ ?_ ?_;rotate_left)|(refine Bm ?_ ?_<;>intro _)|refine aI U (λown ho=>?_)|refine dp (λ_=>?_)|refine Ae [(0,true),(1,true),(2,true),(3,true),(4,false),(5,true),(6,true),(7,true),(8,true)] [] GE ?_|with_reducible refine WF ?_)
 all_goals conv=>whnf
 all_goals exact ⟨_,_,.inl rfl,AF.Ba ho,h⟩
theorem oK {l:List Tk} {own:AF} (h:∀c,st.fresh c->K (.ret (.func 164 [] [.ptr c 0])) (st.Ab c [.slice 4 (A4 l) own])):PC 105 [.slice 4 (A4 l) own] st K:=by
 refine Bu Ad [] Tryz.func105 rfl Do rfl ?_
 refine Ak (Al Ad ?_)
 repeat' ((conv=>whnf);first|(refine Bl ?_;intros)|(refine Bm ?_ ?_<;>intro _)|fail)
 refine Tl 1 0 rfl rfl rfl (λc U=>?_)
 refine Al Ad ?_
 repeat' ((conv=>whnf);first|(refine Bl ?_;intros)|(refine Bm ?_ ?_<;>intro _)|fail)
 all_goals conv=>whnf
 all_goals exact ⟨_,_,.inl rfl,St.le_refl _,h c U⟩
end
end Go.Proofs.Z
namespace Go.Aw
open Go
theorem Qs (h:l≠[]) (g:DK (AU l)=true) (t:List UInt8):AU (l.take (AU l).2++t)=AU l:=by
 rcases l with _|⟨a,r⟩
 .exact absurd rfl h
 revert g
 generalize U:AU (a::r)=x
 have hx0:=U
 unfold AU at U
 dsimp only at U
 intro g
 rcases r with _|⟨b,_|⟨c,_|⟨d,r⟩⟩⟩
 all_goals simp only [List.getElem?_nil,List.getElem?_cons_zero,List.getElem?_cons_succ,List.getD_cons_zero,List.getD_cons_succ,Bool.and_false,Bool.false_eq_true,if_false] at U
 all_goals repeat' split at U
 all_goals subst U
 all_goals first
  |(exfalso;revert g;simp [DK];done)
  |skip
 all_goals simp only [List.take_succ_cons,List.take_zero,List.cons_append,List.nil_append]
 all_goals unfold AU
 all_goals dsimp only
 all_goals try simp only [List.getElem?_nil,List.getElem?_cons_zero,List.getElem?_cons_succ,List.getD_cons_zero,List.getD_cons_succ]
 all_goals repeat' (first|rfl|rw [if_pos ‹_›]|rw [if_neg ‹_›])
theorem Qr (h:l≠[]) (g:DK (AU l)=true) (t:List UInt8):AU (l++t)=AU l:=by
 have:=Qs h g (l.drop (AU l).2++t)
 rwa [<-List.append_assoc,List.take_append_drop] at this
theorem S7 (l t:List UInt8) (g:BA DK l=l.length):BA p (l++t)=if BA p l=l.length then l.length+BA p t else BA p l:=by
 fun_induction BA p l with
 |case1=>simp
 |case2 a r hp ih=>
  have hne:a::r≠[]:=GT
  have U:DK (AU (a::r))=true:=by
   cases hg:DK (AU (a::r)) with
   |true=>rfl
   |false=>rw [Fx hg] at g;simp at g
  have hle:=GQ hne
  rw [CL hne U] at g
  have g':BA DK ((a::r).drop (AU (a::r)).2)=((a::r).drop (AU (a::r)).2).length:=M2
  have ih:=ih g'
  rw [CL GT (by rw [Qr hne U];exact hp),Qr hne U,List.drop_append_of_le_length hle,ih,List.length_drop]
  have hsl:=NA p ((a::r).drop (AU (a::r)).2)
  rw [List.length_drop] at hsl
  by_cases hc:BA p ((a::r).drop (AU (a::r)).2)=(a::r).length - (AU (a::r)).2
  .rw [if_pos hc,if_pos AC];omega
  .rw [if_neg hc,if_neg AC]
 |case3 a r hp=>
  have hne:a::r≠[]:=GT
  have U:DK (AU (a::r))=true:=by
   cases hg:DK (AU (a::r)) with
   |true=>rfl
   |false=>rw [Fx hg] at g;simp at g
  rw [Fx (by rw [Qr hne U];simpa using hp),if_neg GT]
def Vd (l:List UInt8):Prop:=BA DK l=l.length
theorem Vd.rune (h:Vd l) (U:l≠[]):DK (AU l)=true/\Vd (l.drop (AU l).2):=by
 have hg:DK (AU l)=true:=by
  cases hg:DK (AU l) with
  |true=>rfl
  |false=>
   unfold Vd at h
   rw [Fx hg] at h
   have:=List.length_pos_iff.2 U
   omega
 refine ⟨hg,?_⟩
 unfold Vd at h |-
 rw [CL U hg] at h
 have:=GQ U
 rw [List.length_drop];omega
theorem Vd.nil:Vd []:=E6 _
theorem Vd.app {t:List UInt8} (h:Vd l) (k:Vd t):Vd (l++t):=by
 unfold Vd at *
 rw [S7 l t h,if_pos h,k,List.length_append]
inductive Bd:List UInt8->Nat->Prop
 |zero (l:List UInt8):Bd l 0
 |step {l:List UInt8} {k:Nat}:l≠[]->Bd (l.drop (AU l).2) k->Bd l ((AU l).2+k)
theorem Bd.add {i j:Nat} (h:Bd l i) (k:Bd (l.drop i) j):Bd l (i+j):=by
 induction h with
 |zero l=>rw [Nat.zero_add];exact k
 |step U h ih=>
  rw [Nat.add_assoc]
  refine .step U (ih ?_)
  rw [List.drop_drop];exact k
theorem Bd.vd {i:Nat} (h:Bd l i) (k:Vd l):Vd (l.drop i):=by
 induction h with
 |zero l=>exact k
 |step U h ih=>
  have:=ih (k.rune U).2
  rwa [List.drop_drop] at this
theorem Bd.span (p:Nat×Nat->Bool) (l:List UInt8):Bd l (BA p l):=by
 fun_induction BA p l with
 |case1=>exact .zero _
 |case2 a r U ih=>exact .step GT ih
 |case3 a r U=>exact .zero _
theorem Bd.one (h:l≠[]):Bd l (AU l).2:=by
 have:=Bd.step h (.zero (l.drop (AU l).2))
 rwa [Nat.add_zero] at this
theorem cN (h:l≠[]) (g:DK (AU l)=true) (k:Nat) (hk:1<=k) (U:k<(AU l).2):∃b,l[k]? =some b/\128<=b.toNat:=by
 rcases l with _|⟨a,r⟩
 .exact absurd rfl h
 revert g U
 generalize hx:AU (a::r)=x
 unfold AU at hx
 dsimp only at hx
 intro g U
 have d2:∀b:UInt8,(b.toNat / 64==2)=true->128<=b.toNat:=λb hb=>by
  have:=beq_iff_eq.1 hb;omega
 rcases r with _|⟨b,_|⟨c,_|⟨d,r⟩⟩⟩
 all_goals simp only [List.getElem?_nil,List.getElem?_cons_zero,List.getElem?_cons_succ,List.getD_cons_zero,List.getD_cons_succ,Bool.and_false,Bool.false_eq_true,if_false] at hx
 all_goals repeat' split at hx
 all_goals subst hx
 all_goals first
  |(exfalso;revert g;simp [DK];done)
  |skip
 all_goals first
  |(exfalso;have U:k<1:=U;omega)
  |skip
 all_goals simp only [Bool.and_eq_true] at *
 all_goals have hk':k=1\/k=2\/k=3:=by first|omega|(dsimp only at U;omega)
 all_goals rcases hk' with rfl|rfl|rfl
 all_goals first
  |(exfalso;omega)
  |(exfalso;dsimp only at U;omega)
  |skip
 all_goals refine ⟨_,rfl,d2 _ ?_⟩
 all_goals simp only [beq_iff_eq] at *
 all_goals omega
theorem Bd.pw {k:Nat} (hv:Vd l) (hb:l[k]? =some b) (h:b.toNat<128):Bd l k/\Bd l (k+1):=by
 induction hn:l.length using Nat.strongRecOn generalizing l k with
 |_ n ih=>
  have U:l≠[]:=λe=>by rw [e] at hb;cases hb
  obtain ⟨g,hv'⟩:=hv.rune U
  have hp:=El l
  have hle:=GQ U
  by_cases hk:k<(AU l).2
  .by_cases h0:k=0
   .subst h0
    refine ⟨.zero l,?_⟩
    cases l with
    |nil=>exact absurd rfl U
    |cons a r=>
     simp only [List.getElem?_cons_zero,Option.some.injEq] at hb
     subst hb
     have e:AU (a::r)=(a.toNat,1):=by unfold AU;dsimp only;rw [if_pos (by simpa using h)]
     have:=Bd.one U
     rwa [e] at this
   .obtain ⟨b',h1,h2⟩:=cN U g k AC hk
    rw [hb] at h1
    injection h1 with h1
    subst h1
    omega
  .obtain ⟨j,rfl⟩:∃j,k=(AU l).2+j:=⟨k - (AU l).2,AC⟩
   have:=ih (l.drop (AU l).2).length M2 hv' (k:=j) (by rw [List.getElem?_drop];exact hb) rfl
   exact ⟨.step U this.1,by rw [Nat.add_assoc];exact .step U this.2⟩
inductive BQ:List UInt8->Nat->Prop
 |zero (l:List UInt8):BQ l 0
 |step {l:List UInt8} {k:Nat}:l≠[]->BQ (l.drop (A2 l)) k->BQ l (A2 l+k)
theorem FY (l:List UInt8):(HP l=0/\¬(AV l=13\/AV l=10\/AV l=12))\/(HP l=1/\(AV l=13\/AV l=10\/AV l=12)/\¬(AV l=13/\AV (l.drop 1)=10))\/(HP l=2/\AV l=13/\AV (l.drop 1)=10):=by
 unfold HP
 by_cases U:AV l=13/\AV (l.drop 1)=10
 .rw [if_pos U];exact .inr (.inr ⟨rfl,U⟩)
 .rw [if_neg U]
  by_cases h2:AV l=13\/AV l=10\/AV l=12
  .rw [if_pos h2];exact .inr (.inl ⟨rfl,h2,U⟩)
  .rw [if_neg h2];exact .inl ⟨rfl,h2⟩
theorem FF (U:0<=AV l) (h:AV l<128):(AU l).2=1/\(((AU l).1:Nat):Int)=AV l:=by
 cases l with
 |nil=>exact absurd U Do
 |cons a r=>
  have h:((a.toNat:Nat):Int)<128:=h
  have e:AU (a::r)=(a.toNat,1):=by unfold AU;dsimp only;rw [if_pos AC]
  rw [e];exact ⟨rfl,rfl⟩
theorem Bd.cut {k:Nat} (h:Bd l k) (hn:¬(0<k/\AV (l.drop (k - 1))=13/\AV (l.drop k)=10)):BQ l k:=by
 induction hm:l.length using Nat.strongRecOn generalizing l k with
 |_ n ih=>
  cases h with
  |zero=>exact .zero l
  |@step _ j U h=>
   have hp:=El l
   have hle:=GQ U
   rcases FY l with ⟨e,h1⟩|⟨e,h1,h2⟩|⟨e,h1,h2⟩
   .have es:A2 l=(AU l).2:=by unfold A2;rw [if_neg AC]
    rw [<-es]
    refine .step U ?_
    rw [es]
    refine ih _ M2 h (λhc=>hn ⟨AC,?_,?_⟩) rfl
    .have:=hc.2.1;rw [List.drop_drop] at this;rwa [show (AU l).2+j - 1=(AU l).2+(j - 1) by omega]
    .have:=hc.2.2;rwa [List.drop_drop] at this
   .have ed:=FF (l:=l) AC AC
    have es:A2 l=(AU l).2:=by unfold A2;rw [if_pos AC,e,ed.1]
    rw [<-es]
    refine .step U ?_
    rw [es]
    refine ih _ M2 h (λhc=>hn ⟨AC,?_,?_⟩) rfl
    .have:=hc.2.1;rw [List.drop_drop] at this;rwa [show (AU l).2+j - 1=(AU l).2+(j - 1) by omega]
    .have:=hc.2.2;rwa [List.drop_drop] at this
   .have ed:=FF (l:=l) AC AC
    rw [ed.1] at h hn |-
    have es:A2 l=2:=by unfold A2;rw [if_pos AC,e]
    cases h with
    |zero=>exact absurd ⟨AC,by simpa using h1,by simpa using h2⟩ hn
    |@step _ j hne' h=>
     have ed':=FF (l:=l.drop 1) AC AC
     rw [ed'.1] at h hn |-
     rw [show 1+(1+j)=A2 l+j by omega]
     refine .step U ?_
     rw [es]
     rw [List.drop_drop] at h
     have hl2:l.length≠0:=by have:=List.length_pos_iff.2 U;omega
     refine ih _ M2 h (λhc=>hn ⟨AC,?_,?_⟩) rfl
     .have:=hc.2.1;rw [List.drop_drop] at this;rwa [show 1+(1+j) - 1=1+1+(j - 1) by omega]
     .have:=hc.2.2;rw [List.drop_drop] at this;rwa [show 1+(1+j)=1+1+j by omega]
theorem RM:∀(n:Nat) (l:List UInt8) (k:Nat) (p:Int×Int),l.length<=n->1<=p.2->p.1<=(B1 l k p).1/\(B1 l k p).1<=p.1+l.length/\1<=(B1 l k p).2/\(B1 l k p).2<=p.2+8*l.length
 |n,[],k,p,_,h=>by rw [GM];simp only [List.length_nil];omega
 |0,a::r,k,p,hn,h=>by simp at hn
 |n+1,a::r,k,p,hn,h=>by
  by_cases U:k<A2 (a::r)
  .rw [FT U];omega
  .rw [ER GT U]
   have h1:=Fz (l:=a::r) GT
   have h2:=UC (a::r) p.1
   have h3:=PZ (a::r) h
   have hd:((a::r).drop (A2 (a::r))).length=(a::r).length - A2 (a::r):=List.length_drop
   have ih:=RM n ((a::r).drop (A2 (a::r))) (k - A2 (a::r)) (Ff (a::r) p.1,Gr (a::r) p.2) AC h3.1
   dsimp only at ih
   omega
theorem Tg:∀(n:Nat) (l:List UInt8) (k:Nat) (x c U y:Int),l.length<=n->(B1 l k (x,c)).1 - x=(B1 l k (y,U)).1 - y
 |n,[],k,x,c,U,y,_=>by rw [GM,GM];omega
 |0,a::r,k,x,c,U,y,hn=>by simp at hn
 |n+1,a::r,k,x,c,U,y,hn=>by
  by_cases hk:k<A2 (a::r)
  .rw [FT hk,FT hk];omega
  .rw [ER GT hk,ER GT hk]
   have h1:=Fz (l:=a::r) GT
   have hd:((a::r).drop (A2 (a::r))).length=(a::r).length - A2 (a::r):=List.length_drop
   have ih:=Tg n ((a::r).drop (A2 (a::r))) (k - A2 (a::r)) (Ff (a::r) x) (Gr (a::r) c) (Gr (a::r) U) (Ff (a::r) y) AC
   have e:Ff (a::r) x - x=Ff (a::r) y - y:=by unfold Ff;split<;>omega
   dsimp only
   omega
theorem XW:∀(n:Nat) (l:List UInt8) (k:Nat) (x c y:Int),l.length<=n->(B1 l k (x,c)).2=(B1 l k (y,c)).2
 |n,[],k,x,c,y,_=>by rw [GM,GM]
 |0,a::r,k,x,c,y,hn=>by simp at hn
 |n+1,a::r,k,x,c,y,hn=>by
  by_cases U:k<A2 (a::r)
  .rw [FT U,FT U]
  .rw [ER GT U,ER GT U]
   have h1:=Fz (l:=a::r) GT
   have hd:((a::r).drop (A2 (a::r))).length=(a::r).length - A2 (a::r):=List.length_drop
   exact XW n _ _ _ _ _ AC
def Cr (d:Nat) (l:List UInt8):Option Nat:=
 match l with
 |[]=>none
 |a::r=>
  if (a.toNat:Int)=123/\AV r=45 then (Cr (d+1) (r.drop 1)).map (·+2)
  else if (a.toNat:Int)=45/\AV r=125 then (if d<=1 then some 2 else (Cr (d - 1) (r.drop 1)).map (·+2))
  else (Cr d r).map (·+1)
termination_by l.length
decreasing_by all_goals simp only [List.length_drop,List.length_cons];omega
def Fb (pos:Nat) (o:Option Nat):Int:=match o with
 |none=> -1
 |some n=>(pos+n:Nat)
theorem NW {k:Nat} {o:Option Nat}:Fb pos (o.map (·+k))=Fb (pos+k) o:=by
 cases o with
 |none=>rfl
 |some n=>simp only [Fb,Option.map_some];omega
theorem iX (h:¬pos<s.length):Fb pos (Cr d (s.drop pos))= -1:=by
 rw [List.drop_eq_nil_iff.2 AC,Cr];rfl
theorem dF (U:AV (s.drop pos)=123) (h2:AV (s.drop (pos+1))=45):Fb pos (Cr d (s.drop pos))=Fb (pos+2) (Cr (d+1) (s.drop (pos+2))):=by
 have hp:pos<s.length:=by
  by_cases hp:pos<s.length
  .exact hp
  .rw [EF AC] at U;exact absurd U Do
 rw [List.drop_eq_getElem_cons hp] at U |-
 rw [Cr,if_pos ⟨U,h2⟩,NW,List.drop_drop]
theorem Q7 (U:AV (s.drop pos)=45) (h2:AV (s.drop (pos+1))=125):Fb pos (Cr d (s.drop pos))=if d<=1 then ((pos+2:Nat):Int) else Fb (pos+2) (Cr (d - 1) (s.drop (pos+2))):=by
 have hp:pos<s.length:=by
  by_cases hp:pos<s.length
  .exact hp
  .rw [EF AC] at U;exact absurd U Do
 rw [List.drop_eq_getElem_cons hp] at U |-
 have U:((s[pos].toNat:Nat):Int)=45:=U
 rw [Cr,if_neg (λe=>by omega),if_pos ⟨U,h2⟩]
 by_cases hd:d<=1
 .rw [if_pos hd,if_pos hd];rfl
 .rw [if_neg hd,if_neg hd,NW,List.drop_drop]
theorem nM (hp:pos<s.length) (U:¬(AV (s.drop pos)=123/\AV (s.drop (pos+1))=45)) (h2:¬(AV (s.drop pos)=45/\AV (s.drop (pos+1))=125)):Fb pos (Cr d (s.drop pos))=Fb (pos+1) (Cr d (s.drop (pos+1))):=by
 rw [List.drop_eq_getElem_cons hp] at U h2 |-
 have U:¬(((s[pos].toNat:Nat):Int)=123/\AV (s.drop (pos+1))=45):=U
 have h2:¬(((s[pos].toNat:Nat):Int)=45/\AV (s.drop (pos+1))=125):=h2
 rw [Cr,if_neg U,if_neg h2,NW]
def DU:List UInt8->Nat
 |[]=>0
 |a::r=>if 0<HP (a::r) then 0 else DU r+1
theorem aj (l:List UInt8):DU l<=l.length:=by
 induction l with
 |nil=>exact Nat.le_refl _
 |cons a r U=>unfold DU;split<;>simp only [List.length_cons]<;>omega
theorem mG (h:0<HP (s.drop pos)):DU (s.drop pos)=0:=by
 cases U:s.drop pos with
 |nil=>rfl
 |cons a r=>rw [U] at h;rw [DU,if_pos h]
theorem mF (U:pos<s.length) (h:¬0<HP (s.drop pos)):DU (s.drop pos)=DU (s.drop (pos+1))+1:=by
 rw [List.drop_eq_getElem_cons U] at h |-
 rw [DU,if_neg h]
theorem gM (U:¬pos<s.length):DU (s.drop pos)=0:=by
 rw [List.drop_eq_nil_iff.2 AC];rfl
theorem du (s:List UInt8) (U pos:Nat) (h:U<=pos) (hpl:pos<=s.length):∃r,Ec s U pos=(s.take (pos+DU (s.drop pos))).drop U::r:=by
 fun_induction Ec s U pos with
 |case1 U pos hp hn ih=>rw [mG hn];exact ⟨_,rfl⟩
 |case2 U pos hp hn ih=>
  obtain ⟨r,e⟩:=ih AC AC
  rw [mF hp hn]
  exact ⟨r,by rw [e,show pos+1+DU (s.drop (pos+1))=pos+(DU (s.drop (pos+1))+1) by omega]⟩
 |case3 U pos hp=>
  rw [gM hp,List.take_of_length_le AC];exact ⟨[],rfl⟩
def Fh (l:List UInt8):Nat:=
 let n:=B6 (λc=>AQ c==5) l
 if 2<=n/\(l.take n).all (λb=>b==45)=true then n+DU (l.drop n) else 0
def D7 (l:List UInt8):Int:=
 if AV l=123/\AV (l.drop 1)=45 then Fb 2 (Cr 1 (l.drop 2))
 else if AV l=45 then (Fh l:Nat) else 0
def CQ (s:List UInt8) (pos:Nat):Int×Int:=
 if D7 (s.drop pos)<0 then (0,60) else if D7 (s.drop pos)=0 then (0,0) else (pos+D7 (s.drop pos),0)
theorem iW (d:Nat) (l:List UInt8) (n:Nat) (h:Cr d l=some n):n<=l.length:=by
 fun_induction Cr d l generalizing n with
 |case1=>cases h
 |case2 d a r hc ih=>
  obtain ⟨m,hm,rfl⟩:=Option.map_eq_some_iff.1 h
  have:=ih m hm
  have hr:r≠[]:=λe=>by rw [e] at hc;exact absurd hc.2 Do
  have:=List.length_pos_iff.2 hr
  simp only [List.length_drop,List.length_cons] at *;omega
 |case3 d a r hc U hd=>
  have hr:r≠[]:=λe=>by rw [e] at U;exact absurd U.2 Do
  have:=List.length_pos_iff.2 hr
  injection h with h
  simp only [List.length_cons] at *;omega
 |case4 d a r hc U hd ih=>
  obtain ⟨m,hm,rfl⟩:=Option.map_eq_some_iff.1 h
  have:=ih m hm
  have hr:r≠[]:=λe=>by rw [e] at U;exact absurd U.2 Do
  have:=List.length_pos_iff.2 hr
  simp only [List.length_drop,List.length_cons] at *;omega
 |case5 d a r hc U ih=>
  obtain ⟨m,hm,rfl⟩:=Option.map_eq_some_iff.1 h
  have:=ih m hm
  simp only [List.length_cons] at *;omega
theorem ei (l:List UInt8):Fh l<=l.length:=by
 have h1:=Gq (λc=>AQ c==5) l
 have U:=aj (l.drop (B6 (λc=>AQ c==5) l))
 rw [List.length_drop] at U
 unfold Fh
 dsimp only
 split<;>omega
theorem V3 (l:List UInt8):D7 l<=l.length:=by
 have h1:=ei l
 unfold D7
 split
 .rename_i hc
  cases h:Cr 1 (l.drop 2) with
  |none=>simp only [Fb];omega
  |some n=>
   have:=iW _ _ _ h
   have U:l.drop 1≠[]:=λe=>by rw [e] at hc;exact absurd hc.2 Do
   have:=List.length_pos_iff.2 U
   simp only [List.length_drop,Fb] at *;omega
 .split<;>omega
def H8 (c:Int):Option Int:=
 if c=92\/c=34\/c=39 then some c
 else if c=97 then some 7 else if c=98 then some 8 else if c=116 then some 9 else if c=110 then some 10
 else if c=118 then some 11 else if c=102 then some 12 else if c=114 then some 13 else none
def Ju (base:Int):Int->List UInt8->Int
 |v,[]=>v
 |v,a::r=>if Bw ((a.toNat:Nat):Int) base<0 then v else Ju base (min (v*base+Bw ((a.toNat:Nat):Int) base) 1114112) r
def Kn (base:Int) (l:List UInt8):Option (Int×Nat):=if Bo base l=0\/1114111<Ju base 0 l then none else some (Ju base 0 l,Bo base l)
def Ft:List (List UInt8):=[[78,85,76],[83,79,72],[83,84,88],[69,84,88],[69,79,84],[69,78,81],[65,67,75],[66,69,76],[66,83],[72,84],[76,70],[86,84],[70,70],[67,82],[83,79],[83,73],[68,76,69],[68,67,49],[68,67,50],[68,67,51],[68,67,52],[78,65,75],[83,89,78],[69,84,66],[67,65,78],[69,77],[83,85,66],[69,83,67],[70,83],[71,83],[82,83],[85,83],[83,80],[68,69,76]]
def N3 (l:List UInt8):List (List UInt8)->Nat->Nat×Nat->Nat×Nat
 |[],_,p=>p
 |w::U,i,p=>N3 l U (i+1) (if p.2<w.length/\w.isPrefixOf l=true then (i,w.length) else p)
def Km (l:List UInt8):Int×Nat:=(if (N3 l Ft 0 (0,0)).1=33 then 127 else (N3 l Ft 0 (0,0)).1,(N3 l Ft 0 (0,0)).2)
def H6 (text:Bool) (l:List UInt8):Option (Int×Nat):=
 match H8 (AV (l.drop 1)) with
 |some v=>some (v,2)
 |none=>
  if AV (l.drop 1)=38/\text=true then some (-1,2)
  else if AV (l.drop 1)=94/\64<=AV (l.drop 2)/\AV (l.drop 2)<=95 then some (AV (l.drop 2) - 64,3)
  else if AV (l.drop 1)=111 then (Kn 8 (l.drop 2)).map λp=>(p.1,2+p.2)
  else if AV (l.drop 1)=120 then (Kn 16 (l.drop 2)).map λp=>(p.1,2+p.2)
  else if 48<=AV (l.drop 1)/\AV (l.drop 1)<=57 then (Kn 10 (l.drop 1)).map λp=>(p.1,1+p.2)
  else if 0<(Km (l.drop 1)).2 then some ((Km (l.drop 1)).1,1+(Km (l.drop 1)).2) else none
def EX (l:List UInt8):Nat:=
 if AV l=92/\B6 (λc=>AQ c==1) (l.drop 1)≠0/\AV (l.drop (1+B6 (λc=>AQ c==1) (l.drop 1)))=92 then B6 (λc=>AQ c==1) (l.drop 1)+2 else 0
def MJ (d:Nat×Nat):Bool:=AQ (d.1:Nat)==0||(AQ (d.1:Nat)==1&& !(d.1==32))||(d.1==65533&&d.2==1)
def JT (text:Bool) (l:List UInt8):Sum Int (Int×Nat):=
 match l with
 |[]=>.inl 50
 |a::r=>
  if AV (a::r)=92 then
   if text=true/\0<EX (a::r) then .inr (-1,EX (a::r))
   else match H6 text (a::r) with
    |none=>.inl 51
    |some p=>.inr p
  else if MJ (AU (a::r)) then .inl 50 else .inr (((AU (a::r)).1:Nat),(AU (a::r)).2)
theorem T7 (l:List UInt8):∀(U:List (List UInt8)) (i:Nat) (p:Nat×Nat),p.2<=l.length->(N3 l U i p).2<=l.length
 |[],_,p,h=>h
 |w::U,i,p,h=>by
  unfold N3
  refine T7 l U _ _ ?_
  split
  .rename_i hc
   have:=List.isPrefixOf_iff_prefix.1 hc.2
   exact this.length_le
  .exact h
theorem mV (l:List UInt8):EX l<=l.length:=by
 unfold EX
 split
 .rename_i h
  have U:=Gq (λc=>AQ c==1) (l.drop 1)
  rw [List.length_drop] at U
  have h2:l.drop (1+B6 (λc=>AQ c==1) (l.drop 1))≠[]:=λe=>by rw [e] at h;exact absurd h.2.2 Do
  have:=List.length_pos_iff.2 h2
  rw [List.length_drop] at this
  omega
 .exact Nat.zero_le _
theorem Xw {c:Int} (h:H8 c=some v):0<=c/\0<=v:=by
 unfold H8 at h
 repeat' split at h
 all_goals first|(injection h with h;omega)|cases h
theorem PD {p:Int×Nat} (h:Kn base l=some p):1<=p.2/\p.2<=l.length:=by
 unfold Kn at h
 split at h
 .cases h
 .injection h with h
  subst h
  exact ⟨UV,C2 base l⟩
theorem al {text:Bool} {p:Int×Nat} (h:H6 text l=some p):1<=p.2/\p.2<=l.length:=by
 unfold H6 at h
 split at h
 .rename_i v hs
  have:=Cf (l:=l) (k:=1) (Xw hs).1
  injection h with h
  subst h
  exact ⟨UV,UV⟩
 .rename_i hs
  have e1:∀k,0<=AV (l.drop k)->k<l.length:=λk=>Cf
  have e2:=e1 1
  have e3:=e1 2
  repeat' split at h
  .injection h with h;subst h;exact ⟨UV,UV⟩
  .injection h with h;subst h;exact ⟨UV,UV⟩
  .obtain ⟨q,U,rfl⟩:=Option.map_eq_some_iff.1 h
   have:=PD U
   rw [List.length_drop] at this
   exact ⟨UV,UV⟩
  .obtain ⟨q,U,rfl⟩:=Option.map_eq_some_iff.1 h
   have:=PD U
   rw [List.length_drop] at this
   exact ⟨UV,UV⟩
  .obtain ⟨q,U,rfl⟩:=Option.map_eq_some_iff.1 h
   have:=PD U
   rw [List.length_drop] at this
   exact ⟨UV,UV⟩
  .injection h with h;subst h
   have:=T7 (l.drop 1) Ft 0 (0,0) (Nat.zero_le _)
   rw [List.length_drop] at this
   have h7:(Km (l.drop 1)).2=(N3 (l.drop 1) Ft 0 (0,0)).2:=by simp only [Km]
   exact ⟨UV,UV⟩
  .cases h
theorem Nf {text:Bool} {p:Int×Nat} (h:JT text l=.inr p):1<=p.2/\p.2<=l.length:=by
 unfold JT at h
 split at h
 .cases h
 .rename_i a r
  have U:=El (a::r)
  have h2:=GQ (l:=a::r) GT
  have h3:=mV (a::r)
  split at h
  .split at h
   .injection h with h;subst h;exact ⟨UV,UV⟩
   .split at h
    .cases h
    .rename_i q hq
     injection h with h;subst h;exact al hq
  .split at h
   .cases h
   .injection h with h;subst h;exact ⟨U,h2⟩
def FA (l:List UInt8):Sum (Nat×Int) Nat:=
 if AV l=34 then .inr 1
 else match h:JT true l with
  | .inl e=>.inl (0,e)
  | .inr p=>match FA (l.drop p.2) with
    | .inl q=>.inl (q.1+p.2,q.2)
    | .inr n=>.inr (n+p.2)
termination_by l.length
decreasing_by
 have:=Nf h
 rw [List.length_drop];omega
def Ki (l:List UInt8):List Int:=
 if AV l=34 then []
 else match h:JT true l with
  | .inl e=>[]
  | .inr p=>if p.1= -1 then Ki (l.drop p.2) else p.1::Ki (l.drop p.2)
termination_by l.length
decreasing_by
 all_goals
  have:=Nf h
  rw [List.length_drop];omega
def Kj (pos:Nat) (l:List UInt8):List (Nat×Nat):=
 if AV l=34 then []
 else match h:JT true l with
  | .inl e=>[]
  | .inr p=>if 0<EX l then (pos,pos+p.2)::Kj (pos+p.2) (l.drop p.2) else Kj (pos+p.2) (l.drop p.2)
termination_by l.length
decreasing_by
 all_goals
  have:=Nf h
  rw [List.length_drop];omega
def Ov (l:List UInt8):Sum (Nat×Int) Nat:=
 if AV l=39 then .inl (0,50)
 else match JT false l with
  | .inl e=>.inl (0,e)
  | .inr p=>if AV (l.drop p.2)=39 then .inr (p.2+1) else .inl (p.2,50)
def CR (s:List UInt8) (pos:Nat):Int×Int×Int:=
 if AV (s.drop pos)=34 then match FA (s.drop (pos+1)) with
  | .inl q=>(0,(pos+1+q.1:Nat),q.2)
  | .inr n=>(14,(pos+1+n:Nat),0)
 else if AV (s.drop pos)=39 then match Ov (s.drop (pos+1)) with
  | .inl q=>(0,(pos+1+q.1:Nat),q.2)
  | .inr n=>(13,(pos+1+n:Nat),0)
 else (0,0,0)
theorem BQ.add {i j:Nat} (h:BQ l i) (k:BQ (l.drop i) j):BQ l (i+j):=by
 induction h with
 |zero l=>rw [Nat.zero_add];exact k
 |step U h ih=>
  rw [Nat.add_assoc]
  refine .step U (ih ?_)
  rw [List.drop_drop];exact k
theorem BQ.bd {k:Nat} (h:BQ l k):Bd l k:=by
 induction h with
 |zero l=>exact .zero l
 |@step l k U h ih=>
  rcases FY l with ⟨e,h1⟩|⟨e,h1,h2⟩|⟨e,h1,h2⟩
  .have es:A2 l=(AU l).2:=by unfold A2;rw [if_neg AC]
   rw [es] at ih |-;exact .step U ih
  .have ed:=FF (l:=l) AC AC
   have es:A2 l=(AU l).2:=by unfold A2;rw [if_pos AC,e,ed.1]
   rw [es] at ih |-;exact .step U ih
  .have ed:=FF (l:=l) AC AC
   have ed':=FF (l:=l.drop 1) AC AC
   have es:A2 l=2:=by unfold A2;rw [if_pos AC,e]
   have hne':l.drop 1≠[]:=λe=>by rw [e] at h2;exact absurd h2 Do
   rw [es] at ih |-
   have b1:Bd (l.drop 1) (1+k):=by
    have:=Bd.step hne' (k:=k) (by rw [ed'.1,List.drop_drop];exact ih)
    rwa [ed'.1] at this
   have:=Bd.step U (k:=1+k) (by rw [ed.1];exact b1)
   rwa [ed.1,show 1+(1+k)=2+k by omega] at this
theorem BQ.one (U:0<=AV l) (h1:AV l<128) (h:¬(AV l=13\/AV l=10\/AV l=12)):BQ l 1:=by
 have hne:l≠[]:=λe=>by rw [e] at U;exact absurd U Do
 have ed:=FF U h1
 have es:A2 l=1:=by
  rcases FY l with ⟨e,_⟩|⟨_,h2,_⟩|⟨_,h2,_⟩
  .unfold A2;rw [if_neg AC,ed.1]
  .exact absurd h2 h
  .exact absurd (.inl h2) h
 have:=BQ.step hne (.zero (l.drop (A2 l)))
 rwa [es] at this
theorem BQ.span (hp:∀d,p d=true->d.1≠10/\d.1≠12/\d.1≠13) (l:List UInt8):BQ l (BA p l):=by
 fun_induction BA p l with
 |case1=>exact .zero _
 |case2 a r hc ih=>
  have h1:=hp _ hc
  have es:A2 (a::r)=(AU (a::r)).2:=by
   unfold A2
   rw [if_neg]
   rcases FY (a::r) with ⟨e,_⟩|⟨_,U,_⟩|⟨_,U,_⟩
   .omega
   .have:=FF (l:=a::r) AC AC;omega
   .have:=FF (l:=a::r) AC AC;omega
  have:=BQ.step (l:=a::r) (k:=BA p ((a::r).drop (AU (a::r)).2)) GT (by rw [es];exact ih)
  rwa [es] at this
 |case3 a r hc=>exact .zero _
theorem gi {c:Int} {k:Int} (h:AQ c=k) (U:k≠1):c≠10/\c≠12/\c≠13:=by
 refine ⟨?_,?_,?_⟩<;>(rintro rfl;exact U (h.symm.trans Do))
theorem BQ.kind {k:Int} (hk:k≠1) (l:List UInt8):BQ l (B6 (λc=>AQ c==k) l):=by
 refine BQ.span (λd U=>?_) l
 have:=gi (beq_iff_eq.1 U) hk
 omega
theorem BQ.name (l:List UInt8):BQ l (LR l):=by
 refine BQ.span (λd U=>?_) l
 have U:IE ((d.1:Nat):Int)=true:=U
 refine ⟨?_,?_,?_⟩<;>(intro e;rw [e] at U;revert U;decide)
theorem gv (h:¬Bw ((a.toNat:Nat):Int) base<0):48<=a.toNat/\a.toNat<128:=by
 unfold Bw at h
 dsimp only at h
 by_cases U:48<=((a.toNat:Nat):Int)/\((a.toNat:Nat):Int)<=57
 .omega
 .rw [if_neg U] at h
  by_cases h2:97<=((a.toNat:Nat):Int)/\((a.toNat:Nat):Int)<=102
  .omega
  .rw [if_neg h2] at h
   by_cases h3:65<=((a.toNat:Nat):Int)/\((a.toNat:Nat):Int)<=70
   .omega
   .rw [if_neg h3] at h
    exfalso;apply h
    rw [if_pos AC];omega
theorem BQ.row (base:Int) (l:List UInt8):BQ l (Bo base l):=by
 induction l with
 |nil=>exact .zero _
 |cons a r U=>
  unfold Bo
  split
  .exact .zero _
  .rename_i h
   have:=gv h
   rw [Nat.add_comm]
   exact BQ.add (BQ.one (l:=a::r) (show (0:Int)<=((a.toNat:Nat):Int) by omega) (show ((a.toNat:Nat):Int)<128 by omega) (show ¬(((a.toNat:Nat):Int)=13\/((a.toNat:Nat):Int)=10\/((a.toNat:Nat):Int)=12) by omega)) U
theorem BQ.ue (l:List UInt8):BQ l (HD l):=by
 unfold HD
 split
 .exact BQ.add (BQ.one AC AC AC) (BQ.row _ _)
 .exact .zero _
theorem BQ.sign (l:List UInt8):BQ l (LV l):=by
 unfold LV
 split
 .exact BQ.one AC AC AC
 .exact .zero _
theorem BQ.exp (l:List UInt8):BQ l (IX l):=by
 unfold IX
 split
 .rw [Nat.add_assoc]
  refine BQ.add (BQ.one AC AC AC) (BQ.add (BQ.sign _) ?_)
  rw [List.drop_drop]
  exact BQ.row _ _
 .exact .zero _
theorem BQ.num (l:List UInt8):BQ l (Ep l).2:=by
 unfold Ep
 split
 .rename_i h
  unfold BN at h
  split at h
  .rename_i hc
   have hb:=hc.2.1
   unfold Ej at hb
   have h1:65<=AV (l.drop 1)/\AV (l.drop 1)<128:=by
    split at hb
    .omega
    .split at hb
     .omega
     .exact absurd rfl hb
   have U:BQ l 2:=BQ.add (i:=1) (j:=1) (BQ.one AC AC AC) (BQ.one AC AC AC)
   exact BQ.add U (BQ.row _ _)
  .exact absurd rfl h
 .split
  .exact .zero _
  .refine BQ.add (BQ.add (BQ.row _ _) (BQ.ue _)) (BQ.exp _)
theorem me {c:Int} (h:AQ c=6):32<c/\c<128:=by
 unfold AQ at h
 split at h
 .omega
 .split at h
  .omega
  .split at h
   .omega
   .split at h
    .omega
    .split at h
     .unfold Gx at h
      split at h
      .omega
      .split at h
       .omega
       .split at h<;>omega
     .unfold ML at h
      repeat' split at h
      all_goals omega
theorem mQ (h:HC l=6):32<AV l/\AV l<128:=by
 cases l with
 |nil=>exact absurd h Do
 |cons a r=>
  have h:AQ ((AU (a::r)).1:Nat)=6:=h
  have U:=me h
  by_cases ha:a.toNat<128
  .rw [Ea ha] at U
   exact U
  .have:=Pr (r:=r) ha
   omega
theorem BQ.plain (l:List UInt8):BQ l (BM l).2:=by
 unfold BM
 split
 .rename_i h
  have:=mQ h
  exact BQ.one AC AC AC
 .split
  .exact BQ.kind Do l
  .split
   .exact BQ.name l
   .split
    .exact BQ.name l
    .exact .zero _
theorem BQ.scan (s:List UInt8) (n:Nat) (k:Int) (h:BQ s n):BQ s (Io s n k).2:=by
 fun_induction Io s n k with
 |case1 n k hn hc ih=>
  have hd:AV (s.drop n)=46:=hc.2.1
  have U:=BQ.one (l:=s.drop n) AC AC AC
  exact ih (BQ.add (BQ.add h U) (BQ.plain _))
 |case2 n k hn hc=>exact h
 |case3 n k hn=>exact h
theorem BQ.word (l:List UInt8):BQ l (Hi l).2:=BQ.scan l _ _ (BQ.plain l)
theorem Vd.end (h:Vd l):Bd l l.length:=by
 have:=Bd.span DK l
 rwa [show BA DK l=l.length from h] at this
theorem BQ.behind {k:Nat} (hv:Vd l) (h0:0<AV (l.drop k)) (h:AV (l.drop k)<128) (hn:AV (l.drop k)≠13):BQ l (k+1):=by
 have hk:=Cf (l:=l) (k:=k) AC
 have U:=List.getElem?_eq_getElem hk
 have e:=Ds U
 refine ((Bd.pw hv U AC).2).cut (λhc=>hn ?_)
 exact hc.2.1
theorem HN (d:Nat) (l:List UInt8) (n:Nat) (h:Cr d l=some n):2<=n/\AV (l.drop (n - 1))=125:=by
 fun_induction Cr d l generalizing n with
 |case1=>cases h
 |case2 d a r hc ih=>
  obtain ⟨m,U,rfl⟩:=Option.map_eq_some_iff.1 h
  have:=ih m U
  refine ⟨AC,?_⟩
  rw [show m+2 - 1=(m - 1)+1+1 by omega,List.drop_succ_cons]
  have h2:=this.2
  rwa [List.drop_drop,Nat.add_comm] at h2
 |case3 d a r hc hk hd=>
  injection h with h
  subst h
  exact ⟨Nat.le_refl _,hk.2⟩
 |case4 d a r hc hk hd ih=>
  obtain ⟨m,U,rfl⟩:=Option.map_eq_some_iff.1 h
  have:=ih m U
  refine ⟨AC,?_⟩
  rw [show m+2 - 1=(m - 1)+1+1 by omega,List.drop_succ_cons]
  have h2:=this.2
  rwa [List.drop_drop,Nat.add_comm] at h2
 |case5 d a r hc hk ih=>
  obtain ⟨m,U,rfl⟩:=Option.map_eq_some_iff.1 h
  have:=ih m U
  refine ⟨AC,?_⟩
  rw [show m+1 - 1=(m - 1)+1 by omega,List.drop_succ_cons]
  exact this.2
theorem BQ.uX (hv:Vd l):BQ l (DU l):=by
 have hb:Bd l (DU l)/\¬(0<DU l/\AV (l.drop (DU l - 1))=13/\AV (l.drop (DU l))=10):=by
  have key:∀l:List UInt8,(DU l=l.length\/∃b,l[DU l]? =some b/\b.toNat<128)/\¬(0<DU l/\AV (l.drop (DU l - 1))=13):=by
   intro l
   induction l with
   |nil=>exact ⟨.inl rfl,λh=>absurd h.1 Do⟩
   |cons a r ih=>
    by_cases hn:0<HP (a::r)
    .rw [DU,if_pos hn]
     refine ⟨.inr ⟨a,rfl,?_⟩,λh=>absurd h.1 Do⟩
     rcases FY (a::r) with ⟨e,_⟩|⟨_,U,_⟩|⟨_,U,_⟩
     .omega
     .simp only [AV] at U;omega
     .simp only [AV] at U;omega
    .rw [DU,if_neg hn]
     refine ⟨?_,?_⟩
     .rcases ih.1 with h|⟨b,h1,U⟩
      .exact .inl (by rw [h];rfl)
      .exact .inr ⟨b,by rw [List.getElem?_cons_succ];exact h1,U⟩
     .rintro ⟨_,h⟩
      by_cases h0:0<DU r
      .refine ih.2 ⟨h0,?_⟩
       rwa [show DU r+1 - 1=(DU r - 1)+1 by omega,List.drop_succ_cons] at h
      .rw [show DU r+1 - 1=0 by omega,List.drop_zero] at h
       rcases FY (a::r) with ⟨_,e⟩|⟨e,_⟩|⟨e,_⟩
       .exact e (.inl h)
       .omega
       .omega
  refine ⟨?_,λh=>(key l).2 ⟨h.1,h.2.1⟩⟩
  rcases (key l).1 with h|⟨b,h1,U⟩
  .rw [h];exact hv.end
  .exact (Bd.pw hv h1 U).1
 exact hb.1.cut hb.2
theorem BQ.note (U:Vd l) {n:Nat} (h:D7 l=n):BQ l n:=by
 unfold D7 at h
 split at h
 .rename_i hc
  cases hn:Cr 1 (l.drop 2) with
  |none=>rw [hn] at h;simp only [Fb] at h;omega
  |some m=>
   rw [hn] at h
   simp only [Fb] at h
   have:=HN _ _ _ hn
   rw [List.drop_drop] at this
   have e:n=(2+(m - 1))+1:=AC
   rw [e]
   exact BQ.behind U AC AC AC
 .split at h
  .have e:n=Fh l:=AC
   rw [e]
   unfold Fh
   dsimp only
   split
   .exact BQ.add (BQ.kind Do l) (BQ.uX ((Bd.span _ l).vd U))
   .exact .zero _
  .have e:n=0:=AC
   rw [e];exact .zero _
theorem ZG (l:List UInt8) (n:Nat) (h:FA l=.inr n):1<=n/\AV (l.drop (n - 1))=34:=by
 fun_induction FA l generalizing n with
 |case1 l hc=>injection h with h;subst h;exact ⟨Nat.le_refl _,hc⟩
 |case2 l hc e he=>cases h
 |case3 l hc p hp q hq U=>cases h
 |case4 l hc p hp m hm U=>
  injection h with h
  subst h
  have:=U m hm
  refine ⟨AC,?_⟩
  have h2:=this.2
  rwa [List.drop_drop,show p.2+(m - 1)=m+p.2 - 1 by omega] at h2
theorem BQ.quote {p:Nat} (hv:Vd (s.drop p)) (h:(CR s p).1≠0):∃n,(CR s p).2.1=(p+n:Nat)/\2<=n/\BQ (s.drop p) n:=by
 unfold CR at h |-
 split
 .rename_i hq
  rw [if_pos hq] at h
  cases U:FA (s.drop (p+1)) with
  |inl q=>rw [U] at h;exact absurd rfl h
  |inr n=>
   have:=ZG _ _ U
   refine ⟨n+1,UV,AC,?_⟩
   have h2:=this.2
   rw [show s.drop (p+1)=(s.drop p).drop 1 by rw [List.drop_drop],List.drop_drop,show 1+(n - 1)=n by omega] at h2
   exact BQ.behind hv AC AC AC
 .rename_i hq
  rw [if_neg hq] at h
  split
  .rename_i hq'
   rw [if_pos hq'] at h
   cases U:Ov (s.drop (p+1)) with
   |inl q=>rw [U] at h;exact absurd rfl h
   |inr n=>
    have:1<=n/\AV ((s.drop (p+1)).drop (n - 1))=39:=by
     unfold Ov at U
     split at U
     .cases U
     .split at U
      .cases U
      .split at U
       .rename_i hx
        injection U with U
        subst U
        exact ⟨AC,hx⟩
       .cases U
    refine ⟨n+1,UV,AC,?_⟩
    have h2:=this.2
    rw [show s.drop (p+1)=(s.drop p).drop 1 by rw [List.drop_drop],List.drop_drop,show 1+(n - 1)=n by omega] at h2
    exact BQ.behind hv AC AC AC
  .rename_i hq'
   rw [if_neg hq'] at h
   exact absurd rfl h
theorem XL (l:List (List UInt8)):(strs l).length=l.length:=by simp [strs]
theorem ZV {l:List (List UInt8)} {K:List V->Prop} (h:l[i.toNat]? =some x) (U:0<=i) (k:K [V.str x]):0<=i/\∃e,(strs l)[i.toNat]? =some e/\K e:=
 ⟨U,[V.str x],by simp [strs,h],k⟩
theorem iz {l:List (List UInt8)} {K:Nat->Prop} (k:l.length<4611686018427387904->K l.length):∀m,m=(strs l).length->m<Fe->K m:=λm U h=>by
 rw [XL] at U;subst U;exact k h
theorem LK {p:UInt8->Bool}:∀(l:List UInt8),(l.dropWhile p).all p=true->l.all p=true
 |[],_=>rfl
 |a::r,h=>by
  rw [List.dropWhile_cons] at h
  by_cases U:p a=true
  .rw [if_pos U] at h;rw [List.all_cons,U,Bool.true_and];exact LK r h
  .rw [if_neg U] at h;exact h
theorem dropWhile_nil {p:UInt8->Bool}:∀(l:List UInt8),l.dropWhile p=[]↔l.all p=true
 |[]=>by simp
 |a::r=>by
  rw [List.dropWhile_cons,List.all_cons]
  by_cases U:p a=true
  .rw [if_pos U,U,Bool.true_and];exact dropWhile_nil r
  .rw [if_neg U];simp only [Bool.not_eq_true] at U;rw [U];simp
theorem Tc (l:List UInt8):Lib.trimB l 45=[]↔l.all (λb=>b==45)=true:=by
 unfold Lib.trimB Lib.trimLeftB Lib.trimRightB
 rw [dropWhile_nil,List.all_reverse]
 refine ⟨λh=>?_,λh=>?_⟩
 .have:=LK _ h
  rwa [List.all_reverse] at this
 .have:l.reverse.dropWhile (λb=>b==45)=[]:=(dropWhile_nil _).2 (by rw [List.all_reverse];exact h)
  rw [this];rfl
theorem th (a b:UInt8) (l:List UInt8):[a,b].isPrefixOf l=decide (AV l=(a.toNat:Nat)/\AV (l.drop 1)=(b.toNat:Nat)):=by
 rcases l with _|⟨x,_|⟨y,r⟩⟩
 .refine (decide_eq_false λe=>?_).symm
  have h:(-1:Int)=(a.toNat:Nat):=e.1;omega
 .show (a==x&&false)=_
  rw [Bool.and_false]
  refine (decide_eq_false λe=>?_).symm
  have h:(-1:Int)=(b.toNat:Nat):=e.2;omega
 .show (a==x&&(b==y&&true))=decide (((x.toNat:Nat):Int)=(a.toNat:Nat)/\((y.toNat:Nat):Int)=(b.toNat:Nat))
  rw [Bool.and_true,Bool.eq_iff_iff,Bool.and_eq_true,beq_iff_eq,beq_iff_eq,decide_eq_true_iff]
  exact ⟨λe=>by rw [e.1,e.2];exact ⟨rfl,rfl⟩,λe=>⟨UInt8.toNat_inj.1 AC,UInt8.toNat_inj.1 AC⟩⟩
theorem Zw {w:(AM->Env->St->Prop)->Env->St->Prop} {U:Nat->Option ((AM->Env->St->Prop)->Env->St->Prop)} {env:Env} {st:St}
 (h:w (aA (λl env' st'=>∃y:Empty,(λe:Empty=>(e.elim:Nat)) y=l/\(λ_:Empty=>True) y/\((λe:Empty=>(e.elim:Env)) y).C7 env'/\St.le ((λe:Empty=>(e.elim:St)) y) st') Q) env st):PR w U Q env st:=
 ⟨Empty,λe=>e.elim,λe=>e.elim,λe=>e.elim,λ_=>True,λe=>e.elim,h,λx=>x.elim⟩
theorem qE {R:AL->St->Prop} {r r':AL} {st:St} (hle:St.le st st') (h:R r st) (e:r=r'):∃r2 U,(r2=r'\/r2=r'.wk)/\St.le U st'/\R r2 U:=⟨r,st,.inl e,hle,h⟩
end Go.Aw
namespace Go.Proofs.Z
open Go Go.Aw
section
variable {st:St} {R:AL->St->Prop}
theorem Ug {n:Nat} (e:i.toNat=n) (h:R (.ret (.bool (decide (AV (s.drop n)=123/\AV (s.drop (n+1))=45)))) st):PC 87 [.str (s.drop i.toNat),.str [123,45]] st R:=by
 refine Ji ?_
 rw [th,e,List.drop_drop]
 exact h
theorem mg {n:Nat} (e:i.toNat=n) (h:R (.ret (.bool (decide (AV (s.drop n)=45/\AV (s.drop (n+1))=125)))) st):PC 87 [.str (s.drop i.toNat),.str [45,125]] st R:=by
 refine Ji ?_
 rw [th,e,List.drop_drop]
 exact h
theorem iY (hl:s.length<=100000000) (hs:AV s=123/\AV (s.drop 1)=45) (h:R (.ret (.int .i64 (Fb 2 (Cr 1 (s.drop 2))))) st):PC 88 [.str s] st R:=by
 have hs0:AV (s.drop 0)=123:=hs.1
 refine pB Tryz.func88 ?_
 repeat' ((conv=>whnf);first|(refine BV ?_;intros)|(refine BW ?_ ?_<;>intro _)|refine Zw ?_)
 refine TZ (α:=Nat) (β:=Nat) (λpos d=>[(3,.int .i64 (d:Int)),(4,.int .i64 (pos:Int))]) (λ_ _=>[]) [0] [] (λ_ _=>st)
  (λpos d=>pos<=s.length/\d<=pos/\((pos=0/\d=0)\/(1<=d/\2<=pos/\Fb 2 (Cr 1 (s.drop 2))=Fb pos (Cr d (s.drop pos))))) (λpos _=>s.length - pos) 0 0 ⟨Nat.zero_le _,Nat.le_refl _,.inl ⟨rfl,rfl⟩⟩ Yl (St.le_refl _) ?_
 rintro pos d ⟨h1,h2,h3⟩
 have q1:=λh=>Cf (l:=s) (k:=pos+1) h
 rcases h3 with ⟨rfl,rfl⟩|⟨h3,h4,h5⟩
 .have hs1:AV (s.drop (0+1))=45:=hs.2
  repeat' ((conv=>whnf);first|(refine BV ?_;intros)|(refine BW ?_ ?_<;>intro _)|refine Ug (n:=0) AC ?_)
  .conv=>whnf
   exact ⟨(2,1),⟨UV,UV,.inr ⟨Nat.le_refl _,Nat.le_refl _,rfl⟩⟩,UV,Yl,St.le_refl _⟩
 repeat' ((conv=>whnf);first|(refine BV ?_;intros)|(refine BW ?_ ?_<;>intro _)|refine Ug (n:=pos) AC ?_|refine mg (n:=pos) AC ?_)
 .have k:AV (s.drop pos)=123/\AV (s.drop (pos+1))=45:=FS
  conv=>whnf
  exact ⟨(pos+2,d+1),⟨UV,UV,.inr ⟨UV,UV,h5.trans (dF k.1 k.2)⟩⟩,UV,Yl,St.le_refl _⟩
 .have k:AV (s.drop pos)=45/\AV (s.drop (pos+1))=125:=FS
  have e:=Q7 (d:=d) k.1 k.2
  rw [if_pos AC] at e
  exact fin h (BP (by rw [h5,e];rfl))
 .have k:AV (s.drop pos)=45/\AV (s.drop (pos+1))=125:=FS
  have e:=Q7 (d:=d) k.1 k.2
  rw [if_neg AC] at e
  obtain ⟨U,rfl⟩:∃U,d=U+1:=⟨d - 1,AC⟩
  rw [Nat.add_sub_cancel] at e
  have e2:((U+1:Nat):Int) - 1=(U:Int):=AC
  refine ⟨(pos+2,U),⟨UV,UV,.inr ⟨UV,UV,h5.trans e⟩⟩,UV,?_,St.le_refl _⟩
  rw [<-e2]
  exact Yl
 .conv=>whnf
  exact ⟨(pos+1,d),⟨UV,UV,.inr ⟨UV,UV,h5.trans (nM AC AC AC)⟩⟩,UV,Yl,St.le_refl _⟩
 .exact fin h (BP (by rw [h5,iX AC]))
theorem rl (hl:s.length<=100000000) (h:R (.ret (.int .i64 (Fh s:Nat))) st):PC 89 [.str s] st R:=by
 have hr:=Gq (λc=>AQ c==5) s
 generalize hn:B6 (λc=>AQ c==5) s=n at hr
 have hrun:∀{R:AL->St->Prop},R (.ret (.int .i64 (n:Nat))) st->PC 86 [.str s,.int .i64 0,.int .i64 5] st R:=λh=>pZ AC (by rw [hn];exact h)
 obtain ⟨rest,hg⟩:=du (s.drop n) 0 0 (Nat.le_refl _) (Nat.zero_le _)
 rw [List.drop_zero,List.drop_zero,Nat.zero_add] at hg
 have hlines:∀{R:AL->St->Prop},(∀own:AF,own.BH st->R (.ret (.slice 1 (strs (((s.drop n).take (DU (s.drop n)))::rest)) own)) (own.st st (((s.drop n).take (DU (s.drop n)))::rest).length))->PC 151 [.str (s.drop (n:Int).toNat)] st R:=
  λh=>aI M2 (by rw [show (n:Int).toNat=n by omega,hg];exact h)
 refine pB Tryz.func89 ?_
 have hel:=aj (s.drop n)
 have hlt:((s.drop n).take (DU (s.drop n))).length=DU (s.drop n):=NE
 rw [List.length_drop] at hel
 have U:Fh s=if 2<=n/\(s.take n).all (λb=>b==45)=true then n+DU (s.drop n) else 0:=by unfold Fh;rw [hn]
 repeat' ((conv=>whnf);first|(refine BV ?_;intros)|(refine BW ?_ ?_<;>intro _)|refine hrun ?_|refine sf Do ?_|refine hlines (λown ho=>?_)|refine ZV (l:=((s.drop n).take (DU (s.drop n)))::rest) rfl AC ?_)
 .rw [if_neg AC] at U
  exact fin h (BP (by rw [U];rfl))
 .have ht:=(Tc (s.take n)).1 ‹_›
  rw [if_pos ⟨AC,ht⟩] at U
  exact qE (AF.Ba ‹_›) h (BP (by rw [U];omega))
 .have ht:¬(s.take n).all (λb=>b==45)=true:=λe=>absurd ((Tc (s.take n)).2 e) ‹_›
  rw [if_neg (λe=>ht e.2)] at U
  exact fin h (BP (by rw [U];rfl))
theorem SK (h:D7 (s.drop pos)<0):CQ s pos=(0,60):=if_pos h
theorem aX (h:D7 (s.drop pos)=0):CQ s pos=(0,0):=by unfold CQ;rw [if_neg AC,if_pos h]
theorem dG {n:Int} (h:D7 (s.drop pos)=n) (U:0<n) (e:i=pos+n):CQ s pos=(i,0):=by unfold CQ;rw [if_neg AC,if_neg AC,h,e]
theorem Nc {n:Int} (h:D7 (s.drop pos)=n) (U:0<n) (e:i=pos+n):AL.ret (.Bh [.int .i64 (CQ s pos).1,.int .i64 (CQ s pos).2])=AL.ret (.Bh [.int .i64 i,.int .i64 0]):=by rw [dG h U e]
theorem nQ (hl:s.length<=100000000) (hp:pos<s.length) (h:R (.ret (.Bh [.int .i64 (CQ s pos).1,.int .i64 (CQ s pos).2])) st):PC 45 [.str s,.int .i64 pos] st R:=by
 have hle:=V3 (s.drop pos)
 rw [List.length_drop] at hle
 have hdl:(s.drop pos).length<=100000000:=M2
 have d1:(s.drop pos).drop 1=s.drop (pos+1):=List.drop_drop
 obtain ⟨e,he⟩:∃e,s[pos]? =some e:=⟨s[pos],List.getElem?_eq_getElem hp⟩
 have he':s[(pos:Int).toNat]? =some e:=he
 have hh:=Ds he
 refine pB Tryz.func45 ?_
 by_cases U:AV (s.drop pos)=123/\AV (s.drop (pos+1))=45
 .have hN:D7 (s.drop pos)=Fb 2 (Cr 1 ((s.drop pos).drop 2)):=if_pos ⟨U.1,by rw [d1];exact U.2⟩
  have hc:∀{R:AL->St->Prop},R (.ret (.int .i64 (D7 (s.drop pos)))) st->PC 88 [.str (s.drop (pos:Int).toNat)] st R:=λh=>iY hdl ⟨U.1,by rw [show (pos:Int).toNat=pos by omega,d1];exact U.2⟩ (by rw [show (pos:Int).toNat=pos by omega,<-hN];exact h)
  repeat' ((conv=>whnf);first|(refine BV ?_;intros)|(refine BW ?_ ?_<;>intro _)|refine Ug (n:=pos) AC ?_|refine hc ?_)
  all_goals first
   |exact fin h (by rw [SK AC])
   |exact fin h (by rw [aX AC])
   |exact fin h (Nc rfl AC AC)
   |exact fin h (Nc (hN AC) AC AC)
 .have hN:AV (s.drop pos)=45->D7 (s.drop pos)=(Fh (s.drop pos):Nat):=λe=>by unfold D7;rw [if_neg (by rw [d1];exact U),if_pos e]
  have hN0:¬AV (s.drop pos)=45->D7 (s.drop pos)=0:=λe=>by unfold D7;rw [if_neg (by rw [d1];exact U),if_neg e]
  have hc:∀{R:AL->St->Prop},R (.ret (.int .i64 (Fh (s.drop pos):Nat))) st->PC 89 [.str (s.drop (pos:Int).toNat)] st R:=λh=>rl hdl h
  repeat' ((conv=>whnf);first|(refine BV ?_;intros)|(refine BW ?_ ?_<;>intro _)|refine Ug (n:=pos) AC ?_|refine hc ?_)
  all_goals first
   |exact fin h (by rw [SK AC])
   |exact fin h (by rw [aX AC])
   |exact fin h (Nc rfl AC AC)
   |exact fin h (Nc (hN AC) AC AC)
end
end Go.Proofs.Z
namespace Go.Aw
open Go
def LF (l:List UInt8):Int:=if AV l<0 then 0 else AV l
theorem qn {i:Nat} {e:UInt8} (h:s[i]? =some e):LF (s.drop i)=(e.toNat:Nat):=by unfold LF;rw [Ds h,if_neg AC]
theorem fS {i:Nat} (h:s.length<=i):LF (s.drop i)=0:=by unfold LF;rw [EF h];rfl
theorem Ku (l:List UInt8):(AV l= -1/\LF l=0)\/(0<=AV l/\LF l=AV l):=by
 have:=ie l
 unfold LF
 split
 .exact .inl ⟨AC,rfl⟩
 .exact .inr ⟨AC,rfl⟩
def lG (l:List (Nat×Nat)):List (List V):=l.map λp=>[V.int .i64 (p.1:Int),V.int .i64 (p.2:Int)]
def Sc (st:St) (n:Nat):AF->Prop
 | .full=>True
 | .tok b=>st.hw b=some n
 | .any=>False
def fk (st0:St):AF->Prop
 | .tok b=>st0.fresh b
 |_=>True
def ZT:AF->AF->Prop
 | .tok b,.tok c=>b≠c
 |_,_=>True
structure B5 (st0 st:St) (w1:AF) (n1:Nat) (w2:AF) (n2:Nat):Prop where
 o1:Sc st n1 w1
 o2:Sc st n2 w2
 f1:fk st0 w1
 f2:fk st0 w2
 ne:ZT w1 w2
 le:st0.le st
theorem ZT.symm {a b:AF} (h:ZT a b):ZT b a:=by
 cases a<;>cases b<;>first|exact h|exact Ne.symm h
theorem B5.swap {st:St} (h:B5 st0 st w1 n1 w2 n2):B5 st0 st w2 n2 w1 n1:=⟨h.o2,h.o1,h.f2,h.f1,h.ne.symm,h.le⟩
theorem B5.set {st:St} {b:Nat} (h:B5 st0 st w1 n1 w2 n2) (hb:st0.box b=none) (cs:List V):B5 st0 (st.Ab b cs) w1 n1 w2 n2:=
 ⟨by have:=h.o1;cases w1<;>exact this,by have:=h.o2;cases w2<;>exact this,h.f1,h.f2,h.ne,St.Au h.le hb cs⟩
theorem Lu {st:St} {sz bytes:Nat} {es new:List (List V)} (h:B5 st0 st w1 n1 w2 n2) (hn:n1=es.length*sz)
 (h1:(es.length+new.length)*bytes<=140737488355328) (h2:es.length+new.length<Fe) (h3:(new.all λv=>v.all V.sc)=true) (hne:new≠[])
 (k:∀w1' st',B5 st0 st' w1' ((es.length+new.length)*sz) w2 n2->st'.box=st.box->K (.slice sz (es++new.map (·.map V.Ko)) w1') st'):Ag sz bytes es w1 new st K:=by
 subst hn
 have frs:∀{x:Nat},st.fresh x->st0.fresh x:=λ{x} hx=>by
  refine ⟨?_,?_⟩
  .cases e:st0.box x with
   |none=>rfl
   |some c=>have:=h.le.1 _ _ e;rw [hx.1] at this;cases this
  .cases e:st0.hw x with
   |none=>rfl
   |some c=>have:=h.le.2 _ _ e;rw [hx.2] at this;cases this
 refine ⟨h1,h2,Ay h3 ?_⟩
 cases hw:w1 with
 |any=>have:=h.o1;rw [hw] at this;exact this
 |full=>
  refine ⟨λe=>absurd e hne,λ_=>.inl λb hb=>k (.tok b) _ ⟨?_,?_,frs hb,h.f2,?_,St.KJ h.le (frs hb).2 _⟩ rfl⟩
  .simp [Sc,St.B2]
  .have:=h.o2
   cases w2 with
   |tok c=>
    have hc:st.hw c=some n2:=this
    have:c≠b:=λe=>by subst e;rw [hb.2] at hc;cases hc
    simp [Sc,St.B2,this,hc]
   |_=>exact this
  .cases w2 with
   |tok c=>
    have hc:st.hw c=some n2:=h.o2
    exact λe=>by subst e;rw [hb.2] at hc;cases hc
   |_=>trivial
 |tok b=>
  subst hw
  have hb:st.hw b=some (es.length*sz):=h.o1
  have hb0:st0.fresh b:=h.f1
  refine ⟨hb,λb' U=>k (.tok b') _ ⟨?_,?_,?_,h.f2,?_,?_⟩ rfl⟩
  .simp [Sc,St.B2]
  .have:=h.o2
   cases w2 with
   |tok c=>
    have hc:st.hw c=some n2:=this
    have hcb:b≠c:=h.ne
    have hcb':c≠b':=λe=>by
     subst e
     rcases U with e|U
     .exact hcb e.symm
     .rw [U.2] at hc;cases hc
    simp [Sc,St.B2,St.Ex,hcb',hcb.symm,hc]
   |_=>exact this
  .rcases U with rfl|U
   .exact hb0
   .exact frs U
  .cases w2 with
   |tok c=>
    have hc:st.hw c=some n2:=h.o2
    have hcb:b≠c:=h.ne
    refine λ(e:b'=c)=>?_
    subst e
    rcases U with e|U
    .exact hcb e.symm
    .rw [U.2] at hc;cases hc
   |_=>trivial
  .refine ⟨λx cs e=>h.le.1 x cs e,λx n e=>?_⟩
   have e1:=h.le.2 x n e
   have hx:x≠b:=λhx=>by subst hx;rw [hb0.2] at e;cases e
   have hx':x≠b':=λhx=>by
    subst hx
    rcases U with e'|U
    .exact hx e'
    .rw [U.2] at e1;cases e1
   simp [St.B2,St.Ex,hx,hx',e1]
theorem Ih (l:List Int):(ints l).length=l.length:=by simp [ints]
theorem JW (l:List (Nat×Nat)):(lG l).length=l.length:=by simp [lG]
theorem Xk {st:St} (h:B5 st0 st w1 o.length w2 n2) (hl:o.length<=1000000000)
 (k:∀U st',B5 st0 st' U (o++[v]).length w2 n2->st'.box=st.box->K (.slice 1 (ints (o++[v])) U) st'):Ag 1 8 (ints o) w1 [[.int .i64 v]] st K:=by
 refine Lu h (by rw [Ih];omega) (by rw [Ih,List.length_singleton];omega) (by rw [Ih,List.length_singleton];unfold Fe;omega) rfl GT (λU st' hr hb=>?_)
 have:=k U st' (by rw [Ih] at hr;rw [List.length_append];simpa using hr) hb
 rwa [show ints (o++[v])=ints o++([[V.int .i64 v]]:List (List V)).map (·.map V.Ko) by simp [ints,V.Ko]] at this
theorem ek {st:St} {p:Nat×Nat} {a b:Int} (h:B5 st0 st w1 n1 w2 (2*g.length)) (hl:g.length<=1000000000) (ha:a=(p.1:Int)) (hb:b=(p.2:Int))
 (k:∀U st',B5 st0 st' w1 n1 U (2*(g++[p]).length)->st'.box=st.box->K (.slice 2 (lG (g++[p])) U) st'):Ag 2 16 (lG g) w2 [[.int .i64 a,.int .i64 b]] st K:=by
 subst ha;subst hb
 refine Lu h.swap (by rw [JW];omega) (by rw [JW,List.length_singleton];omega) (by rw [JW,List.length_singleton];unfold Fe;omega) rfl GT (λw1' st' hr hb=>?_)
 have:=k w1' st' (by rw [JW] at hr;rw [List.length_append];have:=hr.swap;simpa [Nat.mul_comm] using this) hb
 rwa [show lG (g++[p])=lG g++([[V.int .i64 (p.1:Int),V.int .i64 (p.2:Int)]]:List (List V)).map (·.map V.Ko) by simp [lG,V.Ko]] at this
theorem St.AY (st:St) (b:Nat) (cs:List V):(st.Ab b cs).box b=some cs:=by simp [St.Ab]
theorem Aq {st:St} {b:Nat} {cs:List V} {K:List V->Prop} (h:st.box b=some cs) (k:K cs):∃cs,st.box b=some cs/\K cs:=⟨cs,h,k⟩
end Go.Aw
namespace Go.Proofs.Z
open Go Go.Aw
def L2 (c:Int):Int:=if c=97 then 0 else if c=98 then 1 else if c=116 then 2 else if c=110 then 3 else if c=118 then 4 else if c=102 then 5 else if c=114 then 6 else -1
theorem qg (u:UInt8):Lib.indexByte [97,98,116,110,118,102,114] u=L2 (u.toNat:Nat):=by
 have key:∀k:UInt8,((u.toNat:Nat):Int)=((k.toNat:Nat):Int)->u=k:=λk e=>UInt8.toNat_inj.1 AC
 unfold L2
 by_cases U:((u.toNat:Nat):Int)=97
 .rw [key 97 U];rfl
 by_cases h2:((u.toNat:Nat):Int)=98
 .rw [key 98 h2];rfl
 by_cases h3:((u.toNat:Nat):Int)=116
 .rw [key 116 h3];rfl
 by_cases h4:((u.toNat:Nat):Int)=110
 .rw [key 110 h4];rfl
 by_cases h5:((u.toNat:Nat):Int)=118
 .rw [key 118 h5];rfl
 by_cases h6:((u.toNat:Nat):Int)=102
 .rw [key 102 h6];rfl
 by_cases h7:((u.toNat:Nat):Int)=114
 .rw [key 114 h7];rfl
 rw [if_neg U,if_neg h2,if_neg h3,if_neg h4,if_neg h5,if_neg h6,if_neg h7]
 have ne:∀k:UInt8,¬((u.toNat:Nat):Int)=((k.toNat:Nat):Int)->(k==u)=false:=λk e=>beq_eq_false_iff_ne.2 (λx=>e (by rw [x]))
 simp only [Lib.indexByte,ne 97 U,ne 98 h2,ne 116 h3,ne 110 h4,ne 118 h5,ne 102 h6,ne 114 h7]
 rfl
def qC (s:List UInt8) (p:Nat) (tx:Bool) (o:List Int) (w1:AF) (g:List (Nat×Nat)) (w2:AF):List V:=[.str s,.int .i64 (p:Int),.bool tx,.slice 1 (ints o) w1,.slice 2 (lG g) w2]
def JX (p:Int) (e:Int):V:=.iface 228 (.agg [.int .i64 p,.int .i64 e])
section
variable {st:St} {R:AL->St->Prop}
theorem GX {v:V} {p e:Int} (h:R (.Cz (JX p e)) st):PC 323 [v,.int .i64 p,.int .i64 e] st R:=by
 refine pB Tryz.func323 ?_
 repeat' ((conv=>whnf);first|(refine BV ?_;intros)|(refine BW ?_ ?_<;>intro _)|fail)
 all_goals exact fin h rfl
theorem Fl {b p k:Nat} {tx:Bool} (hl:s.length<=100000000) (hp:p<=s.length) (hk:k<=10) (hb:st.box b=some (qC s p tx o w1 g w2))
 (h:R (.ret (.int .u8 (LF (s.drop (p+k))))) st):PC 321 [.ptr b 0,.int .i64 k] st R:=by
 refine pB Tryz.func321 ?_
 have e0:((p:Int)+(k:Int)).toNat=p+k:=AC
 by_cases U:p+k<s.length
 .obtain ⟨e,he⟩:∃e,s[p+k]? =some e:=⟨s[p+k],List.getElem?_eq_getElem U⟩
  have he':s[((p:Int)+(k:Int)).toNat]? =some e:=by rw [e0];exact he
  rw [qn he] at h
  repeat' ((conv=>whnf);first|exact D1|(refine BV ?_;intros)|(refine D2 ?_ ?_ ?_;rotate_left)|(refine BW ?_ ?_<;>intro _)|refine Aq hb ?_|with_reducible refine WF ?_)
  all_goals exact fin h rfl
 .rw [fS AC] at h
  repeat' ((conv=>whnf);first|exact D1|(refine BV ?_;intros)|(refine D2 ?_ ?_ ?_;rotate_left)|(refine BW ?_ ?_<;>intro _)|refine Aq hb ?_|with_reducible refine WF ?_)
  all_goals exact fin h rfl
theorem sG {c:Int} (U:0<=c) (h1:c<=255) (h:R (.ret (.int .i64 (L2 c))) st):PC 346 [.str [97,98,116,110,118,102,114],.int .u8 c] st R:=by
 obtain ⟨u,rfl⟩:∃u:UInt8,c=((u.toNat:Nat):Int):=⟨UInt8.ofNat c.toNat,by rw [UInt8.toNat_ofNat'];omega⟩
 exact qo (by rw [qg];exact h)
def rV:Option Int->V
 |some v=>.Bh [.int .i64 v,.bool true]
 |none=>.Bh [.int .i64 0,.bool false]
theorem kP {c:Int} (U:0<=c) (h1:c<=255) (h:R (.ret (rV (H8 c))) st):PC 354 [.int .u8 c] st R:=by
 have ha:(L2 c= -1/\¬(c=97\/c=98\/c=116\/c=110\/c=118\/c=102\/c=114))\/(0<=L2 c/\L2 c<=6/\((c=97/\L2 c=0)\/(c=98/\L2 c=1)\/(c=116/\L2 c=2)\/(c=110/\L2 c=3)\/(c=118/\L2 c=4)\/(c=102/\L2 c=5)\/(c=114/\L2 c=6))):=by
  unfold L2
  (repeat' split)<;>first|(left;omega)|(right;omega)
 refine pB Tryz.func354 ?_
 repeat' ((conv=>whnf);first|(refine BV ?_;intros)|(refine BW ?_ ?_<;>intro _)|refine sG U h1 ?_)
 all_goals first
  |exact fin h (by rw [show H8 c=some c by unfold H8;rw [if_pos AC]];rfl)
  |(have e:H8 c=some (7+L2 c):=by
     unfold H8
     rw [if_neg AC]
     (repeat' split)<;>first|(congr 1;omega)|(exfalso;omega)
    exact fin h (by rw [e];rfl))
  |(have e:H8 c=none:=by
     unfold H8
     rw [if_neg AC]
     (repeat' split)<;>first|rfl|(exfalso;omega)
    exact fin h (by rw [e];rfl))
end
end Go.Proofs.Z
namespace Go.Proofs.Z
open Go Go.Aw Go.Shelf
theorem eA {I : Mem} {st : St} {w : World} (hs : CH I st w) : Lib.TabIs Tryz.prog w "strings.asciiSpace" .u8 Lib.asciiSpaceTab := by
 obtain ⟨c,ty,h1,h2⟩:=hs.shape 3 256 hs.UF.kR
 have hg : Tryz.prog.globalNamed "strings.asciiSpace" = some 3 := by kernel_rfl
 unfold Lib.TabIs World.var?
 rw [hg]
 simp only [Option.bind_some,h1,Option.some.injEq]
 have hlen:Lib.asciiSpaceTab.length=256:=GE
 refine Array.ext (by rw [h2];simp [hlen]) λi hi hi'=>?_
 have U:=hs.cell _ _ _ (hs.UF.space i AC)
 simp only [World.cell?,h1,Option.isSome_none,Bool.false_eq_true,if_false] at U
 rw [Array.getElem?_eq_getElem hi] at U
 injection U with U
 rw [U]
 have hi2:i<Lib.asciiSpaceTab.length:=by rw [hlen];omega
 simp [List.getD_eq_getElem?_getD,List.getElem?_eq_getElem hi2]
section
variable {st:St} {R:AL->St->Prop}
theorem gY (hz:s.length<4294967281) (ha:∀b ∈ s,b.toNat<128) (h:R (.ret (.slice 1 (strs (Lib.fields s)) .any)) st) (hl:∀x ∈ Lib.fields s,x.length<Fe) (hn:(Lib.fields s).length<Fe):PC 358 [.str s] st R:=by
 refine ⟨λI w U hs hc=>?_,⟨_,Tryz.func358,Do,Do⟩⟩
 simp only [Aj,AE] at hc
 obtain ⟨c,r,rfl,⟨rfl,_⟩,rfl⟩:=hc
 refine (Tryz.strings_Fields ⟨s.toArray⟩ w (by show s.toArray.size<_;simpa using hz) (λj b e=>ha b (List.mem_of_getElem? (by simpa using e))) (eA hs)).mono λe w' ⟨he,hw⟩=>?_
 subst hw
 obtain ⟨h1,h2,h3⟩:=hs.row ((Lib.fields s).map λl=>Value.string ⟨l.toArray⟩) 9
 refine ⟨_,_,.ret _,h1,h2,?_,h⟩
 subst he
 exact jH (Lib.fields s) hl hn h3
end
def YK (p:Nat->Bool) (s:List UInt8):Int:=if BA (λd=> !(p d.1)) s<s.length then (BA (λd=> !(p d.1)) s:Nat) else -1
theorem idx_eq (p:Nat->Bool) (s:List UInt8):∀(f pos:Nat),pos<=s.length->s.length - pos<=f->Lib.idxFuncFrom p true ⟨s.toArray⟩ f pos=if BA (λd=> !(p d.1)) (s.drop pos)<s.length - pos then ((pos+BA (λd=> !(p d.1)) (s.drop pos):Nat):Int) else -1
 |0,pos,h1,h2=>by
  rw [if_neg AC];rfl
 |f+1,pos,h1,h2=>by
  unfold Lib.idxFuncFrom
  have hz:(⟨s.toArray⟩:ByteArray).size=s.length:=by simp [ByteArray.size]
  rw [hz]
  by_cases U:pos<s.length
  .rw [if_pos U,Tw U]
   rcases hd:AU (s.drop pos) with ⟨c,m⟩
   have hr:=rune_le U hd.symm
   dsimp only
   by_cases hc:p c=true
   .rw [if_pos hc,Fx (p:=λd=> !(p d.1)) (by rw [hd];simp [hc]),if_pos AC];rfl
   .rw [if_neg hc,idx_eq p s f (pos+m) hr.1 AC]
    have e:=CL (p:=λd=> !(p d.1)) (TA U) (by rw [hd];simpa using hc)
    rw [hd,List.drop_drop] at e
    dsimp only at e
    rw [e]
    by_cases hk:BA (λd=> !(p d.1)) (s.drop (pos+m))<s.length - (pos+m)
    .rw [if_pos hk,if_pos AC];congr 1;omega
    .rw [if_neg hk,if_neg AC]
  .rw [if_neg U,if_neg AC]
section
variable {st:St} {R:AL->St->Prop}
def rj:St:=⟨λ_=>none,λ_=>none⟩
theorem aC {g:FuncId} {p:Nat->Bool} (hg:∀c:Nat,c<=1114111->PC g [.int .i32 (c:Int)] rj λr _=>r=.ret (.bool (p c))) (h:R (.ret (.int .i64 (YK p s))) st):PC 41 [.str s,.func g [] []] st R:=by
 refine Dx ⟨_,Tryz.func41,Do,Do⟩ _ (λI w cargs hs hc=>?_) h
 simp only [Aj,AE] at hc
 obtain ⟨c1,r1,rfl,⟨rfl,hl⟩,c2,r2,rfl,⟨az,cs,rfl,rfl,rfl⟩,rfl⟩:=hc
 obtain ⟨fn,p1,p2,p3⟩:=(hg 0 Do).b
 have eg:∀args w,(callFunc g args).run Tryz.prog w=.ok (.enter g args) w:=λargs w=>by
  have hb:fn.body.isNone=false:=by cases hb:fn.body<;>simp_all
  simp only [callFunc,Sem.run_bind,Result.andThen_ok,run_program,p1]
  rw [p3]
  simp [hb]
 have hp:PredGrows Tryz.prog g #[] p w:=λW x hx hb=>by
  obtain ⟨_,hW⟩:=hs.below hb
  have hW0:CH I rj W:=⟨hW.cell,hW.shape,λb cs e=>(by cases e),λb e=>absurd rfl e,λb n e=>(by cases e),hW.UF⟩
  refine ((hg x hx).a I W [.int .i32 x] hW0 (by simp only [Aj,AE];exact ⟨_,_,rfl,rfl,rfl⟩)).mono ?_
  rintro e w' ⟨I',st',r,k1,k2,U,rfl⟩
  refine ⟨?_,⟨k1.os,k1.tape,k1.output,k1.size,λk hk=>k1.Mq k hk rfl rfl⟩⟩
  cases e with
  |returned c=>
   have U:AE I' (.bool (p x)) c:=U
   simp only [AE] at U
   rw [U]
  |panicked _=>exact U.elim
  |outgrown=>exact U.elim
 refine (Tryz.strings_IndexFunc_grows g #[] eg p ⟨s.toArray⟩ w hp).mono λe w' ⟨he,hb⟩=>⟨⟨_,he,?_⟩,hb⟩
 simp only [AE]
 unfold Lib.idxFunc YK
 rw [idx_eq p s _ 0 (Nat.zero_le _) (by simp [ByteArray.size]),List.drop_zero,Nat.sub_zero,Nat.zero_add]
end
end Go.Proofs.Z
namespace Go.Aw
open Go
def Q6:List UInt8:=[78,85,76,32,83,79,72,32,83,84,88,32,69,84,88,32,69,79,84,32,69,78,81,32,65,67,75,32,66,69,76,32,66,83,32,72,84,32,76,70,32,86,84,32,70,70,32,67,82,32,83,79,32,83,73,32,68,76,69,32,68,67,49,32,68,67,50,32,68,67,51,32,68,67,52,32,78,65,75,32,83,89,78,32,69,84,66,32,67,65,78,32,69,77,32,83,85,66,32,69,83,67,32,70,83,32,71,83,32,82,83,32,85,83,32,83,80,32,68,69,76]
theorem TJ:Lib.fields Q6=Ft:=GE
theorem iV:∀b ∈ Q6,b.toNat<128:=by
 have h:Q6.all (λb=>decide (b.toNat<128))=true:=GE
 intro b hb
 simpa using List.all_eq_true.1 h b hb
theorem SE:∀w ∈ Ft,1<=w.length/\w.length<=3:=by
 have h:Ft.all (λw=>decide (1<=w.length)&&decide (w.length<=3))=true:=GE
 intro w hw
 simpa using List.all_eq_true.1 h w hw
theorem nH:Ft.length=34:=GE
theorem UJ {c m:Nat} (h:pos<s.length) (U:(c,m)=AU (s.drop pos)) (k:¬Bw (c:Int) base<0):Ju base v (s.drop pos)=Ju base (min (v*base+Bw (c:Int) base) 1114112) (s.drop (pos+1)):=by
 rw [List.drop_eq_getElem_cons h] at U |-
 by_cases hb:s[pos].toNat<128
 .rw [Ea hb] at U
  injection U with h1 h2
  subst h1
  rw [Ju,if_neg k]
 .have:=Pr (r:=s.drop (pos+1)) hb
  rw [<-U] at this
  exact absurd (IV (c:=(c:Int)) (base:=base) (by dsimp only at this;omega)) k
theorem LB {c m:Nat} (h:pos<s.length) (U:(c,m)=AU (s.drop pos)) (k:Bw (c:Int) base<0):Ju base v (s.drop pos)=v:=by
 rw [List.drop_eq_getElem_cons h] at U |-
 by_cases hb:s[pos].toNat<128
 .rw [Ea hb] at U
  injection U with h1 h2
  subst h1
  rw [Ju,if_pos k]
 .rw [Ju,if_pos (IV AC)]
theorem Oq (h:s.length<=pos):Ju base v (s.drop pos)=v:=by rw [List.drop_eq_nil_iff.2 h];rfl
theorem La {c b:Int}:Bw c b<0\/Bw c b<b:=by
 unfold Bw
 dsimp only
 generalize (if 48<=c/\c<=57 then c - 48 else if 97<=c/\c<=102 then c - 87 else if 65<=c/\c<=70 then c - 55 else 16)=v
 split
 .exact .inl Do
 .exact .inr AC
theorem Yv {c b:Int} {K:Int->Prop} (h0:0<=v) (h1:v<=1114112) (hb:0<=b) (U:b<=16) (hk:¬Bw c b<0) (k:K (v*b+Bw c b)):∃r,r=IntKind.i64.wrap (v*b+Bw c b)/\K r:=by
 have h2:0<=v*b:=Int.mul_nonneg h0 hb
 have h3:v*b<=1114112*16:=Int.mul_le_mul h1 U hb Do
 have h4:=La (c:=c) (b:=b)
 exact Wq AC AC k
theorem iU:Q6.length<1000:=GE
theorem iS {a b:Int} {K:Int->Prop} (k:K (min a b)):∃r,r=(if b<a then b else a)/\K r:=⟨min a b,by rw [Int.min_def];split<;>split<;>omega,k⟩
theorem dB {i c n:Nat} (h:Ft[i]? =some x):N3 l (Ft.drop i) i (c,n)=N3 l (Ft.drop (i+1)) (i+1) (if n<x.length/\x.isPrefixOf l=true then (i,x.length) else (c,n)):=by
 rw [drop_at h,N3]
theorem nG {c n:Nat} (h:N3 l Ft 0 (0,0)=(c,n)):Km l=(if c=33 then 127 else (c:Int),n):=by
 have key:∀p:Nat×Nat,p=(c,n)->((if p.1=33 then 127 else (p.1:Int),p.2):Int×Nat)=(if c=33 then 127 else (c:Int),n):=λp U=>by subst U;rfl
 exact key _ h
end Go.Aw
namespace Go.Proofs.Z
open Go Go.Aw
theorem Gm {b:Int} {n:Nat} {t:Bool} (U:Bo b s=n) (e2:Ju b 0 s=v) (e3:decide (n≠0/\v<=1114111)=t):AL.ret (.Bh [.int .i64 (Ju b 0 s),.int .i64 (Bo b s:Nat),.bool (decide (Bo b s≠0/\Ju b 0 s<=1114111))])=AL.ret (.Bh [.int .i64 v,.int .i64 (n:Int),.bool t]):=by rw [U,e2,e3]
section
variable {st:St} {R:AL->St->Prop}
theorem gZ {l:List (List UInt8)} (e:Lib.fields s=l) (hz:s.length<1000) (U:∀b ∈ s,b.toNat<128) (hl:∀x ∈ l,x.length<=3) (hn:l.length<=1000) (h:R (.ret (.slice 1 (strs l) .any)) st):PC 358 [.str s] st R:=by
 subst e
 exact gY AC U h (λx hx=>by have:=hl x hx;unfold Fe;omega) (by unfold Fe;omega)
theorem nL (h:R (.ret (.slice 1 (strs Ft) .any)) st):PC 358 [.str Q6] st R:=
 gZ TJ iU iV (λx U=>(SE x U).2) (Nat.le_trans (Nat.le_of_eq nH) Do) h
set_option maxRecDepth 100000 in
theorem nJ (hl:s.length<=100000000) (h:R (.ret (.Bh [.int .i64 (Km s).1,.int .i64 (Km s).2])) st):PC 356 [.str s] st R:=by
 refine pB Tryz.func356 ?_
 repeat' ((conv=>whnf);first|(refine BV ?_;intros)|(refine BW ?_ ?_<;>intro _)|refine nL ?_|refine iz (λ_=>?_))
 refine T0 (α:=Nat) (β:=Nat) (γ:=Nat) (λi c n=>[(8,.int .i64 (i:Int)),(2,.int .i64 (c:Int)),(3,.int .i64 (n:Int))]) (λ_ _ _=>[]) [0,6,7] [] (λ_ _ _=>st)
  (λi c n=>i<=Ft.length/\n<=3/\N3 s Ft 0 (0,0)=N3 s (Ft.drop i) i (c,n)) (λi _ _=>Ft.length - i) 0 0 0 ⟨Nat.zero_le _,Do,rfl⟩ Yl (St.le_refl _) ?_
 rintro i c n ⟨h1,h2,U⟩
 rcases hx:Ft[i]? with _|x
 .have hge:=List.getElem?_eq_none_iff.1 hx
  rw [List.drop_eq_nil_iff.2 hge] at U
  have e:=nG U
  repeat' ((conv=>whnf);first|(refine BV ?_;intros)|(refine BW ?_ ?_<;>intro _)|fail)
  all_goals first
   |exact fin h (by rw [e,if_pos AC])
   |exact fin h (by rw [e,if_neg AC])
 .have hlt:=(List.getElem?_eq_some_iff.1 hx).1
  have hm:=SE x (List.mem_of_getElem? hx)
  rw [dB hx] at U
  have hx':Ft[((i:Int)).toNat]? =some x:=hx
  repeat' ((conv=>whnf);first|(refine BV ?_;intros)|(refine BW ?_ ?_<;>intro _)|refine ZV hx' AC ?_|refine Ji ?_)
  .rw [if_pos ⟨AC,FS⟩] at U
   conv=>whnf
   exact ⟨(i+1,i,x.length),⟨UV,UV,U⟩,UV,Yl,St.le_refl _⟩
  .have hp:x.isPrefixOf s=false:=FS
   rw [if_neg (λy=>by rw [hp] at y;cases y.2)] at U
   conv=>whnf
   exact ⟨(i+1,c,n),⟨UV,UV,U⟩,UV,Yl,St.le_refl _⟩
  .rw [if_neg (λy=>by omega)] at U
   conv=>whnf
   exact ⟨(i+1,c,n),⟨UV,UV,U⟩,UV,Yl,St.le_refl _⟩
theorem V5 {b:Int} (hl:s.length<=100000000) (hb:b=8\/b=10\/b=16) (h:R (.ret (.Bh [.int .i64 (Ju b 0 s),.int .i64 (Bo b s:Nat),.bool (decide (Bo b s≠0/\Ju b 0 s<=1114111))])) st):PC 357 [.str s,.int .i64 b] st R:=by
 refine pB Tryz.func357 ?_
 repeat' ((conv=>whnf);first|(refine BV ?_;intros)|(refine BW ?_ ?_<;>intro _)|fail)
 refine TZ (α:=Nat) (β:=Int) (λpos v=>[(4,.int .i64 v),(5,.int .i64 (pos:Int))]) (λpos _=>[(0,[.O9 s pos])]) [0,1,11] [] (λ_ _=>st)
  (λpos v=>pos<=s.length/\0<=v/\v<=1114112/\Bo b s=pos+Bo b (s.drop pos)/\Ju b 0 s=Ju b v (s.drop pos)) (λpos _=>s.length - pos) 0 0 ⟨Nat.zero_le _,Do,Do,GT,rfl⟩ Yl (St.le_refl _) ?_
 rintro pos v ⟨h1,h2,h3,h4,h5⟩
 rcases hb with rfl|rfl|rfl
 .skip
  have hdl:=λc=>La (c:=c) (b:=8)
  repeat' ((conv=>whnf);first|(refine BV ?_;intros)|(refine BW ?_ ?_<;>intro _)|refine MQ ?_|refine iS ?_|refine Yv h2 h3 Do Do ‹_› ?_)
  all_goals first
   |(rename_i U c m hd hk _ _
     have e1:=Il U hd hk
     have e2:=LB (v:=v) U hd hk
     exact fin h (Gm AC (h5.trans e2) (by first|exact decide_eq_true ⟨AC,AC⟩|exact decide_eq_false AC)))
   |(rename_i U c m hd hk _
     have e1:=Il U hd hk
     have e2:=LB (v:=v) U hd hk
     exact fin h (Gm AC (h5.trans e2) (by first|exact decide_eq_true ⟨AC,AC⟩|exact decide_eq_false AC)))
   |(have e1:=Jm (base:=8) (s:=s) (pos:=pos) AC
     have e2:=Oq (base:=8) (v:=v) (s:=s) (pos:=pos) AC
     exact fin h (Gm AC (h5.trans e2) (by first|exact decide_eq_true ⟨AC,AC⟩|exact decide_eq_false AC)))
   |(rename_i U c m hd hk
     obtain ⟨e1,e2⟩:=Nw U hd hk
     have e3:=UJ (v:=v) U hd hk
     have e4:=hdl (c:Int)
     subst e1
     conv=>whnf
     exact ⟨(pos+1,min (v*8+Bw (c:Int) 8) 1114112),⟨UV,UV,UV,UV,h5.trans e3⟩,UV,Yl,St.le_refl _⟩)
 .skip
  have hdl:=λc=>La (c:=c) (b:=10)
  repeat' ((conv=>whnf);first|(refine BV ?_;intros)|(refine BW ?_ ?_<;>intro _)|refine MQ ?_|refine iS ?_|refine Yv h2 h3 Do Do ‹_› ?_)
  all_goals first
   |(rename_i U c m hd hk _ _
     have e1:=Il U hd hk
     have e2:=LB (v:=v) U hd hk
     exact fin h (Gm AC (h5.trans e2) (by first|exact decide_eq_true ⟨AC,AC⟩|exact decide_eq_false AC)))
   |(rename_i U c m hd hk _
     have e1:=Il U hd hk
     have e2:=LB (v:=v) U hd hk
     exact fin h (Gm AC (h5.trans e2) (by first|exact decide_eq_true ⟨AC,AC⟩|exact decide_eq_false AC)))
   |(have e1:=Jm (base:=10) (s:=s) (pos:=pos) AC
     have e2:=Oq (base:=10) (v:=v) (s:=s) (pos:=pos) AC
     exact fin h (Gm AC (h5.trans e2) (by first|exact decide_eq_true ⟨AC,AC⟩|exact decide_eq_false AC)))
   |(rename_i U c m hd hk
     obtain ⟨e1,e2⟩:=Nw U hd hk
     have e3:=UJ (v:=v) U hd hk
     have e4:=hdl (c:Int)
     subst e1
     conv=>whnf
     exact ⟨(pos+1,min (v*10+Bw (c:Int) 10) 1114112),⟨UV,UV,UV,UV,h5.trans e3⟩,UV,Yl,St.le_refl _⟩)
 .skip
  have hdl:=λc=>La (c:=c) (b:=16)
  repeat' ((conv=>whnf);first|(refine BV ?_;intros)|(refine BW ?_ ?_<;>intro _)|refine MQ ?_|refine iS ?_|refine Yv h2 h3 Do Do ‹_› ?_)
  all_goals first
   |(rename_i U c m hd hk _ _
     have e1:=Il U hd hk
     have e2:=LB (v:=v) U hd hk
     exact fin h (Gm AC (h5.trans e2) (by first|exact decide_eq_true ⟨AC,AC⟩|exact decide_eq_false AC)))
   |(rename_i U c m hd hk _
     have e1:=Il U hd hk
     have e2:=LB (v:=v) U hd hk
     exact fin h (Gm AC (h5.trans e2) (by first|exact decide_eq_true ⟨AC,AC⟩|exact decide_eq_false AC)))
   |(have e1:=Jm (base:=16) (s:=s) (pos:=pos) AC
     have e2:=Oq (base:=16) (v:=v) (s:=s) (pos:=pos) AC
     exact fin h (Gm AC (h5.trans e2) (by first|exact decide_eq_true ⟨AC,AC⟩|exact decide_eq_false AC)))
   |(rename_i U c m hd hk
     obtain ⟨e1,e2⟩:=Nw U hd hk
     have e3:=UJ (v:=v) U hd hk
     have e4:=hdl (c:Int)
     subst e1
     conv=>whnf
     exact ⟨(pos+1,min (v*16+Bw (c:Int) 16) 1114112),⟨UV,UV,UV,UV,h5.trans e3⟩,UV,Yl,St.le_refl _⟩)
end
end Go.Proofs.Z
