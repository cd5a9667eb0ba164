/-
  Parts of a proof: lemmas that the last text uses.
-/
import Derived.Test.YtkidoddkbhchkaaGreatDoorU5
import Derived.Lib.Join
set_option linter.unusedVariables false
set_option linter.unusedSimpArgs false
set_option maxHeartbeats 16000000
variable {b n m p a pos n2:Nat} {l r s t x:List UInt8} {v i ln DX:Int} {tx j:Bool} {o:List Int} {w1 w2:Go.Aw.AF} {g:List (Nat×Nat)} {st0 S:Go.Aw.St} {f:Go.FuncId} {args cs C:List Go.Aw.V} {K:Go.Aw.V->Go.Aw.St->Prop} {As notes:List (List Go.Aw.V)} {T:Go.Aw.Nd->Go.Aw.Nd->Prop}
namespace Go.Aw
open Go
theorem dK {b:Int} (h:Kn b l=some (v,n)):Ju b 0 l=v/\Bo b l=n/\n≠0/\v<=1114111:=by
 unfold Kn at h
 split at h
 .cases h
 .injection h with h;injection h with U h2
  exact ⟨U,h2,AC,AC⟩
theorem dJ {b:Int} (h:Kn b l=none):decide (Bo b l≠0/\Ju b 0 l<=1114111)=false:=by
 unfold Kn at h
 split at h
 .exact decide_eq_false AC
 .cases h
theorem IB {R:AL->St->Prop} {r r':AL} {st st':St} (es:st'=st) (h:R r st) (e:r=r'):∃r2 U,(r2=r'\/r2=r'.wk)/\St.le U st'/\R r2 U:=by subst es;exact ⟨r,st',.inl e,St.le_refl _,h⟩
theorem St.KX (st:St) (b:Nat) (cs cs':List V):(st.Ab b cs).Ab b cs'=st.Ab b cs':=by
 simp only [St.Ab,St.mk.injEq,and_true]
 funext x
 split<;>rfl
end Go.Aw
namespace Go.Proofs.Z
open Go Go.Aw
theorem SO {q:Nat} (e:i=(q:Int)):[V.str s,.int .i64 i,.bool tx,.slice 1 (ints o) w1,.slice 2 (lG g) w2]=qC s q tx o w1 g w2:=by subst e;rfl
section
variable {st:St} {R:AL->St->Prop}
theorem jg {b:Int} (e:i.toNat=m) (hn:Kn b (s.drop m)=some (v,n)) (hl:s.length<=100000000) (hb:b=8\/b=10\/b=16) (h:R (.ret (.Bh [.int .i64 v,.int .i64 n,.bool true])) st):PC 357 [.str (s.drop i.toNat),.int .i64 b] st R:=by
 rw [e]
 obtain ⟨U,e2,e3,e4⟩:=dK hn
 exact V5 M2 hb (by rw [U,e2,decide_eq_true ⟨e3,e4⟩];exact h)
theorem jh {b:Int} (e:i.toNat=m) (hn:Kn b (s.drop m)=none) (U:s.length<=100000000) (hb:b=8\/b=10\/b=16) (h:R (.ret (.Bh [.int .i64 (Ju b 0 (s.drop m)),.int .i64 (Bo b (s.drop m):Nat),.bool false])) st):PC 357 [.str (s.drop i.toNat),.int .i64 b] st R:=by
 rw [e]
 exact V5 M2 hb (by rw [dJ hn];exact h)
theorem Qw {k:Nat} {frm base:Int} (hl:s.length<=100000000) (hp:p+k<=s.length) (U:base=8\/base=10\/base=16) (hb:st.box b=some (qC s p tx o w1 g w2))
 (h:∀v n,Kn base (s.drop (p+k))=some (v,n)->R (.ret (.int .i64 v)) (st.Ab b (qC s (p+k+n) tx o w1 g w2))) (h0:Kn base (s.drop (p+k))=none->R (.Cz (JX frm 51)) st):
 PC 355 [.ptr b 0,.int .i64 frm,.int .i64 k,.int .i64 base] st R:=by
 refine pB Tryz.func355 ?_
 rcases hn:Kn base (s.drop (p+k)) with _|⟨v,n⟩
 .have h0:=h0 hn
  repeat' ((conv=>whnf);first|exact D1|(refine BV ?_;intros)|(refine D2 ?_ ?_ ?_;rotate_left)|(refine BW ?_ ?_<;>intro _)|refine Aq hb ?_|refine jh (m:=p+k) AC hn hl U ?_|refine GX ?_|with_reducible refine WF ?_)
  all_goals exact fin h0 rfl
 .have h:=h v n hn
  have hle:=PD hn
  rw [List.length_drop] at hle
  dsimp only at hle
  repeat' ((conv=>whnf);first|exact D1|(refine BV ?_;intros)|(refine D2 ?_ ?_ ?_;rotate_left)|(refine BW ?_ ?_<;>intro _)|refine Aq hb ?_|refine jg (m:=p+k) AC hn hl U ?_|refine GX ?_|with_reducible refine WF ?_)
  exact IB (congrArg (st.Ab b) (SO AC)) h rfl
theorem aw:EX (s.drop p)=if AV (s.drop p)=92/\B6 (λc=>AQ c==1) (s.drop (p+1))≠0/\AV (s.drop (p+1+B6 (λc=>AQ c==1) (s.drop (p+1))))=92 then B6 (λc=>AQ c==1) (s.drop (p+1))+2 else 0:=by
 have U:(s.drop p).drop 1=s.drop (p+1):=List.drop_drop
 unfold EX;rw [U,List.drop_drop,Nat.add_assoc]
theorem Lv {q k:Nat} (hl:s.length<=100000000) (hq:q<=s.length) (U:B6 (λc=>AQ c==1) (s.drop q)=k) (e:i=(q:Int)) (h:R (.ret (.int .i64 (q+k:Nat))) st):PC 86 [.str s,.int .i64 i,.int .i64 1] st R:=by
 subst e;exact pY AC (by rw [PO AC AC,show (q:Int).toNat=q by omega,U];exact h)
theorem qL (U:s.length<=100000000) (hp:p<=s.length) (hb:st.box b=some (qC s p tx o w1 g w2)) (hg:tx=false\/EX (s.drop p)=0) (h:R (.ret (.bool false)) st):PC 348 [.ptr b 0] st R:=by
 refine pB Tryz.func348 ?_
 have hby:=Ku (s.drop p)
 cases tx with
 |false=>
  repeat' ((conv=>whnf);first|exact D1|(refine BV ?_;intros)|(refine D2 ?_ ?_ ?_;rotate_left)|(refine BW ?_ ?_<;>intro _)|refine Aq hb ?_|refine Fl (k:=0) U hp Do hb ?_|with_reducible refine WF ?_)
  all_goals exact fin h rfl
 |true=>
  have hg:EX (s.drop p)=0:=hg.resolve_left Do
  by_cases h1:AV (s.drop p)=92
  .have hp1:p<s.length:=Cf (k:=p) AC
   have hr:=Gq (λc=>AQ c==1) (s.drop (p+1))
   have hgn:=aw (s:=s) (p:=p)
   rw [List.length_drop] at hr
   generalize hk:B6 (λc=>AQ c==1) (s.drop (p+1))=k at hr hgn
   have hno:k≠0->¬AV (s.drop (p+1+k))=92:=λe1 e2=>by rw [if_pos ⟨h1,e1,e2⟩] at hgn;omega
   have hb0:LF (s.drop p)=92:=AC
   by_cases hlt:p+1+k<s.length
   .obtain ⟨e,he⟩:∃e,s[p+1+k]? =some e:=⟨s[p+1+k],List.getElem?_eq_getElem hlt⟩
    have he':s[((p+1+k:Nat):Int).toNat]? =some e:=he
    have hv:=Ds he
    repeat' ((conv=>whnf);first|exact D1|(refine BV ?_;intros)|(refine D2 ?_ ?_ ?_;rotate_left)|(refine BW ?_ ?_<;>intro _)|refine Aq hb ?_|refine Fl (k:=0) U hp Do hb ?_|refine Lv (q:=p+1) U AC hk AC ?_|with_reducible refine WF ?_)
    all_goals exact fin h rfl
   .skip
    repeat' ((conv=>whnf);first|exact D1|(refine BV ?_;intros)|(refine D2 ?_ ?_ ?_;rotate_left)|(refine BW ?_ ?_<;>intro _)|refine Aq hb ?_|refine Fl (k:=0) U hp Do hb ?_|refine Lv (q:=p+1) U AC hk AC ?_|with_reducible refine WF ?_)
    all_goals exact fin h rfl
  .have hb0:¬LF (s.drop p)=92:=AC
   repeat' ((conv=>whnf);first|exact D1|(refine BV ?_;intros)|(refine D2 ?_ ?_ ?_;rotate_left)|(refine BW ?_ ?_<;>intro _)|refine Aq hb ?_|refine Fl (k:=0) U hp Do hb ?_|with_reducible refine WF ?_)
   all_goals exact fin h rfl
attribute [local irreducible] Go.Aw.Ag
theorem mW (hl:s.length<=100000000) (hb:st.box b=some (qC s p true o w1 g w2)) (hg:0<EX (s.drop p)) (hr2:B5 st0 st w1 o.length w2 (2*g.length)) (hgl:g.length<=100000000)
 (h:∀w2' st',B5 st0 st' w1 o.length w2' (2*(g++[(p,p+EX (s.drop p))]).length)->st'.box=st.box->R (.ret (.bool true)) (st'.Ab b (qC s (p+EX (s.drop p)) true o w1 (g++[(p,p+EX (s.drop p))]) w2'))):PC 348 [.ptr b 0] st R:=by
 have hby:=Ku (s.drop p)
 have U:=aw (s:=s) (p:=p)
 have hr:=Gq (λc=>AQ c==1) (s.drop (p+1))
 rw [List.length_drop] at hr
 generalize hk:B6 (λc=>AQ c==1) (s.drop (p+1))=k at hr U
 have hc:AV (s.drop p)=92/\k≠0/\AV (s.drop (p+1+k))=92:=by
  by_cases hc:AV (s.drop p)=92/\k≠0/\AV (s.drop (p+1+k))=92
  .exact hc
  .rw [if_neg hc] at U;omega
 rw [if_pos hc] at U
 obtain ⟨h1,h2,h3⟩:=hc
 have hp1:p<s.length:=Cf (k:=p) AC
 have hp2:p+1+k<s.length:=Cf (k:=p+1+k) AC
 obtain ⟨e,he⟩:∃e,s[p+1+k]? =some e:=⟨s[p+1+k],List.getElem?_eq_getElem hp2⟩
 have he':s[((p+1+k:Nat):Int).toNat]? =some e:=he
 have hv:=Ds he
 have hb0:LF (s.drop p)=92:=AC
 have hpk:((p+1+k:Nat):Int)+1=((p+(k+2):Nat):Int):=AC
 rw [U] at h
 refine pB Tryz.func348 ?_
 repeat' ((conv=>whnf);first|refine Ae [(0,true),(1,true),(2,true),(3,true),(4,true),(5,true),(6,true),(7,true),(8,true),(9,true),(10,true),(11,true),(12,true),(13,false),(14,true),(15,true),(16,false)] [] GE ?_|exact D1|(refine BV ?_;intros)|(refine D2 ?_ ?_ ?_;rotate_left)|(refine BW ?_ ?_<;>intro _)|refine Aq hb ?_|refine Fl (k:=0) hl AC Do hb ?_|refine Lv (q:=p+1) hl AC hk AC ?_|refine ek (p:=(p,p+(k+2))) hr2 AC rfl hpk (λw2' st1 hr3 hb3=>?_)|refine Aq ((congrFun hb3 b).trans hb) ?_|refine Aq (St.AY _ _ _) ?_|with_reducible refine WF ?_)
 exact IB ((St.KX _ _ _ _).trans (congrArg (st1.Ab b) (SO AC))) (h w2' st1 hr3 hb3) rfl
end
end Go.Proofs.Z
namespace Go.Aw
open Go
theorem bX (l:List UInt8):H8 (LF l)=H8 (AV l):=by
 rcases Ku l with ⟨h1,U⟩|⟨h1,U⟩
 .rw [h1,U];rfl
 .rw [U]
theorem oE {c:Int} (h:H8 c=none):c≠92/\c≠34/\c≠39:=by
 refine ⟨λe=>?_,λe=>?_,λe=>?_⟩<;>(subst e;cases h)
theorem u8_in {a:Int} (U:0<=a) (h2:a<=255):IntKind.u8.wrap a=a:=IntWalk.u8_in _ ⟨U,h2⟩
theorem gU (h:H8 (AV (l.drop 1))=some v):H6 tx l=some (v,2):=by unfold H6;rw [h]
theorem gO (h:AV (l.drop 1)=38):H6 true l=some (-1,2):=by
 unfold H6;rw [show H8 (AV (l.drop 1))=none by rw [h];rfl]
 exact if_pos ⟨h,rfl⟩
theorem gP (h:AV (l.drop 1)=94) (U:64<=AV (l.drop 2)) (h2:AV (l.drop 2)<=95):H6 tx l=some (AV (l.drop 2) - 64,3):=by
 unfold H6;rw [show H8 (AV (l.drop 1))=none by rw [h];rfl]
 dsimp only
 rw [if_neg AC,if_pos ⟨h,U,h2⟩]
theorem gT (h:AV (l.drop 1)=111):H6 tx l=(Kn 8 (l.drop 2)).map λp=>(p.1,2+p.2):=by
 unfold H6;rw [show H8 (AV (l.drop 1))=none by rw [h];rfl]
 dsimp only
 rw [if_neg AC,if_neg AC,if_pos h]
theorem gR (h:AV (l.drop 1)=120):H6 tx l=(Kn 16 (l.drop 2)).map λp=>(p.1,2+p.2):=by
 unfold H6;rw [show H8 (AV (l.drop 1))=none by rw [h];rfl]
 dsimp only
 rw [if_neg AC,if_neg AC,if_neg AC,if_pos h]
theorem gQ (h:48<=AV (l.drop 1)) (U:AV (l.drop 1)<=57):H6 tx l=(Kn 10 (l.drop 1)).map λp=>(p.1,1+p.2):=by
 have hs:H8 (AV (l.drop 1))=none:=by
  unfold H8
  (repeat' split)<;>first|rfl|(exfalso;omega)
 unfold H6;rw [hs]
 dsimp only
 rw [if_neg AC,if_neg AC,if_neg AC,if_neg AC,if_pos ⟨h,U⟩]
theorem gS (h:H8 (AV (l.drop 1))=none) (U:¬(AV (l.drop 1)=38/\tx=true)) (h2:¬(AV (l.drop 1)=94/\64<=AV (l.drop 2)/\AV (l.drop 2)<=95)) (h3:AV (l.drop 1)≠111) (h4:AV (l.drop 1)≠120) (h5:¬(48<=AV (l.drop 1)/\AV (l.drop 1)<=57)):
 H6 tx l=if 0<(Km (l.drop 1)).2 then some ((Km (l.drop 1)).1,1+(Km (l.drop 1)).2) else none:=by
 unfold H6;rw [h]
 dsimp only
 rw [if_neg U,if_neg h2,if_neg h3,if_neg h4,if_neg h5]
end Go.Aw
namespace Go.Proofs.Z
open Go Go.Aw
section
variable {st:St} {R:AL->St->Prop}
theorem nK (e:i.toNat=n) (U:s.length<=100000000) (h:R (.ret (.Bh [.int .i64 (Km (s.drop n)).1,.int .i64 (Km (s.drop n)).2])) st):PC 356 [.str (s.drop i.toNat)] st R:=by
 rw [e];exact nJ M2 h
theorem Vh (hl:s.length<=100000000) (hp:p<s.length) (hb:st.box b=some (qC s p tx o w1 g w2))
 (h:∀v n,H6 tx (s.drop p)=some (v,n)->R (.ret (.int .i64 v)) (st.Ab b (qC s (p+n) tx o w1 g w2))) (h0:H6 tx (s.drop p)=none->∀q,R (.Cz (JX p 51)) (st.Ab b (qC s q tx o w1 g w2))):
 PC 349 [.ptr b 0] st R:=by
 have d1:(s.drop p).drop 1=s.drop (p+1):=List.drop_drop
 have d2:(s.drop p).drop 2=s.drop (p+1+1):=List.drop_drop
 refine Bu Ad [] Tryz.func349 rfl Do rfl ?_
 refine Ak (Al Ad ?_)
 repeat' ((conv=>whnf);first|exact D1|(refine BV ?_;intros)|(refine D2 ?_ ?_ ?_;rotate_left)|(refine BW ?_ ?_<;>intro _)|with_reducible refine WF ?_)
 refine Ak (Al Ad ?_)
 repeat' ((conv=>whnf);first|exact D1|(refine BV ?_;intros)|(refine D2 ?_ ?_ ?_;rotate_left)|(refine BW ?_ ?_<;>intro _)|refine Aq hb ?_|with_reducible refine WF ?_)
 refine Ak (Al Ad ?_)
 repeat' ((conv=>whnf);first|exact D1|(refine BV ?_;intros)|(refine D2 ?_ ?_ ?_;rotate_left)|(refine BW ?_ ?_<;>intro _)|refine Aq hb ?_|with_reducible refine WF ?_)
 refine ZP (st':=st.Ab b (qC s (p+1) tx o w1 g w2)) rfl ?_
 have endq:∀{i:Int} {q:Nat},i=(q:Int)->(st.Ab b (qC s (p+1) tx o w1 g w2)).Ab b [V.str s,.int .i64 i,.bool tx,.slice 1 (ints o) w1,.slice 2 (lG g) w2]=st.Ab b (qC s q tx o w1 g w2):=λe=>by rw [St.KX,SO e]
 have endp:∀{q:Nat},(st.Ab b (qC s (p+1) tx o w1 g w2)).Ab b (qC s q tx o w1 g w2)=st.Ab b (qC s q tx o w1 g w2):=St.KX _ _ _ _
 have U:(st.Ab b (qC s (p+1) tx o w1 g w2)).box b=some (qC s (p+1) tx o w1 g w2):=St.AY _ _ _
 have h0':=λe=>h0 e (p+1)
 generalize hst:st.Ab b (qC s (p+1) tx o w1 g w2)=st1 at U endq endp h0'
 have hx1:=Ku (s.drop (p+1))
 have hx2:=Ku (s.drop (p+1+1))
 have hxl:=ie (s.drop (p+1))
 have hby0:∀{R:AL->St->Prop},R (.ret (.int .u8 (LF (s.drop (p+1))))) st1->PC 321 [.ptr b 0,.int .i64 0] st1 R:=λh=>Fl (k:=0) hl AC Do U h
 have hby1:∀{R:AL->St->Prop},R (.ret (.int .u8 (LF (s.drop (p+1+1))))) st1->PC 321 [.ptr b 0,.int .i64 1] st1 R:=λh=>Fl (k:=1) hl AC Do U h
 have l1:=λh=>Cf (l:=s) (k:=p+1) h
 have l2:=λh=>Cf (l:=s) (k:=p+1+1) h
 cases hsg:H8 (AV (s.drop (p+1))) with
 |some v=>
  have hv:=Xw hsg
  have h1:=h v 2 (gU (by rw [d1];exact hsg))
  have hsn:∀{R:AL->St->Prop},R (.ret (rV (some v))) st1->PC 354 [.int .u8 (LF (s.drop (p+1)))] st1 R:=λh=>kP AC AC (by rw [bX,hsg];exact h)
  refine Al Ad ?_
  repeat' ((conv=>whnf);first|exact D1|(refine BV ?_;intros)|(refine D2 ?_ ?_ ?_;rotate_left)|(refine BW ?_ ?_<;>intro _)|refine hby0 ?_|refine hsn ?_|refine Aq U ?_|with_reducible refine WF ?_)
  exact IB (endq AC) h1 rfl
 |none=>
  have hne:=oE hsg
  have hsn:∀{R:AL->St->Prop},R (.ret (rV none)) st1->PC 354 [.int .u8 (LF (s.drop (p+1)))] st1 R:=λh=>kP AC AC (by rw [bX,hsg];exact h)
  refine Ak (Al Ad ?_)
  repeat' ((conv=>whnf);first|exact D1|(refine BV ?_;intros)|(refine D2 ?_ ?_ ?_;rotate_left)|(refine BW ?_ ?_<;>intro _)|refine hby0 ?_|with_reducible refine WF ?_)
  refine Ak (Al Ad ?_)
  repeat' ((conv=>whnf);first|exact D1|(refine BV ?_;intros)|(refine D2 ?_ ?_ ?_;rotate_left)|(refine BW ?_ ?_<;>intro _)|refine hsn ?_|with_reducible refine WF ?_)
  by_cases c1:AV (s.drop (p+1))=38/\tx=true
  .obtain ⟨c1,rfl⟩:=c1
   have h1:=h (-1) 2 (gO (by rw [d1];exact c1))
   refine Al Ad ?_
   repeat' ((conv=>whnf);first|exact D1|(refine BV ?_;intros)|(refine D2 ?_ ?_ ?_;rotate_left)|(refine BW ?_ ?_<;>intro _)|refine Aq U ?_|with_reducible refine WF ?_)
   exact IB (endq AC) h1 rfl
  by_cases c2:AV (s.drop (p+1))=94/\64<=AV (s.drop (p+1+1))/\AV (s.drop (p+1+1))<=95
  .obtain ⟨c2,c3,c4⟩:=c2
   have h1:=h _ 3 (gP (by rw [d1];exact c2) (by rw [d2];exact c3) (by rw [d2];exact c4))
   rw [d2] at h1
   have hp2:=l2 AC
   obtain ⟨e,he⟩:∃e,s[p+1+1]? =some e:=⟨s[p+1+1],List.getElem?_eq_getElem hp2⟩
   have he':s[(((p+1:Nat):Int)+2 - 1).toNat]? =some e:=by rw [show (((p+1:Nat):Int)+2 - 1).toNat=p+1+1 by omega];exact he
   have hv:=Ds he
   have hew:∀{K:Int->Prop},K (AV (s.drop (p+1+1)) - 64)->∃r,r=IntKind.u8.wrap ((e.toNat:Nat) - 64:Int)/\K r:=λk=>⟨_,by rw [hv];exact (u8_in AC AC).symm,k⟩
   refine Al Ad ?_
   repeat' ((conv=>whnf);first|exact D1|(refine BV ?_;intros)|(refine D2 ?_ ?_ ?_;rotate_left)|(refine BW ?_ ?_<;>intro _)|refine hby1 ?_|refine Aq U ?_|refine Aq (St.AY _ _ _) ?_|refine hew ?_|with_reducible refine WF ?_)
   exact IB (endq AC) h1 rfl
  by_cases c3:AV (s.drop (p+1))=111
  .have he:=gT (tx:=tx) (l:=s.drop p) (by rw [d1];exact c3)
   rw [d2] at he
   have hp1:=l1 AC
   refine Al Ad ?_
   repeat' ((conv=>whnf);first|exact D1|(refine BV ?_;intros)|(refine D2 ?_ ?_ ?_;rotate_left)|(refine BW ?_ ?_<;>intro _)|refine Aq U ?_|refine Qw (k:=1) hl AC (.inl rfl) U (λv n hv=>?_) (λhv=>?_)|with_reducible refine WF ?_)
   all_goals try rw [hv] at he
   .have h1:=h v (2+n) he
    exact IB (endp.trans (by rw [show p+1+1+n=p+(2+n) by omega])) h1 rfl
   .exact fin (h0' he) rfl
  by_cases c4:AV (s.drop (p+1))=120
  .have he:=gR (tx:=tx) (l:=s.drop p) (by rw [d1];exact c4)
   rw [d2] at he
   have hp1:=l1 AC
   refine Al Ad ?_
   repeat' ((conv=>whnf);first|exact D1|(refine BV ?_;intros)|(refine D2 ?_ ?_ ?_;rotate_left)|(refine BW ?_ ?_<;>intro _)|refine Aq U ?_|refine Qw (k:=1) hl AC (.inr (.inr rfl)) U (λv n hv=>?_) (λhv=>?_)|with_reducible refine WF ?_)
   all_goals try rw [hv] at he
   .have h1:=h v (2+n) he
    exact IB (endp.trans (by rw [show p+1+1+n=p+(2+n) by omega])) h1 rfl
   .exact fin (h0' he) rfl
  by_cases c5:48<=AV (s.drop (p+1))/\AV (s.drop (p+1))<=57
  .have he:=gQ (tx:=tx) (l:=s.drop p) (by rw [d1];exact c5.1) (by rw [d1];exact c5.2)
   rw [d1] at he
   have hp1:=l1 AC
   refine Al Ad ?_
   repeat' ((conv=>whnf);first|exact D1|(refine BV ?_;intros)|(refine D2 ?_ ?_ ?_;rotate_left)|(refine BW ?_ ?_<;>intro _)|refine Aq U ?_|refine Qw (k:=0) hl AC (.inr (.inl rfl)) U (λv n hv=>?_) (λhv=>?_)|with_reducible refine WF ?_)
   all_goals try rw [show Kn 10 (s.drop (p+1))=_ from hv] at he
   .have h1:=h v (1+n) he
    exact IB (endp.trans (by rw [show p+1+0+n=p+(1+n) by omega])) h1 rfl
   .exact fin (h0' he) rfl
  .have he:=gS (tx:=tx) (l:=s.drop p) (by rw [d1];exact hsg) (by rw [d1];exact c1) (by rw [d1,d2];exact c2) (by rw [d1];exact c3) (by rw [d1];exact c4) (by rw [d1];exact c5)
   rw [d1] at he
   have hc1:LF (s.drop (p+1))=38->tx=false:=λe=>by
    cases tx with
    |false=>rfl
    |true=>exact absurd ⟨AC,rfl⟩ c1
   have hnl:=T7 (s.drop (p+1)) Ft 0 (0,0) (Nat.zero_le _)
   have hnn:(Km (s.drop (p+1))).2<=s.length - (p+1):=by simp only [Km];rw [List.length_drop] at hnl;omega
   have f2:¬(LF (s.drop (p+1))=94/\64<=LF (s.drop (p+1+1))/\LF (s.drop (p+1+1))<=95):=λe=>c2 ⟨AC,AC,AC⟩
   have f3:¬LF (s.drop (p+1))=111:=AC
   have f4:¬LF (s.drop (p+1))=120:=AC
   have f5:¬(48<=LF (s.drop (p+1))/\LF (s.drop (p+1))<=57):=AC
   have e1:=λ(n:Nat) (hn:(Km (s.drop (p+1))).2=n) (h0:0<n)=>h _ (1+n) (by rw [he,hn,if_pos h0])
   have e2:=λ(h0:¬0<(Km (s.drop (p+1))).2)=>h0' (by rw [he,if_neg h0])
   generalize LF (s.drop (p+1))=x1 at hby0 hc1 f2 f3 f4 f5 hx1 hsn
   generalize LF (s.drop (p+1+1))=x2 at hby1 f2 hx2
   generalize hN:Km (s.drop (p+1))=N at e1 e2 hnn
   obtain ⟨v,n⟩:=N
   have e1:=e1 n rfl
   dsimp only at e1 e2 hnn
   have hnam:∀{i:Int} {R:AL->St->Prop},i.toNat=p+1->R (.ret (.Bh [.int .i64 v,.int .i64 (n:Int)])) st1->PC 356 [.str (s.drop i.toNat)] st1 R:=λe h=>nK e hl (by rw [hN];exact h)
   clear he h h0 h0' hsg hne hsn c1 c2 c3 c4 c5 hx1 hx2 hxl l1 l2 d1 d2 hnl hby0 endp hb hN
   by_cases h38:x1=38
   .have e:=hc1 h38
    subst e
    refine Al Ad ?_
    repeat' ((conv=>whnf);first|exact D1|(refine BV ?_;intros)|(refine D2 ?_ ?_ ?_;rotate_left)|(refine BW ?_ ?_<;>intro _)|refine hby1 ?_|refine Aq U ?_|refine hnam AC ?_|refine GX ?_|with_reducible refine WF ?_)
    all_goals first
     |exact IB (endq AC) (e1 AC) rfl
     |exact fin (e2 AC) rfl
   .clear hc1
    refine Al Ad ?_
    repeat' ((conv=>whnf);first|exact D1|(refine BV ?_;intros)|(refine D2 ?_ ?_ ?_;rotate_left)|(refine BW ?_ ?_<;>intro _)|refine hby1 ?_|refine Aq U ?_|refine hnam AC ?_|refine GX ?_|with_reducible refine WF ?_)
    all_goals first
     |exact IB (endq AC) (e1 AC) rfl
     |exact fin (e2 AC) rfl
end
end Go.Proofs.Z
namespace Go.Aw
open Go
theorem jk (h:0<EX l):JT true l=.inr (-1,EX l):=by
 cases l with
 |nil=>exact absurd h Do
 |cons a r=>
  have U:AV (a::r)=92:=by
   by_cases U:AV (a::r)=92
   .exact U
   .unfold EX at h;rw [if_neg (λe=>U e.1)] at h;omega
  unfold JT
  dsimp only
  rw [if_pos U,if_pos ⟨rfl,h⟩]
theorem ji (U:AV l=92) (h:tx=false\/EX l=0):JT tx l=match H6 tx l with|none=>.inl 51|some p=>.inr p:=by
 cases l with
 |nil=>exact absurd U Do
 |cons a r=>
  unfold JT
  dsimp only
  have hn:¬(tx=true/\0<EX (a::r)):=λx=>by
   rcases h with h|h
   .rw [h] at x;cases x.1
   .omega
  rw [if_pos U,if_neg hn]
  all_goals (cases H6 tx (a::r)<;>rfl)
theorem dL (U:l≠[]) (h1:AV l≠92):JT tx l=if MJ (AU l) then .inl 50 else .inr (((AU l).1:Nat),(AU l).2):=by
 cases l with
 |nil=>exact absurd rfl U
 |cons a r=>
  unfold JT
  dsimp only
  rw [if_neg h1]
theorem Yp {c:Int} (h:AQ c≠0):c<=1114111:=by
 by_cases hc:c<=1114111
 .exact hc
 .refine absurd ?_ h
  unfold AQ ML
  rw [if_neg AC,if_neg AC,if_neg AC,if_neg AC,if_neg AC,if_neg AC,if_neg AC,if_neg AC,if_pos AC]
theorem ZW {c:Nat}:MJ (c,m)=true↔AQ (c:Int)=0\/(AQ (c:Int)=1/\¬c=32)\/(c=65533/\m=1):=by
 simp only [MJ,Bool.or_eq_true,Bool.and_eq_true,Bool.not_eq_true',beq_iff_eq,beq_eq_false_iff_ne,ne_eq]
 omega
def Uh (o:List Int) (v:Int):List Int:=if v= -1 then o else o++[v]
end Go.Aw
namespace Go.Proofs.Z
open Go Go.Aw
def QB (st0 st:St) (b:Nat) (s:List UInt8) (tx:Bool):Prop:=∃q o w1 g w2,st.box b=some (qC s q tx o w1 g w2)/\B5 st0 st w1 o.length w2 (2*g.length)
section
variable {st:St} {R:AL->St->Prop}
attribute [local irreducible] Go.Aw.Ag
theorem sT (hl:s.length<=100000000) (hp:p<=s.length) (hb:st.box b=some (qC s p tx o w1 g w2)) (hr:B5 st0 st w1 o.length w2 (2*g.length)) (hgl:g.length<=100000000)
 (h0:(tx=false\/EX (s.drop p)=0)->R (.ret (.bool false)) st)
 (h:tx=true->0<EX (s.drop p)->∀w2' st',B5 st0 st' w1 o.length w2' (2*(g++[(p,p+EX (s.drop p))]).length)->st'.box=st.box->R (.ret (.bool true)) (st'.Ab b (qC s (p+EX (s.drop p)) true o w1 (g++[(p,p+EX (s.drop p))]) w2'))):PC 348 [.ptr b 0] st R:=by
 by_cases hg:tx=false\/EX (s.drop p)=0
 .exact qL hl hp hb hg (h0 hg)
 .have ht:tx=true:=by cases tx;· exact absurd (.inl rfl) hg
                      rfl
  subst ht
  have U:0<EX (s.drop p):=by
   rcases Nat.eq_zero_or_pos (EX (s.drop p)) with e|e
   .exact absurd (.inr e) hg
   .exact e
  exact mW hl hb U hr hgl (h rfl U)
theorem pR (hl:s.length<=100000000) (hp:p<=s.length) (hb0:st0.box b=none) (hb:st.box b=some (qC s p tx o w1 g w2)) (hr:B5 st0 st w1 o.length w2 (2*g.length))
 (ho:o.length<=100000000) (hgl:g.length<=100000000)
 (h0:∀e,JT tx (s.drop p)=.inl e->∀st',QB st0 st' b s tx->R (.Cz (JX p e)) st')
 (h:∀v n,JT tx (s.drop p)=.inr (v,n)->∀w1' w2' st' g',B5 st0 st' w1' (Uh o v).length w2' (2*g'.length)->st'.box b=some (qC s (p+n) tx (Uh o v) w1' g' w2')->g'=(if tx=true/\0<EX (s.drop p) then g++[(p,p+n)] else g)->R (.ret (.Bh [])) st'):
 PC 322 [.ptr b 0] st R:=by
 have hqb:QB st0 st b s tx:=⟨p,o,w1,g,w2,hb,hr⟩
 refine Bu Ad [] Tryz.func322 rfl Do rfl ?_
 by_cases hpl:s.length<=p
 .have hd:s.drop p=[]:=List.drop_eq_nil_iff.2 AC
  have h0:=h0 50 (by rw [hd];rfl) st hqb
  refine Al Ad ?_
  repeat' ((conv=>whnf);first|exact D1|(refine BV ?_;intros)|(refine D2 ?_ ?_ ?_;rotate_left)|(refine BW ?_ ?_<;>intro _)|refine Aq hb ?_|refine GX ?_|with_reducible refine WF ?_)
  exact fin h0 rfl
 have hpl:p<s.length:=AC
 obtain ⟨e,he⟩:∃e,s[p]? =some e:=⟨s[p],List.getElem?_eq_getElem hpl⟩
 have he':s[(p:Int).toNat]? =some e:=he
 have hv:=Ds he
 refine Ak (Al Ad ?_)
 repeat' ((conv=>whnf);first|exact D1|(refine BV ?_;intros)|(refine D2 ?_ ?_ ?_;rotate_left)|(refine BW ?_ ?_<;>intro _)|refine Aq hb ?_|refine GX ?_|with_reducible refine WF ?_)
 refine Ak (Al Ad ?_)
 repeat' ((conv=>whnf);first|exact D1|(refine BV ?_;intros)|(refine D2 ?_ ?_ ?_;rotate_left)|(refine BW ?_ ?_<;>intro _)|refine sT hl hp hb hr hgl (λhg=>?_) (λht hg w2' st1 hr1 hb1=>?_)|with_reducible refine WF ?_)
 .by_cases h92:AV (s.drop p)=92
  .have h1:=ji h92 hg
   have hng:¬(tx=true/\0<EX (s.drop p)):=λx=>by
    rcases hg with h|h
    .rw [h] at x;cases x.1
    .omega
   rcases U:H6 tx (s.drop p) with _|⟨v,n⟩
   .rw [U] at h1
    have h0:=h0 51 h1
    have hE:∀{R:AL->St->Prop},(∀q,R (.Cz (JX p 51)) (st.Ab b (qC s q tx o w1 g w2)))->PC 349 [.ptr b 0] st R:=λh=>Vh hl hpl hb (λv n x=>by rw [U] at x;cases x) (λ_=>h)
    refine Al Ad ?_
    repeat' ((conv=>whnf);first|exact D1|(refine BV ?_;intros)|(refine D2 ?_ ?_ ?_;rotate_left)|(refine BW ?_ ?_<;>intro _)|refine Aq hb ?_|refine hE (λq=>?_)|with_reducible refine WF ?_)
    exact fin (h0 _ ⟨_,_,_,_,_,St.AY _ _ _,hr.set hb0 _⟩) rfl
   .rw [U] at h1
    have hn:=al U
    rw [List.length_drop] at hn
    dsimp only at hn
    have h:=h v n h1
    rw [if_neg hng] at h
    have KE:=St.AY st b (qC s (p+n) tx o w1 g w2)
    have hr2:=hr.set hb0 (qC s (p+n) tx o w1 g w2)
    have hE:∀{R:AL->St->Prop},R (.ret (.int .i64 v)) (st.Ab b (qC s (p+n) tx o w1 g w2))->PC 349 [.ptr b 0] st R:=λh=>Vh hl hpl hb (λv' n' x=>by rw [U] at x;cases x;exact h) (λx=>by rw [U] at x;cases x)
    generalize st.Ab b (qC s (p+n) tx o w1 g w2)=st2 at KE hr2 hE
    unfold Uh at h
    by_cases hv1:v= -1
    .rw [if_pos hv1] at h
     refine Al Ad ?_
     repeat' ((conv=>whnf);first|exact D1|(refine BV ?_;intros)|(refine D2 ?_ ?_ ?_;rotate_left)|(refine BW ?_ ?_<;>intro _)|refine Aq hb ?_|refine hE ?_|with_reducible refine WF ?_)
     all_goals first
      |exact fin (h w1 w2 st2 g hr2 KE rfl) rfl
      |(exfalso;omega)
    .rw [if_neg hv1] at h
     refine Al Ad ?_
     repeat' ((conv=>whnf);first|exact D1|(refine BV ?_;intros)|(refine D2 ?_ ?_ ?_;rotate_left)|(refine BW ?_ ?_<;>intro _)|refine Aq hb ?_|refine Aq KE ?_|refine hE ?_|refine Xk hr2 AC (λw1' st3 hr3 hb3=>?_)|refine Aq ((congrFun hb3 b).trans KE) ?_|with_reducible refine WF ?_)
     exact fin (h w1' w2 _ g (hr3.set hb0 _) (St.AY _ _ _) rfl) rfl
  .have h1:=dL (tx:=tx) (TA hpl) h92
   have hng:¬(tx=true/\0<EX (s.drop p)):=λx=>by
    have:=x.2
    unfold EX at this;rw [if_neg (λy=>h92 y.1)] at this;omega
   rcases hd:AU (s.drop p) with ⟨c,m⟩
   have hrn:=rune_le hpl hd.symm
   have hx:Na s p=((c:Int),(m:Int)):=by rw [Nb AC AC,Pq hpl hd.symm]
   rw [hd] at h1
   refine Ak (Al Ad ?_)
   repeat' ((conv=>whnf);first|exact D1|(refine BV ?_;intros)|(refine D2 ?_ ?_ ?_;rotate_left)|(refine BW ?_ ?_<;>intro _)|refine Aq hb ?_|with_reducible refine WF ?_)
   refine Ak (Al Ad ?_)
   repeat' ((conv=>whnf);first|exact D1|(refine BV ?_;intros)|(refine D2 ?_ ?_ ?_;rotate_left)|(refine BW ?_ ?_<;>intro _)|refine Aq hb ?_|refine aR AC hx ?_|with_reducible refine WF ?_)
   refine Ak (Al Ad ?_)
   repeat' ((conv=>whnf);first|exact D1|(refine BV ?_;intros)|(refine D2 ?_ ?_ ?_;rotate_left)|(refine BW ?_ ?_<;>intro _)|refine K6 ?_|with_reducible refine WF ?_)
   cases hbad:MJ (c,m) with
   |true=>
    rw [if_pos hbad] at h1
    have h0:=h0 50 h1 st hqb
    refine Al Ad ?_
    have hbi:=ZW.1 hbad
    repeat' ((conv=>whnf);first|exact D1|(refine BV ?_;intros)|(refine D2 ?_ ?_ ?_;rotate_left)|(refine BW ?_ ?_<;>intro _)|refine Aq hb ?_|refine GX ?_|with_reducible refine WF ?_)
    all_goals first|exact fin h0 rfl|(exfalso;omega)
   |false=>
    rw [if_neg (by rw [hbad];decide)] at h1
    have h:=h (c:Int) m h1
    rw [if_neg hng] at h
    unfold Uh at h
    rw [if_neg AC] at h
    have hbi:¬(AQ (c:Int)=0\/(AQ (c:Int)=1/\¬c=32)\/(c=65533/\m=1)):=λx=>by rw [ZW.2 x] at hbad;cases hbad
    have hcm:=Yp (c:=(c:Int)) AC
    refine Al Ad ?_
    repeat' ((conv=>whnf);first|exact D1|(refine BV ?_;intros)|(refine D2 ?_ ?_ ?_;rotate_left)|(refine BW ?_ ?_<;>intro _)|refine Aq hb ?_|refine GX ?_|refine Xk hr AC (λw1' st3 hr3 hb3=>?_)|refine Aq ((congrFun hb3 b).trans hb) ?_|refine Aq (St.AY _ _ _) ?_|with_reducible refine WF ?_)
    all_goals exact fin (h w1' w2 _ g ((hr3.set hb0 _).set hb0 _) ((St.AY _ _ _).trans (congrArg some (SO AC))) rfl) rfl
 .subst ht
  have h1:=jk hg
  have h:=h _ _ h1 w1 w2' (st1.Ab b (qC s (p+EX (s.drop p)) true o w1 (g++[(p,p+EX (s.drop p))]) w2')) _ (hr1.set hb0 _) (St.AY _ _ _) (if_pos ⟨rfl,hg⟩).symm
  repeat' ((conv=>whnf);first|exact D1|(refine BV ?_;intros)|(refine D2 ?_ ?_ ?_;rotate_left)|(refine BW ?_ ?_<;>intro _)|with_reducible refine WF ?_)
  exact fin h rfl
end
end Go.Proofs.Z
namespace Go.Aw
open Go
theorem tZ {b:Bool} {p q:Prop} (h:b=false) (k:q):Bk b p q:=by subst h;exact Wj k
theorem ua {b:Bool} {p q:Prop} (h:b=true) (k:p):Bk b p q:=by subst h;exact Wi k
theorem eL (h:AV l=34):FA l=.inr 1:=by rw [FA,if_pos h]
theorem eK {e:Int} (h:AV l≠34) (k:JT true l=.inl e):FA l=.inl (0,e):=by
 rw [FA,if_neg h]
 split
 .rename_i e' U;rw [k] at U;injection U with U;rw [U]
 .rename_i p hp;rw [k] at hp;cases hp
theorem k8 (h:AV l≠34) (k:JT true l=.inr (v,n)):FA l=match FA (l.drop n) with| .inl q=>.inl (q.1+n,q.2)| .inr m=>.inr (m+n):=by
 rw [FA,if_neg h]
 split
 .rename_i e' he;rw [k] at he;cases he
 .rename_i p U;rw [k] at U;injection U with U;subst U;rfl
theorem eM (h:AV l=34):Ki l=[]:=by rw [Ki,if_pos h]
theorem ld (h:AV l≠34) (k:JT true l=.inr (v,n)):Ki l=if v= -1 then Ki (l.drop n) else v::Ki (l.drop n):=by
 rw [Ki,if_neg h]
 split
 .rename_i e' he;rw [k] at he;cases he
 .rename_i p U;rw [k] at U;injection U with U;subst U;rfl
theorem eN {q:Nat} (h:AV l=34):Kj q l=[]:=by rw [Kj,if_pos h]
theorem lf {q:Nat} (h:AV l≠34) (k:JT true l=.inr (v,n)):Kj q l=if 0<EX l then (q,q+n)::Kj (q+n) (l.drop n) else Kj (q+n) (l.drop n):=by
 rw [Kj,if_neg h]
 split
 .rename_i e' he;rw [k] at he;cases he
 .rename_i p U;rw [k] at U;injection U with U;subst U;rfl
def cr (q:Nat):Sum (Nat×Int) Nat->Sum (Nat×Int) Nat
 | .inl k=>.inl (q+k.1,k.2)
 | .inr n=>.inr (q+n)
theorem lK {q:Nat} (h:AV l≠34) (k:JT true l=.inr (v,n)):cr q (FA l)=cr (q+n) (FA (l.drop n)):=by
 rw [k8 h k]
 cases FA (l.drop n) with
 |inl k=>simp only [cr];congr 2;omega
 |inr m=>simp only [cr];congr 1;omega
structure LsQ where
 q:Nat
 o:List Int
 g:List (Nat×Nat)
 w1:AF
 w2:AF
 m:St
end Go.Aw
namespace Go.Proofs.Z
open Go Go.Aw
section
variable {st:St} {R:AL->St->Prop}
theorem dx (hl:s.length<=100000000) (hp:AV (s.drop p)=34) (hb0:st0.box b=none) (hb:st.box b=some (qC s p tx [] w1 [] w2)) (hr:B5 st0 st w1 0 w2 0)
 (h0:∀k e,FA (s.drop (p+1))=.inl (k,e)->∀st',QB st0 st' b s true->R (.Cz (JX (p+1+k:Nat) e)) st')
 (h:∀n,FA (s.drop (p+1))=.inr n->∀w1' w2' st',B5 st0 st' w1' (Ki (s.drop (p+1))).length w2' (2*(Kj (p+1) (s.drop (p+1))).length)->st'.box b=some (qC s (p+1+n) true (Ki (s.drop (p+1))) w1' (Kj (p+1) (s.drop (p+1))) w2')->R (.ret (.int .i64 14)) st'):
 PC 282 [.ptr b 0] st R:=by
 have hpl:p<s.length:=Cf (k:=p) AC
 obtain ⟨e,he⟩:∃e,s[p]? =some e:=⟨s[p],List.getElem?_eq_getElem hpl⟩
 have he':s[(p:Int).toNat]? =some e:=he
 have hv:=Ds he
 have hv34:((e.toNat:Nat):Int)=34:=AC
 refine Bu Ad [] Tryz.func282 rfl Do rfl ?_
 refine Ak (Al Ad ?_)
 repeat' ((conv=>whnf);first|exact D1|(refine BV ?_;intros)|(refine D2 ?_ ?_ ?_;rotate_left)|(refine BW ?_ ?_<;>intro _)|with_reducible refine WF ?_)
 refine Ak (Al Ad ?_)
 repeat' ((conv=>whnf);first|exact D1|(refine BV ?_;intros)|(refine D2 ?_ ?_ ?_;rotate_left)|(refine BW ?_ ?_<;>intro _)|refine Aq hb ?_|with_reducible refine WF ?_)
 refine Ak (Al Ad ?_)
 repeat' ((conv=>whnf);first|exact D1|(refine BV ?_;intros)|(refine D2 ?_ ?_ ?_;rotate_left)|(refine BW ?_ ?_<;>intro _)|refine Aq hb ?_|with_reducible refine WF ?_)
 refine Ak (Al Ad ?_)
 repeat' ((conv=>whnf);first|exact D1|(refine BV ?_;intros)|(refine D2 ?_ ?_ ?_;rotate_left)|(refine BW ?_ ?_<;>intro _)|refine Aq (St.AY _ _ _) ?_|with_reducible refine WF ?_)
 refine ZP (st':=st.Ab b (qC s (p+1) true [] w1 [] w2)) (St.KX _ _ _ _).symm ?_
 have hb1:=St.AY st b (qC s (p+1) true [] w1 [] w2)
 have hr1:=hr.set hb0 (qC s (p+1) true [] w1 [] w2)
 generalize st.Ab b (qC s (p+1) true [] w1 [] w2)=st1 at hb1 hr1
 refine Al Ad ?_
 repeat' ((conv=>whnf);first|exact D1|(refine BV ?_;intros)|(refine D2 ?_ ?_ ?_;rotate_left)|(refine BW ?_ ?_<;>intro _)|refine Aq hb1 ?_|with_reducible refine WF ?_)
 refine Mm (α:=LsQ) (λ_=>[]) [0,3] [] (λx=>x.m) (λx=>x.m.box b=some (qC s x.q true x.o x.w1 x.g x.w2)/\B5 st0 x.m x.w1 x.o.length x.w2 (2*x.g.length)/\x.q<=s.length/\p+1<=x.q/\x.o.length<=x.q/\x.g.length<=x.q/\
  cr (p+1) (FA (s.drop (p+1)))=cr x.q (FA (s.drop x.q))/\Ki (s.drop (p+1))=x.o++Ki (s.drop x.q)/\Kj (p+1) (s.drop (p+1))=x.g++Kj x.q (s.drop x.q))
  (λx=>s.length - x.q) ⟨p+1,[],[],w1,w2,st1⟩ ⟨hb1,hr1,by simp only [];omega,Nat.le_refl _,GT,GT,rfl,rfl,rfl⟩ Yl (St.le_refl _) ?_
 rintro ⟨q,o,g,v1,v2,m⟩ ⟨j1,j2,j3,j4,j5,j6,U,j8,j9⟩
 dsimp only at j1 j2 j3 j4 j5 j6 U j8 j9 |-
 have hx:=Ku (s.drop q)
 have hbt:∀{R:AL->St->Prop},R (.ret (.int .u8 (LF (s.drop q)))) m->PC 321 [.ptr b 0,.int .i64 0] m R:=λh=>Fl (k:=0) hl j3 Do j1 h
 by_cases hq:AV (s.drop q)=34
 .have hql:q<s.length:=Cf (k:=q) AC
  rw [eL hq] at U
  rw [eM hq,List.append_nil] at j8
  rw [eN hq,List.append_nil] at j9
  clear h0
  have hcd:(!LF (s.drop q)==((e.toNat:Nat):Int))=false:=by rw [show LF (s.drop q)=((e.toNat:Nat):Int) by omega];simp
  repeat' ((conv=>whnf);first|refine tZ hcd ?_|exact D1|(refine BV ?_;intros)|(refine D2 ?_ ?_ ?_;rotate_left)|(refine BW ?_ ?_<;>intro _)|refine hbt ?_|refine Aq j1 ?_|with_reducible refine WF ?_)
  rw [j8,j9] at h
  cases hT:FA (s.drop (p+1)) with
  |inl k=>rw [hT] at U;cases U
  |inr n=>
   rw [hT] at U
   have e7:p+1+n=q+1:=by injection U
   exact fin (h n hT v1 v2 _ (j2.set hb0 _) ((St.AY _ _ _).trans (congrArg some (SO AC)))) rfl
 .have hne:¬LF (s.drop q)=((e.toNat:Nat):Int):=AC
  have hcd:(!LF (s.drop q)==((e.toNat:Nat):Int))=true:=by rw [beq_eq_false_iff_ne.2 hne];rfl
  repeat' ((conv=>whnf);first|refine ua hcd ?_|exact D1|(refine BV ?_;intros)|(refine D2 ?_ ?_ ?_;rotate_left)|(refine BW ?_ ?_<;>intro _)|refine hbt ?_|refine pR hl j3 hb0 j1 j2 AC AC (λe' hE st' hQ=>?_) (λv n hO u1 u2 st' g' hR hB hG=>?_)|with_reducible refine WF ?_)
  .rw [eK hq hE] at U
   cases hT:FA (s.drop (p+1)) with
   |inl k=>
    rw [hT] at U
    injection U with U
    injection U with e7 e8
    have:=h0 k.1 k.2 hT st' hQ
    rw [show p+1+k.1=q by simpa using e7,e8] at this
    exact fin this rfl
   |inr n=>rw [hT] at U;cases U
  .have hle:=Nf hO
   rw [List.length_drop] at hle
   dsimp only at hle
   rw [lK hq hO,List.drop_drop] at U
   rw [ld hq hO,List.drop_drop] at j8
   rw [lf hq hO,List.drop_drop] at j9
   have ho:(Uh o v).length<=o.length+1:=by unfold Uh;split<;>simp
   have hg:g'.length<=g.length+1:=by rw [hG];split<;>simp
   conv=>whnf
   refine ⟨⟨q+n,Uh o v,g',u1,u2,st'⟩,⟨hB,hR,by simp only [];omega,by simp only [];omega,by simp only [];omega,by simp only [];omega,U,?_,?_⟩,by simp only [];omega,Yl,St.le_refl _⟩
   .rw [j8]
    unfold Uh
    by_cases hv1:v= -1
    .rw [if_pos hv1,if_pos hv1]
    .rw [if_neg hv1,if_neg hv1];simp
   .rw [j9,hG]
    by_cases hg0:0<EX (s.drop q)
    .rw [if_pos hg0,if_pos ⟨rfl,hg0⟩];simp
    .rw [if_neg hg0,if_neg (λx=>hg0 x.2)]
end
section
variable {st:St} {R:AL->St->Prop}
theorem dw (hl:s.length<=100000000) (hp:AV (s.drop p)=39) (hb0:st0.box b=none) (hb:st.box b=some (qC s p tx [] w1 [] w2)) (hr:B5 st0 st w1 0 w2 0)
 (h0:∀k e,Ov (s.drop (p+1))=.inl (k,e)->∀st',QB st0 st' b s false->R (.Cz (JX (p+1+k:Nat) e)) st')
 (h:∀n,Ov (s.drop (p+1))=.inr n->∀o' w1' w2' st',B5 st0 st' w1' (List.length o') w2' 0->st'.box b=some (qC s (p+1+n) false o' w1' [] w2')->R (.ret (.int .i64 13)) st'):
 PC 282 [.ptr b 0] st R:=by
 have hpl:p<s.length:=Cf (k:=p) AC
 obtain ⟨e,he⟩:∃e,s[p]? =some e:=⟨s[p],List.getElem?_eq_getElem hpl⟩
 have he':s[(p:Int).toNat]? =some e:=he
 have hv:=Ds he
 have hv34:((e.toNat:Nat):Int)=39:=AC
 refine Bu Ad [] Tryz.func282 rfl Do rfl ?_
 refine Ak (Al Ad ?_)
 repeat' ((conv=>whnf);first|exact D1|(refine BV ?_;intros)|(refine D2 ?_ ?_ ?_;rotate_left)|(refine BW ?_ ?_<;>intro _)|with_reducible refine WF ?_)
 refine Ak (Al Ad ?_)
 repeat' ((conv=>whnf);first|exact D1|(refine BV ?_;intros)|(refine D2 ?_ ?_ ?_;rotate_left)|(refine BW ?_ ?_<;>intro _)|refine Aq hb ?_|with_reducible refine WF ?_)
 refine Ak (Al Ad ?_)
 repeat' ((conv=>whnf);first|exact D1|(refine BV ?_;intros)|(refine D2 ?_ ?_ ?_;rotate_left)|(refine BW ?_ ?_<;>intro _)|refine Aq hb ?_|with_reducible refine WF ?_)
 refine Ak (Al Ad ?_)
 repeat' ((conv=>whnf);first|exact D1|(refine BV ?_;intros)|(refine D2 ?_ ?_ ?_;rotate_left)|(refine BW ?_ ?_<;>intro _)|refine Aq (St.AY _ _ _) ?_|with_reducible refine WF ?_)
 refine ZP (st':=st.Ab b (qC s (p+1) false [] w1 [] w2)) (St.KX _ _ _ _).symm ?_
 have U:=St.AY st b (qC s (p+1) false [] w1 [] w2)
 have hr1:=hr.set hb0 (qC s (p+1) false [] w1 [] w2)
 generalize st.Ab b (qC s (p+1) false [] w1 [] w2)=st1 at U hr1
 have hx:=Ku (s.drop (p+1))
 have hbt:∀{R:AL->St->Prop},R (.ret (.int .u8 (LF (s.drop (p+1))))) st1->PC 321 [.ptr b 0,.int .i64 0] st1 R:=λh=>Fl (k:=0) hl AC Do U h
 have hqb:QB st0 st1 b s false:=⟨_,[],w1,[],w2,U,hr1⟩
 by_cases hq:AV (s.drop (p+1))=39
 .have h0:=h0 0 50 (if_pos hq) st1 hqb
  clear h
  refine Al Ad ?_
  repeat' ((conv=>whnf);first|exact D1|(refine BV ?_;intros)|(refine D2 ?_ ?_ ?_;rotate_left)|(refine BW ?_ ?_<;>intro _)|refine Aq U ?_|refine hbt ?_|refine GX ?_|with_reducible refine WF ?_)
  exact fin h0 rfl
 refine Ak (Al Ad ?_)
 repeat' ((conv=>whnf);first|exact D1|(refine BV ?_;intros)|(refine D2 ?_ ?_ ?_;rotate_left)|(refine BW ?_ ?_<;>intro _)|refine Aq U ?_|with_reducible refine WF ?_)
 refine Ak (Al Ad ?_)
 repeat' ((conv=>whnf);first|exact D1|(refine BV ?_;intros)|(refine D2 ?_ ?_ ?_;rotate_left)|(refine BW ?_ ?_<;>intro _)|refine hbt ?_|with_reducible refine WF ?_)
 refine Ak (Al Ad ?_)
 repeat' ((conv=>whnf);first|exact D1|(refine BV ?_;intros)|(refine D2 ?_ ?_ ?_;rotate_left)|(refine BW ?_ ?_<;>intro _)|refine pR (st0:=st0) hl AC hb0 U hr1 GT GT (λe' hE st' hQ=>?_) (λv n hO u1 u2 st' g' hR hB hG=>?_)|with_reducible refine WF ?_)
 .exact fin (h0 0 e' (by unfold Ov;rw [if_neg hq,hE]) st' hQ) rfl
 .have hle:=Nf hO
  rw [List.length_drop] at hle
  dsimp only at hle
  rw [if_neg (λx=>by cases x.1)] at hG
  subst hG
  have hc:Ov (s.drop (p+1))=if AV (s.drop (p+1+n))=39 then .inr (n+1) else .inl (n,50):=by
   unfold Ov
   rw [if_neg hq,hO]
   show (if AV ((s.drop (p+1)).drop n)=39 then _ else _)=_
   rw [List.drop_drop]
  have hx2:=Ku (s.drop (p+1+n))
  have hbt2:∀{R:AL->St->Prop},R (.ret (.int .u8 (LF (s.drop (p+1+n))))) st'->PC 321 [.ptr b 0,.int .i64 0] st' R:=λh=>Fl (k:=0) hl AC Do hB h
  clear hbt U hr1 hqb hb hr
  by_cases hq2:AV (s.drop (p+1+n))=39
  .rw [if_pos hq2] at hc
   have h:=λst'=>h _ hc (Uh [] v) u1 u2 st'
   refine Al Ad ?_
   repeat' ((conv=>whnf);first|exact D1|(refine BV ?_;intros)|(refine D2 ?_ ?_ ?_;rotate_left)|(refine BW ?_ ?_<;>intro _)|refine hbt2 ?_|refine Aq hB ?_|with_reducible refine WF ?_)
   exact fin (h _ (hR.set hb0 _) ((St.AY _ _ _).trans (congrArg some (SO AC)))) rfl
  .rw [if_neg hq2] at hc
   have h0:=h0 _ _ hc st' ⟨_,_,_,_,_,hB,hR⟩
   refine Al Ad ?_
   repeat' ((conv=>whnf);first|exact D1|(refine BV ?_;intros)|(refine D2 ?_ ?_ ?_;rotate_left)|(refine BW ?_ ?_<;>intro _)|refine hbt2 ?_|refine Aq hB ?_|refine GX ?_|with_reducible refine WF ?_)
   exact fin h0 rfl
end
end Go.Proofs.Z
namespace Go.Aw
open Go
section
variable {D:List Deferred} {P:Program} {T:List (Nat×Ty)} {I0 I:Mem} {st0 st:St} {w0 w:World} {β:Nat->Option Nat} {env:Env} {a:Act}
theorem R5 (hP:UP P T) {fn:Func} (gl:List Nat) {R:AL->St->Prop} (hf:P.funcs[f]? =some fn) {c0 c1 c2 rest:Code} {rid:Nat} {mk df:Oper}
 (hb : fn.body = some (.seq c0 (.seq c1 (.seq c2 (.seq (.region rid #[mk, df] false) rest))))) (hn : (fn.name == "runtime.NumGoroutine") = false) {g : FuncId} {cap : Array Operand} {tf : Nat}
 (h1:mk.op=.makeFunc (.func g) #[] cap) (h2:mk.dst=some tf) (h3:mk.guard=none) (h4:df.op=.defer {callee:=.value (.tmp tf),args:=#[],argTypes:=#[]}) (h5:df.guard=none) (h6:df.dst=none)
 (hg:Plain P g) (hle:Nat.ble args.length fn.ntmps=true)
 (h:AW P c0 (Bp (λenv st=>AW P c1 (Bp (λenv st=>AW P c2 (λae env st=>match ae with
   | .normal=>UM env cap.toList λvs=>vs.all V.aD=true/\env.go (some tf) (.func g [] vs) λenv=>AW P rest (YU P T g vs fn R) env st
   | .ret=>Xa T fn R env st
   |_=>False) env st) lF) env st) lF) {tmps:=J9 0 args,boxes:=[],BI:=0,sz:=fn.ntmps,gl} st):Bc P f args st R:=by
 refine ⟨?_,fn,hf,by rw [hb];rfl,hn⟩
 intro I w cargs hs hargs
 refine calls_of_wp_defers hf hb ?_
 refine wp_seq (wp_mono (h [] I st w I _ _ w (Hw gl hs hargs hle)) ?_)
 rintro e a w1 ⟨I1,β1,env1,st1,ae,r1,x1,k1⟩
 cases ae with
 |exit _|goto _|ret|Cz _=>exact k1.elim
 |normal=>
 cases e with
 |exit _|goto _|ret|panic _|outgrown=>exact x1.elim
 |normal=>
 refine wp_seq (wp_mono (k1 [] I st w I1 _ _ w1 r1) ?_)
 rintro e a w2 ⟨I2,β2,env2,st2,ae,U,x2,k2⟩
 cases ae with
 |exit _|goto _|ret|Cz _=>exact k2.elim
 |normal=>
 cases e with
 |exit _|goto _|ret|panic _|outgrown=>exact x2.elim
 |normal=>
 refine wp_seq (wp_mono (k2 [] I st w I2 _ _ w2 U) ?_)
 clear k2 U x2
 rintro e a w2 ⟨I2,β2,env2,st2,ae,U,x2,k2⟩
 cases ae with
 |exit _|goto _|Cz _=>exact k2.elim
 |ret=>
  cases e with
  |normal|exit _|goto _|panic _|outgrown=>exact x2.elim
  |ret=>
   obtain ⟨v,c,g1,g2,g3⟩:=C4 (P:=P) hP.t U k2
   show Leaves P fn a.tmps _ a.defers _ w2
   rw [U.f.defers]
   exact ⟨c,g1,I2,st2,.ret v,U.fr,U.s,g2,g3⟩
 |normal=>
 cases e with
 |exit _|goto _|ret|panic _|outgrown=>exact x2.elim
 |normal=>
 refine wp_seq (wp_region_list ?_)
 show wpList P #[mk,df] _ [mk,df] a w2
 unfold wpList
 rw [if_pos (by simp [Region.wanted,h3])]
 left
 obtain ⟨vs,hv,kp,kg⟩:=GA U.f (show UM env2 cap.toList _ from k2)
 have hcv:AE I2 (.func g [] vs) (.func (.func g) #[] (cap.map a.eval)):=by
  simp only [AE]
  exact ⟨[],cap.toList.map a.eval,by congr 1;apply Array.ext';simp,by simp only [Aj],hv⟩
 obtain ⟨env3,r3,k3⟩:=Ce U (A8.of hcv) kg
 have htf:tf<a.tmps.size:=by
  rw [U.f.size]
  exact (N0 kg).1 tf rfl
 unfold Oper.wp
 rw [show (execOp a.eval mk).run P w2=.ok (.value (.func (.func g) #[] (cap.map a.eval))) w2 by simp only [execOp,h1,Array.map_empty];rfl]
 show wpList P #[mk,df] _ [df] (a.put mk.dst _) w2
 rw [h2]
 unfold wpList
 rw [if_pos (by simp [Region.wanted,h5])]
 left
 have hev:(a.put (some tf) (.func (.func g) #[] (cap.map a.eval))).eval (.tmp tf)=.func (.func g) #[] (cap.map a.eval):=by
  simp [Act.put,Act.eval,htf]
 unfold Oper.wp
 rw [show (execOp (a.put (some tf) (.func (.func g) #[] (cap.map a.eval))).eval df).run P w2=.ok (.defer {target:=.fn (.func g) (cap.map a.eval),args:=#[]}) w2 by
  simp only [execOp,h4,resolve,hev,Deferred.ofValue,Array.map_empty,Array.empty_append];rfl]
 rw [Oper.upon_defer]
 rw [h6]
 unfold wpList
 show rest.wp P _ _ _
 have r4:=r3.defer {target:=.fn (.func g) (cap.map a.eval),args:=#[]}
 refine wp_mono (k3 _ I st w I2 _ _ w2 r4) ?_
 rintro e a5 w5 ⟨I5,β5,env5,st5,ae,r5,x5,k5⟩
 have hd:=r5.f.defers
 obtain ⟨fn2,p1,p2,p3⟩:=hg
 have hinv:(invoke (.fn (.func g) (cap.map a.eval)) #[]).run P w5=.ok (.enter g (cap.toList.map a.eval).toArray) w5:=by
  have hb:fn2.body.isNone=false:=by cases hb:fn2.body<;>simp_all
  simp only [invoke,callFunc,Sem.run_bind,Sem.run_pure,Result.andThen_ok,run_program,p1]
  rw [p3]
  simp [hb]
  apply Array.ext';simp
 have last:∀{u:FrameMode} {x:Option V},u≠.run->(match x with|none=>u=.returning|some v=>∃c,u=.panicking [{v:=c,recovered:=false}]/\AE I5 v c)->Jx P g vs x st5 (λst'=>Xa T fn R env5 st')->
  Leaves P fn a5.tmps (λe w'=>∃I' st' r,Fr I st w I' st' w'/\CH I' st' w'/\W6 I' e r/\R r st') a5.defers u w5:=by
  intro u x hu hx k
  rw [hd]
  refine leaves_cons hu hinv ((k I5 w5 _ u r5.s (Aj.rv hv kp) hx).mono ?_)
  rintro e u' w6 ⟨⟨v,rfl⟩,hset,I6,st6,q1,q2,q3⟩
  show Leaves P fn a5.tmps _ [] (settle u') w6
  rw [hset]
  have r6:=r5.called q1 q2
  obtain ⟨v,c,g1,g2,g3⟩:=C4 (P:=P) hP.t r6 q3
  exact ⟨c,g1,I6,st6,.ret v,r6.fr,r6.s,g2,g3⟩
 cases ae with
 |normal=>
  cases e with
  |normal=>exact last (x:=none) GT rfl k5
  |_=>exact x5.elim
 |ret=>
  cases e with
  |ret=>exact last (x:=none) GT rfl k5
  |_=>exact x5.elim
 |Cz v=>
  cases e with
  |panic chain=>
   obtain ⟨c,rfl,hc⟩:=x5
   exact last (x:=some v) GT ⟨c,rfl,hc⟩ k5
  |_=>exact x5.elim
 |exit _=>exact k5.elim
 |goto _=>exact k5.elim
end
section
variable {D:List Deferred} {P:Program} {T:List (Nat×Ty)} {C:FuncId->List V->St->(AL->St->Prop)->Prop} {I0 I:Mem} {st0 st:St} {w0 w:World} {β:Nat->Option Nat} {env:Env} {a:Act}
def kX {X:Type} (T:List (Nat×Ty)) (C:FuncId->List V->St->(AL->St->Prop)->Prop) (all:List Oper) (Q:AM->Env->St->Prop) (E:X->List Bool->Env) (S:X->List Bool->St) (J:X->List Bool->Prop) (x:X) (p:List Bool×Nat):Prop:=
 match all[p.2]? with
 |some o=>Bt all o (E x p.1) (Jg T C o (E x p.1) (S x p.1) (λv env st=>env.go o.dst v λenv=>∃y,J y (p.1.set p.2 true)/\(E y (p.1.set p.2 true)).C7 env/\St.le (S y (p.1.set p.2 true)) st) Q)
   ((E x p.1).go o.dst (.Bh []) λenv=>∃y,J y (p.1.set p.2 true)/\(E y (p.1.set p.2 true)).C7 env/\St.le (S y (p.1.set p.2 true)) (S x p.1))
 |none=>True
theorem Yf {X:Type} (hT:Hf P T) (hC:∀f args st R,C f args st R->Dp P f args st R/\Plain P f) {all:List Oper} {Q:AM->Env->St->Prop} {E:X->List Bool->Env} {S:X->List Bool->St} {J:X->List Bool->Prop} {PL:List (List Bool×Nat)}
 (hc:Ib all PL=true) (step:∀p ∈ PL,∀x,J x p.1->kX T C all Q E S J x p) (fin:∀x,J x (List.replicate all.length true)->Q .normal (E x (List.replicate all.length true)) (S x (List.replicate all.length true))):
 ∀(fuel:Nat) (bs:List Bool) (listed:Array Bool) (I:Mem) (β:Nat->Option Nat) (a:Act) (w:World),bs.length=all.length->listed.toList=bs->bs.count false<=fuel->
  (∀j,j<all.length->C1 all bs j=true->(bs,j) ∈ PL)->(bs=List.replicate all.length true\/∃j,j<all.length/\C1 all bs j=true)->
  ∀x,J x bs->Rel D I0 st0 w0 I β (E x bs) (S x bs) a w->wpAny P .any all.toArray (Cg D I0 st0 w0 Q) fuel listed a w:=by
 have full:∀{bs:List Bool},bs.length=all.length->bs.count false=0->bs=List.replicate all.length true:=λ{bs} hb h0=>by
  rw [List.eq_replicate_iff]
  refine ⟨hb,λb hb=>?_⟩
  cases b with
  |true=>rfl
  |false=>have:=List.count_pos_iff.2 hb;omega
 have noready:∀{j:Nat},C1 all (List.replicate all.length true) j=true->j<all.length->False:=λ{j} h hj=>by
  unfold C1 at h
  simp only [Bool.and_eq_true,Bool.not_eq_true'] at h
  have:=h.1
  rw [List.getD_eq_getElem?_getD,List.getElem?_replicate,if_pos hj] at this
  cases this
 simp only [Ib,Bool.and_eq_true,List.all_eq_true] at hc
 intro fuel
 induction fuel with
 |zero=>
  intro bs listed I β a w hb hl hf hp hr x hj h
  have:=full hb AC
  subst this
  refine ⟨?_,⟨I,β,_,_,.normal,h,trivial,fin x hj⟩⟩
  rw [List.eq_nil_iff_forall_not_mem]
  intro j hj
  obtain ⟨h1,h2⟩:=(E1 hl hb).1 hj
  exact noready h2 h1
 |succ fuel ih=>
  intro bs listed I β a w hb hl hf hp hr x hj h
  refine ⟨λh0=>?_,λi hi=>?_⟩
  .rcases hr with rfl|⟨j,h1,h2⟩
   .exact ⟨I,β,_,_,.normal,h,trivial,fin x hj⟩
   .have:=(E1 hl hb).2 ⟨h1,h2⟩
    rw [h0] at this;cases this
  .obtain ⟨h1,h2⟩:=(E1 hl hb).1 hi
   have hm:=hp i h1 h2
   have hs:=step _ hm x hj
   unfold kX at hs
   have ho:all[i]? =some all[i]:=List.getElem?_eq_getElem h1
   simp only [ho] at hs
   obtain ⟨⟨c1,c2⟩,c3⟩:=hc.2 _ hm
   refine MD hT hC (Q:=Q) ho (λ{I β env st a w} h k=>?_) h hs (K:=λenv st=>∃y,J y (bs.set i true)/\(E y (bs.set i true)).C7 env/\St.le (S y (bs.set i true)) st)
   .obtain ⟨y,kj,k⟩:=k
    have hbi:i<bs.length:=AC
    refine ih (bs.set i true) _ I _ a w (by simpa using hb) (by simp [hl]) ?_ (λj hj hr=>?_) ?_ y kj ((h.IK k.2).Ke (Env.Kf k.1))
    .have:=List.count_set (a:=true) (i:=i) (l:=bs) (b:=false) hbi
     unfold C1 at h2
     simp only [Bool.and_eq_true,Bool.not_eq_true'] at h2
     have U:=h2.1
     rw [List.getD_eq_getElem?_getD,List.getElem?_eq_getElem hbi] at U
     simp only [Option.getD_some] at U
     rw [U] at this
     have hpos:0<bs.count false:=List.count_pos_iff.2 (by rw [<-U];exact List.getElem_mem hbi)
     simp only [beq_self_eq_true,if_true,show (true==false)=false from rfl,Bool.false_eq_true,if_false] at this
     omega
    .have:=c2 j (List.mem_range.2 hj)
     rw [hr] at this
     simpa using this
    .simp only [Bool.or_eq_true,beq_iff_eq,List.any_eq_true] at c3
     rcases c3 with c3|⟨j,hj,hr⟩
     .exact .inl c3
     .exact .inr ⟨j,List.mem_range.1 hj,hr⟩
theorem lU {X:Type} (hP:UP P T) (hC:∀f args st R,C f args st R->Dp P f args st R/\Plain P f) {id:Nat} {ops:Array Oper} {Q:AM->Env->St->Prop} (E:X->List Bool->Env) (S:X->List Bool->St) (J:X->List Bool->Prop) (x0:X) (PL:List (List Bool×Nat))
 (hc:Ib ops.toList PL=true) (j0:J x0 (List.replicate ops.toList.length false)) (h0:(E x0 (List.replicate ops.toList.length false)).C7 env) (s0:St.le (S x0 (List.replicate ops.toList.length false)) st) (step:∀p ∈ PL,∀x,J x p.1->kX T C ops.toList Q E S J x p)
 (fin:∀x,J x (List.replicate ops.toList.length true)->Q .normal (E x (List.replicate ops.toList.length true)) (S x (List.replicate ops.toList.length true))):AW P (.region id ops true) Q env st:=λD I0 st0 w0 I β a w h=>
 wp_region_any hP.m (by
  have U:=hc
  simp only [Ib,Bool.and_eq_true,List.all_eq_true] at U
  have:=Yf (D:=D) hP.t hC hc step fin ops.size (List.replicate ops.toList.length false) (Array.replicate ops.size false) I _ a _ GT GT GT (λj hj hr=>?_) ?_ x0 j0 (((h.Kk (GZ.drew w)).IK s0).Ke (Env.Kf h0))
  .simpa using this
  .have:=U.1.1 j (List.mem_range.2 hj)
   rw [hr] at this
   simpa using this
  .have:=U.1.2
   simp only [Bool.or_eq_true,beq_iff_eq,List.any_eq_true] at this
   rcases this with h|⟨j,hj,hr⟩
   .exact .inl h
   .exact .inr ⟨j,List.mem_range.1 hj,hr⟩)
end
theorem Bi {st:St} {c:Nat} (h:b≠c):(st.Ab b cs).box c=st.box c:=by simp [St.Ab,Ne.symm h]
theorem EW {st:St} {c:Nat} (h:(st.Ab b cs).fresh c):b≠c/\st.fresh c:=by
 by_cases e:b=c
 .subst e
  have:=h.1
  rw [St.AY] at this
  cases this
 .refine ⟨e,?_,h.2⟩
  have:=h.1
  rw [Bi e] at this
  exact this
theorem Tr {st:St} {K:Nat->Prop} (h:∀b,st.fresh b->K b):∀b,st.fresh b->K b:=h
end Go.Aw
namespace Go.Proofs.Z
open Go Go.Aw
section
variable {st:St} {R:AL->St->Prop}
attribute [local irreducible] Go.Aw.Ag
theorem V9 {b1 b2 b3:Nat} {RS:St->Prop} (h:RS st):Jx Tryz.prog 281 [.ptr b1 0,.ptr b2 0,.ptr b3 0] none st RS:=by
 refine F8 Ad [] Tryz.func281 rfl rfl rfl rfl rfl rfl rfl rfl (λU he=>?_)
 subst he
 conv=>whnf
 refine Ak (Al Ad ?_)
 repeat' ((conv=>whnf);first|exact D1|(refine BV ?_;intros)|(refine D2 ?_ ?_ ?_;rotate_left)|(refine BW ?_ ?_<;>intro _)|with_reducible refine WF ?_)
 all_goals exact h
theorem OK {b1 b2 b3 U q:Nat} {e k0 e0:Int} {RS:St->Prop} (h1:st.box b1=some [.ptr U 0]) (h4:st.box U=some (qC s q tx o w1 g w2)) (h2:st.box b2=some [.int .i64 k0]) (h3:st.box b3=some [.int .i64 e0])
 (d2:U≠b2) (d3:U≠b3) (d5:b2≠b3) (h:RS (((st.Ab U (qC s p tx o w1 g w2)).Ab b2 [.int .i64 0]).Ab b3 [.int .i64 e])):Jx Tryz.prog 281 [.ptr b1 0,.ptr b2 0,.ptr b3 0] (some (JX p e)) st RS:=by
 refine F8 Ad [] Tryz.func281 rfl rfl rfl rfl rfl rfl rfl rfl (λenv0 he=>?_)
 subst he
 conv=>whnf
 refine Ak (Al Ad ?_)
 repeat' ((conv=>whnf);first|exact D1|(refine BV ?_;intros)|(refine D2 ?_ ?_ ?_;rotate_left)|(refine BW ?_ ?_<;>intro _)|with_reducible refine WF ?_)
 refine Ak (Al Ad ?_)
 repeat' ((conv=>whnf);first|exact D1|(refine BV ?_;intros)|(refine D2 ?_ ?_ ?_;rotate_left)|(refine BW ?_ ?_<;>intro _)|with_reducible refine WF ?_)
 refine Ak (Al Ad ?_)
 repeat' ((conv=>whnf);first|exact D1|(refine BV ?_;intros)|(refine D2 ?_ ?_ ?_;rotate_left)|(refine BW ?_ ?_<;>intro _)|with_reducible refine WF ?_)
 have k2:∀cs,(st.Ab U cs).box b2=some [.int .i64 k0]:=λcs=>(Bi d2).trans h2
 have k3:∀cs cs',((st.Ab U cs).Ab b2 cs').box b3=some [.int .i64 e0]:=λcs cs'=>(Bi d5).trans ((Bi d3).trans h3)
 refine Al Ad ?_
 repeat' ((conv=>whnf);first|refine Ae [(0,true),(1,true),(2,true),(3,true),(4,true),(5,true),(6,true),(7,false),(8,false),(9,false)] [] GE ?_|exact D1|(refine BV ?_;intros)|(refine D2 ?_ ?_ ?_;rotate_left)|(refine BW ?_ ?_<;>intro _)|refine Aq h1 ?_|refine Aq h4 ?_|refine Aq (k2 _) ?_|refine Aq (k3 _ _) ?_|with_reducible refine WF ?_)
 all_goals exact h
theorem pN (hl:s.length<=100000000) (U:AV (s.drop p)=34\/AV (s.drop p)=39) (hb0:st0.box b=none) (hb:st.box b=some (qC s p tx [] w1 [] w2)) (hr:B5 st0 st w1 0 w2 0)
 (h0:∀(q:Nat) e tx',CR s p=(0,(q:Int),e)->∀st',QB st0 st' b s tx'->R (.Cz (JX q e)) st')
 (h:∀k (q:Nat),CR s p=(k,(q:Int),0)->∀tx' o u1 g u2 st',B5 st0 st' u1 (List.length o) u2 (2*List.length g)->st'.box b=some (qC s q tx' o u1 g u2)->R (.ret (.int .i64 k)) st'):PC 282 [.ptr b 0] st R:=by
 rcases U with U|U
 .refine dx hl U hb0 hb hr (λk e hT st' hQ=>h0 _ e true ?_ st' hQ) (λn hT u1 u2 st' hR hB=>h 14 _ ?_ _ _ _ _ _ st' hR hB)
  .unfold CR;rw [if_pos U,hT]
  .unfold CR;rw [if_pos U,hT]
 .refine dw hl U hb0 hb hr (λk e hT st' hQ=>h0 _ e false ?_ st' hQ) (λn hT o' u1 u2 st' hR hB=>h 13 _ ?_ _ _ _ _ _ st' hR hB)
  .unfold CR;rw [if_neg AC,if_pos U,hT]
  .unfold CR;rw [if_neg AC,if_pos U,hT]
noncomputable def n8:List Oper:=match Tryz.f229.body with|some (.seq _ (.seq _ (.seq _ (.seq _ (.seq (.region _ ops _) _)))))=>ops.toList|_=>[]
noncomputable def pU (b1 b2 b3 U:Nat) (K:Int) (bs:List Bool):Env:=
 {tmps:=Hd [(4,.ptr b1 0),(5,.ptr b2 0),(6,.ptr b3 0)] n8 [.ptr U 0,.ptr U 0,.int .i64 K,.Cj,.Cj,.Cj] bs,boxes:=[],BI:=1,sz:=39,gl:=[4,5,6,10]}
def ti (b1 b2 b3 U:Nat) (K:Int) (m:St) (bs:List Bool):St:=
 match bs[3]?,bs[4]?,bs[5]? with
 |_,_,some true=>((m.Ab b1 [.ptr U 0]).Ab b2 [.int .i64 K]).Ab b3 [.int .i64 0]
 |_,some true,_=>(m.Ab b1 [.ptr U 0]).Ab b2 [.int .i64 K]
 |some true,_,_=>m.Ab b1 [.ptr U 0]
 |_,_,_=>m
def pV (s0 A:St) (b4:Nat) (s:List UInt8) (Q U:Int) (x:LsQ×Bool) (bs:List Bool):Prop:=match bs[2]? with
 |some true=>B5 s0 x.1.m x.1.w1 x.1.o.length x.1.w2 (2*x.1.g.length)/\x.1.m.box b4=some (qC s x.1.q x.2 x.1.o x.1.w1 x.1.g x.1.w2)/\(x.1.q:Int)=Q/\U=0
 |_=>x.1.m=A
def jD:List (List Bool×Nat):=[([false,false,false,false,false,false],0),([false,false,false,false,false,false],1),([true,false,false,false,false,false],1),([false,true,false,false,false,false],0),([false,true,false,false,false,false],2),([true,true,false,false,false,false],2),([false,true,true,false,false,false],0),([true,true,true,false,false,false],3),([true,true,true,true,false,false],4),([true,true,true,true,true,false],5)]
noncomputable def jE:Code:=match Tryz.f229.body with|some (.seq _ (.seq _ (.seq _ (.seq _ r))))=>r|_=>.skip
theorem dU {s0:St} {b1 b2 b3 U:Nat} (hl:s.length<=100000000) (hq:AV (s.drop pos)=34\/AV (s.drop pos)=39) (hs0:s0.box U=none) (hsl:st.le s0) (n12:b1≠b2) (n13:b1≠b3) (n14:b1≠U) (n23:b2≠b3) (n24:b2≠U) (n34:b3≠U) (k1:st.box b1=none) (k2:st.box b2=none) (k3:st.box b3=none) (k4:st.box U=none)
 (m1:s0.box b1=some [.ptr U 0]) (m2:s0.box b2=some [.int .i64 0]) (m3:s0.box b3=some [.int .i64 0])
 (h:∀U (q:Nat) tx o w1 g w2 st',st.le st'->st'.box U=some (qC s q tx o w1 g w2)->(q:Int)=(CR s pos).2.1->R (.ret (.Bh [.ptr U 0,.int .i64 (CR s pos).1,.int .i64 (CR s pos).2.2])) st'):
 AW Tryz.prog jE (YU Tryz.prog sk 281 [.ptr b1 0,.ptr b2 0,.ptr b3 0] Tryz.f229 (Go.Aw.Ends R)) (pU b1 b2 b3 U (CR s pos).1 (List.replicate 6 false)) (s0.Ab U (qC s pos false [] .full [] .full)):=by
 have a1:∀C,(s0.Ab U C).box b1=some [.ptr U 0]:=λC=>(Bi n14.symm).trans m1
 have hr0:B5 s0 (s0.Ab U (qC s pos false [] .full [] .full)) .full 0 .full 0:=⟨trivial,trivial,trivial,trivial,trivial,St.Au (St.le_refl _) hs0 _⟩
 refine Ak (lU Ad (CB _) (λ_ bs=>pU b1 b2 b3 U (CR s pos).1 bs) (λx bs=>ti b1 b2 b3 U (CR s pos).1 x.1.m bs) (λx bs=>pV s0 (s0.Ab U (qC s pos false [] .full [] .full)) U s (CR s pos).2.1 (CR s pos).2.2 x bs) (⟨pos,[],[],.full,.full,s0.Ab U (qC s pos false [] .full [] .full)⟩,false) jD GE rfl Yl (St.le_refl _) ?_ ?_)
 .unfold jD
  repeat' (first|refine List.forall_mem_cons.2 ⟨?_,?_⟩|exact List.forall_mem_nil _)
  all_goals rintro ⟨⟨q,o,g,w1,w2,m⟩,tx⟩ hj
  all_goals dsimp only [pV,List.getElem?_cons_zero,List.getElem?_cons_succ] at hj
  all_goals try subst hj
  .skip
   repeat' ((conv=>whnf);first|exact D1|(refine BV ?_;intros)|(refine D2 ?_ ?_ ?_;rotate_left)|(refine BW ?_ ?_<;>intro _)|refine Aq (a1 _) ?_|with_reducible refine WF ?_)
   all_goals conv=>whnf
   all_goals exact ⟨(⟨q,o,g,w1,w2,_⟩,tx),rfl,Yl,St.le_refl _⟩
  .skip
   repeat' ((conv=>whnf);first|exact D1|(refine BV ?_;intros)|(refine D2 ?_ ?_ ?_;rotate_left)|(refine BW ?_ ?_<;>intro _)|refine Aq (a1 _) ?_|with_reducible refine WF ?_)
   all_goals conv=>whnf
   all_goals exact ⟨(⟨q,o,g,w1,w2,_⟩,tx),rfl,Yl,St.le_refl _⟩
  .skip
   repeat' ((conv=>whnf);first|exact D1|(refine BV ?_;intros)|(refine D2 ?_ ?_ ?_;rotate_left)|(refine BW ?_ ?_<;>intro _)|refine Aq (a1 _) ?_|with_reducible refine WF ?_)
   all_goals conv=>whnf
   all_goals exact ⟨(⟨q,o,g,w1,w2,_⟩,tx),rfl,Yl,St.le_refl _⟩
  .skip
   repeat' ((conv=>whnf);first|exact D1|(refine BV ?_;intros)|(refine D2 ?_ ?_ ?_;rotate_left)|(refine BW ?_ ?_<;>intro _)|refine Aq (a1 _) ?_|with_reducible refine WF ?_)
   all_goals conv=>whnf
   all_goals exact ⟨(⟨q,o,g,w1,w2,_⟩,tx),rfl,Yl,St.le_refl _⟩
  .skip
   repeat' ((conv=>whnf);first|exact D1|(refine BV ?_;intros)|(refine D2 ?_ ?_ ?_;rotate_left)|(refine BW ?_ ?_<;>intro _)|refine pN hl hq hs0 (St.AY ..) hr0 (λq' e' tx' hz st' hQ=>?_) (λk q' hz tx' o' u1 g' u2 st' hR hB=>?_)|refine Aq (a1 _) ?_|with_reducible refine WF ?_)
   .obtain ⟨q1,o1,u1,g1,u2,hB,hR⟩:=hQ
    conv=>whnf
    refine OK (hR.le.1 _ _ m1) hB (hR.le.1 _ _ m2) (hR.le.1 _ _ m3) n24.symm n34.symm n23 ?_
    have c1:(((st'.Ab U (qC s q' tx' o1 u1 g1 u2)).Ab b2 [.int .i64 0]).Ab b3 [.int .i64 e']).box b1=some [.ptr U 0]:=(Bi n13.symm).trans ((Bi n12.symm).trans ((Bi n14.symm).trans (hR.le.1 _ _ m1)))
    have c2:(((st'.Ab U (qC s q' tx' o1 u1 g1 u2)).Ab b2 [.int .i64 0]).Ab b3 [.int .i64 e']).box b2=some [.int .i64 0]:=(Bi n23.symm).trans (St.AY _ _ _)
    have c3:(((st'.Ab U (qC s q' tx' o1 u1 g1 u2)).Ab b2 [.int .i64 0]).Ab b3 [.int .i64 e']).box b3=some [.int .i64 e']:=St.AY _ _ _
    have c4:(((st'.Ab U (qC s q' tx' o1 u1 g1 u2)).Ab b2 [.int .i64 0]).Ab b3 [.int .i64 e']).box U=some (qC s q' tx' o1 u1 g1 u2):=(Bi n34).trans ((Bi n24).trans (St.AY _ _ _))
    have c5:(CR s pos).1=0:=by rw [hz]
    have c6:(CR s pos).2.1=q':=by rw [hz]
    have c7:(CR s pos).2.2=e':=by rw [hz]
    have gg:=λle=>h U q' tx' o1 u1 g1 u2 _ le c4 c6.symm
    rw [c5,c7] at gg
    clear h hz c4 c5 c6 c7
    repeat' ((conv=>whnf);first|exact D1|(refine BV ?_;intros)|(refine D2 ?_ ?_ ?_;rotate_left)|(refine BW ?_ ?_<;>intro _)|refine Aq c1 ?_|refine Aq c2 ?_|refine Aq c3 ?_|with_reducible refine WF ?_)
    exact fin (gg (St.Au (St.Au (St.Au (St.le_trans hsl hR.le) k4 _) k2 _) k3 _)) rfl
   .have hz1:(CR s pos).1=k:=by rw [hz]
    have hz2:(CR s pos).2.1=q':=by rw [hz]
    have hz3:(CR s pos).2.2=0:=by rw [hz]
    conv=>whnf
    rw [hz1,hz2]
    exact ⟨(⟨q',o',g',u1,u2,st'⟩,tx'),⟨hR,hB,rfl,hz3⟩,Yl,St.le_refl _⟩
  .skip
   repeat' ((conv=>whnf);first|exact D1|(refine BV ?_;intros)|(refine D2 ?_ ?_ ?_;rotate_left)|(refine BW ?_ ?_<;>intro _)|refine pN hl hq hs0 (St.AY ..) hr0 (λq' e' tx' hz st' hQ=>?_) (λk q' hz tx' o' u1 g' u2 st' hR hB=>?_)|refine Aq (a1 _) ?_|with_reducible refine WF ?_)
   .obtain ⟨q1,o1,u1,g1,u2,hB,hR⟩:=hQ
    conv=>whnf
    refine OK (hR.le.1 _ _ m1) hB (hR.le.1 _ _ m2) (hR.le.1 _ _ m3) n24.symm n34.symm n23 ?_
    have c1:(((st'.Ab U (qC s q' tx' o1 u1 g1 u2)).Ab b2 [.int .i64 0]).Ab b3 [.int .i64 e']).box b1=some [.ptr U 0]:=(Bi n13.symm).trans ((Bi n12.symm).trans ((Bi n14.symm).trans (hR.le.1 _ _ m1)))
    have c2:(((st'.Ab U (qC s q' tx' o1 u1 g1 u2)).Ab b2 [.int .i64 0]).Ab b3 [.int .i64 e']).box b2=some [.int .i64 0]:=(Bi n23.symm).trans (St.AY _ _ _)
    have c3:(((st'.Ab U (qC s q' tx' o1 u1 g1 u2)).Ab b2 [.int .i64 0]).Ab b3 [.int .i64 e']).box b3=some [.int .i64 e']:=St.AY _ _ _
    have c4:(((st'.Ab U (qC s q' tx' o1 u1 g1 u2)).Ab b2 [.int .i64 0]).Ab b3 [.int .i64 e']).box U=some (qC s q' tx' o1 u1 g1 u2):=(Bi n34).trans ((Bi n24).trans (St.AY _ _ _))
    have c5:(CR s pos).1=0:=by rw [hz]
    have c6:(CR s pos).2.1=q':=by rw [hz]
    have c7:(CR s pos).2.2=e':=by rw [hz]
    have gg:=λle=>h U q' tx' o1 u1 g1 u2 _ le c4 c6.symm
    rw [c5,c7] at gg
    clear h hz c4 c5 c6 c7
    repeat' ((conv=>whnf);first|exact D1|(refine BV ?_;intros)|(refine D2 ?_ ?_ ?_;rotate_left)|(refine BW ?_ ?_<;>intro _)|refine Aq c1 ?_|refine Aq c2 ?_|refine Aq c3 ?_|with_reducible refine WF ?_)
    exact fin (gg (St.Au (St.Au (St.Au (St.le_trans hsl hR.le) k4 _) k2 _) k3 _)) rfl
   .have hz1:(CR s pos).1=k:=by rw [hz]
    have hz2:(CR s pos).2.1=q':=by rw [hz]
    have hz3:(CR s pos).2.2=0:=by rw [hz]
    conv=>whnf
    rw [hz1,hz2]
    exact ⟨(⟨q',o',g',u1,u2,st'⟩,tx'),⟨hR,hB,rfl,hz3⟩,Yl,St.le_refl _⟩
  .have b1':m.box b1=some [.ptr U 0]:=hj.1.le.1 _ _ m1
   repeat' ((conv=>whnf);first|exact D1|(refine BV ?_;intros)|(refine D2 ?_ ?_ ?_;rotate_left)|(refine BW ?_ ?_<;>intro _)|refine Aq b1' ?_|with_reducible refine WF ?_)
   all_goals conv=>whnf
   all_goals exact ⟨(⟨q,o,g,w1,w2,m⟩,tx),hj,Yl,St.le_refl _⟩
  .have b1':m.box b1=some [.ptr U 0]:=hj.1.le.1 _ _ m1
   repeat' ((conv=>whnf);first|exact D1|(refine BV ?_;intros)|(refine D2 ?_ ?_ ?_;rotate_left)|(refine BW ?_ ?_<;>intro _)|refine Aq b1' ?_|with_reducible refine WF ?_)
   all_goals conv=>whnf
   all_goals exact ⟨(⟨q,o,g,w1,w2,m⟩,tx),hj,Yl,St.le_refl _⟩
  .have b2':(m.Ab b1 [.ptr U 0]).box b2=some [.int .i64 0]:=(Bi n12).trans (hj.1.le.1 _ _ m2)
   repeat' ((conv=>whnf);first|exact D1|(refine BV ?_;intros)|(refine D2 ?_ ?_ ?_;rotate_left)|(refine BW ?_ ?_<;>intro _)|refine Aq b2' ?_|with_reducible refine WF ?_)
   all_goals conv=>whnf
   all_goals exact ⟨(⟨q,o,g,w1,w2,m⟩,tx),hj,Yl,St.le_refl _⟩
  .have b3':((m.Ab b1 [.ptr U 0]).Ab b2 [.int .i64 (CR s pos).1]).box b3=some [.int .i64 0]:=(Bi n23).trans ((Bi n13).trans (hj.1.le.1 _ _ m3))
   repeat' ((conv=>whnf);first|exact D1|(refine BV ?_;intros)|(refine D2 ?_ ?_ ?_;rotate_left)|(refine BW ?_ ?_<;>intro _)|refine Aq b3' ?_|with_reducible refine WF ?_)
   all_goals conv=>whnf
   all_goals exact ⟨(⟨q,o,g,w1,w2,m⟩,tx),hj,Yl,St.le_refl _⟩
 .rintro ⟨⟨q,o,g,w1,w2,m⟩,tx⟩ ⟨j1,j2,j3,j0⟩
  dsimp only at j1 j2 j3 j0
  have c1:(((m.Ab b1 [.ptr U 0]).Ab b2 [.int .i64 (CR s pos).1]).Ab b3 [.int .i64 0]).box b1=some [.ptr U 0]:=(Bi n13.symm).trans ((Bi n12.symm).trans (St.AY _ _ _))
  have c2:(((m.Ab b1 [.ptr U 0]).Ab b2 [.int .i64 (CR s pos).1]).Ab b3 [.int .i64 0]).box b2=some [.int .i64 (CR s pos).1]:=(Bi n23.symm).trans (St.AY _ _ _)
  have c3:(((m.Ab b1 [.ptr U 0]).Ab b2 [.int .i64 (CR s pos).1]).Ab b3 [.int .i64 0]).box b3=some [.int .i64 0]:=St.AY _ _ _
  have c4:(((m.Ab b1 [.ptr U 0]).Ab b2 [.int .i64 (CR s pos).1]).Ab b3 [.int .i64 0]).box U=some (qC s q tx o w1 g w2):=(Bi n34).trans ((Bi n24).trans ((Bi n14).trans j2))
  have gg:=λle=>h U q tx o w1 g w2 _ le c4 j3
  rw [j0] at gg
  clear h
  show AW _ _ _ _ _
  refine Al Ad (V9 ?_)
  repeat' ((conv=>whnf);first|exact D1|(refine BV ?_;intros)|(refine D2 ?_ ?_ ?_;rotate_left)|(refine BW ?_ ?_<;>intro _)|refine Aq c1 ?_|refine Aq c2 ?_|refine Aq c3 ?_|with_reducible refine WF ?_)
  exact fin (gg (St.Au (St.Au (St.Au (St.le_trans hsl j1.le) k1 _) k2 _) k3 _)) rfl
theorem rE (hl:s.length<=100000000) (hp:pos<s.length)
 (h:∀U (q:Nat) tx o w1 g w2 st',st.le st'->st'.box U=some (qC s q tx o w1 g w2)->(q:Int)=(CR s pos).2.1->R (.ret (.Bh [.ptr U 0,.int .i64 (CR s pos).1,.int .i64 (CR s pos).2.2])) st'):PC 229 [.str s,.int .i64 pos] st R:=by
 obtain ⟨e,he⟩:∃e,s[pos]? =some e:=⟨s[pos],List.getElem?_eq_getElem hp⟩
 have he':s[(pos:Int).toNat]? =some e:=he
 have hv:=Ds he
 refine Bc.ends (R5 Ad [4,5,6,10] Tryz.func229 rfl Do rfl rfl rfl rfl rfl rfl ⟨_,Tryz.func281,rfl,Do⟩ rfl ?_)
 refine Al Ad ?_
 repeat' ((conv=>whnf);first|exact D1|(refine BV ?_;intros)|(refine D2 ?_ ?_ ?_;rotate_left)|(refine BW ?_ ?_<;>intro _)|refine Tr (λb3 f3=>?_)|with_reducible refine WF ?_)
 rename_i b1 f1 b2 f2
 obtain ⟨n12,f2a⟩:=EW f2
 obtain ⟨n23,f3a⟩:=EW f3
 obtain ⟨n13,f3b⟩:=EW f3a
 refine Al Ad ?_
 have kk:∀U cs,((((st.Ab b1 [V.Gl]).Ab b2 [V.int .i64 0]).Ab b3 [V.int .i64 0]).fresh U)->((((st.Ab b1 [V.Gl]).Ab b2 [V.int .i64 0]).Ab b3 [V.int .i64 0]).Ab U cs).box b1=some [V.Gl]:=λU cs f4=>by
  obtain ⟨m3,f4a⟩:=EW f4
  obtain ⟨m2,f4b⟩:=EW f4a
  obtain ⟨m1,f4c⟩:=EW f4b
  simp [St.Ab,m1,n12,n13]
 repeat' ((conv=>whnf);first|exact D1|(refine BV ?_;intros)|(refine D2 ?_ ?_ ?_;rotate_left)|(refine BW ?_ ?_<;>intro _)|refine Tr (λU f4=>?_)|refine Aq (kk _ _ f4) ?_|with_reducible refine WF ?_)
 obtain ⟨n34,f4a⟩:=EW f4
 obtain ⟨n24,f4b⟩:=EW f4a
 obtain ⟨n14,f4c⟩:=EW f4b
 obtain ⟨s0,hs0,hsl,m1,m2,m3,hst⟩:∃s0:St,s0.box U=none/\st.le s0/\s0.box b1=some [.ptr U 0]/\s0.box b2=some [.int .i64 0]/\s0.box b3=some [.int .i64 0]/\
  s0.Ab U (qC s pos false [] .full [] .full)=(((((st.Ab b1 [V.Gl]).Ab b2 [V.int .i64 0]).Ab b3 [V.int .i64 0]).Ab U (qC s pos false [] .full [] .full)).Ab b1 [.ptr U 0]):=by
  refine ⟨((st.Ab b1 [.ptr U 0]).Ab b2 [.int .i64 0]).Ab b3 [.int .i64 0],?_,St.Au (St.Au (St.Au (St.le_refl _) f1.1 _) f2a.1 _) f3b.1 _,?_,?_,?_,?_⟩
  .simp [St.Ab,n14.symm,n24.symm,n34.symm];exact f4c.1
  .simp [St.Ab,n12,n13]
  .simp [St.Ab,n23]
  .simp [St.Ab]
  .simp only [St.Ab,St.mk.injEq,and_true]
   funext x
   by_cases x1:x=b1
   .subst x1;simp [n12,n13,n14]
   .by_cases x4:x=U
    .subst x4;simp [x1]
    .simp [x1,x4]
 refine ZP (st':=s0.Ab U (qC s pos false [] .full [] .full)) hst ?_
 clear kk f4 f4a f4b f3 f3a f2 hst
 have a1:∀C,(s0.Ab U C).box b1=some [.ptr U 0]:=λC=>(Bi n14.symm).trans m1
 by_cases hq:AV (s.drop pos)=34\/AV (s.drop pos)=39
 .refine Al Ad ?_
  repeat' ((conv=>whnf);first|exact D1|(refine BV ?_;intros)|(refine D2 ?_ ?_ ?_;rotate_left)|(refine BW ?_ ?_<;>intro _)|with_reducible refine WF ?_)
  all_goals conv=>whnf
  all_goals refine ⟨rfl,Ay rfl ?_⟩
  all_goals exact ZQ (dU hl hq hs0 (St.le_trans hsl (St.le_refl _)) n12 n13 n14 n23 n24 n34 f1.1 f2a.1 f3b.1 f4c.1 m1 m2 m3 h) Yl (St.le_refl _)
 .have hz:CR s pos=(0,0,0):=by unfold CR;rw [if_neg (λx=>hq (.inl x)),if_neg (λx=>hq (.inr x))]
  rw [hz] at h
  have a1':∀C C',((s0.Ab U C).Ab U C').box b1=some [.ptr U 0]:=λC C'=>(Bi n14.symm).trans (a1 C)
  have a2':∀C C' D,(((s0.Ab U C).Ab U C').Ab b1 D).box b2=some [.int .i64 0]:=λC C' D=>(Bi n12).trans ((Bi n24.symm).trans ((Bi n24.symm).trans m2))
  have a3':∀C C' D F,((((s0.Ab U C).Ab U C').Ab b1 D).Ab b2 F).box b3=some [.int .i64 0]:=λC C' D F=>(Bi n23).trans ((Bi n13).trans ((Bi n34.symm).trans ((Bi n34.symm).trans m3)))
  have e3:∀C C' D F G,(((((s0.Ab U C).Ab U C').Ab b1 D).Ab b2 F).Ab b3 G).box b3=some G:=λC C' D F G=>St.AY _ _ _
  have e2:∀C C' D F G,(((((s0.Ab U C).Ab U C').Ab b1 D).Ab b2 F).Ab b3 G).box b2=some F:=λC C' D F G=>(Bi n23.symm).trans (St.AY _ _ _)
  have e1:∀C C' D F G,(((((s0.Ab U C).Ab U C').Ab b1 D).Ab b2 F).Ab b3 G).box b1=some D:=λC C' D F G=>(Bi n13.symm).trans ((Bi n12.symm).trans (St.AY _ _ _))
  have e4:∀C C' D F G,(((((s0.Ab U C).Ab U C').Ab b1 D).Ab b2 F).Ab b3 G).box U=some C':=λC C' D F G=>(Bi n34).trans ((Bi n24).trans ((Bi n14).trans (St.AY _ _ _)))
  refine Al Ad ?_
  repeat' ((conv=>whnf);first|exact D1|(refine BV ?_;intros)|(refine D2 ?_ ?_ ?_;rotate_left)|(refine BW ?_ ?_<;>intro _)|refine Aq (a1 _) ?_|refine Aq (St.AY _ _ _) ?_|refine Aq (a1' _ _) ?_|refine Aq (a2' _ _ _) ?_|refine Aq (a3' _ _ _ _) ?_|refine Aq (e1 _ _ _ _ _) ?_|refine Aq (e2 _ _ _ _ _) ?_|refine Aq (e3 _ _ _ _ _) ?_|with_reducible refine WF ?_)
  exact fin (h U 0 false [] .full [] .full _ (St.Au (St.Au (St.Au (St.Au (St.Au hsl f4c.1 _) f4c.1 _) f1.1 _) f2a.1 _) f3b.1 _) (e4 _ _ _ _ _) rfl) rfl
end
section
variable {st:St} {R:AL->St->Prop}
attribute [local irreducible] Go.Aw.Ag
theorem nU (hl:s.length<=100000000) (hp:pos<s.length) (h:R (.ret (.Bh [.int .i64 (CR s pos).1,.int .i64 (CR s pos).2.1,.int .i64 (CR s pos).2.2])) st):PC 155 [.str s,.int .i64 pos] st R:=by
 refine pB Tryz.func155 ?_
 repeat' ((conv=>whnf);first|exact D1|(refine BV ?_;intros)|(refine D2 ?_ ?_ ?_;rotate_left)|(refine BW ?_ ?_<;>intro _)|refine rE hl hp (λb4 q tx o w1 g w2 st' U hb hq=>?_)|refine Aq hb ?_|with_reducible refine WF ?_)
 all_goals rw [<-hq] at h
 all_goals exact CI U rfl h
end
end Go.Proofs.Z
namespace Go.Aw
open Go
def C3 (s:List UInt8) (p:Nat):Int×Int×Int:=
 if (Hq s p).1≠0 then ((Hq s p).1,(Hq s p).2,0)
 else if (CR s p).1=0/\(CR s p).2.2=0 then
  if (H4 s p).1=0 then (0,p,70) else ((H4 s p).1,(H4 s p).2,0)
 else CR s p
def Pz (s:List UInt8) (p sp:Nat) (U CC:Int) (As notes:List (List V)) (w1 w2:AF) (DX ends:Int) (j:Bool):List V:=
 [.str s,.int .i64 p,.int .i64 sp,.int .i64 U,.int .i64 CC,.slice 4 As w1,.slice 5 notes w2,.int .i64 DX,.int .i64 ends,.bool j]
end Go.Aw
namespace Go.Proofs.Z
open Go Go.Aw
section
variable {st:St} {R:AL->St->Prop}
theorem qY {sp:Nat} {CC ends:Int} (hl:s.length<=100000000) (U:p<s.length) (hb:st.box b=some (Pz s p sp ln CC As notes w1 w2 DX ends j))
 (h:R (.ret (.agg [.int .i64 (Hq s p).1,.int .i64 (Hq s p).2,.int .i64 0])) st):PC 91 [.ptr b 0] st R:=by
 refine pB Tryz.func91 ?_
 repeat' ((conv=>whnf);first|exact Di|(refine Bl ?_;intros)|(refine Dj ?_ ?_ ?_;rotate_left)|(refine Bm ?_ ?_<;>intro _)|refine Aq hb ?_|refine je AC U ?_|with_reducible refine WF ?_)
 all_goals exact fin h rfl
theorem q8 {sp:Nat} {CC ends:Int} (U:s.length<=100000000) (hp:p<s.length) (hb:st.box b=some (Pz s p sp ln CC As notes w1 w2 DX ends j))
 (h:R (.ret (.agg [.int .i64 (H4 s p).1,.int .i64 (H4 s p).2,.int .i64 0])) st):PC 93 [.ptr b 0] st R:=by
 refine pB Tryz.func93 ?_
 repeat' ((conv=>whnf);first|exact Di|(refine Bl ?_;intros)|(refine Dj ?_ ?_ ?_;rotate_left)|(refine Bm ?_ ?_<;>intro _)|refine Aq hb ?_|refine ly U hp ?_|with_reducible refine WF ?_)
 all_goals exact fin h rfl
theorem qX {sp:Nat} {CC ends:Int} (U:s.length<=100000000) (hp:p<s.length) (hb:st.box b=some (Pz s p sp ln CC As notes w1 w2 DX ends j))
 (h:R (.ret (.agg [.int .i64 (CR s p).1,.int .i64 (CR s p).2.1,.int .i64 (CR s p).2.2])) st):PC 92 [.ptr b 0] st R:=by
 refine pB Tryz.func92 ?_
 repeat' ((conv=>whnf);first|exact Di|(refine Bl ?_;intros)|(refine Dj ?_ ?_ ?_;rotate_left)|(refine Bm ?_ ?_<;>intro _)|refine Aq hb ?_|refine nU U hp ?_|with_reducible refine WF ?_)
 all_goals exact fin h rfl
theorem iH {sp:Nat} {CC ends:Int} (hl:s.length<=100000000) (hp:p<s.length) (hb:st.box b=some (Pz s p sp ln CC As notes w1 w2 DX ends j))
 (h:R (.ret (.agg [.int .i64 (C3 s p).1,.int .i64 (C3 s p).2.1,.int .i64 (C3 s p).2.2])) st):PC 47 [.ptr b 0] st R:=by
 refine pB Tryz.func47 ?_
 have U:∀a b c,C3 s p=(a,b,c)->R (.ret (.agg [.int .i64 a,.int .i64 b,.int .i64 c])) st:=λa b c e=>by rw [e] at h;exact h
 clear h
 unfold C3 at U
 repeat' ((conv=>whnf);first|(refine Bl ?_;intros)|(refine Bm ?_ ?_<;>intro _)|refine qY hl hp hb ?_|refine qX hl hp hb ?_|refine q8 hl hp hb ?_|refine Aq hb ?_)
 .exact fin (U _ _ _ (by rw [if_neg AC,if_pos ⟨AC,AC⟩,if_pos AC])) rfl
 .exact fin (U _ _ _ (by rw [if_neg AC,if_pos ⟨AC,AC⟩,if_neg AC])) rfl
 .exact fin (U _ _ _ (by rw [if_neg AC,if_neg (λx=>by omega)])) rfl
 .exact fin (U _ _ _ (by rw [if_neg AC,if_neg (λx=>by omega)])) rfl
 .exact fin (U _ _ _ (by rw [if_pos AC])) rfl
end
section
variable {st:St} {R:AL->St->Prop}
theorem U7 {k CC:Int} (h:R (.ret (.bool (decide (¬k=15)|| !Lib.contains [123,125,59] t))) st):PC 94 [.agg [.int .i64 k,.str t,.int .i64 ln,.int .i64 CC]] st R:=by
 refine pB Tryz.func94 ?_
 repeat' ((conv=>whnf);first|(refine Bl ?_;intros)|(refine Bm ?_ ?_<;>intro _)|refine Yq Do ?_)
 all_goals first
  |exact Ao h (by simp [*])
  |(rename_i U _;exact Ao h (by simp [U]))
theorem MM {sp:Nat} {U CC ends:Int} (hl:s.length<=100000000) (hp:p<=s.length) (hb:st.box b=some (Pz s p sp U CC As notes w1 w2 DX ends j))
 (h:R (.ret (.Bh [])) (st.Ab b (Pz s (p+B6 (λc=>AQ c==1) (s.drop p)) sp U CC As notes w1 w2 DX ends j))):PC 44 [.ptr b 0] st R:=by
 refine pB Tryz.func44 ?_
 repeat' ((conv=>whnf);first|refine Ae [(0,true),(1,true),(2,true),(3,true),(4,true),(5,true),(6,true),(7,true),(8,true),(9,false),(10,true),(11,true),(12,false)] [] GE ?_|exact Di|(refine Bl ?_;intros)|(refine Dj ?_ ?_ ?_;rotate_left)|(refine Bm ?_ ?_<;>intro _)|refine Aq hb ?_|refine Lv hl hp rfl rfl ?_|with_reducible refine WF ?_)
 all_goals exact fin h rfl
end
end Go.Proofs.Z
namespace Go.Aw
open Go
def A3 (s:List UInt8) (a b:Nat):List UInt8:=(s.take b).drop a
theorem Ul {K:List UInt8->Prop} (U:a<=b) (h2:b<=s.length) (k:K (A3 s a b)):
 (0<=(a:Int)/\(a:Int)<=b/\(b:Int)<=s.length)/\∀s',s'=(s.take (b:Int).toNat).drop (a:Int).toNat->K s':=
 ⟨⟨AC,AC,AC⟩,λs' e=>by
   rw [show (b:Int).toNat=b by omega,show (a:Int).toNat=a by omega] at e
   subst e;exact k⟩
end Go.Aw
namespace Go.Proofs.Z
open Go Go.Aw
section
variable {st:St} {R:AL->St->Prop}
theorem uv {sp q:Nat} {CC ends:Int} (hl:s.length<=100000000) (hsp:sp<=q) (hq:q<=s.length) (hln:1<=ln/\ln<=1000000000) (U:1<=CC/\CC<=2147483648)
 (hw:1<=(B1 (A3 s sp q) (A3 s sp q).length (1,1)).1/\(B1 (A3 s sp q) (A3 s sp q).length (1,1)).1<=1000000000)
 (hb:st.box b=some (Pz s p sp ln CC As notes w1 w2 DX ends j))
 (h:R (.ret (.Bh [.int .i64 (ln+(B1 (A3 s sp q) (A3 s sp q).length (1,1)).1 - 1),.int .i64 (B1 (A3 s sp q) (A3 s sp q).length (1,CC)).2]))
   (st.Ab b (Pz s p q (ln+(B1 (A3 s sp q) (A3 s sp q).length (1,1)).1 - 1) (B1 (A3 s sp q) (A3 s sp q).length (1,CC)).2 As notes w1 w2 DX ends j))):PC 90 [.ptr b 0,.int .i64 q] st R:=by
 have hpl:(A3 s sp q).length<=100000000:=by unfold A3;rw [List.length_drop,List.length_take];omega
 have b2:∀cs,(st.Ab b cs).box b=some cs:=λcs=>St.AY _ _ _
 refine pB Tryz.func90 ?_
 repeat' ((conv=>whnf);first|exact Di|(refine Bl ?_;intros)|(refine Dj ?_ ?_ ?_;rotate_left)|(refine Bm ?_ ?_<;>intro _)|refine Ul hsp hq ?_|refine (λ(_:(A3 s sp q).length<Fe)=>?_)|refine ui hpl (Nat.le_refl _) ?_|refine o0 hpl U.1 U.2 ?_|refine Aq hb ?_|refine Aq (b2 _) ?_|with_reducible refine WF ?_)
 all_goals exact fin h rfl
end
end Go.Proofs.Z
namespace Go.Aw
open Go
def CF (s:List UInt8) (a b:Nat) (p:Int×Int):Int×Int:=B1 (A3 s a b) (A3 s a b).length p
theorem Jh (U:a<=b) (h2:b<=s.length):(A3 s a b).length=b - a:=by
 unfold A3;rw [List.length_drop,List.length_take];omega
theorem bm {p:Int×Int} (U:a<=b) (h2:b<=s.length) (h:1<=p.2):p.1<=(CF s a b p).1/\(CF s a b p).1<=p.1+(b - a:Nat)/\1<=(CF s a b p).2/\(CF s a b p).2<=p.2+8*(b - a:Nat):=by
 have:=RM _ (A3 s a b) (A3 s a b).length p (Nat.le_refl _) h
 rw [Jh U h2] at this
 unfold CF
 rw [Jh U h2]
 omega
end Go.Aw
namespace Go.Proofs.Z
open Go Go.Aw
section
variable {st:St} {R:AL->St->Prop}
theorem oQ {sp q:Nat} {U CC ends:Int} (hl:s.length<=100000000) (hsp:sp<=q) (hq:q<=s.length) (hln:1<=U/\U<=1000000000) (hcol:1<=CC/\CC<=2147483648)
 (hb:st.box b=some (Pz s p sp U CC As notes w1 w2 DX ends j))
 (h:R (.ret (.Bh [.int .i64 (CF s sp q (U,CC)).1,.int .i64 (CF s sp q (U,CC)).2]))
   (st.Ab b (Pz s p q (CF s sp q (U,CC)).1 (CF s sp q (U,CC)).2 As notes w1 w2 DX ends j))):PC 90 [.ptr b 0,.int .i64 q] st R:=by
 have hlen:=Jh hsp hq
 have h1:=RM _ (A3 s sp q) (A3 s sp q).length (1,1) (Nat.le_refl _) Do
 have h2:=Tg _ (A3 s sp q) (A3 s sp q).length 1 1 CC U (Nat.le_refl _)
 have h3:=XW _ (A3 s sp q) (A3 s sp q).length 1 CC U (Nat.le_refl _)
 have e1:U+(B1 (A3 s sp q) (A3 s sp q).length (1,1)).1 - 1=(CF s sp q (U,CC)).1:=by unfold CF;omega
 have e2:(B1 (A3 s sp q) (A3 s sp q).length (1,CC)).2=(CF s sp q (U,CC)).2:=h3
 refine uv hl hsp hq hln hcol ⟨by dsimp only at h1;omega,by dsimp only at h1;omega⟩ hb ?_
 rw [e1,e2]
 exact h
end
end Go.Proofs.Z
namespace Go.Aw
open Go
theorem XV (h:BQ l a) (k:Nat) (p:Int×Int):B1 l (a+k) p=B1 (l.drop a) k (B1 l a p):=by
 induction h generalizing p with
 |zero l=>rw [FU,Nat.zero_add,List.drop_zero]
 |@step l j U h ih=>
  rw [ER U AC,ER (k:=A2 l+j) U AC,show A2 l+j+k - A2 l=j+k by omega,show A2 l+j - A2 l=j by omega,ih,List.drop_drop]
theorem KF (h:0<m):AV (l.take m)=AV l:=by
 cases l with
 |nil=>rw [List.take_nil]
 |cons a r=>
  obtain ⟨m,rfl⟩:∃k,m=k+1:=⟨m - 1,AC⟩
  rfl
theorem Sy:AV ((l.take m).drop 1)=if 1<m then AV (l.drop 1) else -1:=by
 rw [List.drop_take]
 by_cases h:1<m
 .rw [if_pos h,KF AC]
 .rw [if_neg h,show m - 1=0 by omega,List.take_zero];rfl
theorem jb (h:0<m) (h2:HP l<=m):HP (l.take m)=HP l:=by
 rcases FY l with ⟨e,U⟩|⟨e,U,h3⟩|⟨e,U,h3⟩
 .rw [e];unfold HP;rw [KF h,if_neg (λx=>U (.inl x.1)),if_neg U]
 .rw [e];unfold HP;rw [KF h,Sy,if_neg,if_pos U]
  rintro ⟨x,y⟩
  split at y
  .exact h3 ⟨x,y⟩
  .exact absurd y Do
 .rw [e];unfold HP;rw [KF h,Sy,if_pos (show 1<m by omega),if_pos ⟨U,h3⟩]
theorem eU {k:Nat} (h:BQ l k) (hv:Vd l) (p:Int×Int):B1 (l.take k) k p=B1 l k p:=by
 induction h generalizing p with
 |zero l=>rw [FU,FU]
 |@step l j U h ih=>
  have h1:=Fz U
  have hn:HP (l.take (A2 l+j))=HP l:=jb AC (by
   by_cases hc:0<HP l
   .have e:A2 l=HP l:=if_pos hc
    omega
   .omega)
  have hr:=hv.rune U
  have es:A2 (l.take (A2 l+j))=A2 l:=by
   by_cases hc:0<HP l
   .have e3:A2 (l.take (A2 l+j))=HP (l.take (A2 l+j)):=if_pos (by rw [hn];exact hc)
    rw [e3,hn];exact (if_pos hc).symm
   .have e1:A2 l=(AU l).2:=if_neg hc
    have e2:AU (l.take (A2 l+j))=AU l:=by
     have:=Qs U hr.1 ((l.take (A2 l+j)).drop (AU l).2)
     rwa [show l.take (AU l).2=(l.take (A2 l+j)).take (AU l).2 by rw [List.take_take,Nat.min_eq_left AC],List.take_append_drop] at this
    have e3:A2 (l.take (A2 l+j))=(AU (l.take (A2 l+j))).2:=if_neg (by rw [hn];exact hc)
    rw [e3,e2];exact e1.symm
  have hne':l.take (A2 l+j)≠[]:=λe=>by
   have:=congrArg List.length e
   rw [List.length_take,List.length_nil] at this;omega
  have hv':Vd (l.drop (A2 l)):=(BQ.step U (.zero (l.drop (A2 l)))).bd.vd hv
  rw [ER hne' AC,ER U AC,es,show A2 l+j - A2 l=j by omega,List.drop_take,show A2 l+j - A2 l=j by omega,ih hv']
  congr 1
  unfold Ff Gr
  rw [hn,KF AC]
def Dt (s:List UInt8) (p:Nat):Int×Int:=B1 s p (1,1)
theorem jq (hv:Vd s) (U:BQ s a) (hb:BQ (s.drop a) (b - a)) (h:a<=b) (hl:b<=s.length):CF s a b (Dt s a)=Dt s b:=by
 have e:A3 s a b=(s.drop a).take (b - a):=by unfold A3;rw [List.drop_take]
 have hp:=Jh h hl
 unfold CF Dt
 rw [hp,e,eU hb (U.bd.vd hv),<-XV U,show a+(b - a)=b by omega]
def tr (l:List UInt8) (m:Nat) (r:List UInt8):List UInt8:=l.take m++r
def tM (r:List UInt8):Prop:=AV r= -1\/AV r=32\/AV r=10
theorem nf (h:AV r= -1):r=[]:=by
 cases r with
 |nil=>rfl
 |cons a r=>have h:((a.toNat:Nat):Int)= -1:=h;omega
theorem P3:tr l 0 r=r:=by unfold tr;rw [List.take_zero];rfl
theorem J7 {j:Nat} (h:j<=m) (U:m<=l.length):(tr l m r).drop j=tr (l.drop j) (m - j) r:=by
 unfold tr;rw [List.drop_append_of_le_length NE,List.drop_take]
theorem LY (h:0<m) (U:m<=l.length):AV (tr l m r)=AV l:=by
 cases l with
 |nil=>simp only [List.length_nil] at U;omega
 |cons a l=>
  obtain ⟨m,rfl⟩:∃k,m=k+1:=⟨m - 1,AC⟩
  rfl
theorem lh {j:Nat} (h:j<m) (U:m<=l.length):AV ((tr l m r).drop j)=AV (l.drop j):=by
 rw [J7 AC U,LY AC M2]
theorem oS (h:n<=m) (U:m<=l.length):(tr l m r).take n=l.take n:=by
 unfold tr
 rw [List.take_append_of_le_length NE,List.take_take,Nat.min_eq_left h]
theorem UH (U:m<=l.length):(tr l m r).length=m+r.length:=by
 unfold tr;rw [List.length_append,List.length_take,Nat.min_eq_left U]
theorem gp (hv:Vd l) (h0:0<m) (hm:m<=l.length) (hb:Bd l m):AU (tr l m r)=AU l/\(AU l).2<=m:=by
 have U:l≠[]:=λe=>by rw [e] at hm;simp only [List.length_nil] at hm;omega
 have hd:(AU l).2<=m:=by
  cases hb with
  |zero=>omega
  |step _ _=>omega
 have:=Qs U (hv.rune U).1 ((l.take m).drop (AU l).2++r)
 rw [<-List.append_assoc] at this
 rw [show l.take (AU l).2=(l.take m).take (AU l).2 by rw [List.take_take,Nat.min_eq_left hd],List.take_append_drop] at this
 exact ⟨this,hd⟩
theorem oI {p:Nat×Nat->Bool} (hv:Vd l) (hb:Bd l m) (hm:m<=l.length) (hr:BA p r=0) (h:BA p l<=m):BA p (tr l m r)=BA p l:=by
 induction hb with
 |zero l=>rw [P3,hr];omega
 |@step l k U hb ih=>
  have hp:=El l
  have hd:=gp (r:=r) hv AC hm (.step U hb)
  have hne':tr l ((AU l).2+k) r≠[]:=λe=>by
   have:=congrArg List.length e
   rw [UH hm] at this;simp only [List.length_nil] at this;omega
  cases hc:p (AU l) with
  |false=>rw [Fx hc,Fx (by rw [hd.1];exact hc)]
  |true=>
   rw [CL U hc] at h |-
   rw [CL hne' (by rw [hd.1];exact hc),hd.1,J7 AC hm,show (AU l).2+k - (AU l).2=k by omega,ih (hv.rune U).2 M2 AC]
theorem ma (U:tM r):r=[]\/(r≠[]/\(((AU r).1:Nat):Int)=32)\/(r≠[]/\(((AU r).1:Nat):Int)=10):=by
 rcases U with h|h|h
 .exact .inl (nf h)
 .exact .inr (.inl ⟨λe=>by rw [e] at h;exact absurd h Do,by rw [(FF AC AC).2,h]⟩)
 .exact .inr (.inr ⟨λe=>by rw [e] at h;exact absurd h Do,by rw [(FF AC AC).2,h]⟩)
theorem kS {p:Int->Bool} (hr:tM r) (U:p 32=false) (h2:p 10=false):B6 p r=0:=by
 rcases ma hr with rfl|⟨_,h⟩|⟨_,h⟩
 .exact S8 p
 .exact Rz (by rw [h];exact U)
 .exact Rz (by rw [h];exact h2)
theorem Bd.sub {i j:Nat} (h:Bd l i) (k:Bd l j) (hij:i<=j):Bd (l.drop i) (j - i):=by
 induction h generalizing j with
 |zero l=>exact k
 |@step l i hne h ih=>
  cases k with
  |zero=>have:=El l;omega
  |@step _ U _ k=>
   rw [show (AU l).2+U - ((AU l).2+i)=U - i by omega,<-List.drop_drop]
   exact ih k AC
theorem kJ (s:List UInt8) (n:Nat) (k:Int):n<=(Io s n k).2:=by
 fun_induction Io s n k with
 |case1 n k hn hc U=>omega
 |case2 n k hn hc=>exact Nat.le_refl _
 |case3 n k hn=>exact Nat.le_refl _
theorem dN (h:(BM l).1≠0):0<(BM l).2:=by
 by_cases U:0<(BM l).2
 .exact U
 .exfalso
  cases l with
  |nil=>exact h rfl
  |cons a r=>
   have hne:a::r≠[]:=GT
   have hp:=El (a::r)
   apply h
   unfold BM at U |-
   split
   .rename_i h6;rw [if_pos h6] at U;simp only at U;omega
   .rename_i h6
    rw [if_neg h6] at U
    have key:∀p:Int->Bool,p (((AU (a::r)).1:Nat):Int)=true->0<B6 p (a::r):=λp hp'=>by
     rw [eB hne hp'];omega
    split
    .rename_i h5
     rw [if_pos h5] at U
     have:=key (λc=>AQ c==5) (beq_iff_eq.2 h5)
     simp only at U;omega
    .rename_i h5
     rw [if_neg h5] at U
     split
     .rename_i h3
      rw [if_pos h3] at U
      have h3':AQ (((AU (a::r)).1:Nat):Int)=3:=h3
      have:=key IE (by unfold IE;rw [h3'];rfl)
      unfold LR at U;simp only at U;omega
     .rename_i h3
      rw [if_neg h3] at U
      split
      .rename_i h2
       rw [if_pos h2] at U
       have h2':AQ (((AU (a::r)).1:Nat):Int)=2:=h2
       have:=key IE (by unfold IE;rw [h2'];rfl)
       unfold LR at U;simp only at U;omega
      .rfl
def se (k:Int) (t:List UInt8) (p:Int×Int):List V:=[.int .i64 k,.str t,.int .i64 p.1,.int .i64 p.2]
theorem ku {st:St} {o:List (List V)} {k a b:Int} (h:B5 st0 st w1 (o.length*4) w2 n2) (hl:o.length<=1000000000)
 (kk:∀U st',B5 st0 st' U ((o.length+1)*4) w2 n2->st'.box=st.box->K (.slice 4 (o++[se k t (a,b)]) U) st'):Ag 4 40 o w1 [[.int .i64 k,.str t,.int .i64 a,.int .i64 b]] st K:=
 Lu h rfl PP (by rw [List.length_singleton];unfold Fe;omega) rfl GT (λU st' hr hb=>kk U st' hr hb)
end Go.Aw
namespace Go.Proofs.Z
open Go Go.Aw
section
variable {st:St} {R:AL->St->Prop}
attribute [local irreducible] Go.Aw.Ag
theorem oR {sp q:Nat} {k e0 CC ends:Int} (hl:s.length<=100000000) (hsp:sp<=p) (hpq:p<=q) (hq:q<=s.length) (hln:1<=ln/\ln<=800000000) (hcol:1<=CC/\CC<=1000000000)
 (hg:0<=DX/\DX<=1000000000) (ht:As.length<=1000000000) (U:st0.box b=none) (hR:B5 st0 st w1 (As.length*4) w2 n2) (hb:st.box b=some (Pz s p sp ln CC As notes w1 w2 DX ends j))
 (h:∀w1' st',B5 st0 st' w1' ((As.length+1)*4) w2 n2->st'.box b=some (Pz s q q (CF s p q (CF s sp p (ln,CC))).1 (CF s p q (CF s sp p (ln,CC))).2 (As++[se k (A3 s p q) (CF s sp p (ln,CC))]) notes w1' w2
   (if decide (¬k=15)|| !Lib.contains [123,125,59] (A3 s p q) then DX+1 else DX) (CF s p q (CF s sp p (ln,CC))).1 true)->R (.ret (.Bh [])) st'):PC 48 [.ptr b 0,.agg [.int .i64 k,.int .i64 q,.int .i64 e0]] st R:=by
 have z1:=bm (s:=s) (p:=(ln,CC)) hsp AC hcol.1
 refine Bu Ad [] Tryz.func48 rfl Do rfl ?_
 refine Ak (Al Ad ?_)
 repeat' ((conv=>whnf);first|exact Di|(refine Bl ?_;intros)|(refine Dj ?_ ?_ ?_;rotate_left)|(refine Bm ?_ ?_<;>intro _)|with_reducible refine WF ?_)
 refine Ak (Al Ad ?_)
 repeat' ((conv=>whnf);first|exact Di|(refine Bl ?_;intros)|(refine Dj ?_ ?_ ?_;rotate_left)|(refine Bm ?_ ?_<;>intro _)|refine oQ hl hsp AC AC AC hb ?_|refine Aq hb ?_|with_reducible refine WF ?_)
 generalize CF s sp p (ln,CC)=pl1 at h z1 |-
 have z2:=bm (s:=s) (p:=pl1) hpq hq z1.2.2.1
 dsimp only at z1 z2
 refine Ak (Al Ad ?_)
 repeat' ((conv=>whnf);first|exact Di|(refine Bl ?_;intros)|(refine Dj ?_ ?_ ?_;rotate_left)|(refine Bm ?_ ?_<;>intro _)|refine Ul hpq hq ?_|refine Aq (St.AY _ _ _) ?_|with_reducible refine WF ?_)
 refine Ak (Al Ad ?_)
 repeat' ((conv=>whnf);first|refine Ae [(0,true),(1,true),(2,true),(3,true),(4,true),(5,true),(6,true),(7,false),(8,true),(9,true),(10,false)] [] GE ?_|exact Di|(refine Bl ?_;intros)|(refine Dj ?_ ?_ ?_;rotate_left)|(refine Bm ?_ ?_<;>intro _)|refine Aq (St.AY _ _ _) ?_|refine ku (hR.set U _) ht (λw1' st1 hr1 hb1=>?_)|refine Aq ((congrFun hb1 b).trans (St.AY _ _ _)) ?_|with_reducible refine WF ?_)
 clear hR hb
 rcases hc:(decide (¬k=15)|| !Lib.contains [123,125,59] (A3 s p q)) with _|_
 all_goals rw [hc] at h
 .have hcc:∀{st:St} {R:AL->St->Prop},R (.ret (.bool false)) st->PC 94 [.agg [.int .i64 k,.str (A3 s p q),.int .i64 pl1.1,.int .i64 pl1.2]] st R:=λh=>U7 (by rw [hc];exact h)
  refine Ak (Al Ad ?_)
  repeat' ((conv=>whnf);first|exact Di|(refine Bl ?_;intros)|(refine Dj ?_ ?_ ?_;rotate_left)|(refine Bm ?_ ?_<;>intro _)|refine hcc ?_|refine Aq (St.AY _ _ _) ?_|with_reducible refine WF ?_)
  refine Al Ad ?_
  repeat' ((conv=>whnf);first|exact Di|(refine Bl ?_;intros)|(refine Dj ?_ ?_ ?_;rotate_left)|(refine Bm ?_ ?_<;>intro _)|refine oQ hl hpq hq AC AC (St.AY _ _ _) ?_|refine Aq (St.AY _ _ _) ?_|with_reducible refine WF ?_)
  all_goals exact fin (h w1' _ ((((hr1.set U _).set U _).set U _).set U _) (St.AY _ _ _)) rfl
 .have hcc:∀{st:St} {R:AL->St->Prop},R (.ret (.bool true)) st->PC 94 [.agg [.int .i64 k,.str (A3 s p q),.int .i64 pl1.1,.int .i64 pl1.2]] st R:=λh=>U7 (by rw [hc];exact h)
  refine Ak (Al Ad ?_)
  repeat' ((conv=>whnf);first|exact Di|(refine Bl ?_;intros)|(refine Dj ?_ ?_ ?_;rotate_left)|(refine Bm ?_ ?_<;>intro _)|refine hcc ?_|refine Aq (St.AY _ _ _) ?_|with_reducible refine WF ?_)
  refine Al Ad ?_
  repeat' ((conv=>whnf);first|exact Di|(refine Bl ?_;intros)|(refine Dj ?_ ?_ ?_;rotate_left)|(refine Bm ?_ ?_<;>intro _)|refine oQ hl hpq hq AC AC (St.AY _ _ _) ?_|refine Aq (St.AY _ _ _) ?_|with_reducible refine WF ?_)
  all_goals exact fin (h w1' _ (((((hr1.set U _).set U _).set U _).set U _).set U _) (St.AY _ _ _)) rfl
end
structure Nt where
 text:List UInt8
 DX:Int
 wh:Int
 line:Int
 CC:Int
def Nt.cells (n:Nt):List V:=[.str n.text,.int .i64 n.DX,.int .i64 n.wh,.int .i64 n.line,.int .i64 n.CC]
def Kc (l:List Nt):List (List V):=l.map Nt.cells
structure Lx where
 As:List Tk
 notes:List Nt
 DX:Int
 ends:Int
 j:Bool
def ta:Lx:=⟨[],[],0,0,false⟩
def cntF (k:Int) (t:List UInt8):Bool:=decide (¬k=15)|| !Lib.contains [123,125,59] t
def My (s:List UInt8) (p q:Nat) (k:Int) (x:Lx):Lx:=
 ⟨x.As++[⟨k,A3 s p q,(Dt s p).1,(Dt s p).2⟩],x.notes,if cntF k (A3 s p q) then x.DX+1 else x.DX,(Dt s q).1,true⟩
def Ek (s:List UInt8) (p:Nat):Nat:=p+B6 (λc=>AQ c==1) (s.drop p)
theorem JA (h:p<=s.length):p<=Ek s p/\Ek s p<=s.length:=by
 have:=Gq (λc=>AQ c==1) (s.drop p)
 rw [List.length_drop] at this
 unfold Ek;omega
def fL (s:List UInt8) (p q:Nat) (x:Lx):Bool:=x.j&&decide (x.ends=(Dt s p).1)&&decide ((Dt s q).1=(Dt s p).1)
def R2 (s:List UInt8) (p q:Nat):Bool:=decide (Ek s q<s.length)&&decide ((Dt s (Ek s q)).1=(Dt s p).1)
def SL (s:List UInt8) (p q:Nat) (x:Lx):Lx:=
 ⟨x.As,x.notes++[⟨A3 s p q,x.DX,if fL s p q x then (if R2 s p q then 1 else 2) else 3,(Dt s p).1,(Dt s p).2⟩],x.DX,(Dt s q).1,fL s p q x&&R2 s p q⟩
def H7 (s:List UInt8) (p:Nat) (x:Lx):Sum (Int×Int) Lx:=
 if hp:p<s.length then
  if (CQ s p).2≠0 then .inl ((p:Nat),(CQ s p).2)
  else if 0<(CQ s p).1 then
   (if U:p<(CQ s p).1.toNat then H7 s (Ek s (CQ s p).1.toNat) (SL s p (CQ s p).1.toNat x) else .inr x)
  else if (C3 s p).2.2≠0 then .inl ((C3 s p).2.1,(C3 s p).2.2)
  else (if U:p<(C3 s p).2.1.toNat then H7 s (Ek s (C3 s p).2.1.toNat) (My s p (C3 s p).2.1.toNat (C3 s p).1 x) else .inr x)
 else .inr x
termination_by s.length - p
decreasing_by
 all_goals unfold Ek;omega
def G3 (s:List UInt8):Sum (Int×Int) Lx:=
 if 16777216<s.length then .inl (0,3)
 else if (NR s).2≠0 then .inl (NR s)
 else if 0<=YK (λc=>AQ (c:Nat)==0) s then .inl (YK (λc=>AQ (c:Nat)==0) s,70)
 else H7 s (Ek s 0) ta
theorem gh (h:(NR s).2=0):Vd s:=by
 unfold NR at h
 split at h
 .exact absurd h (show ¬(10:Int)=0 by decide)
 .have:=NA DK s
  unfold Vd;omega
def mM:List UInt8:=[102,32,120,32,124,32,103,32,61,32,40,100,111,32,97,59,32,98,41,10,32,32,32,32,124,32,104,32,61,32,120,32,119,104,101,114,101,32,123,32,99,32,61,32,45,49,32,125,10,105,110,102,105,120,108,32,54,32,43,44,32,96,102,96]
def db:List Tk:=match G3 mM with| .inr x=>x.As| .inl _=>[]
def gV:Af:=⟨Gx db,0,[],0⟩
theorem mN:(match G3 mM with| .inr _=>true| .inl _=>false)=true:=EQ
def p7 (l:List Tk):Bool:=l.all λt=>decide (t.text.length<=100000000)&&(decide (-1000000000<=t.line)&&decide (t.line<=1000000000))
theorem mL:(p7 db&&decide (db.length<=1000))=true:=EQ
theorem mK:decide ((Gx db).length<=100)=true:=EQ
def RX:List Tk:=[⟨15,[40],0,0⟩,⟨1,[97],0,0⟩,⟨5,[43],0,0⟩,⟨15,[41],0,0⟩]
theorem sP:(match (CX Hb (Kw (D6 5) (Kl 4))).run gV with
 | .inr (n,s')=>(n.kind==2&&n.form==0)&&(s'.pos==(s'.As.length:Nat)&&n.kids.map Nd.kind==[36,35])
 | .inl _=>false)=true:=EQ
theorem sQ:(match (LH (D6 2) (Kl 1)).run ⟨RX,0,[],0⟩ with
 | .inr (n,s')=>n.kind==9
 | .inl _=>false)=true:=EQ
end Go.Proofs.Z
namespace Go.Aw
open Go
theorem BQ.le {k:Nat} (h:BQ l k):k<=l.length:=by
 induction h with
 |zero l=>exact Nat.zero_le _
 |step U h ih=>have:=Fz U;rw [List.length_drop] at ih;omega
theorem BQ.blank (hv:Vd l):BQ l (B6 (λc=>AQ c==1) l):=by
 refine Bd.cut (Bd.span _ l) ?_
 rintro ⟨h0,_,U⟩
 have U:AV (l.drop (B6 (λc=>AQ c==1) l))=10:=U
 have hlt:=Cf (l:=l) (k:=B6 (λc=>AQ c==1) l) AC
 have:=RA (λc=>AQ c==1) l hlt
 rw [(FF AC AC).2,U] at this
 exact absurd this Do
theorem jd (e:(CQ s p).2=0) (U:0<(CQ s p).1):∃n:Nat,0<n/\D7 (s.drop p)=(n:Nat)/\(CQ s p).1=(p+n:Nat):=by
 unfold CQ at e U |-
 split
 .rename_i h;rw [if_pos h] at e;exact absurd e Do
 .rename_i h
  rw [if_neg h] at e U
  split
  .rename_i h1;rw [if_pos h1] at U;exact absurd U Do
  .rename_i h1
   exact ⟨(D7 (s.drop p)).toNat,AC,AC,UV⟩
theorem V4 (hv:Vd s) (h:BQ s p) (e:(CQ s p).2=0) (U:0<(CQ s p).1):∃q,(CQ s p).1=(q:Nat)/\p<q/\q<=s.length/\BQ s q:=by
 obtain ⟨n,h1,h2,h3⟩:=jd e U
 have hc:=BQ.add h (BQ.note (h.bd.vd hv) h2)
 exact ⟨p+n,h3,AC,hc.le,hc⟩
theorem nS (h:(Ep l).1≠0):0<(Ep l).2:=by
 unfold Ep at h |-
 split
 .dsimp only;omega
 .rename_i U
  rw [if_neg U] at h
  split
  .rename_i h2;rw [if_pos h2] at h;exact absurd rfl h
  .dsimp only;omega
theorem lv (h:(Hi l).1≠0):0<(Hi l).2:=by
 have hge:=kJ l (BM l).2 (BM l).1
 by_cases U:(BM l).1=0
 .unfold Hi at h
  rw [Xt (λx=>by rw [U] at x;rcases x.2.1 with y|y<;>exact absurd y Do)] at h
  exact absurd U h
 .have:=dN U
  unfold Hi;omega
theorem VH (hv:Vd s) (h:BQ s p) (e:(C3 s p).2.2=0):(C3 s p).1≠0/\∃q,(C3 s p).2.1=(q:Nat)/\p<q/\q<=s.length/\BQ s q:=by
 have hv':=h.bd.vd hv
 unfold C3 at e |-
 split
 .rename_i U
  refine ⟨U,p+(Ep (s.drop p)).2,?_⟩
  have hn:(Ep (s.drop p)).1≠0:=λx=>by
   unfold Hq at U;rw [if_pos x] at U;exact U rfl
  have hc:=BQ.add h (BQ.num (s.drop p))
  have:=nS hn
  refine ⟨?_,AC,hc.le,hc⟩
  unfold Hq;rw [if_neg hn]
 .rename_i U
  rw [if_neg U] at e
  split
  .rename_i h2
   rw [if_pos h2] at e
   split
   .rename_i h3;rw [if_pos h3] at e;exact absurd e (by decide:¬(70:Int)=0)
   .rename_i h3
    refine ⟨h3,p+(Hi (s.drop p)).2,?_⟩
    have hn:(Hi (s.drop p)).1≠0:=λx=>by
     unfold H4 at h3;rw [if_pos x] at h3;exact h3 rfl
    have hc:=BQ.add h (BQ.word (s.drop p))
    have:=lv hn
    refine ⟨?_,AC,hc.le,hc⟩
    unfold H4;rw [if_neg hn]
  .rename_i h2
   rw [if_neg h2] at e
   have hk:(CR s p).1≠0:=λx=>h2 ⟨x,e⟩
   obtain ⟨n,e1,e2,e3⟩:=BQ.quote hv' hk
   have hc:=BQ.add h e3
   exact ⟨hk,p+n,e1,AC,hc.le,hc⟩
theorem BQ.l5 (U:Vd s) (h:BQ s p):BQ s (Go.Proofs.Z.Ek s p):=BQ.add h (BQ.blank (h.bd.vd U))
def dz (a b:Int×Int):Prop:=a.1<b.1\/(a.1=b.1/\a.2<b.2)
theorem dz.trans {a b c:Int×Int} (h:dz a b) (k:dz b c):dz a c:=by unfold dz at *;omega
theorem oJ {p:Int×Int} (h:1<=p.2):dz p (Ff l p.1,Gr l p.2):=by
 unfold dz Ff Gr XJ
 by_cases U:0<HP l
 .rw [if_pos U];left;dsimp only;omega
 .rw [if_neg U,if_neg U]
  right
  refine ⟨rfl,?_⟩
  dsimp only
  split<;>omega
theorem oX {k:Nat} (h:BQ l k) (p:Int×Int) (hp:1<=p.2):(k=0/\B1 l k p=p)\/(0<k/\dz p (B1 l k p)):=by
 induction h generalizing p with
 |zero l=>exact .inl ⟨rfl,FU⟩
 |@step l j U h ih=>
  have h1:=Fz U
  have h2:=oJ (l:=l) hp
  refine .inr ⟨AC,?_⟩
  rw [ER U AC,show A2 l+j - A2 l=j by omega]
  rcases ih (Ff l p.1,Gr l p.2) (PZ l hp).1 with ⟨_,e⟩|⟨_,e⟩
  .rw [e];exact h2
  .exact h2.trans e
theorem BQ.sub {i j:Nat} (h:BQ l i) (k:BQ l j) (hij:i<=j):BQ (l.drop i) (j - i):=by
 induction h generalizing j with
 |zero l=>exact k
 |@step l i U h ih=>
  cases k with
  |zero=>have:=Fz U;omega
  |@step _ j' _ k=>
   rw [show A2 l+j' - (A2 l+i)=j' - i by omega,<-List.drop_drop]
   exact ih k AC
theorem NK:1<=(Dt s p).1/\(Dt s p).1<=1+s.length/\1<=(Dt s p).2/\(Dt s p).2<=1+8*s.length:=by
 have:=RM _ s p (1,1) (Nat.le_refl _) Do
 unfold Dt
 omega
theorem fA {q:Nat} (h:BQ s p) (k:BQ s q) (U:p<q):dz (Dt s p) (Dt s q):=by
 have c:=h.sub k AC
 have e:Dt s q=B1 (s.drop p) (q - p) (Dt s p):=by
  unfold Dt
  rw [<-XV h,show p+(q - p)=q by omega]
 rw [e]
 rcases oX c (Dt s p) NK.2.2.1 with ⟨x,_⟩|⟨_,x⟩
 .omega
 .exact x
theorem N8 (hv:Vd s) (U:BQ s a) (hb:BQ s b) (h:a<=b):CF s a b (Dt s a)=Dt s b:=jq hv U (U.sub hb h) h hb.le
def uH (t:List UInt8) (DX wh:Int) (p:Int×Int):List V:=[.str t,.int .i64 DX,.int .i64 wh,.int .i64 p.1,.int .i64 p.2]
theorem Of {st:St} {n1:Nat} {o:List (List V)} {g k a b:Int} (h:B5 st0 st w1 n1 w2 (o.length*5)) (hl:o.length<=1000000000)
 (kk:∀U st',B5 st0 st' w1 n1 U ((o.length+1)*5)->st'.box=st.box->K (.slice 5 (o++[uH t g k (a,b)]) U) st'):Ag 5 48 o w2 [[.str t,.int .i64 g,.int .i64 k,.int .i64 a,.int .i64 b]] st K:=
 Lu h.swap rfl PP (by rw [List.length_singleton];unfold Fe;omega) rfl GT (λw1' st' hr hb=>kk w1' st' hr.swap hb)
end Go.Aw
namespace Go.Proofs.Z
open Go Go.Aw
section
variable {st:St} {R:AL->St->Prop}
attribute [local irreducible] Go.Aw.Ag
theorem cd {sp q:Nat} {ends:Int} (hl:s.length<=100000000) (hv:Vd s) (c1:BQ s sp) (c2:BQ s q) (U:sp<=q)
 (hb:st.box b=some (Pz s p sp (Dt s sp).1 (Dt s sp).2 As notes w1 w2 DX ends j))
 (h:R (.ret (.Bh [.int .i64 (Dt s q).1,.int .i64 (Dt s q).2])) (st.Ab b (Pz s p q (Dt s q).1 (Dt s q).2 As notes w1 w2 DX ends j))):PC 90 [.ptr b 0,.int .i64 q] st R:=by
 have e:CF s sp q ((Dt s sp).1,(Dt s sp).2)=Dt s q:=N8 hv c1 c2 U
 have hc:=NK (s:=s) (p:=sp)
 refine oQ hl U c2.le AC AC hb ?_
 rw [e];exact h
theorem lg {sp q:Nat} {k e0 ends:Int} (hl:s.length<=50000000) (hv:Vd s) (c1:BQ s sp) (c2:BQ s p) (c3:BQ s q) (hsp:sp<=p) (hpq:p<=q)
 (hg:0<=DX/\DX<=1000000000) (ht:As.length<=1000000000) (hb0:st0.box b=none) (hR:B5 st0 st w1 (As.length*4) w2 n2) (hb:st.box b=some (Pz s p sp (Dt s sp).1 (Dt s sp).2 As notes w1 w2 DX ends j))
 (h:∀U st',B5 st0 st' U ((As.length+1)*4) w2 n2->st'.box b=some (Pz s q q (Dt s q).1 (Dt s q).2 (As++[se k (A3 s p q) (Dt s p)]) notes U w2
   (if cntF k (A3 s p q) then DX+1 else DX) (Dt s q).1 true)->R (.ret (.Bh [])) st'):PC 48 [.ptr b 0,.agg [.int .i64 k,.int .i64 q,.int .i64 e0]] st R:=by
 have e1:CF s sp p ((Dt s sp).1,(Dt s sp).2)=Dt s p:=N8 hv c1 c2 hsp
 have e2:CF s p q (Dt s p)=Dt s q:=N8 hv c2 c3 hpq
 have hc:=NK (s:=s) (p:=sp)
 refine oR AC hsp hpq c3.le AC AC hg ht hb0 hR hb (λU st' hr hb'=>h U st' hr ?_)
 rw [e1,e2] at hb';exact hb'
theorem rk {sp q n1:Nat} {ends:Int} (hl:s.length<=50000000) (hv:Vd s) (c1:BQ s sp) (c2:BQ s p) (c3:BQ s q) (hsp:sp<=p) (hpq:p<=q)
 (hg:0<=DX/\DX<=1000000000) (ht:notes.length<=1000000000) (U:st0.box b=none) (hR:B5 st0 st w1 n1 w2 (notes.length*5)) (hb:st.box b=some (Pz s p sp (Dt s sp).1 (Dt s sp).2 As notes w1 w2 DX ends j))
 (h:∀w2' st' sp',BQ s sp'->sp'<=Ek s q->B5 st0 st' w1 n1 w2' ((notes.length+1)*5)->
   st'.box b=some (Pz s (Ek s q) sp' (Dt s sp').1 (Dt s sp').2 As (notes++[uH (A3 s p q) DX (if j&&decide (ends=(Dt s p).1)&&decide ((Dt s q).1=(Dt s p).1) then (if R2 s p q then 1 else 2) else 3) (Dt s p)]) w1 w2' DX (Dt s q).1
    (j&&decide (ends=(Dt s p).1)&&decide ((Dt s q).1=(Dt s p).1)&&R2 s p q))->R (.ret (.Bh [])) st'):PC 46 [.ptr b 0,.int .i64 q] st R:=by
 have c4:=c3.l5 hv
 have hq:=c3.le
 have hr:=JA hq
 have z1:=NK (s:=s) (p:=p)
 have z2:=NK (s:=s) (p:=q)
 have z3:=NK (s:=s) (p:=Ek s q)
 refine Bu Ad [] Tryz.func46 rfl Do rfl ?_
 refine Ak (Al Ad ?_)
 repeat' ((conv=>whnf);first|exact Di|(refine Bl ?_;intros)|(refine Dj ?_ ?_ ?_;rotate_left)|(refine Bm ?_ ?_<;>intro _)|refine cd AC hv c1 c2 hsp hb ?_|refine Aq hb ?_|with_reducible refine WF ?_)
 refine Ak (Al Ad ?_)
 repeat' ((conv=>whnf);first|exact Di|(refine Bl ?_;intros)|(refine Dj ?_ ?_ ?_;rotate_left)|(refine Bm ?_ ?_<;>intro _)|refine Ul hpq hq ?_|refine Aq (St.AY _ _ _) ?_|with_reducible refine WF ?_)
 refine Ak (Al Ad ?_)
 repeat' ((conv=>whnf);first|exact Di|(refine Bl ?_;intros)|(refine Dj ?_ ?_ ?_;rotate_left)|(refine Bm ?_ ?_<;>intro _)|refine cd AC hv c2 c3 hpq (St.AY _ _ _) ?_|refine Aq (St.AY _ _ _) ?_|with_reducible refine WF ?_)
 have hbl:∀{st:St} {R:AL->St->Prop} {sp:Nat} {DX ends:Int} {j:Bool} {notes:List (List V)} {w2:AF},st.box b=some (Pz s q sp (Dt s sp).1 (Dt s sp).2 As notes w1 w2 DX ends j)->
  R (.ret (.Bh [])) (st.Ab b (Pz s (Ek s q) sp (Dt s sp).1 (Dt s sp).2 As notes w1 w2 DX ends j))->PC 44 [.ptr b 0] st R:=λhb h=>MM AC hq hb h
 have hcase:(j=false\/(j=true/\¬ends=(Dt s p).1)\/(j=true/\ends=(Dt s p).1/\¬(Dt s q).1=(Dt s p).1))\/(j=true/\ends=(Dt s p).1/\(Dt s q).1=(Dt s p).1):=by
  cases j
  .exact .inl (.inl rfl)
  .by_cases e1:ends=(Dt s p).1
   .by_cases e2:(Dt s q).1=(Dt s p).1
    .exact .inr ⟨rfl,e1,e2⟩
    .exact .inl (.inr (.inr ⟨rfl,e1,e2⟩))
   .exact .inl (.inr (.inl ⟨rfl,e1⟩))
 rcases hcase with hc|⟨rfl,he1,he2⟩
 .have e:(j&&decide (ends=(Dt s p).1)&&decide ((Dt s q).1=(Dt s p).1))=false:=by
   rcases hc with rfl|⟨rfl,e1⟩|⟨rfl,e1,e2⟩<;>simp [*]
  rw [e] at h
  rcases hc with rfl|⟨rfl,e1⟩|⟨rfl,e1,e2⟩
  all_goals refine Ak (Al Ad ?_)
  repeat' ((conv=>whnf);first|exact Di|(refine Bl ?_;intros)|(refine Dj ?_ ?_ ?_;rotate_left)|(refine Bm ?_ ?_<;>intro _)|refine Aq (St.AY _ _ _) ?_|with_reducible refine WF ?_)
  all_goals refine Ak (Al Ad ?_)
  repeat' ((conv=>whnf);first|exact Di|(refine Bl ?_;intros)|(refine Dj ?_ ?_ ?_;rotate_left)|(refine Bm ?_ ?_<;>intro _)|refine Aq (St.AY _ _ _) ?_|with_reducible refine WF ?_)
  all_goals refine Ak (Al Ad ?_)
  repeat' ((conv=>whnf);first|exact Di|(refine Bl ?_;intros)|(refine Dj ?_ ?_ ?_;rotate_left)|(refine Bm ?_ ?_<;>intro _)|refine hbl (St.AY _ _ _) ?_|with_reducible refine WF ?_)
  all_goals refine Ak (Al Ad ?_)
  repeat' ((conv=>whnf);first|exact Di|(refine Bl ?_;intros)|(refine Dj ?_ ?_ ?_;rotate_left)|(refine Bm ?_ ?_<;>intro _)|refine Aq (St.AY _ _ _) ?_|with_reducible refine WF ?_)
  all_goals refine Ak (Al Ad ?_)
  repeat' ((conv=>whnf);first|exact Di|(refine Bl ?_;intros)|(refine Dj ?_ ?_ ?_;rotate_left)|(refine Bm ?_ ?_<;>intro _)|with_reducible refine WF ?_)
  all_goals refine Al Ad ?_
  repeat' ((conv=>whnf);first|refine Ae [(0,true),(1,true),(2,true),(3,true),(4,true),(5,true),(6,true),(7,false),(8,true),(9,true),(10,false)] [] GE ?_|exact Di|(refine Bl ?_;intros)|(refine Dj ?_ ?_ ?_;rotate_left)|(refine Bm ?_ ?_<;>intro _)|refine Aq (St.AY _ _ _) ?_|refine Of (((((hR.set U _).set U _).set U _).set U _).set U _) ht (λw1' st1 hr1 hb1=>?_)|refine Aq ((congrFun hb1 b).trans (St.AY _ _ _)) ?_|with_reducible refine WF ?_)
  all_goals exact fin (h w1' _ q c3 hr.1 (hr1.set U _) (St.AY _ _ _)) rfl
 .have e:(true&&decide (ends=(Dt s p).1)&&decide ((Dt s q).1=(Dt s p).1))=true:=by simp [*]
  rw [e] at h
  refine Ak (Al Ad ?_)
  repeat' ((conv=>whnf);first|exact Di|(refine Bl ?_;intros)|(refine Dj ?_ ?_ ?_;rotate_left)|(refine Bm ?_ ?_<;>intro _)|refine Aq (St.AY _ _ _) ?_|with_reducible refine WF ?_)
  refine Ak (Al Ad ?_)
  repeat' ((conv=>whnf);first|exact Di|(refine Bl ?_;intros)|(refine Dj ?_ ?_ ?_;rotate_left)|(refine Bm ?_ ?_<;>intro _)|refine Aq (St.AY _ _ _) ?_|with_reducible refine WF ?_)
  refine Ak (Al Ad ?_)
  repeat' ((conv=>whnf);first|exact Di|(refine Bl ?_;intros)|(refine Dj ?_ ?_ ?_;rotate_left)|(refine Bm ?_ ?_<;>intro _)|refine hbl (St.AY _ _ _) ?_|with_reducible refine WF ?_)
  refine Ak (Al Ad ?_)
  repeat' ((conv=>whnf);first|exact Di|(refine Bl ?_;intros)|(refine Dj ?_ ?_ ?_;rotate_left)|(refine Bm ?_ ?_<;>intro _)|refine Aq (St.AY _ _ _) ?_|with_reducible refine WF ?_)
  rcases hin:R2 s p q with _|_
  all_goals rw [hin] at h
  .have hno:¬Ek s q<s.length\/(Ek s q<s.length/\¬(Dt s (Ek s q)).1=(Dt s p).1):=by
    by_cases h1:Ek s q<s.length
    .exact .inr ⟨h1,λx=>by unfold R2 at hin;simp [h1,x] at hin⟩
    .exact .inl h1
   rcases hno with hno|⟨hy,hno⟩
   all_goals refine Ak (Al Ad ?_)
   repeat' ((conv=>whnf);first|exact Di|(refine Bl ?_;intros)|(refine Dj ?_ ?_ ?_;rotate_left)|(refine Bm ?_ ?_<;>intro _)|refine cd AC hv c3 c4 hr.1 (St.AY _ _ _) ?_|refine Aq (St.AY _ _ _) ?_|refine WJ (λ_=>?_)|with_reducible refine WF ?_)
   all_goals refine Al Ad ?_
   repeat' ((conv=>whnf);first|refine Ae [(0,true),(1,true),(2,true),(3,true),(4,true),(5,true),(6,true),(7,false),(8,true),(9,true),(10,false)] [] GE ?_|exact Di|(refine Bl ?_;intros)|(refine Dj ?_ ?_ ?_;rotate_left)|(refine Bm ?_ ?_<;>intro _)|refine Aq (St.AY _ _ _) ?_|refine Of ((((((hR.set U _).set U _).set U _).set U _).set U _).set U _) ht (λw1' st1 hr1 hb1=>?_)|refine Aq ((congrFun hb1 b).trans (St.AY _ _ _)) ?_|with_reducible refine WF ?_)
   all_goals exact fin (h w1' _ (Ek s q) c4 (Nat.le_refl _) (hr1.set U _) (St.AY _ _ _)) rfl
  .have hy:Ek s q<s.length/\(Dt s (Ek s q)).1=(Dt s p).1:=by unfold R2 at hin;simpa using hin
   obtain ⟨hy1,hy2⟩:=hy
   refine Ak (Al Ad ?_)
   repeat' ((conv=>whnf);first|exact Di|(refine Bl ?_;intros)|(refine Dj ?_ ?_ ?_;rotate_left)|(refine Bm ?_ ?_<;>intro _)|refine cd AC hv c3 c4 hr.1 (St.AY _ _ _) ?_|refine Aq (St.AY _ _ _) ?_|refine WJ (λ_=>?_)|with_reducible refine WF ?_)
   refine Al Ad ?_
   repeat' ((conv=>whnf);first|refine Ae [(0,true),(1,true),(2,true),(3,true),(4,true),(5,true),(6,true),(7,false),(8,true),(9,true),(10,false)] [] GE ?_|exact Di|(refine Bl ?_;intros)|(refine Dj ?_ ?_ ?_;rotate_left)|(refine Bm ?_ ?_<;>intro _)|refine Aq (St.AY _ _ _) ?_|refine Of (((((((hR.set U _).set U _).set U _).set U _).set U _).set U _).set U _) ht (λw1' st1 hr1 hb1=>?_)|refine Aq ((congrFun hb1 b).trans (St.AY _ _ _)) ?_|with_reducible refine WF ?_)
   all_goals exact fin (h w1' _ (Ek s q) c4 (Nat.le_refl _) (hr1.set U _) (St.AY _ _ _)) rfl
end
end Go.Proofs.Z
namespace Go.Aw
open Go
theorem Bd.word {w:List UInt8} (h:∀b ∈ w,b.toNat<128):Bd (w++t) w.length:=by
 induction w with
 |nil=>exact .zero _
 |cons a w U=>
  have e:(AU (a::(w++t))).2=1:=by rw [Ea (h a List.mem_cons_self)]
  have:=Bd.step (l:=a::(w++t)) (k:=w.length) GT (by rw [e];exact U (λb hb=>h b (List.mem_cons_of_mem _ hb)))
  rw [e,Nat.add_comm] at this
  exact this
theorem Y8 (l:List UInt8):0<HP l↔(AV l=13\/AV l=10\/AV l=12):=by
 rcases FY l with ⟨e,h⟩|⟨e,h,_⟩|⟨e,h,_⟩
 .rw [e];exact ⟨λx=>absurd x Do,λx=>absurd x h⟩
 .rw [e];exact ⟨λ_=>h,λ_=>by decide⟩
 .rw [e];exact ⟨λ_=>.inl h,λ_=>by decide⟩
theorem nN {d:Nat} (hm:m<=l.length) (h:Cr d l=some n) (hn:n<=m):Cr d (tr l m r)=some n:=by
 fun_induction Cr d l generalizing m n with
 |case1=>cases h
 |case2 d a l hc ih=>
  obtain ⟨k,hk,rfl⟩:=Option.map_eq_some_iff.1 h
  have h2:=HN _ _ _ hk
  obtain ⟨m,rfl⟩:∃j,m=j+1:=⟨m - 1,AC⟩
  have U:m<=l.length:=by simpa using hm
  show Cr d (a::tr l m r)=_
  rw [Cr,if_pos ⟨hc.1,by rw [LY AC U];exact hc.2⟩,J7 AC U,ih M2 hk AC]
  rfl
 |case3 d a l hc hk hd=>
  injection h with h
  subst h
  obtain ⟨m,rfl⟩:∃j,m=j+1:=⟨m - 1,AC⟩
  have U:m<=l.length:=by simpa using hm
  show Cr d (a::tr l m r)=_
  rw [Cr,if_neg (by rw [LY AC U];exact hc),if_pos ⟨hk.1,by rw [LY AC U];exact hk.2⟩,if_pos hd]
 |case4 d a l hc hk hd ih=>
  obtain ⟨k,hk',rfl⟩:=Option.map_eq_some_iff.1 h
  have h2:=HN _ _ _ hk'
  obtain ⟨m,rfl⟩:∃j,m=j+1:=⟨m - 1,AC⟩
  have U:m<=l.length:=by simpa using hm
  show Cr d (a::tr l m r)=_
  rw [Cr,if_neg (by rw [LY AC U];exact hc),if_pos ⟨hk.1,by rw [LY AC U];exact hk.2⟩,if_neg hd,J7 AC U,ih M2 hk' AC]
  rfl
 |case5 d a l hc hk ih=>
  obtain ⟨k,hk',rfl⟩:=Option.map_eq_some_iff.1 h
  have h2:=HN _ _ _ hk'
  obtain ⟨m,rfl⟩:∃j,m=j+1:=⟨m - 1,AC⟩
  have U:m<=l.length:=by simpa using hm
  show Cr d (a::tr l m r)=_
  rw [Cr,if_neg (by rw [LY AC U];exact hc),if_neg (by rw [LY AC U];exact hk),ih U hk' AC]
  rfl
def qe (r:List UInt8):Prop:=AV r= -1\/AV r=10
theorem qe.uR (h:qe r):tM r:=by unfold qe at h;unfold tM;omega
theorem qy (hr:qe r) (U:m<=l.length) (h:DU l<=m):DU (tr l m r)=DU l:=by
 have e0:DU r=0:=by
  cases r with
  |nil=>rfl
  |cons a r=>
   unfold qe at hr
   have:((a.toNat:Nat):Int)=AV (a::r):=rfl
   rw [DU,if_pos ((Y8 _).2 AC)]
 induction l generalizing m with
 |nil=>
  have:m=0:=by simpa using U
  subst this
  rw [P3,e0];rfl
 |cons a l ih=>
  cases m with
  |zero=>rw [P3,e0];omega
  |succ m=>
   have hl:m<=l.length:=by simpa using U
   show DU (a::tr l m r)=_
   have hp:0<HP (a::tr l m r)↔0<HP (a::l):=by rw [Y8,Y8];exact Iff.rfl
   unfold DU at h |-
   by_cases hc:0<HP (a::l)
   .rw [if_pos hc,if_pos (hp.2 hc)]
   .rw [if_neg hc] at h
    rw [if_neg hc,if_neg (λx=>hc (hp.1 x)),ih hl AC]
theorem ej (hr:qe r) (hv:Vd l) (hb:Bd l m) (U:m<=l.length) (h:0<Fh l) (hn:Fh l<=m):Fh (tr l m r)=Fh l:=by
 unfold Fh at h hn |-
 dsimp only at h hn |-
 split at h
 .rename_i hc
  rw [if_pos hc] at hn |-
  have e:B6 (λc=>AQ c==5) (tr l m r)=B6 (λc=>AQ c==5) l:=oI hv hb U (kS (p:=λc=>AQ c==5) hr.uR Do Do) (show BA _ l<=m by show B6 (λc=>AQ c==5) l<=m;omega)
  rw [e,oS AC U,if_pos hc,J7 AC U,qy hr M2 AC]
 .omega
theorem nR (hr:qe r) (hv:Vd l) (hb:Bd l m) (U:m<=l.length) (h0:0<n) (h:D7 l=n) (hn:n<=m):D7 (tr l m r)=n:=by
 unfold D7 at h |-
 split at h
 .rename_i hc
  cases ht:Cr 1 (l.drop 2) with
  |none=>rw [ht] at h;simp only [Fb] at h;omega
  |some k=>
   rw [ht] at h
   simp only [Fb] at h
   have h2:=HN _ _ _ ht
   rw [LY AC U,lh AC U,if_pos hc,J7 AC U,nN M2 ht AC]
   simp only [Fb];omega
 .rename_i hc
  split at h
  .rename_i hd
   have h:Fh l=n:=AC
   rw [LY AC U,if_neg,if_pos hd,ej hr hv hb U AC AC,h]
   rintro ⟨x,_⟩;omega
  .omega
theorem dH (U:Vd l) (h0:0<n) (h:D7 l=n):D7 (l.take n)=(l.take n).length/\(l.take n).length=n:=by
 have hle:=V3 l
 have hc:=BQ.note U h
 have e:=nR (r:=[]) (.inl rfl) U hc.bd AC h0 h (Nat.le_refl _)
 unfold tr at e
 rw [List.append_nil] at e
 have hl:(l.take n).length=n:=NE
 rw [hl];exact ⟨e,rfl⟩
end Go.Aw
namespace Go.Proofs.Z
open Go Go.Aw
def uo (t:Tk):Int×Int:=(t.line,t.CC)
def uh (n:Nt):Int×Int:=(n.line,n.CC)
def pg (t:List UInt8):Prop:=t≠[]/\D7 t=(t.length:Nat)
structure O5 (s:List UInt8) (p:Nat) (x:Lx):Prop where
 t:x.As.Pairwise λa b=>dz (uo a) (uo b)
 tp:∀a ∈ x.As,dz (uo a) (Dt s p)
 n:x.notes.Pairwise λa b=>dz (uh a) (uh b)/\a.DX<=b.DX
 np:∀a ∈ x.notes,dz (uh a) (Dt s p)/\0<=a.DX/\a.DX<=x.DX/\(a.wh=1\/a.wh=2\/a.wh=3)/\pg a.text
 g:0<=x.DX/\x.DX<=x.As.length
theorem jo:A3 s a b=(s.drop a).take (b - a):=by unfold A3;rw [List.drop_take]
theorem O5.le {q:Nat} {x:Lx} (h:O5 s p x) (hp:BQ s p) (hq:BQ s q) (hpq:p<q):O5 s q x:=
 have l:=fA hp hq hpq
 ⟨h.t,λa U=>(h.tp a U).trans l,h.n,λa U=>⟨(h.np a U).1.trans l,(h.np a U).2⟩,h.g⟩
theorem O5.tok {q:Nat} {k:Int} {x:Lx} (h:O5 s p x) (hp:BQ s p) (hq:BQ s q) (hpq:p<q):O5 s q (My s p q k x):=by
 have h':=h.le hp hq hpq
 have hg:=h.g
 have hgg:x.DX<=(My s p q k x).DX/\(My s p q k x).DX<=x.DX+1:=by
  show x.DX<=(if cntF k (A3 s p q) then x.DX+1 else x.DX)/\(if cntF k (A3 s p q) then x.DX+1 else x.DX)<=x.DX+1
  split<;>omega
 refine ⟨?_,?_,h.n,λa U=>?_,?_⟩
 .refine List.pairwise_append.2 ⟨h.t,List.pairwise_singleton _ _,λa U b hb=>?_⟩
  rw [List.mem_singleton] at hb;subst hb
  exact h.tp a U
 .intro a U
  rcases List.mem_append.1 U with U|U
  .exact h'.tp a U
  .rw [List.mem_singleton] at U;subst U
   exact fA hp hq hpq
 .have:=h'.np a U
  exact ⟨this.1,this.2.1,AC,this.2.2.2⟩
 .have:(My s p q k x).As.length=x.As.length+1:=by simp [My]
  omega
theorem O5.note {q:Nat} {x:Lx} (hv:Vd s) (h:O5 s p x) (hp:BQ s p) (hq:BQ s q) (hpq:p<q) (hn:D7 (s.drop p)=(q - p:Nat)):O5 s q (SL s p q x):=by
 have h':=h.le hp hq hpq
 have hg:=h.g
 refine ⟨h.t,h'.tp,?_,?_,h.g⟩
 .refine List.pairwise_append.2 ⟨h.n,List.pairwise_singleton _ _,λa U b hb=>?_⟩
  rw [List.mem_singleton] at hb;subst hb
  exact ⟨(h.np a U).1,(h.np a U).2.2.1⟩
 .intro a U
  rcases List.mem_append.1 U with U|U
  .exact h'.np a U
  .rw [List.mem_singleton] at U;subst U
   refine ⟨fA hp hq hpq,hg.1,Int.le_refl _,?_,?_⟩
   .show (if fL s p q x then (if R2 s p q then (1:Int) else 2) else 3)=1\/(if fL s p q x then (if R2 s p q then (1:Int) else 2) else 3)=2\/(if fL s p q x then (if R2 s p q then (1:Int) else 2) else 3)=3
    split
    .split
     .exact .inl rfl
     .exact .inr (.inl rfl)
    .exact .inr (.inr rfl)
   .show pg (A3 s p q)
    rw [jo]
    have e:=dH (hp.bd.vd hv) AC hn
    refine ⟨λe0=>?_,e.1⟩
    rw [e0] at e
    have:=e.2
    simp only [List.length_nil] at this;omega
theorem O5.l5 {s:List UInt8} {p:Nat} {x:Lx} (hv:Vd s) (h:O5 s p x) (U:BQ s p):O5 s (Ek s p) x:=by
 by_cases e:p=Ek s p
 .rw [<-e];exact h
 .exact h.le U (U.l5 hv) (by have:=(JA U.le).1;omega)
end Go.Proofs.Z
namespace Go.Aw
open Go
def qm (l:List UInt8):Nat:=B6 (λc=>AQ c==1) l
def tR (l:List UInt8):List UInt8:=l.drop (qm l)
def Cl (l:List UInt8):Prop:=BA (λd=> !(AQ (d.1:Nat)==0)) l=l.length
theorem Yd {p:Nat×Nat->Bool} {k:Nat} (hv:Vd l) (hb:Bd l k) (hk:k<=l.length) (h:BA p l=l.length):BA p (l.take k)=(l.take k).length/\BA p (l.drop k)=(l.drop k).length:=by
 have e:l.take k=tr l k []:=by unfold tr;rw [List.append_nil]
 rw [e]
 induction hb with
 |zero l=>exact ⟨by rw [P3,E6];rfl,h⟩
 |@step l k U hb ih=>
  have hd:=gp (r:=[]) hv (by have:=El l;omega) hk (.step U hb)
  have hl:=GQ U
  have hp:=El l
  have hc:p (AU l)=true:=by
   cases hc:p (AU l) with
   |true=>rfl
   |false=>rw [Fx hc] at h;have:=List.length_pos_iff.2 U;omega
  have hne':tr l ((AU l).2+k) []≠[]:=λe=>by
   have:=congrArg List.length e
   rw [UH hk] at this;simp only [List.length_nil] at this;omega
  rw [CL U hc] at h
  have ih:=ih (hv.rune U).2 M2 M2 (by unfold tr;rw [List.append_nil])
  rw [CL hne' (by rw [hd.1];exact hc),hd.1,J7 AC hk,show (AU l).2+k - (AU l).2=k by omega,ih.1]
  rw [List.drop_drop] at ih
  refine ⟨?_,ih.2⟩
  rw [UH hk,UH M2]
  simp only [List.length_nil];omega
theorem Vd.take {l:List UInt8} {k:Nat} (U:Vd l) (hb:Bd l k) (hk:k<=l.length):Vd (l.take k):=(Yd (p:=DK) U hb hk U).1
theorem Cl.take {l:List UInt8} {k:Nat} (h:Cl l) (hv:Vd l) (hb:Bd l k) (U:k<=l.length):Cl (l.take k):=(Yd hv hb U h).1
theorem Cl.drop {l:List UInt8} {k:Nat} (h:Cl l) (hv:Vd l) (hb:Bd l k) (U:k<=l.length):Cl (l.drop k):=(Yd hv hb U h).2
theorem Cl.app (h:Cl l) (U:Vd l) (k:Cl t):Cl (l++t):=by
 unfold Cl at *
 rw [S7 l t U,if_pos h,k,List.length_append]
theorem lZ (l:List UInt8):qm (tR l)=0:=by
 by_cases h:qm l<l.length
 .have:=RA (λc=>AQ c==1) l h
  exact Rz this
 .have:tR l=[]:=List.drop_eq_nil_iff.2 AC
  rw [this];exact S8 _
theorem Vd.sp:Vd [32]:=by unfold Vd;rw [CL GT Do];rw [show (([32]:List UInt8).drop (AU [32]).2)=[] from by rw [Ea Do];rfl,E6,Ea Do];rfl
theorem Vd.nl:Vd [10]:=by unfold Vd;rw [CL GT Do];rw [show (([10]:List UInt8).drop (AU [10]).2)=[] from by rw [Ea Do];rfl,E6,Ea Do];rfl
theorem Cl.sp:Cl [32]:=by unfold Cl;rw [CL GT Do];rw [show (([32]:List UInt8).drop (AU [32]).2)=[] from by rw [Ea Do];rfl,E6,Ea Do];rfl
theorem Cl.nl:Cl [10]:=by unfold Cl;rw [CL GT Do];rw [show (([10]:List UInt8).drop (AU [10]).2)=[] from by rw [Ea Do];rfl,E6,Ea Do];rfl
end Go.Aw
namespace Go.Proofs.Z
open Go Go.Aw
def uf (l:List Tk):List (Int×List UInt8):=l.map λt=>(t.kind,t.text)
def Sa (is:Option (List (Int×List UInt8))) (x:Lx) (r:Sum (Int×Int) Lx):Prop:=match is with
 |none=>∃e,r=.inl e
 |some is=>∃y,r=.inr y/\uf y.As=uf x.As++is.filter (λt=>t.1 !=0)/\y.notes.map (·.text)=x.notes.map (·.text)++(is.filter (λt=>t.1==0)).map (·.2)
theorem Sa.tok {o:Option (List (Int×List UInt8))} {q:Nat} {k:Int} {x:Lx} {r:Sum (Int×Int) Lx} (h:Sa o (My s p q k x) r) (hk:k≠0) (ht:t=A3 s p q):Sa (o.map ((k,t)::·)) x r:=by
 subst ht
 cases o with
 |none=>exact h
 |some is=>
  obtain ⟨y,h1,h2,h3⟩:=h
  refine ⟨y,h1,?_,?_⟩
  .have U:(((k,A3 s p q)::is).filter λt:Int×List UInt8=>t.1 !=0)=(k,A3 s p q)::is.filter λt=>t.1 !=0:=List.filter_cons_of_pos (by simpa using hk)
   rw [U,h2]
   simp [uf,My]
  .have U:(((k,A3 s p q)::is).filter λt:Int×List UInt8=>t.1==0)=is.filter λt=>t.1==0:=List.filter_cons_of_neg (by simpa using hk)
   rw [U,h3];rfl
theorem Sa.note {o:Option (List (Int×List UInt8))} {q:Nat} {x:Lx} {r:Sum (Int×Int) Lx} (h:Sa o (SL s p q x) r) (ht:t=A3 s p q):Sa (o.map ((0,t)::·)) x r:=by
 subst ht
 cases o with
 |none=>exact h
 |some is=>
  obtain ⟨y,h1,h2,h3⟩:=h
  refine ⟨y,h1,?_,?_⟩
  .have U:(((0,A3 s p q)::is).filter λt:Int×List UInt8=>t.1 !=0)=is.filter λt=>t.1 !=0:=List.filter_cons_of_neg GT
   rw [U,h2];rfl
  .have U:(((0,A3 s p q)::is).filter λt:Int×List UInt8=>t.1==0)=(0,A3 s p q)::is.filter λt=>t.1==0:=List.filter_cons_of_pos GT
   rw [U,h3]
   simp [SL]
def uO (s:List UInt8):Prop:=s.length<=16777216/\Vd s/\Cl s
theorem ny {y:Lx} (h:G3 s=.inr y):uO s:=by
 unfold G3 at h
 split at h
 .cases h
 .split at h
  .cases h
  .rename_i h1 h2
   split at h
   .cases h
   .rename_i U
    refine ⟨AC,gh AC,?_⟩
    unfold YK at U
    have hle:=NA (λd=> !((λc:Nat=>AQ (c:Nat)==0) d.1)) s
    split at U
    .omega
    .show BA (λd=> !((λc:Nat=>AQ (c:Nat)==0) d.1)) s=_
     omega
theorem iD {x:Lx} (h:¬p<s.length):H7 s p x=.inr x:=by rw [H7,dif_neg h]
theorem iC {x:Lx} (h:p<s.length) (U:(CQ s p).2≠0):H7 s p x=.inl ((p:Nat),(CQ s p).2):=by rw [H7,dif_pos h,if_pos U]
theorem dr {q:Nat} {x:Lx} (h:p<s.length) (U:(CQ s p).2=0) (h2:(CQ s p).1=(q:Nat)) (h3:p<q):H7 s p x=H7 s (Ek s q) (SL s p q x):=by
 rw [H7,dif_pos h,if_neg (λe=>e U),if_pos AC,h2,Int.toNat_natCast,dif_pos h3]
theorem iE {x:Lx} (h:p<s.length) (U:(CQ s p).2=0) (h2:¬0<(CQ s p).1) (h3:(C3 s p).2.2≠0):H7 s p x=.inl ((C3 s p).2.1,(C3 s p).2.2):=by
 rw [H7,dif_pos h,if_neg (λe=>e U),if_neg h2,if_pos h3]
theorem iG {q:Nat} {x:Lx} (h:p<s.length) (U:(CQ s p).2=0) (h2:¬0<(CQ s p).1) (h3:(C3 s p).2.2=0) (h4:(C3 s p).2.1=(q:Nat)) (h5:p<q):H7 s p x=H7 s (Ek s q) (My s p q (C3 s p).1 x):=by
 rw [H7,dif_pos h,if_neg (λe=>e U),if_neg h2,if_neg (λe=>e h3),h4,Int.toNat_natCast,dif_pos h5]
structure LW where
 p:Nat
 sp:Nat
 x:Lx
 w1:AF
 w2:AF
 m:St
theorem eP (l:List Tk) (t:Tk):A4 (l++[t])=A4 l++[t.cells]:=by simp [A4]
theorem Y9 (l:List Nt) (t:Nt):Kc (l++[t])=Kc l++[t.cells]:=by simp [Kc]
theorem JS (l:List Nt):(Kc l).length=l.length:=by simp [Kc]
theorem l6 (s:List UInt8) (p:Nat):Ek s (Ek s p)=Ek s p:=by
 have h:=lZ (s.drop p)
 have e:tR (s.drop p)=s.drop (Ek s p):=by unfold tR;rw [List.drop_drop];rfl
 rw [e] at h
 exact Nat.add_eq_left.2 h
section
variable {st:St} {R:AL->St->Prop}
attribute [local irreducible] Go.Aw.Ag
theorem VG (c:Nat) (hc:c<=1114111):PC 42 [.int .i32 (c:Int)] rj λr _=>r=.ret (.bool (AQ (c:Int)==0)):=by
 refine pB Tryz.func42 ?_
 repeat' ((conv=>whnf);first|(refine Bl ?_;intros)|(refine Bm ?_ ?_<;>intro _)|refine K6 ?_)
 all_goals first|exact Ao rfl (by simp [*])|(conv=>whnf;simp [*])
theorem pM (h1:∀i e,G3 s=.inl (i,e)->R (.ret (.Bh [.slice 4 [] .full,.slice 5 [] .full,.int .i64 i,.int .i64 e])) st)
 (h1':∀i e st',st.le st'->G3 s=.inl (i,e)->R (.ret (.Bh [.slice 4 [] .full,.slice 5 [] .full,.int .i64 i,.int .i64 e])) st')
 (h2:∀x w1 w2 st',G3 s=.inr x->st.le st'->R (.ret (.Bh [.slice 4 (A4 x.As) w1,.slice 5 (Kc x.notes) w2,.int .i64 0,.int .i64 0])) st'):PC 13 [.str s] st R:=by
 refine Bu Ad [30] Tryz.func13 rfl Do rfl ?_
 by_cases hl:16777216<s.length
 .have e:G3 s=.inl (0,3):=by unfold G3;rw [if_pos hl]
  refine Al Ad ?_
  repeat' ((conv=>whnf);first|exact Di|(refine Bl ?_;intros)|(refine Dj ?_ ?_ ?_;rotate_left)|(refine Bm ?_ ?_<;>intro _)|refine NH (λ_=>?_) ?_|refine WJ (λ_=>?_)|with_reducible refine WF ?_)
  exact fin (h1 _ _ e) rfl
 .by_cases hk:(NR s).2=0
  .by_cases hx:0<=YK (λc=>AQ (c:Nat)==0) s
   .have e:G3 s=.inl (YK (λc=>AQ (c:Nat)==0) s,70):=by unfold G3;rw [if_neg hl,if_neg (λx=>x hk),if_pos hx]
    refine Al Ad ?_
    repeat' ((conv=>whnf);first|exact Di|(refine Bl ?_;intros)|(refine Dj ?_ ?_ ?_;rotate_left)|(refine Bm ?_ ?_<;>intro _)|refine NH (λ_=>?_) ?_|refine WJ (λ_=>?_)|refine Tu ?_|refine aC (p:=λc=>AQ (c:Nat)==0) VG ?_|with_reducible refine WF ?_)
    exact fin (h1 _ _ e) rfl
   .have e:G3 s=H7 s (Ek s 0) ta:=by unfold G3;rw [if_neg hl,if_neg (λx=>x hk),if_neg hx]
    have hv:=gh hk
    refine Ak (Al Ad ?_)
    repeat' ((conv=>whnf);first|exact Di|(refine Bl ?_;intros)|(refine Dj ?_ ?_ ?_;rotate_left)|(refine Bm ?_ ?_<;>intro _)|refine NH (λ_=>?_) ?_|with_reducible refine WF ?_)
    refine Ak (Al Ad ?_)
    repeat' ((conv=>whnf);first|exact Di|(refine Bl ?_;intros)|(refine Dj ?_ ?_ ?_;rotate_left)|(refine Bm ?_ ?_<;>intro _)|refine NH (λ_=>?_) ?_|refine WJ (λ_=>?_)|with_reducible refine WF ?_)
    refine Ak (Al Ad ?_)
    repeat' ((conv=>whnf);first|exact Di|(refine Bl ?_;intros)|(refine Dj ?_ ?_ ?_;rotate_left)|(refine Bm ?_ ?_<;>intro _)|refine NH (λ_=>?_) ?_|refine Tu ?_|with_reducible refine WF ?_)
    refine Ak (Al Ad ?_)
    repeat' ((conv=>whnf);first|exact Di|(refine Bl ?_;intros)|(refine Dj ?_ ?_ ?_;rotate_left)|(refine Bm ?_ ?_<;>intro _)|refine NH (λ_=>?_) ?_|refine aC (p:=λc=>AQ (c:Nat)==0) VG ?_|with_reducible refine WF ?_)
    refine Ak (Al Ad ?_)
    repeat' ((conv=>whnf);first|exact Di|(refine Bl ?_;intros)|(refine Dj ?_ ?_ ?_;rotate_left)|(refine Bm ?_ ?_<;>intro _)|refine NH (λ_=>?_) ?_|refine Tr (λb fb=>?_)|with_reducible refine WF ?_)
    have hb0:=fb.1
    have hq0:=JA (s:=s) (p:=0) AC
    refine Al Ad ?_
    repeat' ((conv=>whnf);first|exact Di|(refine Bl ?_;intros)|(refine Dj ?_ ?_ ?_;rotate_left)|(refine Bm ?_ ?_<;>intro _)|refine NH (λ_=>?_) ?_|refine MM (p:=0) AC AC (St.AY _ _ _) ?_|with_reducible refine WF ?_)
    refine Mm (α:=LW) (λ_=>[]) [0,6] [] (λy=>y.m) (λy=>y.m.box b=some (Pz s y.p y.sp (Dt s y.sp).1 (Dt s y.sp).2 (A4 y.x.As) (Kc y.x.notes) y.w1 y.w2 y.x.DX y.x.ends y.x.j)/\B5 st y.m y.w1 (y.x.As.length*4) y.w2 (y.x.notes.length*5)/\
     BQ s y.sp/\BQ s y.p/\y.sp<=y.p/\0<=y.x.DX/\y.x.DX<=y.p/\y.x.As.length<=y.p/\y.x.notes.length<=y.p/\H7 s (Ek s 0) ta=H7 s y.p y.x)
     (λy=>s.length - y.p) ⟨Ek s 0,0,ta,.full,.full,_⟩ ⟨?_,⟨trivial,trivial,trivial,trivial,trivial,St.Au (St.Au (St.le_refl _) hb0 _) hb0 _⟩,.zero s,BQ.l5 hv (.zero s),by simp only [];omega,Int.le_refl _,by simp only [ta];omega,Nat.zero_le _,Nat.zero_le _,rfl⟩ Yl (St.le_refl _) ?_
    .have e0:Dt s 0=(1,1):=FU
     dsimp only
     rw [e0]
     exact St.AY _ _ _
    rintro ⟨p,sp,x,w1,w2,m⟩ ⟨j1,j2,j3,j4,j5,j6,j7,j8,j9,U⟩
    dsimp only at j1 j2 j3 j4 j5 j6 j7 j8 j9 U |-
    have hp:=j4.le
    by_cases hpl:p<s.length
    .have hns:=λ{R:AL->St->Prop}=>nQ (st:=m) (R:=R) (s:=s) (pos:=p) AC hpl
     by_cases n2:(CQ s p).2=0
     .rw [n2] at hns
      by_cases n1:0<(CQ s p).1
      .obtain ⟨q,e1,e2,e3,e4⟩:=V4 hv j4 n2 n1
       rw [e1] at hns
       rw [dr hpl n2 e1 e2] at U
       have hq:=JA e3
       have hnt:=λ{R:AL->St->Prop}=>rk (st:=m) (R:=R) (st0:=st) AC hv j3 j4 e4 j5 AC ⟨j6,AC⟩ (by rw [JS];omega) hb0 (by rw [JS];exact j2) j1
       repeat' ((conv=>whnf);first|exact Di|(refine Bl ?_;intros)|(refine Dj ?_ ?_ ?_;rotate_left)|(refine Bm ?_ ?_<;>intro _)|refine NH (λ_=>?_) ?_|refine hns ?_|refine Aq j1 ?_|refine WJ (λ_=>?_)|refine hnt (λv2 st' sp' c' hs' hR hB=>?_)|refine MM (p:=Ek s q) AC AC hB ?_|with_reducible refine WF ?_)
       all_goals conv=>whnf
       have eb:=l6 s q
       refine ⟨⟨Ek s q,sp',SL s p q x,w1,v2,_⟩,⟨?_,?_,c',e4.l5 hv,hs',j6,by show x.DX<=_;simp only [];omega,by show x.As.length<=_;simp only [];omega,by show (x.notes++[_]).length<=_;rw [List.length_append,List.length_singleton];simp only [];omega,U⟩,by simp only [];omega,Yl,St.le_refl _⟩
       .refine (St.AY _ _ _).trans ?_
        show _=some (Pz s (Ek s q) sp' _ _ (A4 x.As) (Kc (x.notes++[_])) w1 v2 x.DX (Dt s q).1 _)
        rw [Y9]
        exact congrArg (λz=>some (Pz s z sp' _ _ _ _ _ _ _ _ _)) eb
       .show B5 st _ w1 (x.As.length*4) v2 ((x.notes++[_]).length*5)
        rw [List.length_append,List.length_singleton]
        rw [JS] at hR
        exact hR.set hb0 _
      .have hlx:=λ{R:AL->St->Prop}=>iH (st:=m) (R:=R) AC hpl j1
       by_cases k2:(C3 s p).2.2=0
       .obtain ⟨k1,q,e1,e2,e3,e4⟩:=VH hv j4 k2
        rw [k2,e1] at hlx
        rw [iG hpl n2 n1 k2 e1 e2] at U
        have hq:=JA e3
        have htk:=λ{R:AL->St->Prop}=>lg (st:=m) (R:=R) (st0:=st) (k:=(C3 s p).1) (e0:=0) AC hv j3 j4 e4 j5 AC ⟨j6,AC⟩ (by rw [Iq];omega) hb0 (by rw [Iq];exact j2) j1
        repeat' ((conv=>whnf);first|exact Di|(refine Bl ?_;intros)|(refine Dj ?_ ?_ ?_;rotate_left)|(refine Bm ?_ ?_<;>intro _)|refine NH (λ_=>?_) ?_|refine hns ?_|refine Aq j1 ?_|refine WJ (λ_=>?_)|refine hlx ?_|refine htk (λv1 st' hR hB=>?_)|refine MM (p:=q) AC e3 hB ?_|with_reducible refine WF ?_)
        all_goals conv=>whnf
        have hgap:(My s p q (C3 s p).1 x).DX=x.DX\/(My s p q (C3 s p).1 x).DX=x.DX+1:=by
         show (if cntF (C3 s p).1 (A3 s p q) then x.DX+1 else x.DX)=_\/(if cntF (C3 s p).1 (A3 s p q) then x.DX+1 else x.DX)=_
         split
         .exact .inr rfl
         .exact .inl rfl
        refine ⟨⟨Ek s q,q,My s p q (C3 s p).1 x,v1,w2,_⟩,⟨?_,?_,e4,e4.l5 hv,hq.1,by simp only [];omega,by simp only [];omega,by show (x.As++[_]).length<=_;rw [List.length_append,List.length_singleton];simp only [];omega,by show x.notes.length<=_;simp only [];omega,U⟩,by simp only [];omega,Yl,St.le_refl _⟩
        .refine (St.AY _ _ _).trans ?_
         show _=some (Pz s (Ek s q) q _ _ (A4 (x.As++[_])) (Kc x.notes) v1 w2 _ (Dt s q).1 true)
         rw [eP]
         rfl
        .show B5 st _ v1 ((x.As++[_]).length*4) w2 (x.notes.length*5)
         rw [List.length_append,List.length_singleton]
         rw [Iq] at hR
         exact hR.set hb0 _
       .rw [iE hpl n2 n1 k2] at U
        repeat' ((conv=>whnf);first|exact Di|(refine Bl ?_;intros)|(refine Dj ?_ ?_ ?_;rotate_left)|(refine Bm ?_ ?_<;>intro _)|refine NH (λ_=>?_) ?_|refine hns ?_|refine Aq j1 ?_|refine WJ (λ_=>?_)|refine hlx ?_|with_reducible refine WF ?_)
        exact fin (h1' _ _ _ j2.le (e.trans U)) rfl
     .rw [iC hpl n2] at U
      repeat' ((conv=>whnf);first|exact Di|(refine Bl ?_;intros)|(refine Dj ?_ ?_ ?_;rotate_left)|(refine Bm ?_ ?_<;>intro _)|refine NH (λ_=>?_) ?_|refine hns ?_|refine Aq j1 ?_|refine WJ (λ_=>?_)|with_reducible refine WF ?_)
      exact fin (h1' _ _ _ j2.le (e.trans U)) rfl
    .rw [iD hpl] at U
     repeat' ((conv=>whnf);first|exact Di|(refine Bl ?_;intros)|(refine Dj ?_ ?_ ?_;rotate_left)|(refine Bm ?_ ?_<;>intro _)|refine NH (λ_=>?_) ?_|refine Aq j1 ?_|refine WJ (λ_=>?_)|with_reducible refine WF ?_)
     exact fin (h2 x w1 w2 m (e.trans U) j2.le) rfl
  .have e:G3 s=.inl ((NR s).1,(NR s).2):=by unfold G3;rw [if_neg hl,if_pos hk]
   refine Al Ad ?_
   repeat' ((conv=>whnf);first|exact Di|(refine Bl ?_;intros)|(refine Dj ?_ ?_ ?_;rotate_left)|(refine Bm ?_ ?_<;>intro _)|refine NH (λ_=>?_) ?_|refine WJ (λ_=>?_)|refine Tu ?_|with_reducible refine WF ?_)
   exact fin (h1 _ _ e) rfl
end
def Yb (l:List Tk):Prop:=∀t ∈ l,t.text.length<=100000000/\ -1000000000<=t.line/\t.line<=1000000000
theorem Yb.at {l:List Tk} (h:Yb l) {i:Nat} {t:Tk} (e:l[i]? =some t):t.text.length<=100000000/\ -1000000000<=t.line/\t.line<=1000000000:=h t (List.mem_of_getElem? e)
theorem qb {L:Nat} {r:Loop} {Im:Mem} {v:V} {m U:Int} {st:St} {K K':St->Prop} (h:YS Tryz.prog L r Im [v,.int .i64 U] st K) (e:U=m) (k:∀st,K st->K' st):YS Tryz.prog L r Im [v,.int .i64 m] st K':=by subst e;exact h.mono k
section
variable {st:St} {l:List Tk} {own:AF} {c L:Nat} {r:Loop} {Im:Mem}
attribute [local irreducible] Go.Aw.Ag
theorem qR (hok:Yb l) (hn:l.length<=100000000) {J:Nat->St->Prop} (hJ:∀i st,J i st->st.box c=some [.slice 4 (A4 l) own]) (hY:∀i st,i<l.length->J i st->YS Tryz.prog L r Im [.int .i64 (i:Int),.int .i64 (Gi l i)] st (J (i+1))) (h0:J 0 st)
 {I:Mem} {w:World} {cargs:List Value} (hm:Im.le I) (hs:CH I st w) (U:Aj I [.ptr c 0] cargs) (hl:w.heap[L]? =some (.loop r)) (hi:Idle L st):
 Calls Tryz.prog 164 (Value.func (.yield L) #[] #[]::cargs).toArray w λe w'=>(∃v,e=.returned v)/\∃I' st',Fr I st w I' st' w'/\CH I' st' w'/\J l.length st':=by
 refine Tt Ad Tryz.func164 rfl rfl (r:=r) (Im:=Im) (args:=[.ff L,.ptr c 0]) (K:=J l.length) rfl ?_ hm hs (by
  simp only [Aj] at U |-
  exact ⟨_,_,rfl,by simp only [AE],U⟩) hl hi
 have hb:=hJ 0 st h0
 refine GP (P6.of (Al Ad ?_))
 repeat' ((conv=>whnf);first|exact Di|(refine Bl ?_;intros)|(refine Dj ?_ ?_ ?_;rotate_left)|(refine Bm ?_ ?_<;>intro _)|refine AB hb ?_|with_reducible refine WF ?_)
 refine R9 ?_
 refine fj ?_
 refine QW (α:=Nat×St) (λx=>[(8,.int .i64 (x.1:Int))]) (λ_=>[]) [0,1,6,7] [] (λx=>x.2) (λx=>x.1<=l.length/\J x.1 x.2) (λx=>l.length - x.1) (0,st) ⟨Nat.zero_le _,h0⟩ Yl (St.le_refl _) ?_
 rintro ⟨i,st1⟩ ⟨hi1,hj⟩
 dsimp only at hi1 hj |-
 have hb1:=hJ i st1 hj
 refine GP (P6.of (Al Ad ?_))
 by_cases hlt:i<l.length
 .obtain ⟨t,ht⟩:∃t,l[(i:Int).toNat]? =some t:=⟨_,List.getElem?_eq_getElem AC⟩
  have ht':l[i]? =some t:=ht
  have hlt2:(i:Int)<(l.length:Int):=AC
  repeat' ((conv=>whnf);first|exact Di|(refine Bl ?_;intros)|(refine Dj ?_ ?_ ?_;rotate_left)|(refine Bm ?_ ?_<;>intro _)|with_reducible refine WF ?_)
  refine GP (P6.of (Al Ad ?_))
  repeat' ((conv=>whnf);first|exact Di|(refine Bl ?_;intros)|(refine Dj ?_ ?_ ?_;rotate_left)|(refine Bm ?_ ?_<;>intro _)|with_reducible refine WF ?_)
  refine GP ?_
  refine R9 ?_
  refine GP (P6.of (Al Ad ?_))
  repeat' ((conv=>whnf);first|exact Di|(refine Bl ?_;intros)|(refine Dj ?_ ?_ ?_;rotate_left)|(refine Bm ?_ ?_<;>intro _)|with_reducible refine WF ?_)
  refine GP (P6.of (Al Ad ?_))
  repeat' ((conv=>whnf);first|exact Di|(refine Bl ?_;intros)|(refine Dj ?_ ?_ ?_;rotate_left)|(refine Bm ?_ ?_<;>intro _)|with_reducible refine WF ?_)
  have hy:=hY i st1 hlt hj
  refine GP (P6.of (Al Ad ?_))
  have ho:=hok.at ht'
  clear hY U hs hm hl hi
  by_cases hz:i=0
  .subst hz
   have hma:Gi l 0=if (YP t 9 [109,111,100,117,108,101]||YP t 15 [123])=true then 17 else 16:=by unfold Gi;rw [ht'];rfl
   repeat' ((conv=>whnf);first|exact Di|(refine Bl ?_;intros)|(refine Dj ?_ ?_ ?_;rotate_left)|(refine Bm ?_ ?_<;>intro _)|refine pO ?_|with_reducible refine WF ?_)
   all_goals refine GP (ZR Ad 3 rfl rfl rfl rfl rfl ?_)
   all_goals (repeat' ((conv=>whnf);first|exact Di|(refine Bl ?_;intros)|(refine Dj ?_ ?_ ?_;rotate_left)|(refine Bm ?_ ?_<;>intro _)|refine ⟨rfl,?_⟩|refine qb hy (by rw [hma]<;>simp [*]) (λst2 hj2=>?_)|with_reducible refine WF ?_))
   all_goals refine P6.of (Al Ad ?_)
   all_goals (repeat' ((conv=>whnf);first|exact Di|(refine Bl ?_;intros)|(refine Dj ?_ ?_ ?_;rotate_left)|(refine Bm ?_ ?_<;>intro _)|with_reducible refine WF ?_))
   all_goals refine P6.of (Al Ad ?_)
   all_goals (repeat' ((conv=>whnf);first|exact Di|(refine Bl ?_;intros)|(refine Dj ?_ ?_ ?_;rotate_left)|(refine Bm ?_ ?_<;>intro _)|with_reducible refine WF ?_))
   all_goals conv=>whnf
   all_goals exact ⟨(0+1,st2),⟨hlt,hj2⟩,UV,Yl,St.le_refl _⟩
  .obtain ⟨p,hp⟩:∃p,l[((i:Int) - 1).toNat]? =some p:=⟨_,List.getElem?_eq_getElem AC⟩
   have hp':l[i - 1]? =some p:=by rw [<-hp];congr 1;omega
   have hop:=hok.at hp'
   have hma:Gi l i=VQ (some p) t:=by unfold Gi ahead;rw [ht',if_neg hz,hp']
   unfold VQ at hma
   have hz2:¬(i:Int)=0:=AC
   repeat' ((conv=>whnf);first|exact Di|(refine Bl ?_;intros)|(refine Dj ?_ ?_ ?_;rotate_left)|(refine Bm ?_ ?_<;>intro _)|refine AB hb1 ?_|refine pO ?_|refine Q3 ?_|refine qx hop.1 hop.2.1 hop.2.2 ?_|refine Ae [(0,true),(1,true),(2,true),(3,true),(4,true),(5,true),(6,true),(7,true),(8,true),(9,true),(10,true),(11,true),(12,true),(13,true),(14,true),(15,true),(16,true),(17,false),(18,true),(19,true),(20,true)] [] GE ?_|with_reducible refine WF ?_)
   all_goals refine GP (ZR Ad 3 rfl rfl rfl rfl rfl ?_)
   all_goals (repeat' ((conv=>whnf);first|exact Di|(refine Bl ?_;intros)|(refine Dj ?_ ?_ ?_;rotate_left)|(refine Bm ?_ ?_<;>intro _)|refine ⟨rfl,?_⟩|refine qb hy (by rw [hma]<;>simp [*]) (λst2 hj2=>?_)|with_reducible refine WF ?_))
   all_goals refine P6.of (Al Ad ?_)
   all_goals (repeat' ((conv=>whnf);first|exact Di|(refine Bl ?_;intros)|(refine Dj ?_ ?_ ?_;rotate_left)|(refine Bm ?_ ?_<;>intro _)|with_reducible refine WF ?_))
   all_goals refine P6.of (Al Ad ?_)
   all_goals (repeat' ((conv=>whnf);first|exact Di|(refine Bl ?_;intros)|(refine Dj ?_ ?_ ?_;rotate_left)|(refine Bm ?_ ?_<;>intro _)|with_reducible refine WF ?_))
   all_goals conv=>whnf
   all_goals exact ⟨(i+1,st2),⟨hlt,hj2⟩,UV,Yl,St.le_refl _⟩
 .have hlt2:¬(i:Int)<(l.length:Int):=AC
  obtain rfl:i=l.length:=AC
  repeat' ((conv=>whnf);first|exact Di|(refine Bl ?_;intros)|(refine Dj ?_ ?_ ?_;rotate_left)|(refine Bm ?_ ?_<;>intro _)|with_reducible refine WF ?_)
  refine GP (P6.of (Al Ad ?_))
  repeat' ((conv=>whnf);first|exact Di|(refine Bl ?_;intros)|(refine Dj ?_ ?_ ?_;rotate_left)|(refine Bm ?_ ?_<;>intro _)|with_reducible refine WF ?_)
  all_goals conv=>whnf
  all_goals exact ⟨.inl rfl,hj⟩
end
end Go.Proofs.Z
namespace Go.Aw
theorem AF.Ok {own:AF}:(own.st S n).box=S.box:=by cases own<;>rfl
theorem AF.UB {own:AF}:(own.st S n).Ab b C=own.st (S.Ab b C) n:=by cases own<;>rfl
theorem XH {own:AF}:(own.st (S.Ab b C) n).box b=some C:=by rw [AF.Ok];simp [St.Ab]
theorem AF.Jb {own:AF} (h:own.BH S) (hb:S.box b≠none):own.BH (S.Ab b C):=by
 cases own with
 |any=>exact h
 |full=>exact trivial
 |tok t=>
  have h:S.fresh t:=h
  refine (show (S.Ab b C).fresh t from ⟨?_,h.2⟩)
  have:t≠b:=by rintro rfl;exact hb h.1
  simp only [St.Ab]
  rw [if_neg this];exact h.1
theorem AF.QQ {own:AF} {D:List V} (h:own.BH (S.Ab b C)):own.BH (S.Ab b D):=by
 cases own with
 |any=>exact h
 |full=>exact trivial
 |tok t=>
  have h:(S.Ab b C).fresh t:=h
  refine (show (S.Ab b D).fresh t from ⟨?_,h.2⟩)
  have U:=h.1
  simp only [St.Ab] at U |-
  split at U
  .cases U
  .rename_i e;rw [if_neg e];exact U
end Go.Aw
namespace Go.Proofs.Z
open Go Go.Aw
theorem GR (l:List Tk):(A4 l).length=l.length:=by unfold A4;rw [List.length_map]
theorem MH {l:List Tk} {x:Tk} {own:AF} {st:St} (h:own.BH st) (hb:l.length+1<=1000000000)
 (k:∀U:AF,U.BH st->K (.slice 4 (A4 (l++[x])) U) (U.st st ((l++[x]).length*4))):Ag 4 40 (A4 l) own [x.cells] (own.st st (l.length*4)) K:=by
 have:=Hj (sz:=4) (bytes:=40) (es:=A4 l) (new:=[x.cells]) (K:=K) h (by rw [GR];show (l.length+1)*40<=_;omega) (by rw [GR];show l.length+1<Fe;simp only [Fe];omega) rfl (λU ho=>by
  have:=k U ho
  rw [GR]
  have e:A4 l++[x.cells].map (·.map V.Ko)=A4 (l++[x]):=by unfold A4;rw [List.map_append];rfl
  rw [e]
  rw [List.length_append] at this
  exact this)
 rw [GR] at this
 exact this
abbrev su (m:Int) (t:Tk):Tk:=⟨m,[],t.line,t.CC⟩
theorem cF {st:St} {K:AL->St->Prop} {c:Bool} (U:∀(st:St) (K:AL->St->Prop),K (.ret (.bool c)) st->PC f args st K) (e:c=true) (k:K (.ret (.bool true)) st):PC f args st K:=U st K (by rw [e];exact k)
theorem fP {st:St} {K:AL->St->Prop} {c:Bool} (U:∀(st:St) (K:AL->St->Prop),K (.ret (.bool c)) st->PC f args st K) (e:c=false) (k:K (.ret (.bool false)) st):PC f args st K:=U st K (by rw [e];exact k)
theorem IQ {st:St} {c:Nat} (h:b≠c):(st.Ab b cs).box c=st.box c:=by simp [St.Ab,Ne.symm h]
theorem lO {l:List Tk} {x:Tk} {own:AF} (h:own.BH (S.Ab b C)) (hb:l.length+1<=1000000000)
 (k:∀U:AF,U.BH (S.Ab b C)->K (.slice 4 (A4 (l++[x])) U) (U.st (S.Ab b C) ((l++[x]).length*4))):Ag 4 40 (A4 l) own [x.cells] ((own.st S (l.length*4)).Ab b C) K:=by
 rw [AF.UB];exact MH h hb k
theorem QY:∀(a:List Tk) (p:Option Tk) (t:Tk),EB p (a++[t])=EB p a++markT (VQ (a.getLast?.or p) t) t
 |[],p,t=>by simp [EB]
 |x::r,p,t=>by
  rw [List.cons_append,EB,QY r (some x) t,EB,List.append_assoc]
  congr 3
  cases r with
  |nil=>rfl
  |cons y r=>rw [List.getLast?_cons_cons];cases h:(y::r).getLast? with
   |none=>simp at h
   |some z=>rfl
theorem Lk:∀(a:List Tk) (p:Option Tk),(EB p a).length<=2*a.length
 |[],p=>Nat.le_refl _
 |x::r,p=>by
  have:=Lk r (some x)
  rw [EB,List.length_append,List.length_cons]
  unfold markT
  split<;>simp only [List.length_cons,List.length_nil]<;>omega
theorem Y0 {l:List Tk} {i:Nat} {t:Tk} (h:l[i]? =some t):EB none (l.take (i+1))=EB none (l.take i)++markT (Gi l i) t:=by
 have U:=(List.getElem?_eq_some_iff.1 h).1
 have e:l.take (i+1)=l.take i++[t]:=by rw [List.take_add_one,h];rfl
 rw [e,QY]
 congr 3
 unfold Gi ahead
 rw [h]
 dsimp only
 congr 1
 cases i with
 |zero=>rfl
 |succ i=>
  rw [if_neg AC,List.getLast?_take,if_neg AC]
  have:l[i+1 - 1]? =some l[i]:=by rw [Nat.add_sub_cancel];exact List.getElem?_eq_getElem AC
  rw [this];rfl
section
variable {st:St} {l:List Tk} {own:AF} {K:AL->St->Prop}
attribute [local irreducible] Go.Aw.Ag
theorem aO (hok:Yb l) (hn:l.length<=100000000) (h:K (.ret (.slice 4 (A4 (Gx l)) .any)) st):PC 54 [.slice 4 (A4 l) own] st K:=by
 refine Bc.ends (Uj Ad Tryz.func54 rfl Do rfl ?_)
 refine Al Ad ?_
 repeat' ((conv=>whnf);first|exact Di|(refine Bl ?_;intros)|(refine Dj ?_ ?_ ?_;rotate_left)|(refine Bm ?_ ?_<;>intro _)|refine NH (λ_=>?_) ?_|with_reducible refine WF ?_)
 refine Al Ad ?_
 repeat' ((conv=>whnf);first|exact Di|(refine Bl ?_;intros)|(refine Dj ?_ ?_ ?_;rotate_left)|(refine Bm ?_ ?_<;>intro _)|refine NH (λ_=>?_) ?_|refine ⟨⟨AC,AC,AC,(by unfold Fe<;>omega)⟩,.inl ⟨rfl,λb0 f0=>?_⟩⟩|with_reducible refine WF ?_)
 refine Al Ad ?_
 repeat' ((conv=>whnf);first|exact Di|(refine Bl ?_;intros)|(refine Dj ?_ ?_ ?_;rotate_left)|(refine Bm ?_ ?_<;>intro _)|refine NH (λ_=>?_) ?_|refine oK (λc fc=>?_)|with_reducible refine WF ?_)
 conv=>whnf
 refine eY.uJ 1 0 rfl rfl rfl (λb1 f1=>?_)
 refine eY.uJ 3 1 rfl rfl rfl (λb3 f3=>?_)
 refine eY.here ?_
 obtain ⟨S,hS⟩:∃S,S=(st.Ab c [.slice 4 (A4 l) own]).Ab b1 [.slice 4 (A4 l) own]:=⟨_,rfl⟩
 have n0c:c≠b0:=by
  rintro rfl
  have:=fc.2
  simp [St.B2] at this
 have n01:b1≠b0:=by
  rintro rfl
  have:=f1.2
  simp [St.B2,St.Ab] at this
 have n03:b3≠b0:=by
  rintro rfl
  have:=f3.2
  simp [St.B2,St.Ab] at this
 have nc1:b1≠c:=by
  rintro rfl
  have:=f1.1
  rw [St.An] at this;cases this
 have n31:b3≠b1:=by
  rintro rfl
  have:=f3.1
  rw [St.An] at this;cases this
 have n3c:b3≠c:=by
  rintro rfl
  have:=f3.1
  rw [IQ (Ne.symm n31),St.An] at this;cases this
 have fc0:st.box c=none:=fc.1
 have f10:st.box b1=none:=by have:=f1.1;rw [IQ (Ne.symm nc1)] at this;exact this
 have f30:st.box b3=none:=by have:=f3.1;rw [IQ (Ne.symm n31),IQ (Ne.symm n3c)] at this;exact this
 have hSc:S.box c=some [.slice 4 (A4 l) own]:=by rw [hS,IQ nc1,St.An]
 have hS1:S.box b1=some [.slice 4 (A4 l) own]:=by rw [hS,St.An]
 have hle:∀X,st.le (S.Ab b3 X):=λX=>by
  rw [hS];exact St.Au (St.Au (St.Au (St.le_refl _) fc0 _) f10 _) f30 _
 have hgo:AF.BH (S.Ab b3 [.slice 4 [] (.tok b0)]) (.tok b0):=by
  refine (show (S.Ab b3 _).fresh b0 from ⟨?_,by rw [hS];exact f0.2⟩)
  rw [IQ n03,hS,IQ n01,IQ n0c];exact f0.1
 obtain ⟨J,hJ⟩:∃J:Nat->St->Prop,J=λi st'=>∃o:AF,o.BH (S.Ab b3 [.slice 4 (A4 (EB none (l.take i))) o])/\st'=o.st (S.Ab b3 [.slice 4 (A4 (EB none (l.take i))) o]) ((EB none (l.take i)).length*4):=⟨_,rfl⟩
 refine ⟨⟨rfl,rfl⟩,164,[.ptr c 0],J l.length,⟨rfl,⟨_,Tryz.func164,Do,Do⟩⟩,?_,?_⟩
 .intro D B Im β a wm L df fi hF I w cargs hm hs hargs hl hi
  refine qR (own:=own) hok hn (J:=J) (λi st1 hj=>?_) (λi st1 hlt hj=>?_) ?_ hm hs hargs hl hi
  .rw [hJ] at hj
   obtain ⟨o,_,rfl⟩:=hj
   rw [AF.Ok,IQ n3c,hSc]
  .refine lD Ad hF rfl rfl rfl Do rfl rfl ?_
   rw [hJ] at hj
   obtain ⟨o,hgo,rfl⟩:=hj
   obtain ⟨t,ht⟩:∃t,l[(i:Int).toNat]? =some t:=⟨_,List.getElem?_eq_getElem AC⟩
   have htk:=Y0 (l:=l) (i:=i) (t:=t) ht
   have hlen2:=Lk (l.take i) none
   have hti:(l.take i).length<=l.length:=NE
   generalize hout:EB none (l.take i)=out at *
   have hb3:(o.st (S.Ab b3 [.slice 4 (A4 out) o]) (out.length*4)).box b3=some [.slice 4 (A4 out) o]:=by rw [AF.Ok,St.An]
   have hb1:(o.st (S.Ab b3 [.slice 4 (A4 out) o]) (out.length*4)).box b1=some [.slice 4 (A4 l) own]:=by rw [AF.Ok,IQ n31,hS1]
   have hlo:out.length+1<=1000000000:=AC
   unfold bM
   by_cases hz:Gi l i=0
   .have hfin:∀o2:AF,o2.BH (S.Ab b3 [.slice 4 (A4 out) o])->J (i+1) ((o2.st (S.Ab b3 [.slice 4 (A4 out) o]) ((out++[t]).length*4)).Ab b3 [.slice 4 (A4 (out++[t])) o2]):=λo2 h2=>by
     rw [hJ]
     refine ⟨o2,?_,?_⟩
     .rw [htk];unfold markT;rw [if_pos hz];exact AF.QQ h2
     .rw [htk];unfold markT;rw [if_pos hz,AF.UB,St.set_set]
    repeat' ((conv=>whnf);first|exact Di|(refine Bl ?_;intros)|(refine Dj ?_ ?_ ?_;rotate_left)|(refine Bm ?_ ?_<;>intro _)|refine NH (λ_=>?_) ?_|refine ⟨⟨rfl,rfl⟩,?_⟩|refine AB hb3 ?_|refine AB hb1 ?_|refine MH (x:=t) hgo hlo (λo2 h2=>?_)|refine AB XH ?_|exact hfin o2 h2|refine Ae [(0,true),(1,true),(2,true),(3,true),(4,true),(5,true),(6,true),(7,true),(8,true),(9,true),(10,true),(11,true),(12,true),(13,true),(14,false),(15,false)] [1] GE ?_|refine Ae [(0,true),(1,true),(2,true),(3,true),(4,true),(5,true),(6,false),(7,false)] [1] GE ?_|with_reducible refine WF ?_)
   .have hlo2:(out++[su (Gi l i) t]).length+1<=1000000000:=Pi
    have hfin:∀o2 o3:AF,o2.BH (S.Ab b3 [.slice 4 (A4 out) o])->o3.BH ((S.Ab b3 [.slice 4 (A4 out) o]).Ab b3 [.slice 4 (A4 (out++[su (Gi l i) t])) o2])->
     J (i+1) ((o3.st ((S.Ab b3 [.slice 4 (A4 out) o]).Ab b3 [.slice 4 (A4 (out++[su (Gi l i) t])) o2]) ((out++[su (Gi l i) t]++[t]).length*4)).Ab b3 [.slice 4 (A4 (out++[su (Gi l i) t]++[t])) o3]):=λo2 o3 h2 h3=>by
     rw [hJ]
     refine ⟨o3,?_,?_⟩
     .rw [htk];unfold markT;rw [if_neg hz,St.set_set] at *;exact AF.QQ h3
     .rw [htk];unfold markT;rw [if_neg hz,AF.UB,St.set_set,St.set_set,List.append_assoc];rfl
    have hb1':∀(o2:AF) n C,((o2.st (S.Ab b3 [.slice 4 (A4 out) o]) n).Ab b3 C).box b1=some [.slice 4 (A4 l) own]:=λo2 n C=>by rw [IQ n31,AF.Ok,IQ n31,hS1]
    repeat' ((conv=>whnf);first|exact Di|(refine Bl ?_;intros)|(refine Dj ?_ ?_ ?_;rotate_left)|(refine Bm ?_ ?_<;>intro _)|refine NH (λ_=>?_) ?_|refine ⟨⟨rfl,rfl⟩,?_⟩|refine AB hb3 ?_|refine AB hb1 ?_|refine AB (hb1' _ _ _) ?_|refine AB (St.An ..) ?_|refine MH (x:=su (Gi l i) t) hgo hlo (λo2 h2=>?_)|refine lO (x:=t) (AF.Jb h2 (by rw [St.An]<;>simp)) hlo2 (λo3 h3=>?_)|refine AB XH ?_|exact hfin o2 o3 h2 h3|refine Ae [(0,true),(1,true),(2,true),(3,true),(4,true),(5,true),(6,true),(7,true),(8,true),(9,true),(10,true),(11,true),(12,true),(13,true),(14,false),(15,false)] [1] GE ?_|refine Ae [(0,true),(1,true),(2,true),(3,true),(4,true),(5,true),(6,false),(7,false)] [1] GE ?_|with_reducible refine WF ?_)
  .rw [hJ]
   exact ⟨.tok b0,hgo,by rw [hS];rfl⟩
 .intro st' hk
  rw [hJ,List.take_length] at hk
  obtain ⟨o,hgo,rfl⟩:=hk
  have hb3:(o.st (S.Ab b3 [.slice 4 (A4 (EB none l)) o]) ((EB none l).length*4)).box b3=some [.slice 4 (A4 (EB none l)) o]:=XH
  have hb1:(o.st (S.Ab b3 [.slice 4 (A4 (EB none l)) o]) ((EB none l).length*4)).box b1=some [.slice 4 (A4 l) own]:=by rw [AF.Ok,IQ n31,hS1]
  have hlen2:=Lk l none
  have hlo:(EB none l).length+1<=1000000000:=AC
  refine Al Ad ?_
  have hle1:st.le (o.st (S.Ab b3 [.slice 4 (A4 (EB none l)) o]) ((EB none l).length*4)):=St.le_trans (hle _) (AF.Ba hgo)
  have hle2:∀(o2:AF) (n:Nat) (C D:List V),o2.BH (S.Ab b3 C)->st.le ((o2.st (S.Ab b3 C) n).Ab b3 D):=λo2 n C D h2=>by
   rw [AF.UB,St.set_set];exact St.le_trans (hle _) (AF.Ba (AF.QQ h2))
  have U:∀x:List Tk,SB l=x->K (.ret (.slice 4 (A4 (EB none l++x)) .any)) st:=λx e=>by
   have:=h;unfold Gx at this;rw [e] at this;exact this
  cases hlast:l.getLast? with
  |none=>
   obtain rfl:l=[]:=List.getLast?_eq_none_iff.1 hlast
   have U:=U [⟨16,[],0,0⟩] rfl
   have hz0:(([]:List Tk).length:Int)=0:=rfl
   repeat' ((conv=>whnf);first|exact Di|(refine Bl ?_;intros)|(refine Dj ?_ ?_ ?_;rotate_left)|(refine Bm ?_ ?_<;>intro _)|refine NH (λ_=>?_) ?_|refine AB hb1 ?_|refine AB hb3 ?_|refine MH (x:=⟨16,[],0,0⟩) hgo hlo (λo2 h2=>?_)|refine AB XH ?_|refine AB (St.An ..) ?_|with_reducible refine WF ?_)
   all_goals conv=>whnf
   all_goals refine ⟨.inr rfl,?_⟩
   all_goals conv=>whnf
   all_goals exact ⟨_,_,.inr rfl,hle2 o2 _ _ _ h2,U⟩
  |some t=>
   have hpos:0<l.length:=List.length_pos_iff.2 (λe=>by rw [e] at hlast;cases hlast)
   have ht:l[((l.length:Nat) - 1:Int).toNat]? =some t:=by
    rw [List.getLast?_eq_getElem?] at hlast
    rw [<-hlast];congr 1;omega
   have hne:¬(l.length:Int)=0:=AC
   cases ho:Q2 t with
   |true=>
    have U:=U [⟨16,[],0,0⟩] (by unfold SB;rw [hlast];simp [ho])
    repeat' ((conv=>whnf);first|exact Di|(refine Bl ?_;intros)|(refine Dj ?_ ?_ ?_;rotate_left)|(refine Bm ?_ ?_<;>intro _)|refine NH (λ_=>?_) ?_|refine AB hb1 ?_|refine AB hb3 ?_|refine cF (λst K h=>Q3 h) ho ?_|refine MH (x:=⟨16,[],0,0⟩) hgo hlo (λo2 h2=>?_)|refine AB XH ?_|refine AB (St.An ..) ?_|with_reducible refine WF ?_)
    all_goals conv=>whnf
    all_goals refine ⟨.inr rfl,?_⟩
    all_goals conv=>whnf
    all_goals exact ⟨_,_,.inr rfl,hle2 o2 _ _ _ h2,U⟩
   |false=>
    have U:=U [] (by unfold SB;rw [hlast];simp [ho])
    rw [List.append_nil] at U
    repeat' ((conv=>whnf);first|exact Di|(refine Bl ?_;intros)|(refine Dj ?_ ?_ ?_;rotate_left)|(refine Bm ?_ ?_<;>intro _)|refine NH (λ_=>?_) ?_|refine AB hb1 ?_|refine AB hb3 ?_|refine fP (λst K h=>Q3 h) ho ?_|with_reducible refine WF ?_)
    all_goals conv=>whnf
    all_goals refine ⟨.inr rfl,?_⟩
    all_goals conv=>whnf
    all_goals exact ⟨_,_,.inr rfl,hle1,U⟩
end
end Go.Proofs.Z
namespace Go.Proofs.Z
open Go Go.Aw
open Rd (Ap)
theorem oP {l:List Tk} (h:p7 l=true):Yb l:=λt U=>by
 have:=List.all_eq_true.1 h t U
 simp only [Bool.and_eq_true,decide_eq_true_eq] at this
 exact ⟨this.1,this.2.1,this.2.2⟩
theorem uT:∃x,G3 mM=.inr x/\x.As=db:=by
 have h:=mN
 unfold db
 cases e:G3 mM with
 |inl p=>rw [e] at h;cases h
 |inr x=>exact ⟨x,rfl,rfl⟩
theorem uU:∃n s',(Hy 5).run gV=.inr (n,s')/\n.kind=2/\n.form=0/\s'.pos=(s'.As.length:Nat)/\∃k1 k2,n.kids=[k1,k2]/\k1.kind=36/\k2.kind=35:=by
 have h:=sP
 cases e:(Hy 5).run gV with
 |inl p=>rw [show (CX Hb (Kw (D6 5) (Kl 4))).run gV=_ from e] at h;cases h
 |inr p=>
  obtain ⟨n,s'⟩:=p
  rw [show (CX Hb (Kw (D6 5) (Kl 4))).run gV=_ from e] at h
  simp only [Bool.and_eq_true,beq_iff_eq] at h
  obtain ⟨⟨h1,h2⟩,h3,U⟩:=h
  refine ⟨n,s',rfl,h1,h2,h3,?_⟩
  match hk:n.kids,U with
  |[k1,k2],U=>
   simp only [List.map_cons,List.map_nil,List.cons.injEq,and_true] at U
   exact ⟨k1,k2,rfl,U.1,U.2⟩
  |[],U=>simp at U
  |[_],U=>simp at U
  |_::_::_::_,U=>simp at U
theorem uV:∃n s',(Yw 2).run ⟨RX,0,[],0⟩=.inr (n,s')/\n.kind=9:=by
 have h:=sQ
 cases e:(Yw 2).run ⟨RX,0,[],0⟩ with
 |inl p=>rw [show (LH (D6 2) (Kl 1)).run ⟨RX,0,[],0⟩=_ from e] at h;cases h
 |inr p=>
  obtain ⟨n,s'⟩:=p
  rw [show (LH (D6 2) (Kl 1)).run ⟨RX,0,[],0⟩=_ from e] at h
  simp only [beq_iff_eq] at h
  exact ⟨n,s',rfl,h⟩
theorem U4 {s s':Af} {deep:Int} {A:Nat->Rd Nd} {n:Nd} (U:¬deep<1) (e:(A (B7 deep)).run s=.inr (n,s')):Ct s deep (CS (A (B7 deep)) s)=(n,s',0):=by
 unfold Ct CS
 rw [if_neg U,e]
section
variable {st:St} {K:AL->St->Prop}
theorem qU {x:Lx} (hs:G3 s=.inr x) (h:∀w1 w2 st',st.le st'->K (.ret (.Bh [.slice 4 (A4 x.As) w1,.slice 5 (Kc x.notes) w2,.int .i64 0,.int .i64 0])) st'):PC 13 [.str s] st K:=by
 refine pM (λi' e' U=>?_) (λi' e' st' hle U=>?_) (λx w1 w2 st' U hle=>?_)
 .rw [hs] at U;cases U
 .rw [hs] at U;cases U
 .rw [hs] at U;injection U with U;subst U;exact h w1 w2 st' hle
theorem ak {x:Lx} (hs:G3 s=.inr x) (hok:Yb x.As) (hn:x.As.length<=100000000) (h:∀st',st.le st'->K (.ret (Am ⟨Gx x.As,0,[],0⟩)) st'):PC 19 [.str s] st K:=by
 refine pB Tryz.func19 ?_
 repeat' ((conv=>whnf);first|(refine Bl ?_;intros)|(refine Bm ?_ ?_<;>intro _)|refine qU hs (λw1 w2 st1 U=>?_)|refine aO hok hn ?_)
 all_goals exact ⟨_,_,.inr rfl,St.le_refl _,h st1 U⟩
theorem lz {s s':Af} {deep e:Int} {n:Nd} (U:mu s<=100000000) (hq:Ct s deep (CS (Hy (B7 deep)) s)=(n,s',e)) (h:K (.ret (Su n s' e)) st):PC 20 [Am s,.int .i64 deep] st K:=X0 U (by rw [hq];exact h)
theorem sq {s s':Af} {deep e:Int} {n:Nd} (U:mu s<=100000000) (hq:Ct s deep (CS (Yw (B7 deep)) s)=(n,s',e)) (h:K (.ret (Su n s' e)) st):PC 36 [Am s,.int .i64 deep] st K:=sn U (by rw [hq];exact h)
theorem Fm (h:∀st',st.le st'->K (.ret (.bool true)) st'):PC 18 [] st K:=by
 refine pB Tryz.func18 ?_
 obtain ⟨x,hx,U⟩:=uT
 have hok:=mL
 simp only [Bool.and_eq_true,decide_eq_true_eq] at hok
 have hms:=of_decide_eq_true mK
 obtain ⟨n,s1,r1,a1,a2,a3,k1,k2,a4,a5,a6⟩:=uU
 obtain ⟨m,s2,r2,b1⟩:=uV
 have hk0:n.kids[(0:Int).toNat]? =some k1:=by rw [a4];rfl
 have hk1:n.kids[(1:Int).toNat]? =some k2:=by rw [a4];rfl
 have hkl:(n.kids.length:Int)=2:=by rw [a4];rfl
 have hm1:mu ⟨Gx x.As,0,[],0⟩<=100000000:=by rw [U];unfold mu;simp only [List.length_nil];omega
 have hm2:mu ⟨RX,0,[],0⟩<=100000000:=Do
 have c1:Ct ⟨Gx x.As,0,[],0⟩ 5 (CS (Hy (B7 5)) ⟨Gx x.As,0,[],0⟩)=(n,s1,0):=by rw [U];exact U4 (A:=Hy) Do r1
 have c2:Ct ⟨RX,0,[],0⟩ 2 (CS (Yw (B7 2)) ⟨RX,0,[],0⟩)=(m,s2,0):=U4 (A:=Yw) Do r2
 have hc2:∀{st:St} {K:AL->St->Prop},K (.ret (Su m s2 0)) st->PC 36 [.agg [.slice 4 (A4 RX) .full,.int .i64 0,.slice 1 [] .full,.int .i64 0],.int .i64 2] st K:=λh=>N7 (args':=[Am ⟨RX,0,[],0⟩,.int .i64 2]) rfl (sq hm2 c2 h)
 repeat' ((conv=>whnf);first|(refine Bl ?_;intros)|(refine Bm ?_ ?_<;>intro _)|refine ak hx (by rw [U]<;>exact oP hok.1) (by rw [U]<;>omega) (λst1 hle1=>?_)|refine lz hm1 c1 ?_|refine hc2 ?_)
 all_goals conv=>whnf
 all_goals exact fin (h st1 hle1) rfl
end
theorem fe {s:Af} (h:s.As.length<=1000/\s.BT.length<=1000):mu s<=100000000:=by unfold mu;omega
section
variable {st:St} {K:AL->St->Prop}
theorem G1 {s:Af} {v:Bool} (U:v=(decide (s.As.length<=1000)&&decide (s.BT.length<=1000))) (h:K (.ret (.bool v)) st):PC 23 [Am s] st K:=by
 refine pB Tryz.func23 ?_
 repeat' ((conv=>whnf);first|(refine Bl ?_;intros)|(refine Bm ?_ ?_<;>intro _)|fail)
 all_goals conv=>whnf
 all_goals (refine Ao h ?_;clear h;rw [U])
 all_goals simp only [Bool.and_eq_true,decide_eq_true_eq,Bool.and_eq_false_iff,decide_eq_false_iff_not]
 all_goals omega
end
end Go.Proofs.Z
namespace Go.Proofs.Z
open Go Go.Aw
section
variable {st0 st:St} {s:Af} {K R:AL->St->Prop} {d:Nat} {deep:Int} {q:Rs}
theorem iJ (U:¬deep<1) (h:K (.ret (.int .i64 ((B7 deep - 1+1:Nat):Int))) st):PC 59 [.int .i64 deep] st K:=
 GU U (by rw [show (if 100<deep then 100 else deep)=((B7 deep - 1+1:Nat):Int) by unfold B7;split<;>omega];exact h)
theorem iI (U:deep<1) (h:K (.ret (.int .i64 0)) st):PC 59 [.int .i64 deep] st K:=by
 refine pB Tryz.func59 ?_
 have e:(if (0:Int)<(if 100<deep then 100 else deep) then (if 100<deep then 100 else deep) else 0)=0:=by split<;>split at* <;>omega
 rw [<-e] at h
 clear e
 repeat' ((conv=>whnf);first|(refine AG ?_;intros)|(refine AH ?_ ?_<;>intro e h)|(refine AJ ?_ ?_<;>intro _)|refine ⟨_,rfl,?_⟩)
 all_goals exact fin h rfl
theorem RO {n:Nd} (hn:re q=0->n=rn q) (h:K (.ret (AO (rn q) (rs q) (re q))) st):PC 57 [AO n (rs q) (re q)] st K:=by
 by_cases e:re q=0
 .rw [hn e];rw [e] at h |-;exact cm h
 .exact NF e (by rw [Oc e] at h;exact h)
theorem Sq {q':Rs} (hd:deep<1) (U:Ew s deep q'=q):q=.inl (2,s):=by unfold Ew at U;rw [if_pos hd] at U;exact U.symm
theorem Sr {q':Rs} (hd:¬deep<1) (U:Ew s deep q'=q):q'=q:=by unfold Ew at U;rw [if_neg hd] at U;exact U
theorem MG.e0 {mk:Af->List V} (U:MG f mk (.fail E9)) (hm:mu s<=100000000) (h:∀st',St.le st st'->K (.ret (AO FR s 2)) st'):PC f (mk s) st K:=
 U.ap (st0:=st) (rows:=[]) hm Rx.start (by rw [Rd.BK];exact λst' c=>h st' c.le)
theorem oC (hm:mu s<=100000000) (hq:Ew s deep (CS (S9 (B7 deep)) s)=q) (h:∀st',St.le st st'->K (.ret (AO (rn q) (rs q) (re q))) st'):PC 27 [Am s,.int .i64 deep] st K:=by
 by_cases U:deep<1
 .rw [Sq U hq] at h;exact MG.e0 (bT U) hm h
 .rw [<-Sr U hq] at h;exact (SW U).stmt.end_ hm h
theorem rB (hm:mu s<=100000000) (hq:Ew s deep (CS (ct (B7 deep)) s)=q) (h:∀st',St.le st st'->K (.ret (AO (rn q) (rs q) (re q))) st'):PC 29 [Am s,.int .i64 deep] st K:=by
 by_cases U:deep<1
 .rw [Sq U hq] at h;exact MG.e0 (rA U) hm h
 .rw [<-Sr U hq] at h;exact (SW U).alt.end_ hm h
theorem n7 (hm:mu s<=100000000) (hq:Ew s deep (CS (Sn (B7 deep)) s)=q) (h:∀st',St.le st st'->K (.ret (AO (rn q) (rs q) (re q))) st'):PC 31 [Am s,.int .i64 deep] st K:=by
 by_cases U:deep<1
 .rw [Sq U hq] at h;exact MG.e0 (nZ U) hm h
 .rw [<-Sr U hq] at h;exact (SW U).decl.end_ hm h
theorem Zj {w:Int} {D:Int} {A:Rd Nd} (hb:BO 58 (λs=>[Am s,.int .i64 D,.int .i64 w]) A) (hm:mu s<=100000000) (U:CS A s=q) (h:∀n st',(re q=0->n=rn q)->St.le st st'->K (.ret (AO n (rs q) (re q))) st'):PC 58 [Am s,.int .i64 D,.int .i64 w] st K:=
 hb.ap (st0:=st) (rows:=[]) hm Rx.start (Rd.O3 (λv s' e st' c=>(by unfold CS at U;rw [e] at U;subst U;exact h v st' (λ_=>rfl) c.le)) (λe s' hr n st' c=>(by unfold CS at U;rw [hr] at U;subst U;exact h n st' (λe0=>absurd e0 e.2) c.le)))
theorem WV (hm:mu s<=100000000) (hq:Ew s deep (CS (Hy (B7 deep)) s)=q) (h:∀st',St.le st st'->K (.ret (AO (rn q) (rs q) (re q))) st'):PC 22 [Am s,.int .i64 deep] st K:=by
 refine pB Tryz.func22 ?_
 by_cases hd:deep<1
 .rw [Sq hd hq] at h
  repeat' ((conv=>whnf);first|exact Dk|(refine AG ?_;intros)|(refine Dl ?_ ?_ ?_;rotate_left)|(refine AH ?_ ?_<;>intro e h)|(refine AJ ?_ ?_<;>intro _)|refine iI hd ?_|refine MG.e0 (Jk (D:=0) Do) hm (λst1 U=>?_)|refine NF Do ?_|refine Ae [(0,true),(1,true),(2,false),(3,false),(4,false),(5,false)] [1] GE ?_|with_reducible refine WF ?_)
  all_goals exact AZ rfl (h _ U)
 .skip
  repeat' ((conv=>whnf);first|exact Dk|(refine AG ?_;intros)|(refine Dl ?_ ?_ ?_;rotate_left)|(refine AH ?_ ?_<;>intro e h)|(refine AJ ?_ ?_<;>intro _)|refine iJ hd ?_|refine Zj (SW hd).decls hm (Sr hd hq) (λn st1 hn U=>?_)|refine RO hn ?_|refine Ae [(0,true),(1,true),(2,false),(3,false),(4,false),(5,false)] [1] GE ?_|with_reducible refine WF ?_)
  all_goals exact AZ rfl (h _ U)
theorem kB (hm:mu s<=100000000) (hq:Ew s deep (CS (RE (B7 deep)) s)=q) (h:∀st',St.le st st'->K (.ret (AO (rn q) (rs q) (re q))) st'):PC 34 [Am s,.int .i64 deep] st K:=by
 refine pB Tryz.func34 ?_
 by_cases hd:deep<1
 .rw [Sq hd hq] at h
  repeat' ((conv=>whnf);first|exact Dk|(refine AG ?_;intros)|(refine Dl ?_ ?_ ?_;rotate_left)|(refine AH ?_ ?_<;>intro e h)|(refine AJ ?_ ?_<;>intro _)|refine iI hd ?_|refine MG.e0 (Jk (D:=0) Do) hm (λst1 U=>?_)|refine NF Do ?_|refine Ae [(0,true),(1,true),(2,false),(3,false),(4,false),(5,false)] [1] GE ?_|with_reducible refine WF ?_)
  all_goals exact AZ rfl (h _ U)
 .skip
  repeat' ((conv=>whnf);first|exact Dk|(refine AG ?_;intros)|(refine Dl ?_ ?_ ?_;rotate_left)|(refine AH ?_ ?_<;>intro e h)|(refine AJ ?_ ?_<;>intro _)|refine iJ hd ?_|refine Zj (SW hd).stmts hm (Sr hd hq) (λn st1 hn U=>?_)|refine RO hn ?_|refine Ae [(0,true),(1,true),(2,false),(3,false),(4,false),(5,false)] [1] GE ?_|with_reducible refine WF ?_)
  all_goals exact AZ rfl (h _ U)
theorem nX (hm:mu s<=100000000) (hq:Ew s deep (CS (US (B7 deep)) s)=q) (h:∀st',St.le st st'->K (.ret (AO (rn q) (rs q) (re q))) st'):PC 35 [Am s,.int .i64 deep] st K:=by
 refine pB Tryz.func35 ?_
 by_cases hd:deep<1
 .rw [Sq hd hq] at h
  repeat' ((conv=>whnf);first|exact Dk|(refine AG ?_;intros)|(refine Dl ?_ ?_ ?_;rotate_left)|(refine AH ?_ ?_<;>intro e h)|(refine AJ ?_ ?_<;>intro _)|refine iI hd ?_|refine MG.e0 (Jk (D:=0) Do) hm (λst1 U=>?_)|refine NF Do ?_|refine Ae [(0,true),(1,true),(2,false),(3,false),(4,false),(5,false)] [1] GE ?_|with_reducible refine WF ?_)
  all_goals exact AZ rfl (h _ U)
 .skip
  repeat' ((conv=>whnf);first|exact Dk|(refine AG ?_;intros)|(refine Dl ?_ ?_ ?_;rotate_left)|(refine AH ?_ ?_<;>intro e h)|(refine AJ ?_ ?_<;>intro _)|refine iJ hd ?_|refine Zj (SW hd).alts hm (Sr hd hq) (λn st1 hn U=>?_)|refine RO hn ?_|refine Ae [(0,true),(1,true),(2,false),(3,false),(4,false),(5,false)] [1] GE ?_|with_reducible refine WF ?_)
  all_goals exact AZ rfl (h _ U)
theorem pf (U:mu s<=100000000) (hq:Ew s deep (CS (S9 (B7 deep)) s)=q) (h:K (.ret (.Bh [enc (rn q),Am (rs q),.int .i64 (re q)])) st):PC 26 [Am s,.int .i64 deep] st K:=pd U (by rw [Gz,hq];exact h)
theorem sm (U:mu s<=100000000) (hq:Ew s deep (CS (ct (B7 deep)) s)=q) (h:K (.ret (.Bh [enc (rn q),Am (rs q),.int .i64 (re q)])) st):PC 28 [Am s,.int .i64 deep] st K:=sl U (by rw [Gz,hq];exact h)
theorem pb (U:mu s<=100000000) (hq:Ew s deep (CS (Sn (B7 deep)) s)=q) (h:K (.ret (.Bh [enc (rn q),Am (rs q),.int .i64 (re q)])) st):PC 30 [Am s,.int .i64 deep] st K:=o9 U (by rw [Gz,hq];exact h)
theorem X1 (U:mu s<=100000000) (hq:Ew s deep (CS (Hy (B7 deep)) s)=q) (h:K (.ret (.Bh [enc (rn q),Am (rs q),.int .i64 (re q)])) st):PC 20 [Am s,.int .i64 deep] st K:=X0 U (by rw [Gz,hq];exact h)
theorem lB (U:mu s<=100000000) (hq:Ew s deep (CS (RE (B7 deep)) s)=q) (h:K (.ret (.Bh [enc (rn q),Am (rs q),.int .i64 (re q)])) st):PC 32 [Am s,.int .i64 deep] st K:=lA U (by rw [Gz,hq];exact h)
theorem o8 (U:mu s<=100000000) (hq:Ew s deep (CS (US (B7 deep)) s)=q) (h:K (.ret (.Bh [enc (rn q),Am (rs q),.int .i64 (re q)])) st):PC 33 [Am s,.int .i64 deep] st K:=o7 U (by rw [Gz,hq];exact h)
theorem MT {n:Nd} {e:Int} (h:K (.ret (.bool true)) st):PC 21 [enc n,Am s,.int .i64 e,AO n s e] st K:=by
 refine pB Tryz.func21 ?_
 repeat' ((conv=>whnf);first|(refine AG ?_;intros)|(refine AH ?_ ?_<;>intro e h)|(refine AJ ?_ ?_<;>intro _)|refine eu _ (Nat.le_refl _) ?_|refine Xs ?_)
 all_goals exact fin h rfl
theorem PX (U:s.As.length<=1000/\s.BT.length<=1000):true=(decide (s.As.length<=1000)&&decide (s.BT.length<=1000)):=by simp [U]
theorem PW (U:¬(s.As.length<=1000/\s.BT.length<=1000)):false=(decide (s.As.length<=1000)&&decide (s.BT.length<=1000)):=by
 symm;simp only [Bool.and_eq_false_iff,decide_eq_false_iff_not];omega
theorem Vk (h:∀st',R (.ret (.bool true)) st'):PC 6 [Am s,.int .i64 deep] st R:=by
 refine pB Tryz.func6 ?_
 by_cases hs:s.As.length<=1000/\s.BT.length<=1000
 .obtain ⟨q,hq⟩:∃q,Ew s deep (CS (S9 (B7 deep)) s)=q:=⟨_,rfl⟩
  repeat' ((conv=>whnf);first|exact Dk|(refine AG ?_;intros)|(refine Dl ?_ ?_ ?_;rotate_left)|(refine AH ?_ ?_<;>intro e h)|(refine AJ ?_ ?_<;>intro _)|refine G1 (PX hs) ?_|refine Fm (λst1 U=>?_)|refine pf (fe hs) hq ?_|refine oC (fe hs) hq (λst1 U=>?_)|refine MT ?_|refine Ae [(0,false),(1,true),(2,true),(3,true),(4,true),(5,true),(6,true),(7,false),(8,false),(9,true),(10,true)] [] GE ?_|with_reducible refine WF ?_)
  all_goals exact fin (h _) rfl
 .skip
  repeat' ((conv=>whnf);first|exact Dk|(refine AG ?_;intros)|(refine Dl ?_ ?_ ?_;rotate_left)|(refine AH ?_ ?_<;>intro e h)|(refine AJ ?_ ?_<;>intro _)|refine G1 (PW hs) ?_|refine Fm (λst1 U=>?_)|with_reducible refine WF ?_)
  all_goals exact fin (h _) rfl
theorem YA (h:∀st',R (.ret (.bool true)) st'):PC 7 [Am s,.int .i64 deep] st R:=by
 refine pB Tryz.func7 ?_
 by_cases hs:s.As.length<=1000/\s.BT.length<=1000
 .obtain ⟨q,hq⟩:∃q,Ew s deep (CS (ct (B7 deep)) s)=q:=⟨_,rfl⟩
  repeat' ((conv=>whnf);first|exact Dk|(refine AG ?_;intros)|(refine Dl ?_ ?_ ?_;rotate_left)|(refine AH ?_ ?_<;>intro e h)|(refine AJ ?_ ?_<;>intro _)|refine G1 (PX hs) ?_|refine Fm (λst1 U=>?_)|refine sm (fe hs) hq ?_|refine rB (fe hs) hq (λst1 U=>?_)|refine MT ?_|refine Ae [(0,false),(1,true),(2,true),(3,true),(4,true),(5,true),(6,true),(7,false),(8,false),(9,true),(10,true)] [] GE ?_|with_reducible refine WF ?_)
  all_goals exact fin (h _) rfl
 .skip
  repeat' ((conv=>whnf);first|exact Dk|(refine AG ?_;intros)|(refine Dl ?_ ?_ ?_;rotate_left)|(refine AH ?_ ?_<;>intro e h)|(refine AJ ?_ ?_<;>intro _)|refine G1 (PW hs) ?_|refine Fm (λst1 U=>?_)|with_reducible refine WF ?_)
  all_goals exact fin (h _) rfl
theorem Vj (h:∀st',R (.ret (.bool true)) st'):PC 8 [Am s,.int .i64 deep] st R:=by
 refine pB Tryz.func8 ?_
 by_cases hs:s.As.length<=1000/\s.BT.length<=1000
 .obtain ⟨q,hq⟩:∃q,Ew s deep (CS (Sn (B7 deep)) s)=q:=⟨_,rfl⟩
  repeat' ((conv=>whnf);first|exact Dk|(refine AG ?_;intros)|(refine Dl ?_ ?_ ?_;rotate_left)|(refine AH ?_ ?_<;>intro e h)|(refine AJ ?_ ?_<;>intro _)|refine G1 (PX hs) ?_|refine Fm (λst1 U=>?_)|refine pb (fe hs) hq ?_|refine n7 (fe hs) hq (λst1 U=>?_)|refine MT ?_|refine Ae [(0,false),(1,true),(2,true),(3,true),(4,true),(5,true),(6,true),(7,false),(8,false),(9,true),(10,true)] [] GE ?_|with_reducible refine WF ?_)
  all_goals exact fin (h _) rfl
 .skip
  repeat' ((conv=>whnf);first|exact Dk|(refine AG ?_;intros)|(refine Dl ?_ ?_ ?_;rotate_left)|(refine AH ?_ ?_<;>intro e h)|(refine AJ ?_ ?_<;>intro _)|refine G1 (PW hs) ?_|refine Fm (λst1 U=>?_)|with_reducible refine WF ?_)
  all_goals exact fin (h _) rfl
theorem TH (h:∀st',R (.ret (.bool true)) st'):PC 9 [Am s,.int .i64 deep] st R:=by
 refine pB Tryz.func9 ?_
 by_cases hs:s.As.length<=1000/\s.BT.length<=1000
 .obtain ⟨q,hq⟩:∃q,Ew s deep (CS (Hy (B7 deep)) s)=q:=⟨_,rfl⟩
  obtain ⟨q2,hq2⟩:∃q,Ew s deep (CS (RE (B7 deep)) s)=q:=⟨_,rfl⟩
  obtain ⟨q3,hq3⟩:∃q,Ew s deep (CS (US (B7 deep)) s)=q:=⟨_,rfl⟩
  repeat' ((conv=>whnf);first|exact Dk|(refine AG ?_;intros)|(refine Dl ?_ ?_ ?_;rotate_left)|(refine AH ?_ ?_<;>intro e h)|(refine AJ ?_ ?_<;>intro _)|refine G1 (PX hs) ?_|refine Fm (λst1 U=>?_)|refine X1 (fe hs) hq ?_|refine lB (fe hs) hq2 ?_|refine o8 (fe hs) hq3 ?_|refine WV (fe hs) hq (λst1 U=>?_)|refine kB (fe hs) hq2 (λst1 U=>?_)|refine nX (fe hs) hq3 (λst1 U=>?_)|refine MT ?_|refine Ae [(0,false),(1,true),(2,true),(3,true),(4,true),(5,true),(6,true),(7,false),(8,false),(9,true),(10,true),(11,true),(12,true),(13,true),(14,true),(15,true),(16,false),(17,false),(18,true),(19,true),(20,true),(21,true),(22,true),(23,true),(24,true),(25,false),(26,false),(27,true),(28,true)] [] GE ?_|with_reducible refine WF ?_)
  all_goals exact fin (h _) rfl
 .skip
  repeat' ((conv=>whnf);first|exact Dk|(refine AG ?_;intros)|(refine Dl ?_ ?_ ?_;rotate_left)|(refine AH ?_ ?_<;>intro e h)|(refine AJ ?_ ?_<;>intro _)|refine G1 (PW hs) ?_|refine Fm (λst1 U=>?_)|with_reducible refine WF ?_)
  all_goals exact fin (h _) rfl
end
section
variable {H:Type}
theorem Yn:Tryz.prog.cellsOf 3=1:=EQ
theorem cO {d:DataW H} {vs:List V} (h:dec Tryz.prog n 31 d=some vs):∃l:List Int,vs=[.slice 1 (ints l) .any]:=by
 obtain ⟨m,es,ds,rfl,rfl,U,hb⟩:=Sl Tryz.underlying31 h
 obtain ⟨l,rfl,hs⟩:=Qt (f:=λn=>[V.int .i64 n]) (w:=λ_=>0) (λd vs h=>by
  obtain ⟨k,rfl⟩:=F9 Tryz.underlying3 h
  exact ⟨k,rfl,Nat.zero_le _⟩) U
 exact ⟨l,by rw [Yn];rfl⟩
theorem K9 {d:DataW H} {vs:List V} (h:dec Tryz.prog n 33 d=some vs):∃s:Af,vs=s.cells:=by
 obtain ⟨m,ds,us,rfl,hl,hm,rfl,hb⟩:=Qu Tryz.underlying33 h
 match ds,hl with
 |[d0,d1,d2,d3],_=>
  simp only [List.zip_cons_cons,List.zip_nil_right] at hm
  obtain ⟨u0,r0,h0,U,rfl⟩:=Ch hm
  obtain ⟨u1,r1,h1,hm1,rfl⟩:=Ch U
  obtain ⟨u2,r2,h2,hm2,rfl⟩:=Ch hm1
  obtain ⟨u3,r3,h3,hm3,rfl⟩:=Ch hm2
  cases hm3
  obtain ⟨ts,rfl,_⟩:=cP h0
  obtain ⟨p,rfl⟩:=F9 Tryz.underlying3 h1
  obtain ⟨os,rfl⟩:=cO h2
  obtain ⟨w,rfl⟩:=F9 Tryz.underlying3 h3
  exact ⟨⟨ts,p,os,w⟩,rfl⟩
end
section
variable {st:St} {R:AL->St->Prop}
def pT (k:Int) (t:List UInt8):Bool:=decide (¬k=15)||(!(t==[123])&& !(t==[125])&& !(t==[59]))
end
def lx (t:Tk):Bool:= !(t.kind==16)&&(!(t.kind==17)&&pT t.kind t.text)
def DZ (l:List Tk):List Tk:=l.filter lx
def Tv (l:List Tk) (a b:Int):List Tk:=(l.take b.toNat).drop a.toNat
theorem MP {l:List Tk} {a:Int}:Tv l a a=[]:=by
 unfold Tv
 exact List.drop_eq_nil_iff.2 NE
theorem mi {l:List Tk} {a:Int} {t:Tk} (U:0<=a) (h:l[a.toNat]? =some t):Tv l a (a+1)=[t]:=by
 unfold Tv
 rw [show (a+1).toNat=a.toNat+1 by omega,List.take_add_one,h]
 have hl:=(List.getElem?_eq_some_iff.1 h).1
 rw [List.drop_append,List.drop_eq_nil_iff.2 NE,List.length_take,Nat.min_eq_left AC,Nat.sub_self]
 rfl
theorem mh {l:List Tk} {a b c:Int} (h0:0<=a) (h1:a<=b) (h2:b<=c):Tv l a b++Tv l b c=Tv l a c:=by
 unfold Tv
 obtain ⟨x,rfl⟩:∃x:Nat,a=x:=⟨a.toNat,AC⟩
 obtain ⟨y,rfl⟩:∃y:Nat,b=y:=⟨b.toNat,AC⟩
 obtain ⟨z,rfl⟩:∃z:Nat,c=z:=⟨c.toNat,AC⟩
 simp only [Int.toNat_natCast]
 have e:l.take y=(l.take z).take y:=by rw [List.take_take,Nat.min_eq_left AC]
 rw [e]
 generalize l.take z=m
 have hx:m.drop x=(m.take y).drop x++m.drop y:=by
  have U:m=m.take y++m.drop y:=(List.take_append_drop y m).symm
  by_cases hy:y<=m.length
  .conv=>lhs;rw [U]
   rw [List.drop_append,List.length_take,Nat.min_eq_left hy,show x - y=0 by omega,List.drop_zero]
  .rw [List.drop_eq_nil_iff.2 (show m.length<=y by omega),List.append_nil,List.take_of_length_le AC]
 exact hx.symm
structure Ps (s s':Af) (m:List Tk):Prop where
 tk:s'.As=s.As
 le:s.pos<=s'.pos
 ok:s'=s\/(0<=s.pos/\s'.pos<=s.As.length)
 eq:DZ m=DZ (Tv s.As s.pos s'.pos)
theorem Ps.nil (s:Af):Ps s s []:=⟨rfl,Int.le_refl _,.inl rfl,by rw [MP]⟩
theorem Ps.trans {s s1 s2:Af} {m n:List Tk} (h:Ps s s1 m) (k:Ps s1 s2 n):Ps s s2 (m++n):=by
 have ht:=k.tk.trans h.tk
 have hw:DZ (m++n)=DZ m++DZ n:=by unfold DZ;rw [List.filter_append]
 rcases h.ok with rfl|⟨a1,a2⟩
 .refine ⟨ht,k.le,k.ok,?_⟩
  rw [hw,h.eq,MP,k.eq];rfl
 .have U:=h.le
  rcases k.ok with rfl|⟨b1,b2⟩
  .refine ⟨ht,U,.inr ⟨a1,a2⟩,?_⟩
   rw [hw,h.eq,k.eq,MP];exact List.append_nil _
  .have kle:=k.le
   refine ⟨ht,AC,.inr ⟨a1,by rw [<-h.tk];exact b2⟩,?_⟩
   rw [hw,h.eq,k.eq,h.tk,<-mh a1 U kle]
   unfold DZ;rw [List.filter_append]
theorem Ps.still {s s':Af} {m:List Tk} (U:0<=s.pos) (h1:s.pos<=s.As.length) (ht:s'.As=s.As) (hp:s'.pos=s.pos) (hm:DZ m=[]):Ps s s' m:=⟨ht,AC,.inr ⟨U,AC⟩,by rw [hm,hp,MP];rfl⟩
theorem Ps.step {s s':Af} {m:List Tk} {t:Tk} (U:0<=s.pos) (h:s.As[s.pos.toNat]? =some t) (ht:s'.As=s.As) (hp:s'.pos=s.pos+1) (hm:DZ m=DZ [t]):Ps s s' m:=by
 have hl:=(List.getElem?_eq_some_iff.1 h).1
 exact ⟨ht,AC,.inr ⟨U,AC⟩,by rw [hm,hp,mi U h]⟩
theorem Ou {t:Tk} (h:t.kind=16\/t.kind=17):DZ [t]=[]:=by
 unfold DZ lx
 rcases h with h|h<;>simp [h]
def pt (t:Tk):List Tk:=if t.kind<18 then [t] else []
theorem VZ:∀(n:Nat) (s:Af),(∀t ∈ s.As,t.kind<18)->0<=s.pos->s.pos<=s.As.length->(Gk n s).2.2=0->Ps s (Gk n s).2.1 (pt (Gk n s).1)
 |n,s,hN,U,h1,h=>by
  have hend:∀{x:Tk×Af×Int},x=G0 s->x.2.2=0->Ps s x.2.1 (pt x.1):=λ{x} e hx=>by
   subst e
   unfold G0 at hx |-
   split
   .exact .still U h1 rfl rfl rfl
   .rename_i e1
    rw [if_neg e1] at hx
    split
    .exact .still U h1 rfl rfl rfl
    .rename_i e2;rw [if_neg e2] at hx;cases hx
  cases n with
  |zero=>exact hend rfl h
  |succ n=>
   cases ht:s.As[s.pos.toNat]? with
   |none=>exact hend (by rw [Gk,ht]) h
   |some t=>
    have e:Gk (n+1) s=if t.kind=16/\s.wait<2 then ((Ha t s).1,(Ha t s).2,0)
     else if t.kind=16\/t.kind=17 then if (DC t s).1.kind=0 then Gk n (DC t s).2 else ((DC t s).1,(DC t s).2,0) else C9 t s:=by rw [Gk,ht]
    have hl:=(List.getElem?_eq_some_iff.1 ht).1
    rw [e] at h |-
    clear e
    split
    .rename_i hk
     unfold Ha
     split
     .exact .still U h1 rfl rfl rfl
     .split
      .exact .step U ht rfl rfl (by rw [Ou (.inl hk.1)];rfl)
      .exact .still U h1 rfl rfl rfl
    .rename_i hk
     rw [if_neg hk] at h
     split
     .rename_i hk2
      rw [if_pos hk2] at h
      split
      .rename_i hz
       rw [if_pos hz] at h
       rw [FN hz] at h |-
       have h3:Ps s {s with pos:=s.pos+1,wait:=0} []:=.step U ht rfl rfl (by rw [Ou hk2];rfl)
       exact h3.trans (VZ n {s with pos:=s.pos+1,wait:=0} hN (by show 0<=s.pos+1;omega) (by show s.pos+1<=(s.As.length:Int);omega) h)
      .rename_i hz
       unfold DC at hz |-
       split
       .exact .still U h1 rfl rfl rfl
       .rename_i e1
        rw [if_neg e1] at hz
        split
        .exact .step U ht rfl rfl (by rw [Ou hk2];rfl)
        .rename_i e2;rw [if_neg e2] at hz;exact absurd rfl hz
     .rename_i hk2
      rw [if_neg hk2] at h
      have ha:DZ (pt t)=DZ [t]:=by unfold pt;rw [if_pos (hN t (List.mem_of_getElem? ht))]
      unfold C9 at h |-
      split
      .exact .step U ht rfl rfl ha
      .rename_i e1
       rw [if_neg e1] at h
       split
       .rename_i e2
        rw [if_pos e2] at h
        split
        .rename_i e3;rw [if_pos e3] at h;cases h
        .exact .step U ht rfl rfl ha
       .exact .step U ht rfl rfl ha
theorem aM {s:Af} (h:HM s=true):0<=s.pos/\s.pos<=s.As.length:=by
 unfold HM at h
 simp only [Bool.and_eq_true,decide_eq_true_eq] at h
 omega
theorem T8 {s:Af} (hN:∀t ∈ s.As,t.kind<18) (h:(Aa s).2.2=0):Ps s (Aa s).2.1 (pt (Aa s).1):=by
 unfold Aa at h |-
 cases U:HM s with
 |false=>rw [U] at h;cases h
 |true=>
  rw [U,if_pos rfl] at h
  rw [if_pos rfl]
  obtain ⟨h0,h1⟩:=aM U
  exact VZ _ s hN h0 h1 h
theorem SA {t:Tk} (h:Hg t=true):DZ (pt t)=[]:=by
 unfold pt
 split
 .rename_i hk
  unfold Hg at h
  have h:t.kind=15/\(t.text=[123]\/t.text=[125]\/t.text=[59]):=by
   simp only [Bool.or_eq_true,Bool.and_eq_true,beq_iff_eq] at h
   rcases h with h|h
   .omega
   .exact ⟨h.1,by rcases h.2 with (h|h)|h<;>simp [h]⟩
  unfold DZ lx pT
  rcases h with ⟨h1,U|U|U⟩<;>simp [h1,U]
 .rfl
theorem R4 {f:Bool} {l:List Nd}:Hp (DS f l)=Dc l:=by unfold DS;rw [Hp,if_neg Do]
theorem Ps.words {s s':Af} {m n:List Tk} (h:Ps s s' m) (e:DZ n=DZ m):Ps s s' n:=⟨h.tk,h.le,h.ok,e.trans h.eq⟩
theorem Be.ps {l:List Nd} {s s':Af} (h:Be l s s'):(∀t ∈ s.As,t.kind<18)->Ps s s' (Dc l):=by
 induction h with
 |nil s=>intro _;exact Ps.nil s
 |app _ _ U h2=>
   intro hN
   have k1:=U hN
   rw [Kg]
   exact k1.trans (h2 (by rw [k1.tk];exact hN))
 |tok U h2 h3=>
   intro hN
   rw [JR,TU]
   exact (T8 hN U).words (by unfold pt;rw [if_pos h2])
 |skip U h2=>intro hN;exact (T8 hN U).words (by rw [SA h2];rfl)
 |close U=>
   intro hN
   rename_i s
   unfold Dr at U |-
   split
   .rename_i hc
    obtain ⟨h0,U⟩:=aM hc.1
    exact .still h0 U rfl rfl rfl
   .rename_i hc;rw [if_neg hc] at U;cases U
 |node U h2 h3 ih=>
   intro hN
   rw [JR,TV h2]
   exact ih hN
 |block U h2 h3 ih=>
   intro hN
   rename_i f l s s'
   have k1:=T8 hN U
   rw [JR,R4]
   have:=k1.trans (ih (by rw [k1.tk];exact hN))
   refine this.words ?_
   unfold DZ
   rw [List.filter_append]
   have e:=SA h2
   unfold DZ at e
   rw [e];rfl
theorem Path.mu {s t:Af} {l:List Tk} (h:Path s l t):Proofs.Z.mu t+l.length<=Proofs.Z.mu s:=by
 induction h with
 |nil s=>exact Nat.le_refl _
 |cons U h2 _ ih=>rw [List.length_cons];omega
section
variable {st:St} {R:AL->St->Prop}
attribute [local irreducible] Go.Aw.Ag
mutual
theorem TW:∀n:Nd,(Hp n).length<=n.size
 | .mk k f t l c ks=>by
   have:=LO ks
   rw [Hp,Nd.size]
   split
   .rw [List.length_singleton];omega
   .omega
theorem LO:∀l:List Nd,(Dc l).length<=Dm l
 |[]=>Nat.le_refl _
 |n::r=>by
  have:=TW n
  have:=LO r
  rw [Dc,Dm,List.length_append];omega
end
end
def lJ (st m:St) (nv:V) (l:List Nt):Prop:=
 (nv=.slice 5 [] .full/\l=[])\/∃b cap rest,nv=.DM 5 b l.length cap/\m.box b=some ((Kc l).flatten++rest)/\((Kc l).flatten++rest).length=cap*5/\st.box b=none/\l≠[]
structure RW where
 i:Nat
 x:Lx
 wait:Bool
 w1:AF
 nv:V
 m:St
def RW.BH (s:List UInt8) (st:St) (y:RW):Prop:=
 lJ st y.m y.nv y.x.notes/\B5 st y.m y.w1 (y.x.As.length*4) .full 0/\BQ s y.i/\0<=y.x.DX/\y.x.DX<=y.i/\y.x.As.length<=y.i/\y.x.notes.length<=y.i/\(y.wait=true->y.x.notes≠[])
theorem iA (a b:List (List UInt8)):Lib.lens (a++b)=Lib.lens a+Lib.lens b:=by simp [Lib.lens]
theorem iF {x y:Lx} (hv:Vd s) (hp:BQ s p) (h:x.As.length<=p/\Lib.lens (x.As.map Tk.text)<=p) (e:H7 s p x=.inr y):y.As.length<=s.length/\Lib.lens (y.As.map Tk.text)<=s.length:=by
 have hpl:=hp.le
 fun_induction H7 s p x with
 |case1 p x U h1=>cases e
 |case2 p x U h1 h2 h3 ih=>
  obtain ⟨q,e1,e2,e3,e4⟩:=V4 hv hp AC h2
  have eq:(CQ s p).1.toNat=q:=AC
  rw [eq] at ih e
  have hb:=JA e3
  exact ih (e4.l5 hv) ⟨by show x.As.length<=_;omega,by show Lib.lens (x.As.map Tk.text)<=_;omega⟩ e hb.2
 |case3 p x U h1 h2 h3=>injection e with e;subst e;omega
 |case4 p x U h1 h2 h3=>cases e
 |case5 p x U h1 h2 h3 h4 ih=>
  obtain ⟨e0,q,e1,e2,e3,e4⟩:=VH hv hp AC
  have eq:(C3 s p).2.1.toNat=q:=AC
  rw [eq] at ih e
  have hb:=JA e3
  have hpc:(A3 s p q).length=q - p:=Jh AC e3
  have l1:(My s p q (C3 s p).1 x).As.length=x.As.length+1:=by simp [My]
  have l2:Lib.lens ((My s p q (C3 s p).1 x).As.map Tk.text)=Lib.lens (x.As.map Tk.text)+(q - p):=by
   show Lib.lens ((x.As++[_]).map Tk.text)=_
   rw [List.map_append,iA]
   simp [Lib.lens,hpc]
  exact ih (e4.l5 hv) ⟨AC,AC⟩ e hb.2
 |case6 p x U h1 h2 h3 h4=>injection e with e;subst e;omega
 |case7 p x U=>injection e with e;subst e;omega
theorem iB {y:Lx} (e:G3 s=.inr y):y.As.length<=s.length/\Lib.lens (y.As.map Tk.text)<=s.length:=by
 have ok:=ny e
 unfold G3 at e
 split at e
 .cases e
 .split at e
  .cases e
  .split at e
   .cases e
   .exact iF ok.2.1 (BQ.l5 ok.2.1 (.zero s)) ⟨Nat.zero_le _,Nat.zero_le _⟩ e
section
variable {st:St} {R:AL->St->Prop}
theorem sZ {e:Int} (hs:G3 s=.inl (i,e)) (h:∀st',st.le st'->R (.ret (.Bh [.slice 4 [] .full,.slice 5 [] .full,.int .i64 i,.int .i64 e])) st'):PC 13 [.str s] st R:=by
 refine pM (λi' e' U=>?_) (λi' e' st' hle U=>?_) (λx w1 w2 st' U=>?_)
 .rw [hs] at U;injection U with U;injection U with e1 e2;subst e1;subst e2;exact h st (St.le_refl _)
 .rw [hs] at U;injection U with U;injection U with e1 e2;subst e1;subst e2;exact h st' hle
 .rw [hs] at U;cases U
end
structure Tst0 (p:Tk->Bool):Prop where
 e:p ⟨21,[],0,0⟩=false
 z:p eO=false
 k:∀a b:Tk,a.kind=b.kind->a.text=b.text->p a=p b
structure tP (p:Tk->Bool):Prop extends Tst0 p where
 c:p ⟨15,[41],0,0⟩=false
structure sF (p:Tk->Bool):Prop extends Tst0 p where
 b1:p ⟨15,[123],0,0⟩=false
 b2:p ⟨15,[125],0,0⟩=false
theorem UI {k:Int} (h:k≠0/\k≠21):Tst0 (λt=>t.kind==k&&t.text==x):=
 ⟨by show ((21:Int)==k&&_)=false;rw [beq_eq_false_iff_ne.2 (λe=>h.2 e.symm)];rfl,by show ((0:Int)==k&&_)=false;rw [beq_eq_false_iff_ne.2 (λe=>h.1 e.symm)];rfl,λa b U h2=>by rw [U,h2]⟩
theorem sg {k:Int} (h:k≠0/\k≠21) (hc:¬(k=15/\x=[41])):tP (λt=>t.kind==k&&t.text==x):=
 ⟨UI h,by
   by_cases e:k=15
   .subst e
    show ((15:Int)==15&&([41]:List UInt8)==x)=false
    rw [beq_eq_false_iff_ne.2 (λe=>hc ⟨rfl,e.symm⟩),Bool.and_false]
   .show ((15:Int)==k&&_)=false
    rw [beq_eq_false_iff_ne.2 (λf=>e f.symm)];rfl⟩
theorem oT {k:Int} (h:k≠0/\k≠21) (hb:¬(k=15/\(x=[123]\/x=[125]))):sF (λt=>t.kind==k&&t.text==x):=
 ⟨UI h,by
   by_cases e:k=15
   .subst e
    show ((15:Int)==15&&([123]:List UInt8)==x)=false
    rw [beq_eq_false_iff_ne.2 (λe=>hb ⟨rfl,.inl e.symm⟩),Bool.and_false]
   .show ((15:Int)==k&&_)=false
    rw [beq_eq_false_iff_ne.2 (λf=>e f.symm)];rfl,by
   by_cases e:k=15
   .subst e
    show ((15:Int)==15&&([125]:List UInt8)==x)=false
    rw [beq_eq_false_iff_ne.2 (λe=>hb ⟨rfl,.inr e.symm⟩),Bool.and_false]
   .show ((15:Int)==k&&_)=false
    rw [beq_eq_false_iff_ne.2 (λf=>e f.symm)];rfl⟩
inductive Jw (T:Nd->Nd->Prop):List Nd->List Nd->Prop where
 |nil:Jw T [] []
 |cons {a b:Nd} {l m:List Nd}:T a b->Jw T l m->Jw T (a::l) (b::m)
theorem Jw.one {a b:Nd} (h:T a b):Jw T [a] [b]:=.cons h .nil
theorem Jw.app {l m U m':List Nd} (h:Jw T l m) (k:Jw T U m'):Jw T (l++U) (m++m'):=by
 induction h with
 |nil=>exact k
 |cons h1 _ ih=>exact .cons h1 ih
theorem Jw.len {l m:List Nd} (h:Jw T l m):l.length=m.length:=by
 induction h with
 |nil=>rfl
 |cons _ _ U=>rw [List.length_cons,List.length_cons,U]
structure Sm where
 R:Af->Af->Prop
 T:Nd->Nd->Prop
 Out:Af->Prop
 cq:Af->Prop
 out:∀{s s':Af},Out s->mu s'<=mu s->Out s'
 Fe:∀{s s':Af},cq s->mu s'<mu s->Out s'
 yes:∀{s t:Af} {p:Tk->Bool},R s t->sF p->p (Aa s).1=true->(Aa s).2.2=0->cq s\/(p (Aa t).1=true/\(Aa t).2.2=0/\R (Aa s).2.1 (Aa t).2.1/\T (Av (Aa s).1) (Av (Aa t).1))
 no:∀{s t:Af} {p:Tk->Bool},R s t->tP p->p (Aa s).1=false->p (Aa t).1=false
 uZ:∀{s t:Af},R s t->A9 s 15 [41]=false->A9 t 15 [41]=false\/∀p,tP p->p (Aa s).1=false
 mu:∀{s t s' t':Af},R s t->R s' t'->Proofs.Z.mu s'<Proofs.Z.mu s->Proofs.Z.mu t'<Proofs.Z.mu t
 node:∀{k:Int} {l m:List Nd},Jw T l m->T (Ar k l) (Ar k m)
variable (S:Sm)
variable {S}
theorem Sm.is {s t:Af} {k:Int} (hr:S.R s t) (U:k≠0/\k≠21) (hb:¬(k=15/\(x=[123]\/x=[125]))) (h:A9 s k x=true):S.cq s\/(A9 t k x=true/\S.R (Aa s).2.1 (Aa t).2.1/\S.T (Av (Aa s).1) (Av (Aa t).1)):=by
 rcases S.yes (p:=λt=>t.kind==k&&t.text==x) hr (oT U hb) h (FK h U.1) with h|⟨h1,_,h3,h4⟩
 .exact .inl h
 .exact .inr ⟨h1,h3,h4⟩
inductive sr:Nd->Nd->Prop where
 |mk {k f:Int} {t:List UInt8} {a b a' b':Int} {l m:List Nd}:Jw sr l m->sr (.mk k f t a b l) (.mk k f t a' b' m)
theorem Jw.at {T:Nd->Nd->Prop} {l m:List Nd} (h:Jw T l m):∀{i:Nat} {x y:Nd},l[i]? =some x->m[i]? =some y->T x y:=by
 induction h with
 |nil=>intro i x y h;simp at h
 |cons h1 _ ih=>
  intro i x y U hy
  cases i with
  |zero=>simp at U hy;subst U;subst hy;exact h1
  |succ i=>rw [List.getElem?_cons_succ] at U hy;exact ih U hy
mutual
theorem sr.jJ:∀n:Nd,sr n n
 | .mk k f t a b l=>.mk (Jw.jJ l)
theorem Jw.jJ:∀l:List Nd,Jw sr l l
 |[]=>.nil
 |n::r=>.cons (sr.jJ n) (Jw.jJ r)
end
abbrev uI:Tk:=⟨15,[40],0,0⟩
abbrev sL:Tk:=⟨15,[41],0,0⟩
abbrev uW:Tk:=⟨21,[],0,0⟩
structure Pl (s:Af):Prop where
 tk:∀t ∈ s.As,0<t.kind/\t.kind<16
 p0:0<=s.pos
 p1:s.pos<=s.As.length
 op:∀x ∈ s.BT,x=0
 wt:s.wait=0
def LG (s:Af):Af:=⟨uI::(s.As++[sL]),s.pos+1,s.BT,s.wait⟩
theorem Pl.top {s:Af} (h:Pl s):Fi s=0:=by
 unfold Fi
 cases e:s.BT.getLast? with
 |none=>rfl
 |some x=>exact h.op x (List.mem_of_getLast? e)
theorem bf {l:List Int} (h:∀x ∈ l,x=0):(l.any λx=>decide (x<0))=false:=by
 apply Bool.eq_false_iff.2
 intro e
 obtain ⟨x,h1,U⟩:=List.any_eq_true.1 e
 rw [h x h1] at U
 exact absurd U Do
theorem Pl.may {s:Af} (h:Pl s):HM s=true:=by
 unfold HM
 rw [h.wt,bf h.op,decide_eq_true h.p0,decide_eq_true h.p1];rfl
theorem Pl.ug {s:Af} (h:Pl s):HM (LG s)=true:=by
 unfold HM LG
 have U:=h.p0
 have h1:=h.p1
 dsimp only
 rw [h.wt,bf h.op,decide_eq_true (show (0:Int)<=s.pos+1 by omega),decide_eq_true (show s.pos+1<=((uI::(s.As++[sL])).length:Int) by rw [List.length_cons,List.length_append,List.length_singleton];omega)];rfl
theorem Pl.next {s:Af} {t:Tk} (h:Pl s) (U:s.As[s.pos.toNat]? =some t):Aa s=C9 t s:=by
 have hk:=h.tk t (List.mem_of_getElem? U)
 unfold Aa
 rw [if_pos h.may,Fu U h.p0,if_neg AC,if_neg AC]
theorem Pl.iZ {s:Af} {t:Tk} (h:Pl s) (hk:t.kind≠16/\t.kind≠17) (U:(LG s).As[(LG s).pos.toNat]? =some t):Aa (LG s)=C9 t (LG s):=by
 have h0:=h.p0
 unfold Aa
 rw [if_pos h.ug,Fu U (show (0:Int)<=s.pos+1 by omega),if_neg AC,if_neg AC]
theorem gI {s:Af} {t:Tk} (h0:0<=s.pos) (U:s.As[s.pos.toNat]? =some t):(LG s).As[(LG s).pos.toNat]? =some t:=by
 unfold LG
 dsimp only
 rw [show (s.pos+1).toNat=s.pos.toNat+1 by omega,List.getElem?_cons_succ,List.getElem?_append_left (List.getElem?_eq_some_iff.1 U).1]
 exact U
theorem mD {s:Af} (U:0<=s.pos) (h:s.pos=s.As.length):(LG s).As[(LG s).pos.toNat]? =some sL:=by
 unfold LG
 dsimp only
 rw [show (s.pos+1).toNat=s.pos.toNat+1 by omega,List.getElem?_cons_succ,List.getElem?_append_right AC,show s.pos.toNat - s.As.length=0 by omega]
 rfl
theorem Pl.sJ {s:Af} {t:Tk} (h:Pl s) (ht:s.As[s.pos.toNat]? =some t) (hz:(C9 t s).2.2=0):Pl (C9 t s).2.1:=by
 have hl:=(List.getElem?_eq_some_iff.1 ht).1
 have h0:=h.p0
 unfold C9 at hz |-
 split
 .exact ⟨h.tk,by show 0<=s.pos+1;omega,by show s.pos+1<=(s.As.length:Int);omega,λx U=>by
   rcases List.mem_append.1 U with U|U
   .exact h.op x U
   .exact List.mem_singleton.1 U,h.wt⟩
 .rename_i e1
  rw [if_neg e1] at hz
  split
  .rename_i e2
   rw [if_pos e2] at hz
   split
   .rename_i e3;rw [if_pos e3] at hz;cases hz
   .exact ⟨h.tk,by show 0<=s.pos+1;omega,by show s.pos+1<=(s.As.length:Int);omega,λx U=>h.op x ((List.dropLast_sublist _).subset U),h.wt⟩
  .exact ⟨h.tk,by show 0<=s.pos+1;omega,by show s.pos+1<=(s.As.length:Int);omega,h.op,h.wt⟩
theorem Si {s:Af} {t:Tk}:C9 t (LG s)=((C9 t s).1,LG (C9 t s).2.1,(C9 t s).2.2):=by
 unfold C9
 have e:Fi (LG s)=Fi s:=rfl
 rw [e]
 by_cases U:t.kind=15/\t.text=[123]
 .rw [if_pos U,if_pos U];rfl
 .rw [if_neg U,if_neg U]
  by_cases h2:t.kind=15/\t.text=[125]
  .rw [if_pos h2,if_pos h2]
   by_cases h3:s.BT=[]\/Fi s≠0
   .rw [if_pos h3,if_pos (show (LG s).BT=[]\/Fi s≠0 from h3)]
   .rw [if_neg h3,if_neg (show ¬((LG s).BT=[]\/Fi s≠0) from h3)];rfl
  .rw [if_neg h2,if_neg h2];rfl
theorem Pl.cases {s:Af} (h:Pl s):(∃t,s.As[s.pos.toNat]? =some t)\/s.pos=s.As.length:=by
 have U:=h.p0
 have h1:=h.p1
 by_cases e:s.pos=s.As.length
 .exact .inr e
 .exact .inl ⟨_,List.getElem?_eq_getElem (show s.pos.toNat<s.As.length by omega)⟩
theorem Pl.fin {s:Af} (h:Pl s) (e:s.pos=s.As.length):(Aa s).1=uW\/(Aa s).1=eO:=by
 unfold Aa
 rw [if_pos h.may,N5 AC h.p0]
 unfold G0
 split
 .exact .inl rfl
 .rw [if_neg (by rw [h.top];decide)];exact .inr rfl
theorem Pl.ud {s:Af} (h:Pl s) (e:s.pos=s.As.length):Aa (LG s)=(sL,{LG s with pos:=(LG s).pos+1},0):=by
 rw [h.iZ Do (mD h.p0 e)];rfl
theorem Pl.test {s:Af} {p:Tk->Bool} (h:Pl s) (hp:tP p):p (Aa (LG s)).1=p (Aa s).1:=by
 rcases h.cases with ⟨t,ht⟩|e
 .have hk:=h.tk t (List.mem_of_getElem? ht)
  rw [h.next ht,h.iZ AC (gI h.p0 ht),Si]
 .rw [h.ud e]
  show p sL=_
  rw [hp.c]
  rcases h.fin e with U|U
  .rw [U];exact hp.e.symm
  .rw [U];exact hp.z.symm
theorem Pl.has {s:Af} {p:Tk->Bool} (h:Pl s) (hp:Tst0 p) (e:p (Aa s).1=true):∃t,s.As[s.pos.toNat]? =some t:=by
 rcases h.cases with U|U
 .exact U
 .rcases h.fin U with h2|h2
  .rw [h2,hp.e] at e;cases e
  .rw [h2,hp.z] at e;cases e
theorem Pl.go {s:Af} {t:Tk} (h:Pl s) (U:s.As[s.pos.toNat]? =some t):Aa (LG s)=((Aa s).1,LG (Aa s).2.1,(Aa s).2.2)/\((Aa s).2.2=0->Pl (Aa s).2.1):=by
 have hk:=h.tk t (List.mem_of_getElem? U)
 rw [h.next U,h.iZ AC (gI h.p0 U)]
 exact ⟨Si,h.sJ U⟩
theorem Pl.is {s:Af} {k:Int} (h:Pl s) (U:k≠0/\k≠21) (hc:¬(k=15/\x=[41])):A9 (LG s) k x=A9 s k x:=h.test (p:=λt=>t.kind==k&&t.text==x) (sg U hc)
theorem Pl.mu {s:Af} (h:Pl s):mu (LG s)=mu s+4:=by
 have U:=h.p0
 have h1:=h.p1
 unfold Proofs.Z.mu LG
 dsimp only
 rw [List.length_cons,List.length_append,List.length_singleton]
 omega
def Kp {α:Type} (X:α->Af->Prop) (a b:Rd α) (s:Af):Prop:=∀v s',a.run s=.inr (v,s')->Pl s'/\(X v s'\/b.run (LG s)=.inr (v,LG s'))
abbrev tN {α:Type} (a b:Rd α) (s:Af):Prop:=Kp (λ_ _=>False) a b s
def Em {α:Type} (a:Rd α):Prop:=∀s,Pl s->tN a a s
def Rl (s:Af):Prop:=∃t,s.As[s.pos.toNat]? =some t
def Fa {α:Type} (A:Rd α) (s:Af):Prop:=Rd.wp A s (λ_ _=>False) (λ_ _=>True)
section
variable {α β σ:Type} {s:Af} {X:α->Af->Prop} {Y:β->Af->Prop}
theorem Fa.no {A:Rd α} {s':Af} {v:α} (h:Fa A s) (e:A.run s=.inr (v,s')):False:=by
 unfold Fa Rd.wp at h
 rw [e] at h;exact h
theorem Fa.of {A:Rd α} (h:∀v s',A.run s≠.inr (v,s')):Fa A s:=Rd.O3 (λv s' e=>h v s' e) (λ_ _ _=>trivial)
theorem Fa.seq {m:Rd α} {k:α->Rd β} (h:Fa m s):Fa (.seq m k) s:=by
 unfold Fa
 rw [Rd.wp_seq]
 exact Rd.wp_mono h (λ_ _ _ f=>f.elim) (λ_ _ _ _=>trivial)
theorem Kp.fa {A B:Rd α} (h:Fa A s):Kp X A B s:=λv s' e=>(h.no e).elim
theorem Kp.ret {v:α} (h:Pl s):Kp X (.ret v) (.ret v) s:=λw s' e=>by cases e;exact ⟨h,.inr rfl⟩
theorem Kp.fail {e:Er} {b:Rd α}:Kp X (.fail e) b s:=λw s' h=>by cases h
theorem Kp.Mf {t:Af} {e:Er} {b:Rd α}:Kp X (.Mf t e) b s:=λw s' h=>by cases h
theorem Kp.bad {b:Rd α}:Kp X L7 b s:=λw s' h=>by cases h
theorem Kp.wk {a b:Rd α} (h:tN a b s):Kp X a b s:=λv s' e=>by
 obtain ⟨h1,U|U⟩:=h v s' e
 .exact U.elim
 .exact ⟨h1,.inr U⟩
theorem Kp.uk {m m':Rd α} {k k':α->Rd β} (h:tN m m' s) (hk:∀v s',m.run s=.inr (v,s')->Pl s'->Kp Y (k v) (k' v) s'):Kp Y (.seq m k) (.seq m' k') s:=λv s' e=>by
 unfold Rd.seq at e |-
 dsimp only at e |-
 cases U:m.run s with
 |inl p=>rw [U] at e;cases e
 |inr p=>
  rw [U] at e
  obtain ⟨h1,h2|h2⟩:=h p.1 p.2 U
  .exact h2.elim
  .rw [h2]
   exact hk p.1 p.2 U h1 v s' e
theorem Kp.seq {m m':Rd α} {k U:α->Rd β} (h:tN m m' s) (hk:∀v s',Pl s'->Kp Y (k v) (U v) s'):Kp Y (.seq m k) (.seq m' U) s:=Kp.uk h λv s' _=>hk v s'
theorem Kp.look {f U:Af->Rd α} (h:Kp X (f s) (U (LG s)) s):Kp X (.look f) (.look U) s:=h
theorem Kp.ite {c U:Prop} [Decidable c] [Decidable U] {a b a' b':Rd α} (h:U↔c) (h1:c->Kp X a a' s) (h2:¬c->Kp X b b' s):Kp X (if c then a else b) (if U then a' else b') s:=by
 by_cases e:c
 .rw [if_pos e,if_pos (h.2 e)];exact h1 e
 .rw [if_neg e,if_neg (λe'=>e (h.1 e'))];exact h2 e
theorem Kp.is {k:Int} {x:List UInt8} {a b U b':Rd α} (h:Pl s) (hk:k≠0/\k≠21) (hc:¬(k=15/\x=[41])) (h1:Rl s->Kp X a U s) (h2:Kp X b b' s):Kp X (if A9 s k x=true then a else b) (if A9 (LG s) k x=true then U else b') s:=
 Kp.ite (by rw [h.is hk hc]) (λe=>h1 (h.has (p:=λt=>t.kind==k&&t.text==x) (UI hk) e)) λ_=>h2
theorem Pl.same (h:Pl s) (r:Rl s):(Aa (LG s)).1=(Aa s).1:=by
 obtain ⟨t,U⟩:=r
 rw [(h.go U).1]
theorem Kp.loop {body:σ->Rd (Sum σ α)} (h:∀x s,Pl s->Kp (λr s1=>∃x',r=.inl x'/\Fa (.loop body x') s1) (body x) (body x) s) (x:σ):Em (.loop body x):=λs=>by
 show Pl s->∀v s',Rd.iter body x s=.inr (v,s')->Pl s'/\(False\/Rd.iter body x (LG s)=.inr (v,LG s'))
 fun_induction Rd.iter body x s with
 |case1 x s p h1=>intro hs v s' e;cases e
 |case2 x s y s1 h1=>
  intro hs v s' e
  cases e
  obtain ⟨h2,⟨x',U,_⟩|U⟩:=h x s hs _ _ h1
  .cases U
  .refine ⟨h2,.inr ?_⟩
   rw [Rd.iter,U]
 |case3 x s x' s1 h1 hlt ih=>
  intro hs v s' e
  obtain ⟨h2,⟨x2,U,h4⟩|U⟩:=h x s hs _ _ h1
  .cases U
   exact (h4.no (v:=v) (s':=s') e).elim
  .obtain ⟨h4,h5⟩:=ih h2 v s' e
   refine ⟨h4,?_⟩
   rw [Rd.iter,U]
   dsimp only
   rw [if_pos (by rw [hs.mu,h2.mu];omega)]
   exact h5
 |case4 x s x' s1 h1 hlt=>intro hs v s' e;cases e
theorem Kp.tk {X:Nd->Af->Prop} (h:Pl s) (r:Rl s):Kp X A0 A0 s:=λv s' U=>by
 obtain ⟨t,ht⟩:=r
 obtain ⟨h1,h2⟩:=h.go ht
 by_cases hz:(Aa s).2.2=0
 .rw [CU hz] at U
  cases U
  refine ⟨h2 hz,.inr ?_⟩
  rw [CU (by rw [h1];exact hz),h1]
 .rw [H2 hz] at U;cases U
end
def sC {α:Type} (A:Rd α):Prop:=∀s,Pl s->s.pos=s.As.length->Fa A s
theorem Pl.no {s:Af} {p:Tk->Bool} (h:Pl s) (e:s.pos=s.As.length) (hp:Tst0 p):p (Aa s).1=false:=by
 rcases h.fin e with U|U
 .rw [U];exact hp.e
 .rw [U];exact hp.z
section
variable {A B C D E:Rd Nd} {L:C8} {s:Af} {o:Nd}
structure uC (L:C8):Prop where
 atom:Em L.atom
 exp:Em L.exp
 ops:Em L.ops
 decls:Em L.decls
 stmts:Em L.stmts
 alts:Em L.alts
 DT:∀o,Em (L.DT o)
 list:∀o,Em (L.list o)
 uY:sC L.ops
 hb:∀o,sC (L.DT o)
 KE:∀o s,Pl s->A9 s 5 [45]=true->(Aa s).2.1.pos=(Aa s).2.1.As.length->Fa (L.DT o) s
end
theorem nA {x y:Lx} (h:∀t ∈ x.As,t.text.length<=s.length/\1<=t.line/\t.line<=1+s.length) (e:H7 s p x=.inr y):∀t ∈ y.As,t.text.length<=s.length/\1<=t.line/\t.line<=1+s.length:=by
 fun_induction H7 s p x with
 |case1 p x U h1=>cases e
 |case2 p x U h1 h2 h3 ih=>exact ih h e
 |case3 p x U h1 h2 h3=>injection e with e;subst e;exact h
 |case4 p x U h1 h2 h3=>cases e
 |case5 p x U h1 h2 h3 h4 ih=>
  refine ih (λt ht=>?_) e
  rcases List.mem_append.1 ht with ht|ht
  .exact h t ht
  .rw [List.mem_singleton.1 ht]
   have:=RM s.length s p (1,1) (Nat.le_refl _) Do
   refine ⟨?_,this.1,this.2.1⟩
   show (A3 s p _).length<=_
   unfold A3
   rw [List.length_drop,List.length_take]
   omega
 |case6 p x U h1 h2 h3 h4=>injection e with e;subst e;exact h
 |case7 p x U=>injection e with e;subst e;exact h
theorem nz {y:Lx} (hl:s.length<=2000) (e:G3 s=.inr y):Yb y.As:=by
 unfold G3 at e
 split at e
 .cases e
 .split at e
  .cases e
  .split at e
   .cases e
   .exact λt U=>by have:=nA (λt U=>by cases U) e t U;omega
theorem SC (l:List Tk):(Gx l).length<=2*l.length+1:=by
 have h:=Lk l none
 have U:(SB l).length<=1:=by
  unfold SB
  split
  .exact Nat.le_refl _
  .split<;>simp
 unfold Gx
 rw [List.length_append]
 omega
section
variable {st:St} {K R:AL->St->Prop} {s:List UInt8} {deep:Int}
theorem mI {q:Int×Int} (hs:G3 s=.inl q) (h:∀st',st.le st'->K (.ret (Am ⟨Gx [],0,[],0⟩)) st'):PC 19 [.str s] st K:=by
 refine pB Tryz.func19 ?_
 obtain ⟨i,e⟩:=q
 repeat' ((conv=>whnf);first|(refine AG ?_;intros)|(refine AH ?_ ?_<;>intro e h)|(refine AJ ?_ ?_<;>intro _)|refine sZ hs (λst1 U=>?_)|refine aO (l:=[]) (λt ht=>(by cases ht)) Do ?_)
 all_goals exact ⟨_,_,.inr rfl,St.le_refl _,h st1 U⟩
theorem mJ (U:s.length<=2000):∃s0:Af,mu s0<=100000000/\∀{st:St} {K:AL->St->Prop},(∀st',st.le st'->K (.ret (Am s0)) st')->PC 19 [.str s] st K:=by
 cases e:G3 s with
 |inl q=>exact ⟨⟨Gx [],0,[],0⟩,by have:=SC [];unfold mu;simp only [List.length_nil] at *;omega,λh=>mI e h⟩
 |inr x=>
  have h1:=(iB e).1
  have h2:=SC x.As
  exact ⟨⟨Gx x.As,0,[],0⟩,by unfold mu;simp only [List.length_nil];omega,λh=>ak e (nz U e) AC h⟩
theorem Vl (h:∀st',R (.ret (.bool true)) st'):PC 4 [.str s,.int .i64 deep] st R:=by
 refine pB Tryz.func4 ?_
 by_cases hs:(s.length:Int)>2000
 .skip
  repeat' ((conv=>whnf);first|exact Dk|(refine AG ?_;intros)|(refine Dl ?_ ?_ ?_;rotate_left)|(refine AH ?_ ?_<;>intro e h)|(refine AJ ?_ ?_<;>intro _)|refine WJ (λ_=>?_)|refine Fm (λst1 U=>?_)|with_reducible refine WF ?_)
  all_goals exact fin (h _) rfl
 .obtain ⟨s0,hm,hread⟩:=mJ (s:=s) AC
  obtain ⟨q,hq⟩:∃q,Ew s0 deep (CS (Hy (B7 deep)) s0)=q:=⟨_,rfl⟩
  repeat' ((conv=>whnf);first|exact Dk|(refine AG ?_;intros)|(refine Dl ?_ ?_ ?_;rotate_left)|(refine AH ?_ ?_<;>intro e h)|(refine AJ ?_ ?_<;>intro _)|refine WJ (λ_=>?_)|refine hread (λst1 U=>?_)|refine Fm (λst1 U=>?_)|refine X1 hm hq ?_|refine WV hm hq (λst1 U=>?_)|refine MT ?_|refine Ae [(0,false),(1,true),(2,true),(3,true),(4,true),(5,true),(6,true),(7,false),(8,false),(9,true),(10,true)] [] GE ?_|with_reducible refine WF ?_)
  all_goals exact fin (h _) rfl
end
end Go.Proofs.Z
