/-
  Parts of a proof: lemmas that the last text uses.
-/
import Derived.Test.YtpkekfapphbgjaaGreatDoorB6
set_option linter.unusedVariables false
set_option linter.unusedSimpArgs false
set_option maxHeartbeats 16000000
variable {c v e ln D6:Int} {tx j:Bool} {l s w t:List UInt8} {i n b p m pos k sp n2:Nat} {o:List Int} {w1 w2:Go.Aw.AA} {g:List (Nat×Nat)} {st0:Go.Aw.St} {P:Go.Program} {Q:Go.Aw.AD->Go.Aw.Env->Go.Aw.St->Prop} {env:Go.Aw.Env} {α:Type} {K:Go.Aw.V->Go.Aw.St->Prop} {AV notes:List (List Go.Aw.V)}
namespace Go.Aw
open Go
theorem oB (l:List UInt8):EL (J2 l)=EL (AE l):=by
 rcases Js l with ⟨U,h2⟩|⟨U,h2⟩
 .rw [U,h2];rfl
 grind
theorem oC (h:EL c=none):c≠92/\c≠34/\c≠39:=by
 refine ⟨λe=>?_,λe=>?_,λe=>?_⟩<;>(subst e;cases h)
theorem u8_in {a:Int} (U:0<=a) (h2:a<=255):IntKind.u8.wrap a=a:=IntWalk.u8_in _ ⟨U,h2⟩
theorem Vy (h:EL (AE (l.drop 1))=some v):Dq tx l=some (v,2):=by unfold Dq;rw [h]
theorem Vt (h:AE (l.drop 1)=38):Dq true l=some (-1,2):=by
 unfold Dq;rw [show EL (AE (l.drop 1))=none by rw [h];rfl]
 simp_all
theorem Vu (h:AE (l.drop 1)=94) (U:64<=AE (l.drop 2)) (h2:AE (l.drop 2)<=95):Dq tx l=some (AE (l.drop 2) - 64,3):=by
 unfold Dq;rw [show EL (AE (l.drop 1))=none by rw [h];rfl]
 simp_all
theorem Vx (h:AE (l.drop 1)=111):Dq tx l=(Hb 8 (l.drop 2)).map λp=>(p.1,2+p.2):=by
 unfold Dq;rw [show EL (AE (l.drop 1))=none by rw [h];rfl]
 simp_all
theorem Vw (h:AE (l.drop 1)=120):Dq tx l=(Hb 16 (l.drop 2)).map λp=>(p.1,2+p.2):=by
 unfold Dq;rw [show EL (AE (l.drop 1))=none by rw [h];rfl]
 simp_all
theorem Vv (h:48<=AE (l.drop 1)) (U:AE (l.drop 1)<=57):Dq tx l=(Hb 10 (l.drop 1)).map λp=>(p.1,1+p.2):=by
 have hs:EL (AE (l.drop 1))=none:=by
  unfold EL
  (repeat' split)<;>first|rfl|(exfalso;omega)
 unfold Dq;grind
theorem Jz (h:EL (AE (l.drop 1))=none) (U:¬(AE (l.drop 1)=38/\tx=true)) (h2:¬(AE (l.drop 1)=94/\64<=AE (l.drop 2)/\AE (l.drop 2)<=95)) (h3:AE (l.drop 1)≠111) (h4:AE (l.drop 1)≠120) (h5:¬(48<=AE (l.drop 1)/\AE (l.drop 1)<=57)):
 Dq tx l=if 0<(Ha (l.drop 1)).2 then some ((Ha (l.drop 1)).1,1+(Ha (l.drop 1)).2) else none:=by
 unfold Dq;grind
end Go.Aw
namespace Go.Proofs.Z
open Go Go.Aw
section
variable {st:St} {R:At->St->Prop}
theorem nO {i:Int} (e:i.toNat=n) (U:s.length<=100000000) (h:R (.ret (.Bj [.int .i64 (Ha (s.drop n)).1,.int .i64 (Ha (s.drop n)).2])) st):PC 334 [.str (s.drop i.toNat)] st R:=by
 rw [e];exact nN (by grind) h
theorem Vz (hl:s.length<=100000000) (hp:p<s.length) (hb:st.box b=some (qC s p tx o w1 g w2))
 (h:∀v n,Dq tx (s.drop p)=some (v,n)->R (.ret (.int .i64 v)) (st.Aa b (qC s (p+n) tx o w1 g w2))) (h0:Dq tx (s.drop p)=none->∀q,R (.BK (IX p 51)) (st.Aa b (qC s q tx o w1 g w2))):
 PC 297 [.ptr b 0] st R:=by
 have d1:(s.drop p).drop 1=s.drop (p+1):=List.drop_drop
 have d2:(s.drop p).drop 2=s.drop (p+1+1):=List.drop_drop
 refine AP Ab [] Tryz.func297 rfl Do rfl ?_
 refine Af (Ae Ab ?_)
 repeat' ((conv=>whnf);first|exact Du|(refine Br ?_;intros)|(refine Dw ?_ ?_ ?_;rotate_left)|(refine BR ?_ ?_<;>intro _)|refine Ad 15 [9] [] ?_|refine An GE ?_|fail)
 refine Af (Ae Ab ?_)
 repeat' ((conv=>whnf);first|exact Du|(refine Br ?_;intros)|(refine Dw ?_ ?_ ?_;rotate_left)|(refine BR ?_ ?_<;>intro _)|refine Am hb ?_|refine Ad 15 [9] [] ?_|refine An GE ?_|fail)
 refine Af (Ae Ab ?_)
 repeat' ((conv=>whnf);first|exact Du|(refine Br ?_;intros)|(refine Dw ?_ ?_ ?_;rotate_left)|(refine BR ?_ ?_<;>intro _)|refine Am hb ?_|refine Ad 15 [9] [] ?_|refine An GE ?_|fail)
 refine ZK (st':=st.Aa b (qC s (p+1) tx o w1 g w2)) rfl ?_
 have endq:∀{i:Int} {q:Nat},i=(q:Int)->(st.Aa b (qC s (p+1) tx o w1 g w2)).Aa b [V.str s,.int .i64 i,.bool tx,.slice 1 (ints o) w1,.slice 2 (dB g) w2]=st.Aa b (qC s q tx o w1 g w2):=λe=>by rw [St.JL,SF e]
 have endp:∀{q:Nat},(st.Aa b (qC s (p+1) tx o w1 g w2)).Aa b (qC s q tx o w1 g w2)=st.Aa b (qC s q tx o w1 g w2):=St.JL _ _ _ _
 have U:(st.Aa b (qC s (p+1) tx o w1 g w2)).box b=some (qC s (p+1) tx o w1 g w2):=St.AJ _ _ _
 have h0':=λe=>h0 e (p+1)
 generalize hst:st.Aa b (qC s (p+1) tx o w1 g w2)=st1 at U endq endp h0'
 have hx1:=Js (s.drop (p+1))
 have hx2:=Js (s.drop (p+1+1))
 have hxl:=Ns (s.drop (p+1))
 have hby0:∀{R:At->St->Prop},R (.ret (.int .u8 (J2 (s.drop (p+1))))) st1->PC 243 [.ptr b 0,.int .i64 0] st1 R:=λh=>Eo (k:=0) hl AC Do U h
 have hby1:∀{R:At->St->Prop},R (.ret (.int .u8 (J2 (s.drop (p+1+1))))) st1->PC 243 [.ptr b 0,.int .i64 1] st1 R:=λh=>Eo (k:=1) hl AC Do U h
 have l1:=λh=>BS (l:=s) (k:=p+1) h
 have l2:=λh=>BS (l:=s) (k:=p+1+1) h
 cases hsg:EL (AE (s.drop (p+1))) with
 |some v=>
  have hv:=MK hsg
  have h1:=h v 2 (Vy kw)
  have hsn:∀{R:At->St->Prop},R (.ret (sk (some v))) st1->PC 332 [.int .u8 (J2 (s.drop (p+1)))] st1 R:=λh=>kz AC AC (by grind)
  refine Ae Ab ?_
  repeat' ((conv=>whnf);first|exact Du|(refine Br ?_;intros)|(refine Dw ?_ ?_ ?_;rotate_left)|(refine BR ?_ ?_<;>intro _)|refine hby0 ?_|refine hsn ?_|refine Am U ?_|refine Ad 15 [9] [] ?_|refine An GE ?_|fail)
  exact HH (endq AC) h1 rfl
 |none=>
  have hne:=oC hsg
  have hsn:∀{R:At->St->Prop},R (.ret (sk none)) st1->PC 332 [.int .u8 (J2 (s.drop (p+1)))] st1 R:=λh=>kz AC AC (by rw [oB,hsg];exact h)
  refine Af (Ae Ab ?_)
  repeat' ((conv=>whnf);first|exact Du|(refine Br ?_;intros)|(refine Dw ?_ ?_ ?_;rotate_left)|(refine BR ?_ ?_<;>intro _)|refine hby0 ?_|refine Ad 15 [9] [] ?_|refine An GE ?_|fail)
  refine Af (Ae Ab ?_)
  repeat' ((conv=>whnf);first|exact Du|(refine Br ?_;intros)|(refine Dw ?_ ?_ ?_;rotate_left)|(refine BR ?_ ?_<;>intro _)|refine hsn ?_|refine Ad 15 [9] [] ?_|refine An GE ?_|fail)
  by_cases c1:AE (s.drop (p+1))=38/\tx=true
  .obtain ⟨c1,rfl⟩:=c1
   have h1:=h (-1) 2 (Vt kw)
   refine Ae Ab ?_
   repeat' ((conv=>whnf);first|exact Du|(refine Br ?_;intros)|(refine Dw ?_ ?_ ?_;rotate_left)|(refine BR ?_ ?_<;>intro _)|refine Am U ?_|refine Ad 15 [9] [] ?_|refine An GE ?_|fail)
   exact HH (endq AC) h1 rfl
  by_cases c2:AE (s.drop (p+1))=94/\64<=AE (s.drop (p+1+1))/\AE (s.drop (p+1+1))<=95
  .obtain ⟨c2,c3,c4⟩:=c2
   have h1:=h _ 3 (Vu kw kw kw)
   rw [d2] at h1
   have hp2:=l2 AC
   obtain ⟨e,he⟩:∃e,s[p+1+1]? =some e:=⟨s[p+1+1],List.getElem?_eq_getElem hp2⟩
   have he':s[(((p+1:Nat):Int)+2 - 1).toNat]? =some e:=by rw [show (((p+1:Nat):Int)+2 - 1).toNat=p+1+1 by omega];exact he
   have hv:=Ck he
   have hew:∀{K:Int->Prop},K (AE (s.drop (p+1+1)) - 64)->∃r,r=IntKind.u8.wrap ((e.toNat:Nat) - 64:Int)/\K r:=λk=>⟨_,by rw [hv];exact (u8_in AC AC).symm,k⟩
   refine Ae Ab ?_
   repeat' ((conv=>whnf);first|exact Du|(refine Br ?_;intros)|(refine Dw ?_ ?_ ?_;rotate_left)|(refine BR ?_ ?_<;>intro _)|refine hby1 ?_|refine Am U ?_|refine Am (St.AJ _ _ _) ?_|refine hew ?_|refine Ad 15 [9] [] ?_|refine An GE ?_|fail)
   exact HH (endq AC) h1 rfl
  by_cases c3:AE (s.drop (p+1))=111
  .have he:=Vx (tx:=tx) (l:=s.drop p) kw
   rw [d2] at he
   have hp1:=l1 AC
   refine Ae Ab ?_
   repeat' ((conv=>whnf);first|exact Du|(refine Br ?_;intros)|(refine Dw ?_ ?_ ?_;rotate_left)|(refine BR ?_ ?_<;>intro _)|refine Am U ?_|refine PH (k:=1) hl AC (.inl rfl) U (λv n hv=>?_) (λhv=>?_)|refine Ad 15 [9] [] ?_|refine An GE ?_|fail)
   all_goals try rw [hv] at he
   .have h1:=h v (2+n) he
    exact HH (endp.trans (by grind)) h1 rfl
   .exact fin (h0' he) rfl
  by_cases c4:AE (s.drop (p+1))=120
  .have he:=Vw (tx:=tx) (l:=s.drop p) kw
   rw [d2] at he
   have hp1:=l1 AC
   refine Ae Ab ?_
   repeat' ((conv=>whnf);first|exact Du|(refine Br ?_;intros)|(refine Dw ?_ ?_ ?_;rotate_left)|(refine BR ?_ ?_<;>intro _)|refine Am U ?_|refine PH (k:=1) hl AC (.inr (.inr rfl)) U (λv n hv=>?_) (λhv=>?_)|refine Ad 15 [9] [] ?_|refine An GE ?_|fail)
   all_goals try rw [hv] at he
   .have h1:=h v (2+n) he
    exact HH (endp.trans (by grind)) h1 rfl
   .exact fin (h0' he) rfl
  by_cases c5:48<=AE (s.drop (p+1))/\AE (s.drop (p+1))<=57
  .have he:=Vv (tx:=tx) (l:=s.drop p) kw kw
   rw [d1] at he
   have hp1:=l1 AC
   refine Ae Ab ?_
   repeat' ((conv=>whnf);first|exact Du|(refine Br ?_;intros)|(refine Dw ?_ ?_ ?_;rotate_left)|(refine BR ?_ ?_<;>intro _)|refine Am U ?_|refine PH (k:=0) hl AC (.inr (.inl rfl)) U (λv n hv=>?_) (λhv=>?_)|refine Ad 15 [9] [] ?_|refine An GE ?_|fail)
   all_goals try rw [show Hb 10 (s.drop (p+1))=_ from hv] at he
   .have h1:=h v (1+n) he
    exact HH (endp.trans (by grind)) h1 rfl
   .exact fin (h0' he) rfl
  .have he:=Jz (tx:=tx) (l:=s.drop p) kw kw kw kw kw kw
   rw [d1] at he
   have hc1:J2 (s.drop (p+1))=38->tx=false:=λe=>by simp_all
   have hnl:=Ub (s.drop (p+1)) CN 0 (0,0) (Nat.zero_le _)
   have hnn:(Ha (s.drop (p+1))).2<=s.length - (p+1):=by simp only [Ha];rw [List.length_drop] at hnl;omega
   have f2:¬(J2 (s.drop (p+1))=94/\64<=J2 (s.drop (p+1+1))/\J2 (s.drop (p+1+1))<=95):=λe=>c2 ⟨AC,AC,AC⟩
   have f3:¬J2 (s.drop (p+1))=111:=AC
   have f4:¬J2 (s.drop (p+1))=120:=AC
   have f5:¬(48<=J2 (s.drop (p+1))/\J2 (s.drop (p+1))<=57):=AC
   have e1:=λ(n:Nat) (hn:(Ha (s.drop (p+1))).2=n) (h0:0<n)=>h _ (1+n) (by rw [he,hn,if_pos h0])
   have e2:=λ(h0:¬0<(Ha (s.drop (p+1))).2)=>h0' kw
   generalize J2 (s.drop (p+1))=x1 at hby0 hc1 f2 f3 f4 f5 hx1 hsn
   generalize J2 (s.drop (p+1+1))=x2 at hby1 f2 hx2
   generalize hN:Ha (s.drop (p+1))=N at e1 e2 hnn
   obtain ⟨v,n⟩:=N
   have e1:=e1 n rfl
   dsimp only at e1 e2 hnn
   have hnam:∀{i:Int} {R:At->St->Prop},i.toNat=p+1->R (.ret (.Bj [.int .i64 v,.int .i64 (n:Int)])) st1->PC 334 [.str (s.drop i.toNat)] st1 R:=λe h=>nO e hl kw
   clear he h h0 h0' hsg hne hsn c1 c2 c3 c4 c5 hx1 hx2 hxl l1 l2 d1 d2 hnl hby0 endp hb hN
   by_cases h38:x1=38
   .have e:=hc1 h38
    subst e
    refine Ae Ab ?_
    repeat' ((conv=>whnf);first|exact Du|(refine Br ?_;intros)|(refine Dw ?_ ?_ ?_;rotate_left)|(refine BR ?_ ?_<;>intro _)|refine hby1 ?_|refine Am U ?_|refine hnam AC ?_|refine FV ?_|refine Ad 15 [9] [] ?_|refine An GE ?_|fail)
    all_goals first
     |exact HH (endq AC) (e1 AC) rfl
     |exact fin (e2 AC) rfl
   .clear hc1
    refine Ae Ab ?_
    repeat' ((conv=>whnf);first|exact Du|(refine Br ?_;intros)|(refine Dw ?_ ?_ ?_;rotate_left)|(refine BR ?_ ?_<;>intro _)|refine hby1 ?_|refine Am U ?_|refine hnam AC ?_|refine FV ?_|refine Ad 15 [9] [] ?_|refine An GE ?_|fail)
    all_goals first
     |exact HH (endq AC) (e1 AC) rfl
     |exact fin (e2 AC) rfl
end
end Go.Proofs.Z
namespace Go.Aw
open Go
theorem QP (h:0<Ch l):Di true l=.inr (-1,Ch l):=by
 cases l with
 |nil=>exact absurd h Do
 |cons a r=>
  have U:AE (a::r)=92:=by
   by_cases U:AE (a::r)=92
   .exact U
   .unfold Ch at h;simp_all
  unfold Di
  simp_all
theorem Ih (U:AE l=92) (h:tx=false\/Ch l=0):Di tx l=match Dq tx l with|none=>.inl 51|some p=>.inr p:=by
 cases l with
 |nil=>exact absurd U Do
 |cons a r=>
  unfold Di
  grind
theorem Kk (U:l≠[]) (h1:AE l≠92):Di tx l=if LB (AR l) then .inl 50 else .inr (((AR l).1:Nat),(AR l).2):=by
 cases l with
 |nil=>rfl
 |cons a r=>
  unfold Di
  simp_all
theorem Yf (h:Ax c≠0):c<=1114111:=by
 by_cases U:c<=1114111
 .exact U
 .refine absurd ?_ h
  unfold Ax J0
  omega
theorem Td {c:Nat}:LB (c,m)=true↔Ax (c:Int)=0\/(Ax (c:Int)=1/\¬c=32)\/(c=65533/\m=1):=by
 simp only [LB,Bool.or_eq_true,Bool.and_eq_true,Bool.not_eq_true',beq_iff_eq,beq_eq_false_iff_ne,ne_eq]
 omega
def Uk (o:List Int) (v:Int):List Int:=if v= -1 then o else o++[v]
end Go.Aw
namespace Go.Proofs.Z
open Go Go.Aw
def QB (st0 st:St) (b:Nat) (s:List UInt8) (tx:Bool):Prop:=∃q o w1 g w2,st.box b=some (qC s q tx o w1 g w2)/\BU st0 st w1 o.length w2 (2*g.length)
section
variable {st:St} {R:At->St->Prop}
attribute [local irreducible] Go.Aw.Ag
theorem tg (hl:s.length<=100000000) (hp:p<=s.length) (hb:st.box b=some (qC s p tx o w1 g w2)) (hr:BU st0 st w1 o.length w2 (2*g.length)) (hgl:g.length<=100000000)
 (h0:(tx=false\/Ch (s.drop p)=0)->R (.ret (.bool false)) st)
 (h:tx=true->0<Ch (s.drop p)->∀w2' st',BU st0 st' w1 o.length w2' (2*(g++[(p,p+Ch (s.drop p))]).length)->st'.box=st.box->R (.ret (.bool true)) (st'.Aa b (qC s (p+Ch (s.drop p)) true o w1 (g++[(p,p+Ch (s.drop p))]) w2'))):PC 296 [.ptr b 0] st R:=by
 by_cases hg:tx=false\/Ch (s.drop p)=0
 .exact qQ hl hp hb hg (h0 hg)
 .have ht:tx=true:=by cases tx;· simp_all
                      rfl
  subst ht
  have U:0<Ch (s.drop p):=by
   rcases Nat.eq_zero_or_pos (Ch (s.drop p)) with e|e
   .omega
   .exact e
  exact mO hl hb U hr hgl (h rfl U)
theorem pT (hl:s.length<=100000000) (hp:p<=s.length) (hb0:st0.box b=none) (hb:st.box b=some (qC s p tx o w1 g w2)) (hr:BU st0 st w1 o.length w2 (2*g.length))
 (ho:o.length<=100000000) (hgl:g.length<=100000000)
 (h0:∀e,Di tx (s.drop p)=.inl e->∀st',QB st0 st' b s tx->R (.BK (IX p e)) st')
 (h:∀v n,Di tx (s.drop p)=.inr (v,n)->∀w1' w2' st' g',BU st0 st' w1' (Uk o v).length w2' (2*g'.length)->st'.box b=some (qC s (p+n) tx (Uk o v) w1' g' w2')->g'=(if tx=true/\0<Ch (s.drop p) then g++[(p,p+n)] else g)->R (.ret (.Bj [])) st'):
 PC 244 [.ptr b 0] st R:=by
 have hqb:QB st0 st b s tx:=⟨p,o,w1,g,w2,hb,hr⟩
 refine AP Ab [] Tryz.func244 rfl Do rfl ?_
 by_cases U:s.length<=p
 .have hd:s.drop p=[]:=List.drop_eq_nil_iff.2 AC
  have h0:=h0 50 (by rw [hd];rfl) st hqb
  refine Ae Ab ?_
  repeat' ((conv=>whnf);first|exact Du|(refine Br ?_;intros)|(refine Dw ?_ ?_ ?_;rotate_left)|(refine BR ?_ ?_<;>intro _)|refine Am hb ?_|refine FV ?_|refine Ad 14 [8] [] ?_|refine An GE ?_|fail)
  exact fin h0 rfl
 have U:p<s.length:=AC
 obtain ⟨e,he⟩:∃e,s[p]? =some e:=⟨s[p],List.getElem?_eq_getElem U⟩
 have he':s[(p:Int).toNat]? =some e:=he
 have hv:=Ck he
 refine Af (Ae Ab ?_)
 repeat' ((conv=>whnf);first|exact Du|(refine Br ?_;intros)|(refine Dw ?_ ?_ ?_;rotate_left)|(refine BR ?_ ?_<;>intro _)|refine Am hb ?_|refine FV ?_|refine Ad 14 [8] [] ?_|refine An GE ?_|fail)
 refine Af (Ae Ab ?_)
 repeat' ((conv=>whnf);first|exact Du|(refine Br ?_;intros)|(refine Dw ?_ ?_ ?_;rotate_left)|(refine BR ?_ ?_<;>intro _)|refine tg hl hp hb hr hgl (λhg=>?_) (λht hg w2' st1 hr1 hb1=>?_)|refine Ad 14 [8] [] ?_|refine An GE ?_|fail)
 .by_cases h92:AE (s.drop p)=92
  .have h1:=Ih h92 hg
   have hng:¬(tx=true/\0<Ch (s.drop p)):=λx=>by simp_all
   rcases hesc:Dq tx (s.drop p) with _|⟨v,n⟩
   .rw [hesc] at h1
    have h0:=h0 51 h1
    have hE:∀{R:At->St->Prop},(∀q,R (.BK (IX p 51)) (st.Aa b (qC s q tx o w1 g w2)))->PC 297 [.ptr b 0] st R:=λh=>Vz hl U hb (λv n x=>by simp_all) (λ_=>h)
    refine Ae Ab ?_
    repeat' ((conv=>whnf);first|exact Du|(refine Br ?_;intros)|(refine Dw ?_ ?_ ?_;rotate_left)|(refine BR ?_ ?_<;>intro _)|refine Am hb ?_|refine hE (λq=>?_)|refine Ad 14 [8] [] ?_|refine An GE ?_|fail)
    exact fin (h0 _ ⟨_,_,_,_,_,St.AJ _ _ _,hr.set hb0 _⟩) rfl
   .rw [hesc] at h1
    have hn:=Tz hesc
    rw [List.length_drop] at hn
    dsimp only at hn
    have h:=h v n h1
    rw [if_neg hng] at h
    have hb2:=St.AJ st b (qC s (p+n) tx o w1 g w2)
    have hr2:=hr.set hb0 (qC s (p+n) tx o w1 g w2)
    have hE:∀{R:At->St->Prop},R (.ret (.int .i64 v)) (st.Aa b (qC s (p+n) tx o w1 g w2))->PC 297 [.ptr b 0] st R:=λh=>Vz hl U hb (λv' n' x=>by simp_all) (λx=>by simp_all)
    generalize st.Aa b (qC s (p+n) tx o w1 g w2)=st2 at hb2 hr2 hE
    unfold Uk at h
    by_cases hv1:v= -1
    .rw [if_pos hv1] at h
     refine Ae Ab ?_
     repeat' ((conv=>whnf);first|exact Du|(refine Br ?_;intros)|(refine Dw ?_ ?_ ?_;rotate_left)|(refine BR ?_ ?_<;>intro _)|refine Am hb ?_|refine hE ?_|refine Ad 14 [8] [] ?_|refine An GE ?_|fail)
     all_goals first
      |exact fin (h w1 w2 st2 g hr2 hb2 rfl) rfl
      |(exfalso;omega)
    .rw [if_neg hv1] at h
     refine Ae Ab ?_
     repeat' ((conv=>whnf);first|exact Du|(refine Br ?_;intros)|(refine Dw ?_ ?_ ?_;rotate_left)|(refine BR ?_ ?_<;>intro _)|refine Am hb ?_|refine Am hb2 ?_|refine hE ?_|refine Xg hr2 AC (λw1' st3 hr3 hb3=>?_)|refine Am ((congrFun hb3 b).trans hb2) ?_|refine Ad 14 [8] [] ?_|refine An GE ?_|fail)
     exact fin (h w1' w2 _ g (hr3.set hb0 _) (St.AJ _ _ _) rfl) rfl
  .have h1:=Kk (tx:=tx) (Ka U) h92
   have hng:¬(tx=true/\0<Ch (s.drop p)):=λx=>by simp_all
   rcases hd:AR (s.drop p) with ⟨c,m⟩
   have hrn:=rune_le U hd.symm
   have hx:Mq s p=((c:Int),(m:Int)):=by rw [Ms AC AC,LU U hd.symm]
   rw [hd] at h1
   refine Af (Ae Ab ?_)
   repeat' ((conv=>whnf);first|exact Du|(refine Br ?_;intros)|(refine Dw ?_ ?_ ?_;rotate_left)|(refine BR ?_ ?_<;>intro _)|refine Am hb ?_|refine Ad 14 [8] [] ?_|refine An GE ?_|fail)
   refine Af (Ae Ab ?_)
   repeat' ((conv=>whnf);first|exact Du|(refine Br ?_;intros)|(refine Dw ?_ ?_ ?_;rotate_left)|(refine BR ?_ ?_<;>intro _)|refine Am hb ?_|refine aO AC hx ?_|refine Ad 14 [8] [] ?_|refine An GE ?_|fail)
   refine Af (Ae Ab ?_)
   repeat' ((conv=>whnf);first|exact Du|(refine Br ?_;intros)|(refine Dw ?_ ?_ ?_;rotate_left)|(refine BR ?_ ?_<;>intro _)|refine J3 ?_|refine Ad 14 [8] [] ?_|refine An GE ?_|fail)
   cases hbad:LB (c,m) with
   |true=>
    rw [if_pos hbad] at h1
    have h0:=h0 50 h1 st hqb
    refine Ae Ab ?_
    have hbi:=Td.1 hbad
    repeat' ((conv=>whnf);first|exact Du|(refine Br ?_;intros)|(refine Dw ?_ ?_ ?_;rotate_left)|(refine BR ?_ ?_<;>intro _)|refine Am hb ?_|refine FV ?_|refine Ad 14 [8] [] ?_|refine An GE ?_|fail)
    all_goals first|exact fin h0 rfl|(exfalso;omega)
   |false=>
    rw [if_neg kw] at h1
    have h:=h (c:Int) m h1
    rw [if_neg hng] at h
    unfold Uk at h
    rw [if_neg AC] at h
    have hbi:¬(Ax (c:Int)=0\/(Ax (c:Int)=1/\¬c=32)\/(c=65533/\m=1)):=λx=>by rw [Td.2 x] at hbad;grind
    have hcm:=Yf (c:=(c:Int)) AC
    refine Ae Ab ?_
    repeat' ((conv=>whnf);first|exact Du|(refine Br ?_;intros)|(refine Dw ?_ ?_ ?_;rotate_left)|(refine BR ?_ ?_<;>intro _)|refine Am hb ?_|refine FV ?_|refine Xg hr AC (λw1' st3 hr3 hb3=>?_)|refine Am ((congrFun hb3 b).trans hb) ?_|refine Am (St.AJ _ _ _) ?_|refine Ad 14 [8] [] ?_|refine An GE ?_|fail)
    all_goals exact fin (h w1' w2 _ g ((hr3.set hb0 _).set hb0 _) ((St.AJ _ _ _).trans (congrArg some (SF AC))) rfl) rfl
 .subst ht
  have h1:=QP hg
  have h:=h _ _ h1 w1 w2' (st1.Aa b (qC s (p+Ch (s.drop p)) true o w1 (g++[(p,p+Ch (s.drop p))]) w2')) _ (hr1.set hb0 _) (St.AJ _ _ _) (if_pos ⟨rfl,hg⟩).symm
  repeat' ((conv=>whnf);first|exact Du|(refine Br ?_;intros)|(refine Dw ?_ ?_ ?_;rotate_left)|(refine BR ?_ ?_<;>intro _)|refine Ad 14 [8] [] ?_|refine An GE ?_|fail)
  exact fin h rfl
end
end Go.Proofs.Z
namespace Go.Aw
open Go
theorem S0 {c:Operand} {x y:Code} {st:St} (b:Bool) (hb:env.eval c=.bool b) (h:if b=true then AW P x Q env st else AW P y Q env st):AW P (.cond c x y) Q env st:=λD I0 st0 w0 I β a w hr=>by
 have U:=hr.f.eval c
 rw [hb] at U
 have U:=G2 U
 cases b with
 |true=>exact wp_cond_true U (h D I0 st0 w0 I β a w hr)
 |false=>exact wp_cond_false U (h D I0 st0 w0 I β a w hr)
section
variable {P:Program}
theorem lI {c:Code} {st:St} (E:α->Env) (S:α->St) (J:α->Prop) (μ:α->Nat) (x0:α) (h0:J x0) (he:(E x0).Ek env) (hs:St.le (S x0) st)
 (round:∀x,J x->AW P c (BF (λenv' st'=>∃y,J y/\μ y<μ x/\(E y).Ek env'/\St.le (S y) st') Q) (E x) (S x)):AW P (.loop c) Q env st:=λD I0 st0 w0 I β a w h=>by
 refine JW (λn a w=>∃I β x,Rel D I0 st0 w0 I β (E x) (S x) a w/\J x/\n=μ x) (n0:=μ x0) ⟨I,_,x0,(h.Gw hs).H0 (Env.Ie he),h0,rfl⟩ ?_
 rintro n a w ⟨I,β,x,h,hi,rfl⟩
 refine wp_mono (round x hi D I0 st0 w0 I β a w h) ?_
 rintro e a w ⟨I,β,env,st,ae,h1,U,h3⟩
 cases ae with
 |normal=>
  cases e<;>try exact U.elim
  obtain ⟨y,g1,g2,g3,g4⟩:=h3
  exact ⟨μ y,g2,I,_,y,(h1.Gw g4).H0 (Env.Ie g3),g1,rfl⟩
 |exit i=>cases e<;>first|exact ⟨I,β,env,st,.exit i,h1,U,h3⟩|exact U.elim
 |goto i=>cases e<;>first|exact ⟨I,β,env,st,.goto i,h1,U,h3⟩|exact U.elim
 |ret=>cases e<;>first|exact ⟨I,β,env,st,.ret,h1,U,h3⟩|exact U.elim
 |BK v=>cases e<;>first|exact ⟨I,β,env,st,.BK v,h1,U,h3⟩|exact U.elim
theorem Pa {c:Code} {id:Nat} {st:St} (h:AW P c (KY id Q) env st):AW P (.block id c) Q env st:=λD I0 st0 w0 I β a w hr=>by
 refine wp_block (wp_mono (h D I0 st0 w0 I β a w hr) ?_)
 rintro e a w ⟨I,β,env,st,ae,h1,U,h3⟩
 cases ae with
 |normal=>cases e<;>first|exact ⟨I,β,env,st,.normal,h1,trivial,h3⟩|exact U.elim
 |exit i=>
  cases e<;>try exact U.elim
  rename_i i'
  have U:i'=i:=U
  subst U
  simp only [KY] at h3
  show (if i'=id then Ci D I0 st0 w0 Q .normal a w else Ci D I0 st0 w0 Q (.exit i') a w)
  by_cases hi:i'=id
  .subst hi
   rw [if_pos rfl]
   simp only [Nat.beq_refl,cond_true] at h3
   exact ⟨I,β,env,st,.normal,h1,trivial,h3⟩
  .rw [if_neg hi]
   have:Nat.beq i' id=false:=by
    cases hb:Nat.beq i' id with
    |false=>rfl
    |true=>exact absurd (Nat.eq_of_beq_eq_true hb) hi
   rw [this] at h3
   exact ⟨I,β,env,st,.exit i',h1,rfl,h3⟩
 |goto i=>cases e<;>first|exact ⟨I,β,env,st,.goto i,h1,U,h3⟩|exact U.elim
 |ret=>cases e<;>first|exact ⟨I,β,env,st,.ret,h1,U,h3⟩|exact U.elim
 |BK v=>cases e<;>first|exact ⟨I,β,env,st,.BK v,h1,U,h3⟩|exact U.elim
end
theorem lS {j sz:Nat} {n:Int} {K:Nat->Prop} (h:n=(j:Nat)) (U:j<m) (k:K (j*sz)):(0<=n/\n<(m:Int))/\∀k,k=n.toNat*sz->K k:=
 ⟨⟨AC,AC⟩,λk' e=>by
   rw [h,Int.toNat_natCast] at e
   subst e;exact k⟩
theorem UZ {c:Code} {st:St} (f:α->List (Nat×V)) (g:α->List (Nat×List V)) (keep U:List Nat) (S:α->St) (J:α->Prop) (μ:α->Nat) (x0:α) (h0:J x0) (he:(env.KV (f x0) (g x0) keep U).Ek env) (hs:St.le (S x0) st)
 (round:∀x,J x->AW P c (BF (λenv' st'=>∃y,J y/\μ y<μ x/\(env.KV (f y) (g y) keep U).Ek env'/\St.le (S y) st') Q) (env.KV (f x) (g x) keep U) (S x)):AW P (.loop c) Q env st:=
 lI (λy=>env.KV (f y) (g y) keep U) S J μ x0 h0 he hs round
theorem Pb {x y:Code} {st:St} (f:α->List (Nat×V)) (g:α->List (Nat×List V)) (keep U:List Nat) (S:α->St) (J:α->Prop)
 (hx:AW P x (BF (λenv' st'=>∃p,J p/\(env.KV (f p) (g p) keep U).Ek env'/\St.le (S p) st') Q) env st)
 (hy:∀p,J p->AW P y Q (env.KV (f p) (g p) keep U) (S p)):AW P (.seq x y) Q env st:=
 lH (λp=>env.KV (f p) (g p) keep U) S J hy hx
theorem tY {b:Bool} {p q:Prop} (h:b=true) (k:p):Bk b p q:=by subst h;exact Wi k
theorem SQ (h:AE l=34):C6 l=.inr 1:=by rw [C6,if_pos h]
theorem NQ (h:AE l≠34) (k:Di true l=.inl e):C6 l=.inl (0,e):=by
 rw [C6,if_neg h]
 split
 .rename_i e' U;rw [k] at U;injection U with U;rw [U]
 .rename_i p hp;rw [k] at hp;cases hp
theorem kO (h:AE l≠34) (k:Di true l=.inr (v,n)):C6 l=match C6 (l.drop n) with| .inl q=>.inl (q.1+n,q.2)| .inr m=>.inr (m+n):=by
 rw [C6,if_neg h]
 split
 .rename_i e' he;rw [k] at he;cases he
 .rename_i p U;rw [k] at U;injection U with U;subst U;rfl
theorem ew (h:AE l=34):Jk l=[]:=by rw [Jk,if_pos h]
theorem kQ (h:AE l≠34) (k:Di true l=.inr (v,n)):Jk l=if v= -1 then Jk (l.drop n) else v::Jk (l.drop n):=by
 rw [Jk,if_neg h]
 split
 .rename_i e' he;rw [k] at he;cases he
 .rename_i p U;rw [k] at U;injection U with U;subst U;rfl
theorem ey {q:Nat} (h:AE l=34):Ga q l=[]:=by rw [Ga,if_pos h]
theorem XD {q:Nat} (h:AE l≠34) (k:Di true l=.inr (v,n)):Ga q l=if 0<Ch l then (q,q+n)::Ga (q+n) (l.drop n) else Ga (q+n) (l.drop n):=by
 rw [Ga,if_neg h]
 split
 .rename_i e' he;rw [k] at he;cases he
 .rename_i p U;rw [k] at U;injection U with U;subst U;rfl
def OB (q:Nat):Sum (Nat×Int) Nat->Sum (Nat×Int) Nat
 | .inl k=>.inl (q+k.1,k.2)
 | .inr n=>.inr (q+n)
theorem ZP {q:Nat} (h:AE l≠34) (k:Di true l=.inr (v,n)):OB q (C6 l)=OB (q+n) (C6 (l.drop n)):=by
 rw [kO h k]
 cases C6 (l.drop n) with
 |inl k=>simp only [OB];congr 2;omega
 |inr m=>simp only [OB];congr 1;omega
structure ur where
 q:Nat
 o:List Int
 g:List (Nat×Nat)
 w1:AA
 w2:AA
 m:St
end Go.Aw
namespace Go.Proofs.Z
open Go Go.Aw
section
variable {st:St} {R:At->St->Prop}
noncomputable def rj:List Oper:=match Tryz.f201.body with|some (.seq _ (.seq _ (.seq _ (.seq _ (.seq (.seq _ (.cond _ (.seq (.block _ (.loop (.seq (.seq (.region _ ops _) _) _))) _) _)) _)))))=>ops.toList|_=>[]
noncomputable def ua (b q n:Nat) (s:List UInt8) (e x:Int) (bs:List Bool):Env:=
 {tmps:=dE [(0,.ptr b 0),(3,.int .u8 e)] rj [.ptr b 0,.int .u8 x,.int .u8 e,.bool false,.bool false,.ptr b 0,.ptr b 0,.ptr b 1,.int .i64 (q:Int),.ptr b 0,.ptr b 0,.ptr b 0,.str s,.int .i64 (n:Int),.bool false,.bool false] bs,boxes:=[],BG:=0,sz:=83,gl:=[]}
def pN:List (List Bool×Nat):=rI 16 [0,2,33,34,128,98,161,227,484,997,1001,2022,2025,17381,17386,4071,4073,18406,18410,50149,50155,8168,8169,20455,20458,51174,51179,115685,115692,16361,24552,24554,53223,53227,116710,116716,246757,246765,32746,57320,57323,118759,118764,247782,247789,508901,65515,122856,122860,249831,249837,509926,131052,253928,253933,511975,262125,516072,524270,1048559]
theorem dj (hl:s.length<=100000000) (hp:AE (s.drop p)=34) (hb0:st0.box b=none) (hb:st.box b=some (qC s p tx [] w1 [] w2)) (hr:BU st0 st w1 0 w2 0)
 (h0:∀k e,C6 (s.drop (p+1))=.inl (k,e)->∀st',QB st0 st' b s true->R (.BK (IX (p+1+k:Nat) e)) st')
 (h:∀n,C6 (s.drop (p+1))=.inr n->∀w1' w2' st',BU st0 st' w1' (Jk (s.drop (p+1))).length w2' (2*(Ga (p+1) (s.drop (p+1))).length)->st'.box b=some (qC s (p+1+n) true (Jk (s.drop (p+1))) w1' (Ga (p+1) (s.drop (p+1))) w2')->R (.ret (.int .i64 14)) st'):
 PC 201 [.ptr b 0] st R:=by
 have hpl:p<s.length:=BS (k:=p) AC
 obtain ⟨e,he⟩:∃e,s[p]? =some e:=⟨s[p],List.getElem?_eq_getElem hpl⟩
 have he':s[(p:Int).toNat]? =some e:=he
 have hv:=Ck he
 have hv34:((e.toNat:Nat):Int)=34:=AC
 refine AP Ab [] Tryz.func201 rfl Do rfl ?_
 refine Af (Ae Ab ?_)
 repeat' ((conv=>whnf);first|exact Du|(refine Br ?_;intros)|(refine Dw ?_ ?_ ?_;rotate_left)|refine AM [1,5,2,7,9,11,13,15,17,19,21,23,25,27,29,31] [] ?_|refine An GE ?_|fail)
 refine Af (Ae Ab ?_)
 repeat' ((conv=>whnf);first|exact Du|(refine Br ?_;intros)|(refine Dw ?_ ?_ ?_;rotate_left)|refine Am hb ?_|refine AM [1,5,2,7,9,11,13,15,17,19,21,23,25,27,29,31] [] ?_|refine An GE ?_|fail)
 refine Af (Ae Ab ?_)
 repeat' ((conv=>whnf);first|exact Du|(refine Br ?_;intros)|(refine Dw ?_ ?_ ?_;rotate_left)|refine Am hb ?_|refine AM [1,5,2,7,9,11,13,15,17,19,21,23,25,27,29,31] [] ?_|refine An GE ?_|fail)
 refine Af (Ae Ab ?_)
 repeat' ((conv=>whnf);first|exact Du|(refine Br ?_;intros)|(refine Dw ?_ ?_ ?_;rotate_left)|refine Am (St.AJ _ _ _) ?_|refine AM [1,5,2,7,9,11,13,15,17,19,21,23,25,27,29,31] [] ?_|refine An GE ?_|fail)
 refine ZK (st':=st.Aa b (qC s (p+1) true [] w1 [] w2)) (St.JL _ _ _ _).symm ?_
 have hb1:=St.AJ st b (qC s (p+1) true [] w1 [] w2)
 have hr1:=hr.set hb0 (qC s (p+1) true [] w1 [] w2)
 generalize st.Aa b (qC s (p+1) true [] w1 [] w2)=st1 at hb1 hr1
 refine Af (Af (Ae Ab ?_))
 repeat' ((conv=>whnf);first|exact Du|(refine Br ?_;intros)|(refine Dw ?_ ?_ ?_;rotate_left)|refine Am hb1 ?_|refine An GE ?_|fail)
 refine S0 true rfl ?_
 rw [if_pos rfl]
 refine Af (Pa (UZ (α:=ur) (λ_=>[]) (λ_=>[]) [0,3] [] (λx=>x.m) (λx=>x.m.box b=some (qC s x.q true x.o x.w1 x.g x.w2)/\BU st0 x.m x.w1 x.o.length x.w2 (2*x.g.length)/\x.q<=s.length/\p+1<=x.q/\x.o.length<=x.q/\x.g.length<=x.q/\
  OB (p+1) (C6 (s.drop (p+1)))=OB x.q (C6 (s.drop x.q))/\Jk (s.drop (p+1))=x.o++Jk (s.drop x.q)/\Ga (p+1) (s.drop (p+1))=x.g++Ga x.q (s.drop x.q))
  (λx=>s.length - x.q) ⟨p+1,[],[],w1,w2,st1⟩ ⟨hb1,hr1,by simp only [];omega,Nat.le_refl _,GT,GT,rfl,rfl,rfl⟩ Yl (St.le_refl _) ?_))
 rintro ⟨q,o,g,v1,v2,m⟩ ⟨j1,j2,j3,j4,j5,j6,U,j8,j9⟩
 dsimp only at j1 j2 j3 j4 j5 j6 U j8 j9 |-
 have hx:=Js (s.drop q)
 have hbt:∀{R:At->St->Prop},R (.ret (.int .u8 (J2 (s.drop q)))) m->PC 243 [.ptr b 0,.int .i64 0] m R:=λh=>Eo (k:=0) hl j3 Do j1 h
 by_cases hq:AE (s.drop q)=34
 .have hql:q<s.length:=BS (k:=q) AC
  rw [SQ hq] at U
  rw [ew hq,List.append_nil] at j8
  rw [ey hq,List.append_nil] at j9
  clear h0
  have hcd:(!J2 (s.drop q)==((e.toNat:Nat):Int))=false:=by rw [show J2 (s.drop q)=((e.toNat:Nat):Int) by omega];simp
  have hqi:¬(s.length:Int)<=(q:Int):=AC
  refine Af (Af (KW Ab (A2 _) (ua b q s.length s ((e.toNat:Nat):Int) (J2 (s.drop q))) (λ_=>m) pN GE Yl (St.le_refl _) ?_ ?_))
  .unfold pN
   repeat' (first|refine List.forall_mem_cons.2 ⟨?_,?_⟩|exact λ_ h=>nomatch h)
   repeat' ((conv=>whnf);first|  refine Ww hqi ?_|exact Du|(refine Br ?_;intros)|(refine Dw ?_ ?_ ?_;rotate_left)|refine hbt ?_|refine Am j1 ?_|refine WJ (λ_=>?_)|refine An GE ?_|fail)
   all_goals conv=>whnf
   all_goals (refine ⟨Yl,?_⟩)
   all_goals exact St.le_refl _
  refine Ae Ab ?_
  repeat' ((conv=>whnf);first|exact Du|(refine Br ?_;intros)|(refine Dw ?_ ?_ ?_;rotate_left)|refine An GE ?_|fail)
  refine Ae Ab ?_
  repeat' ((conv=>whnf);first|exact Du|(refine Br ?_;intros)|(refine Dw ?_ ?_ ?_;rotate_left)|refine Am j1 ?_|refine An GE ?_|fail)
  rw [j8,j9] at h
  cases hT:C6 (s.drop (p+1)) with
  |inl k=>rw [hT] at U;cases U
  |inr n=>
   rw [hT] at U
   have e7:p+1+n=q+1:=by injection U
   exact fin (h n hT v1 v2 _ (j2.set hb0 _) ((St.AJ _ _ _).trans (congrArg some (SF AC)))) rfl
 .have hne:¬J2 (s.drop q)=((e.toNat:Nat):Int):=AC
  have hcd:(!J2 (s.drop q)==((e.toNat:Nat):Int))=true:=by rw [beq_eq_false_iff_ne.2 hne];rfl
  refine Ae Ab ?_
  repeat' ((conv=>whnf);first|refine tY hcd ?_|exact Du|(refine Br ?_;intros)|(refine Dw ?_ ?_ ?_;rotate_left)|refine hbt ?_|refine pT hl j3 hb0 j1 j2 AC AC (λe' hE st' hQ=>?_) (λv n hO u1 u2 st' g' hR hB hG=>?_)|refine AM [1,5,2,7,9,11,13,15,17,19,21,23,25,27,29,31] [] ?_|refine An GE ?_|fail)
  .rw [NQ hq hE] at U
   cases hT:C6 (s.drop (p+1)) with
   |inl k=>
    rw [hT] at U
    injection U with U
    injection U with e7 e8
    have:=h0 k.1 k.2 hT st' hQ
    rw [show p+1+k.1=q by simpa using e7,e8] at this
    exact fin this rfl
   |inr n=>rw [hT] at U;cases U
  .have hle:=ED hO
   rw [List.length_drop] at hle
   dsimp only at hle
   rw [ZP hq hO,List.drop_drop] at U
   rw [kQ hq hO,List.drop_drop] at j8
   rw [XD hq hO,List.drop_drop] at j9
   have ho:(Uk o v).length<=o.length+1:=by unfold Uk;split<;>simp
   have hg:g'.length<=g.length+1:=by rw [hG];split<;>simp
   conv=>whnf
   refine ⟨⟨q+n,Uk o v,g',u1,u2,st'⟩,⟨hB,hR,by simp only [];omega,by simp only [];omega,by simp only [];omega,by simp only [];omega,U,?_,?_⟩,by simp only [];omega,Yl,St.le_refl _⟩
   .rw [j8]
    unfold Uk
    by_cases hv1:v= -1
    .rw [if_pos hv1,if_pos hv1]
    .rw [if_neg hv1,if_neg hv1];simp
   .rw [j9,hG]
    by_cases hg0:0<Ch (s.drop q)
    .rw [if_pos hg0,if_pos ⟨rfl,hg0⟩];simp
    .rw [if_neg hg0,if_neg (λx=>hg0 x.2)]
end
section
variable {st:St} {R:At->St->Prop}
theorem di (hl:s.length<=100000000) (hp:AE (s.drop p)=39) (hb0:st0.box b=none) (hb:st.box b=some (qC s p tx [] w1 [] w2)) (hr:BU st0 st w1 0 w2 0)
 (h0:∀k e,Ep (s.drop (p+1))=.inl (k,e)->∀st',QB st0 st' b s false->R (.BK (IX (p+1+k:Nat) e)) st')
 (h:∀n,Ep (s.drop (p+1))=.inr n->∀o' w1' w2' st',BU st0 st' w1' (List.length o') w2' 0->st'.box b=some (qC s (p+1+n) false o' w1' [] w2')->R (.ret (.int .i64 13)) st'):
 PC 201 [.ptr b 0] st R:=by
 have hpl:p<s.length:=BS (k:=p) AC
 obtain ⟨e,he⟩:∃e,s[p]? =some e:=⟨s[p],List.getElem?_eq_getElem hpl⟩
 have he':s[(p:Int).toNat]? =some e:=he
 have hv:=Ck he
 have hv34:((e.toNat:Nat):Int)=39:=AC
 refine AP Ab [] Tryz.func201 rfl Do rfl ?_
 refine Af (Ae Ab ?_)
 repeat' ((conv=>whnf);first|exact Du|(refine Br ?_;intros)|(refine Dw ?_ ?_ ?_;rotate_left)|refine An GE ?_|fail)
 refine Af (Ae Ab ?_)
 repeat' ((conv=>whnf);first|exact Du|(refine Br ?_;intros)|(refine Dw ?_ ?_ ?_;rotate_left)|refine Am hb ?_|refine An GE ?_|fail)
 refine Af (Ae Ab ?_)
 repeat' ((conv=>whnf);first|exact Du|(refine Br ?_;intros)|(refine Dw ?_ ?_ ?_;rotate_left)|refine Am hb ?_|refine An GE ?_|fail)
 refine Af (Ae Ab ?_)
 repeat' ((conv=>whnf);first|exact Du|(refine Br ?_;intros)|(refine Dw ?_ ?_ ?_;rotate_left)|refine Am (St.AJ _ _ _) ?_|refine An GE ?_|fail)
 refine ZK (st':=st.Aa b (qC s (p+1) false [] w1 [] w2)) (St.JL _ _ _ _).symm ?_
 have U:=St.AJ st b (qC s (p+1) false [] w1 [] w2)
 have hr1:=hr.set hb0 (qC s (p+1) false [] w1 [] w2)
 generalize st.Aa b (qC s (p+1) false [] w1 [] w2)=st1 at U hr1
 have hx:=Js (s.drop (p+1))
 have hbt:∀{R:At->St->Prop},R (.ret (.int .u8 (J2 (s.drop (p+1))))) st1->PC 243 [.ptr b 0,.int .i64 0] st1 R:=λh=>Eo (k:=0) hl AC Do U h
 have hqb:QB st0 st1 b s false:=⟨_,[],w1,[],w2,U,hr1⟩
 by_cases hq:AE (s.drop (p+1))=39
 .have h0:=h0 0 50 (if_pos hq) st1 hqb
  clear h
  refine Ae Ab ?_
  repeat' ((conv=>whnf);first|exact Du|(refine Br ?_;intros)|(refine Dw ?_ ?_ ?_;rotate_left)|refine Am U ?_|refine hbt ?_|refine FV ?_|refine An GE ?_|fail)
  exact fin h0 rfl
 refine Af (Ae Ab ?_)
 repeat' ((conv=>whnf);first|exact Du|(refine Br ?_;intros)|(refine Dw ?_ ?_ ?_;rotate_left)|refine Am U ?_|refine An GE ?_|fail)
 refine Af (Ae Ab ?_)
 repeat' ((conv=>whnf);first|exact Du|(refine Br ?_;intros)|(refine Dw ?_ ?_ ?_;rotate_left)|refine hbt ?_|refine An GE ?_|fail)
 refine Af (Ae Ab ?_)
 repeat' ((conv=>whnf);first|exact Du|(refine Br ?_;intros)|(refine Dw ?_ ?_ ?_;rotate_left)|refine pT (st0:=st0) hl AC hb0 U hr1 GT GT (λe' hE st' hQ=>?_) (λv n hO u1 u2 st' g' hR hB hG=>?_)|refine An GE ?_|fail)
 .exact fin (h0 0 e' (by unfold Ep;rw [if_neg hq,hE]) st' hQ) rfl
 .have hle:=ED hO
  rw [List.length_drop] at hle
  dsimp only at hle
  rw [if_neg (λx=>by cases x.1)] at hG
  subst hG
  have hc:Ep (s.drop (p+1))=if AE (s.drop (p+1+n))=39 then .inr (n+1) else .inl (n,50):=by
   unfold Ep
   rw [if_neg hq,hO]
   show (if AE ((s.drop (p+1)).drop n)=39 then _ else _)=_
   rw [List.drop_drop]
  have hx2:=Js (s.drop (p+1+n))
  have hbt2:∀{R:At->St->Prop},R (.ret (.int .u8 (J2 (s.drop (p+1+n))))) st'->PC 243 [.ptr b 0,.int .i64 0] st' R:=λh=>Eo (k:=0) hl AC Do hB h
  clear hbt U hr1 hqb hb hr
  by_cases hq2:AE (s.drop (p+1+n))=39
  .rw [if_pos hq2] at hc
   have h:=λst'=>h _ hc (Uk [] v) u1 u2 st'
   refine Ae Ab ?_
   repeat' ((conv=>whnf);first|exact Du|(refine Br ?_;intros)|(refine Dw ?_ ?_ ?_;rotate_left)|refine hbt2 ?_|refine Am hB ?_|refine An GE ?_|fail)
   exact fin (h _ (hR.set hb0 _) ((St.AJ _ _ _).trans (congrArg some (SF AC)))) rfl
  .rw [if_neg hq2] at hc
   have h0:=h0 _ _ hc st' ⟨_,_,_,_,_,hB,hR⟩
   refine Ae Ab ?_
   repeat' ((conv=>whnf);first|exact Du|(refine Br ?_;intros)|(refine Dw ?_ ?_ ?_;rotate_left)|refine hbt2 ?_|refine Am hB ?_|refine FV ?_|refine An GE ?_|fail)
   exact fin h0 rfl
end
end Go.Proofs.Z
namespace Go.Aw
open Go
def Lg (s:List UInt8) (pos:Nat):List (Nat×Nat):=if AE (s.drop pos)=34 then Ga (pos+1) (s.drop (pos+1)) else []
theorem A9 {st:St} {c:Nat} {cs:List V} (h:b≠c):(st.Aa b cs).box c=st.box c:=by simp [St.Aa,Ne.symm h]
theorem D5 {st:St} {c:Nat} {cs:List V} (h:(st.Aa b cs).fresh c):b≠c/\st.fresh c:=by
 by_cases e:b=c
 .subst e
  have:=h.1
  rw [St.AJ] at this
  cases this
 .refine ⟨e,?_,h.2⟩
  have:=h.1
  rw [A9 e] at this
  exact this
theorem Tg {st:St} {K:Nat->Prop} (h:∀b,st.fresh b->K b):∀b,st.fresh b->K b:=h
end Go.Aw
namespace Go.Proofs.Z
open Go Go.Aw
section
variable {st:St} {R:At->St->Prop}
attribute [local irreducible] Go.Aw.Ag
theorem WZ {b1 b2 b3:Nat} {U:St->Prop} (h:U st):GM Tryz.prog 200 [.ptr b1 0,.ptr b2 0,.ptr b3 0] none st U:=by
 refine E6 Ab [] Tryz.func200 rfl rfl rfl rfl rfl rfl rfl rfl (λenv0 he=>?_)
 subst he
 conv=>whnf
 refine Af (Ae Ab ?_)
 repeat' ((conv=>whnf);first|  fail)
 all_goals exact h
theorem Oi {b1 U b3 b4 q:Nat} {k0 e0:Int} {RS:St->Prop} (h1:st.box b1=some [.ptr b4 0]) (h4:st.box b4=some (qC s q tx o w1 g w2)) (h2:st.box U=some [.int .i64 k0]) (h3:st.box b3=some [.int .i64 e0])
 (d2:b4≠U) (d3:b4≠b3) (d5:U≠b3) (h:RS (((st.Aa b4 (qC s p tx o w1 g w2)).Aa U [.int .i64 0]).Aa b3 [.int .i64 e])):GM Tryz.prog 200 [.ptr b1 0,.ptr U 0,.ptr b3 0] (some (IX p e)) st RS:=by
 refine E6 Ab [] Tryz.func200 rfl rfl rfl rfl rfl rfl rfl rfl (λenv0 he=>?_)
 subst he
 conv=>whnf
 refine Af (Ae Ab ?_)
 repeat' ((conv=>whnf);first|exact Du|(refine Dw ?_ ?_ ?_;rotate_left)|fail)
 refine Af (Ae Ab ?_)
 repeat' ((conv=>whnf);first|exact Du|(refine Dw ?_ ?_ ?_;rotate_left)|fail)
 refine Af (Ae Ab ?_)
 repeat' ((conv=>whnf);first|exact Du|(refine Dw ?_ ?_ ?_;rotate_left)|fail)
 have k2:∀cs,(st.Aa b4 cs).box U=some [.int .i64 k0]:=λcs=>(A9 d2).trans h2
 have k3:∀cs cs',((st.Aa b4 cs).Aa U cs').box b3=some [.int .i64 e0]:=λcs cs'=>(A9 d5).trans ((A9 d3).trans h3)
 refine Ae Ab ?_
 repeat' ((conv=>whnf);first|refine Ad 10 [7,8,9] [] ?_|exact Du|(refine Dw ?_ ?_ ?_;rotate_left)|refine Am h1 ?_|refine Am h4 ?_|refine Am (k2 _) ?_|refine Am (k3 _ _) ?_|fail)
 all_goals exact h
theorem pO (hl:s.length<=100000000) (U:AE (s.drop p)=34\/AE (s.drop p)=39) (hb0:st0.box b=none) (hb:st.box b=some (qC s p tx [] w1 [] w2)) (hr:BU st0 st w1 0 w2 0)
 (h0:∀(q:Nat) e tx',Bs s p=(0,(q:Int),e)->∀st',QB st0 st' b s tx'->R (.BK (IX q e)) st')
 (h:∀k (q:Nat),Bs s p=(k,(q:Int),0)->∀tx' o u1 g u2 st',g=Lg s p->BU st0 st' u1 (List.length o) u2 (2*List.length g)->st'.box b=some (qC s q tx' o u1 g u2)->R (.ret (.int .i64 k)) st'):PC 201 [.ptr b 0] st R:=by
 rcases U with U|U
 .refine dj hl U hb0 hb hr (λk e hT st' hQ=>h0 _ e true ?_ st' hQ) (λn hT u1 u2 st' hR hB=>h 14 _ ?_ _ _ _ _ _ st' (by unfold Lg;rw [if_pos U]) hR hB)
  .unfold Bs;rw [if_pos U,hT]
  .unfold Bs;rw [if_pos U,hT]
 .refine di hl U hb0 hb hr (λk e hT st' hQ=>h0 _ e false ?_ st' hQ) (λn hT o' u1 u2 st' hR hB=>h 13 _ ?_ _ _ _ _ _ st' (by unfold Lg;rw [if_neg AC]) hR hB)
  .unfold Bs;rw [if_neg AC,if_pos U,hT]
  .unfold Bs;rw [if_neg AC,if_pos U,hT]
noncomputable def oj:List Oper:=match Tryz.f166.body with|some (.seq _ (.seq _ (.seq _ (.seq _ (.seq (.region _ ops _) _)))))=>ops.toList|_=>[]
noncomputable def pV (b1 U b3 b4:Nat) (K:Int) (bs:List Bool):Env:=
 {tmps:=dE [(4,.ptr b1 0),(5,.ptr U 0),(6,.ptr b3 0)] oj [.ptr b4 0,.ptr b4 0,.int .i64 K,.BD,.BD,.BD] bs,boxes:=[],BG:=1,sz:=39,gl:=[4,5,6,10]}
def tH (b1 U b3 b4:Nat) (K:Int) (m:St) (bs:List Bool):St:=
 match bs[3]?,bs[4]?,bs[5]? with
 |_,_,some true=>((m.Aa b1 [.ptr b4 0]).Aa U [.int .i64 K]).Aa b3 [.int .i64 0]
 |_,some true,_=>(m.Aa b1 [.ptr b4 0]).Aa U [.int .i64 K]
 |some true,_,_=>m.Aa b1 [.ptr b4 0]
 |_,_,_=>m
def pW (s0 A:St) (b4:Nat) (s:List UInt8) (Q U:Int) (G:List (Nat×Nat)) (x:ur×Bool) (bs:List Bool):Prop:=match bs[2]? with
 |some true=>BU s0 x.1.m x.1.w1 x.1.o.length x.1.w2 (2*x.1.g.length)/\x.1.m.box b4=some (qC s x.1.q x.2 x.1.o x.1.w1 x.1.g x.1.w2)/\(x.1.q:Int)=Q/\U=0/\x.1.g=G
 |_=>x.1.m=A
def jE:List (List Bool×Nat):=[([false,false,false,false,false,false],0),([false,false,false,false,false,false],1),([true,false,false,false,false,false],1),([false,true,false,false,false,false],0),([false,true,false,false,false,false],2),([true,true,false,false,false,false],2),([false,true,true,false,false,false],0),([true,true,true,false,false,false],3),([true,true,true,true,false,false],4),([true,true,true,true,true,false],5)]
noncomputable def jF:Code:=match Tryz.f166.body with|some (.seq _ (.seq _ (.seq _ (.seq _ r))))=>r|_=>.skip
theorem dG {s0:St} {b1 b2 b3 b4:Nat} (hl:s.length<=100000000) (hq:AE (s.drop pos)=34\/AE (s.drop pos)=39) (hs0:s0.box b4=none) (hsl:st.le s0) (n12:b1≠b2) (n13:b1≠b3) (n14:b1≠b4) (n23:b2≠b3) (n24:b2≠b4) (n34:b3≠b4) (k1:st.box b1=none) (k2:st.box b2=none) (k3:st.box b3=none) (k4:st.box b4=none)
 (m1:s0.box b1=some [.ptr b4 0]) (m2:s0.box b2=some [.int .i64 0]) (m3:s0.box b3=some [.int .i64 0])
 (h:∀b4 (q:Nat) tx o w1 g w2 st',st.le st'->st'.box b4=some (qC s q tx o w1 g w2)->(q:Int)=(Bs s pos).2.1->((Bs s pos).1≠0->g=Lg s pos)->R (.ret (.Bj [.ptr b4 0,.int .i64 (Bs s pos).1,.int .i64 (Bs s pos).2.2])) st'):
 AW Tryz.prog jF (YN Tryz.prog sG 200 [.ptr b1 0,.ptr b2 0,.ptr b3 0] Tryz.f166 (Go.Aw.Ends R)) (pV b1 b2 b3 b4 (Bs s pos).1 (List.replicate 6 false)) (s0.Aa b4 (qC s pos false [] .full [] .full)):=by
 have a1:∀C,(s0.Aa b4 C).box b1=some [.ptr b4 0]:=λC=>(A9 n14.symm).trans m1
 have hr0:BU s0 (s0.Aa b4 (qC s pos false [] .full [] .full)) .full 0 .full 0:=⟨trivial,trivial,trivial,trivial,trivial,St.Aj (St.le_refl _) hs0 _⟩
 refine Af (lV Ab (A2 _) (λ_ bs=>pV b1 b2 b3 b4 (Bs s pos).1 bs) (λx bs=>tH b1 b2 b3 b4 (Bs s pos).1 x.1.m bs) (λx bs=>pW s0 (s0.Aa b4 (qC s pos false [] .full [] .full)) b4 s (Bs s pos).2.1 (Bs s pos).2.2 (Lg s pos) x bs) (⟨pos,[],[],.full,.full,s0.Aa b4 (qC s pos false [] .full [] .full)⟩,false) jE GE rfl Yl (St.le_refl _) ?_ ?_)
 .unfold jE
  repeat' (first|refine List.forall_mem_cons.2 ⟨?_,?_⟩|exact List.forall_mem_nil _)
  all_goals rintro ⟨⟨q,o,g,w1,w2,m⟩,tx⟩ hj
  all_goals dsimp only [pW,List.getElem?_cons_zero,List.getElem?_cons_succ] at hj
  all_goals try subst hj
  .skip
   repeat' ((conv=>whnf);first|  refine Am (a1 _) ?_|fail)
   all_goals conv=>whnf
   all_goals exact ⟨(⟨q,o,g,w1,w2,_⟩,tx),rfl,Yl,St.le_refl _⟩
  .skip
   repeat' ((conv=>whnf);first|  refine Am (a1 _) ?_|fail)
   all_goals conv=>whnf
   all_goals exact ⟨(⟨q,o,g,w1,w2,_⟩,tx),rfl,Yl,St.le_refl _⟩
  .skip
   repeat' ((conv=>whnf);first|  refine Am (a1 _) ?_|fail)
   all_goals conv=>whnf
   all_goals exact ⟨(⟨q,o,g,w1,w2,_⟩,tx),rfl,Yl,St.le_refl _⟩
  .skip
   repeat' ((conv=>whnf);first|  refine Am (a1 _) ?_|fail)
   all_goals conv=>whnf
   all_goals exact ⟨(⟨q,o,g,w1,w2,_⟩,tx),rfl,Yl,St.le_refl _⟩
  .skip
   repeat' ((conv=>whnf);first|  refine pO hl hq hs0 (St.AJ ..) hr0 (λq' e' U hz st' hQ=>?_) (λk q' hz U o' u1 g' u2 st' hg hR hB=>?_)|refine Am (a1 _) ?_|fail)
   .obtain ⟨q1,o1,u1,g1,u2,hB,hR⟩:=hQ
    conv=>whnf
    refine Oi (hR.le.1 _ _ m1) hB (hR.le.1 _ _ m2) (hR.le.1 _ _ m3) n24.symm n34.symm n23 ?_
    have c1:(((st'.Aa b4 (qC s q' U o1 u1 g1 u2)).Aa b2 [.int .i64 0]).Aa b3 [.int .i64 e']).box b1=some [.ptr b4 0]:=(A9 n13.symm).trans ((A9 n12.symm).trans ((A9 n14.symm).trans (hR.le.1 _ _ m1)))
    have c2:(((st'.Aa b4 (qC s q' U o1 u1 g1 u2)).Aa b2 [.int .i64 0]).Aa b3 [.int .i64 e']).box b2=some [.int .i64 0]:=(A9 n23.symm).trans (St.AJ _ _ _)
    have c3:(((st'.Aa b4 (qC s q' U o1 u1 g1 u2)).Aa b2 [.int .i64 0]).Aa b3 [.int .i64 e']).box b3=some [.int .i64 e']:=St.AJ _ _ _
    have c4:(((st'.Aa b4 (qC s q' U o1 u1 g1 u2)).Aa b2 [.int .i64 0]).Aa b3 [.int .i64 e']).box b4=some (qC s q' U o1 u1 g1 u2):=(A9 n34).trans ((A9 n24).trans (St.AJ _ _ _))
    have c5:(Bs s pos).1=0:=by rw [hz]
    have c6:(Bs s pos).2.1=q':=by rw [hz]
    have c7:(Bs s pos).2.2=e':=by rw [hz]
    have gg:=λle=>h b4 q' U o1 u1 g1 u2 _ le c4 c6.symm (λx=>absurd c5 x)
    rw [c5,c7] at gg
    clear h hz c4 c5 c6 c7
    repeat' ((conv=>whnf);first|  refine Am c1 ?_|refine Am c2 ?_|refine Am c3 ?_|fail)
    exact fin (gg (St.Aj (St.Aj (St.Aj (St.le_trans hsl hR.le) k4 _) k2 _) k3 _)) rfl
   .have hz1:(Bs s pos).1=k:=by rw [hz]
    have hz2:(Bs s pos).2.1=q':=by rw [hz]
    have hz3:(Bs s pos).2.2=0:=by rw [hz]
    conv=>whnf
    rw [hz1,hz2]
    exact ⟨(⟨q',o',g',u1,u2,st'⟩,U),⟨hR,hB,rfl,hz3,hg⟩,Yl,St.le_refl _⟩
  .skip
   repeat' ((conv=>whnf);first|  refine pO hl hq hs0 (St.AJ ..) hr0 (λq' e' U hz st' hQ=>?_) (λk q' hz U o' u1 g' u2 st' hg hR hB=>?_)|refine Am (a1 _) ?_|fail)
   .obtain ⟨q1,o1,u1,g1,u2,hB,hR⟩:=hQ
    conv=>whnf
    refine Oi (hR.le.1 _ _ m1) hB (hR.le.1 _ _ m2) (hR.le.1 _ _ m3) n24.symm n34.symm n23 ?_
    have c1:(((st'.Aa b4 (qC s q' U o1 u1 g1 u2)).Aa b2 [.int .i64 0]).Aa b3 [.int .i64 e']).box b1=some [.ptr b4 0]:=(A9 n13.symm).trans ((A9 n12.symm).trans ((A9 n14.symm).trans (hR.le.1 _ _ m1)))
    have c2:(((st'.Aa b4 (qC s q' U o1 u1 g1 u2)).Aa b2 [.int .i64 0]).Aa b3 [.int .i64 e']).box b2=some [.int .i64 0]:=(A9 n23.symm).trans (St.AJ _ _ _)
    have c3:(((st'.Aa b4 (qC s q' U o1 u1 g1 u2)).Aa b2 [.int .i64 0]).Aa b3 [.int .i64 e']).box b3=some [.int .i64 e']:=St.AJ _ _ _
    have c4:(((st'.Aa b4 (qC s q' U o1 u1 g1 u2)).Aa b2 [.int .i64 0]).Aa b3 [.int .i64 e']).box b4=some (qC s q' U o1 u1 g1 u2):=(A9 n34).trans ((A9 n24).trans (St.AJ _ _ _))
    have c5:(Bs s pos).1=0:=by rw [hz]
    have c6:(Bs s pos).2.1=q':=by rw [hz]
    have c7:(Bs s pos).2.2=e':=by rw [hz]
    have gg:=λle=>h b4 q' U o1 u1 g1 u2 _ le c4 c6.symm (λx=>absurd c5 x)
    rw [c5,c7] at gg
    clear h hz c4 c5 c6 c7
    repeat' ((conv=>whnf);first|  refine Am c1 ?_|refine Am c2 ?_|refine Am c3 ?_|fail)
    exact fin (gg (St.Aj (St.Aj (St.Aj (St.le_trans hsl hR.le) k4 _) k2 _) k3 _)) rfl
   .have hz1:(Bs s pos).1=k:=by rw [hz]
    have hz2:(Bs s pos).2.1=q':=by rw [hz]
    have hz3:(Bs s pos).2.2=0:=by rw [hz]
    conv=>whnf
    rw [hz1,hz2]
    exact ⟨(⟨q',o',g',u1,u2,st'⟩,U),⟨hR,hB,rfl,hz3,hg⟩,Yl,St.le_refl _⟩
  .have b1':m.box b1=some [.ptr b4 0]:=hj.1.le.1 _ _ m1
   repeat' ((conv=>whnf);first|  refine Am b1' ?_|fail)
   all_goals conv=>whnf
   all_goals exact ⟨(⟨q,o,g,w1,w2,m⟩,tx),hj,Yl,St.le_refl _⟩
  .have b1':m.box b1=some [.ptr b4 0]:=hj.1.le.1 _ _ m1
   repeat' ((conv=>whnf);first|  refine Am b1' ?_|fail)
   all_goals conv=>whnf
   all_goals exact ⟨(⟨q,o,g,w1,w2,m⟩,tx),hj,Yl,St.le_refl _⟩
  .have b2':(m.Aa b1 [.ptr b4 0]).box b2=some [.int .i64 0]:=(A9 n12).trans (hj.1.le.1 _ _ m2)
   repeat' ((conv=>whnf);first|  refine Am b2' ?_|fail)
   all_goals conv=>whnf
   all_goals exact ⟨(⟨q,o,g,w1,w2,m⟩,tx),hj,Yl,St.le_refl _⟩
  .have b3':((m.Aa b1 [.ptr b4 0]).Aa b2 [.int .i64 (Bs s pos).1]).box b3=some [.int .i64 0]:=(A9 n23).trans ((A9 n13).trans (hj.1.le.1 _ _ m3))
   repeat' ((conv=>whnf);first|  refine Am b3' ?_|fail)
   all_goals conv=>whnf
   all_goals exact ⟨(⟨q,o,g,w1,w2,m⟩,tx),hj,Yl,St.le_refl _⟩
 .rintro ⟨⟨q,o,g,w1,w2,m⟩,tx⟩ ⟨j1,j2,j3,j0,jg⟩
  dsimp only at j1 j2 j3 j0
  have c1:(((m.Aa b1 [.ptr b4 0]).Aa b2 [.int .i64 (Bs s pos).1]).Aa b3 [.int .i64 0]).box b1=some [.ptr b4 0]:=(A9 n13.symm).trans ((A9 n12.symm).trans (St.AJ _ _ _))
  have c2:(((m.Aa b1 [.ptr b4 0]).Aa b2 [.int .i64 (Bs s pos).1]).Aa b3 [.int .i64 0]).box b2=some [.int .i64 (Bs s pos).1]:=(A9 n23.symm).trans (St.AJ _ _ _)
  have c3:(((m.Aa b1 [.ptr b4 0]).Aa b2 [.int .i64 (Bs s pos).1]).Aa b3 [.int .i64 0]).box b3=some [.int .i64 0]:=St.AJ _ _ _
  have c4:(((m.Aa b1 [.ptr b4 0]).Aa b2 [.int .i64 (Bs s pos).1]).Aa b3 [.int .i64 0]).box b4=some (qC s q tx o w1 g w2):=(A9 n34).trans ((A9 n24).trans ((A9 n14).trans j2))
  have gg:=λle=>h b4 q tx o w1 g w2 _ le c4 j3 (λ_=>jg)
  rw [j0] at gg
  clear h
  show AW _ _ _ _ _
  refine Ae Ab (WZ ?_)
  repeat' ((conv=>whnf);first|  refine Am c1 ?_|refine Am c2 ?_|refine Am c3 ?_|fail)
  exact fin (gg (St.Aj (St.Aj (St.Aj (St.le_trans hsl j1.le) k1 _) k2 _) k3 _)) rfl
theorem jG (hl:s.length<=100000000) (hp:pos<=s.length)
 (h:∀b4 (q:Nat) tx o w1 g w2 st',st.le st'->st'.box b4=some (qC s q tx o w1 g w2)->(q:Int)=(Bs s pos).2.1->((Bs s pos).1≠0->g=Lg s pos)->R (.ret (.Bj [.ptr b4 0,.int .i64 (Bs s pos).1,.int .i64 (Bs s pos).2.2])) st'):PC 166 [.str s,.int .i64 pos] st R:=by
 refine A0.ends (R2 Ab [4,5,6,10] Tryz.func166 rfl Do rfl rfl rfl rfl rfl rfl ⟨_,Tryz.func200,rfl,Do⟩ rfl ?_)
 refine Ae Ab ?_
 repeat' ((conv=>whnf);first|  (refine Br ?_;intros)|(refine BR ?_ ?_<;>intro _)|refine Tg (λb3 f3=>?_)|fail)
 rename_i b1 f1 b2 f2
 obtain ⟨n12,f2a⟩:=D5 f2
 obtain ⟨n23,f3a⟩:=D5 f3
 obtain ⟨n13,f3b⟩:=D5 f3a
 refine Ae Ab ?_
 have kk:∀b4 cs,((((st.Aa b1 [V.DR]).Aa b2 [V.int .i64 0]).Aa b3 [V.int .i64 0]).fresh b4)->((((st.Aa b1 [V.DR]).Aa b2 [V.int .i64 0]).Aa b3 [V.int .i64 0]).Aa b4 cs).box b1=some [V.DR]:=λb4 cs f4=>by
  obtain ⟨m3,f4a⟩:=D5 f4
  obtain ⟨m2,f4b⟩:=D5 f4a
  obtain ⟨m1,f4c⟩:=D5 f4b
  simp [St.Aa,m1,n12,n13]
 repeat' ((conv=>whnf);first|  (refine Br ?_;intros)|(refine BR ?_ ?_<;>intro _)|refine Tg (λb4 f4=>?_)|refine Am (kk _ _ f4) ?_|fail)
 obtain ⟨n34,f4a⟩:=D5 f4
 obtain ⟨n24,f4b⟩:=D5 f4a
 obtain ⟨n14,f4c⟩:=D5 f4b
 obtain ⟨s0,hs0,hsl,m1,m2,m3,hst⟩:∃s0:St,s0.box b4=none/\st.le s0/\s0.box b1=some [.ptr b4 0]/\s0.box b2=some [.int .i64 0]/\s0.box b3=some [.int .i64 0]/\
  s0.Aa b4 (qC s pos false [] .full [] .full)=(((((st.Aa b1 [V.DR]).Aa b2 [V.int .i64 0]).Aa b3 [V.int .i64 0]).Aa b4 (qC s pos false [] .full [] .full)).Aa b1 [.ptr b4 0]):=by
  refine ⟨((st.Aa b1 [.ptr b4 0]).Aa b2 [.int .i64 0]).Aa b3 [.int .i64 0],?_,St.Aj (St.Aj (St.Aj (St.le_refl _) f1.1 _) f2a.1 _) f3b.1 _,?_,?_,?_,?_⟩
  .simp [St.Aa,n14.symm,n24.symm,n34.symm];exact f4c.1
  .simp [St.Aa,n12,n13]
  .simp [St.Aa,n23]
  .simp [St.Aa]
  .simp only [St.Aa,St.mk.injEq,and_true]
   funext x
   by_cases x1:x=b1
   .subst x1;simp [n12,n13,n14]
   .by_cases x4:x=b4
    .subst x4;simp [x1]
    .simp [x1,x4]
 refine ZK (st':=s0.Aa b4 (qC s pos false [] .full [] .full)) hst ?_
 clear kk f4 f4a f4b f3 f3a f2 hst
 have a1:∀C,(s0.Aa b4 C).box b1=some [.ptr b4 0]:=λC=>(A9 n14.symm).trans m1
 by_cases hq:AE (s.drop pos)=34\/AE (s.drop pos)=39
 .have hlt:pos<s.length:=BS (k:=pos) AC
  obtain ⟨e,he⟩:∃e,s[pos]? =some e:=⟨s[pos],List.getElem?_eq_getElem hlt⟩
  have he':s[(pos:Int).toNat]? =some e:=he
  have hv:=Ck he
  refine Ae Ab ?_
  repeat' ((conv=>whnf);first|  (refine Br ?_;intros)|(refine BR ?_ ?_<;>intro _)|fail)
  all_goals conv=>whnf
  all_goals refine ⟨rfl,AL rfl ?_⟩
  all_goals exact ZL (dG hl hq hs0 (St.le_trans hsl (St.le_refl _)) n12 n13 n14 n23 n24 n34 f1.1 f2a.1 f3b.1 f4c.1 m1 m2 m3 h) Yl (St.le_refl _)
 .have hz:Bs s pos=(0,0,0):=by unfold Bs;rw [if_neg (λx=>hq (.inl x)),if_neg (λx=>hq (.inr x))]
  rw [hz] at h
  have a1':∀C U,((s0.Aa b4 C).Aa b4 U).box b1=some [.ptr b4 0]:=λC U=>(A9 n14.symm).trans (a1 C)
  have a2':∀C U D,(((s0.Aa b4 C).Aa b4 U).Aa b1 D).box b2=some [.int .i64 0]:=λC U D=>(A9 n12).trans ((A9 n24.symm).trans ((A9 n24.symm).trans m2))
  have a3':∀C U D F,((((s0.Aa b4 C).Aa b4 U).Aa b1 D).Aa b2 F).box b3=some [.int .i64 0]:=λC U D F=>(A9 n23).trans ((A9 n13).trans ((A9 n34.symm).trans ((A9 n34.symm).trans m3)))
  have e3:∀C U D F G,(((((s0.Aa b4 C).Aa b4 U).Aa b1 D).Aa b2 F).Aa b3 G).box b3=some G:=λC U D F G=>St.AJ _ _ _
  have e2:∀C U D F G,(((((s0.Aa b4 C).Aa b4 U).Aa b1 D).Aa b2 F).Aa b3 G).box b2=some F:=λC U D F G=>(A9 n23.symm).trans (St.AJ _ _ _)
  have e1:∀C U D F G,(((((s0.Aa b4 C).Aa b4 U).Aa b1 D).Aa b2 F).Aa b3 G).box b1=some D:=λC U D F G=>(A9 n13.symm).trans ((A9 n12.symm).trans (St.AJ _ _ _))
  have e4:∀C U D F G,(((((s0.Aa b4 C).Aa b4 U).Aa b1 D).Aa b2 F).Aa b3 G).box b4=some U:=λC U D F G=>(A9 n34).trans ((A9 n24).trans ((A9 n14).trans (St.AJ _ _ _)))
  by_cases hlt:pos<s.length
  .obtain ⟨e,he⟩:∃e,s[pos]? =some e:=⟨s[pos],List.getElem?_eq_getElem hlt⟩
   have he':s[(pos:Int).toNat]? =some e:=he
   have hv:=Ck he
   refine Ae Ab ?_
   repeat' ((conv=>whnf);first|  (refine Br ?_;intros)|(refine BR ?_ ?_<;>intro _)|refine Am (a1 _) ?_|refine Am (St.AJ _ _ _) ?_|refine Am (a1' _ _) ?_|refine Am (a2' _ _ _) ?_|refine Am (a3' _ _ _ _) ?_|refine Am (e1 _ _ _ _ _) ?_|refine Am (e2 _ _ _ _ _) ?_|refine Am (e3 _ _ _ _ _) ?_|fail)
   exact fin (h b4 0 false [] .full [] .full _ (St.Aj (St.Aj (St.Aj (St.Aj (St.Aj hsl f4c.1 _) f4c.1 _) f1.1 _) f2a.1 _) f3b.1 _) (e4 _ _ _ _ _) rfl (λx=>absurd rfl x)) rfl
  .skip
   refine Ae Ab ?_
   repeat' ((conv=>whnf);first|  (refine Br ?_;intros)|(refine BR ?_ ?_<;>intro _)|refine Am (a1 _) ?_|refine Am (St.AJ _ _ _) ?_|refine Am (a1' _ _) ?_|refine Am (a2' _ _ _) ?_|refine Am (a3' _ _ _ _) ?_|refine Am (e1 _ _ _ _ _) ?_|refine Am (e2 _ _ _ _ _) ?_|refine Am (e3 _ _ _ _ _) ?_|fail)
   exact fin (h b4 0 false [] .full [] .full _ (St.Aj (St.Aj (St.Aj (St.Aj (St.Aj hsl f4c.1 _) f4c.1 _) f1.1 _) f2a.1 _) f3b.1 _) (e4 _ _ _ _ _) rfl (λx=>absurd rfl x)) rfl
end
section
variable {st:St} {R:At->St->Prop}
attribute [local irreducible] Go.Aw.Ag
theorem oi (hl:s.length<=100000000) (hp:pos<s.length) (h:R (.ret (.Bj [.int .i64 (Bs s pos).1,.int .i64 (Bs s pos).2.1,.int .i64 (Bs s pos).2.2])) st):PC 123 [.str s,.int .i64 pos] st R:=by
 refine pB Tryz.func123 ?_
 repeat' ((conv=>whnf);first|exact Du|(refine Dw ?_ ?_ ?_;rotate_left)|refine jG hl (Nat.le_of_lt hp) (λb4 q tx o w1 g w2 st' U hb hq _=>?_)|refine Am hb ?_|refine An GE ?_|fail)
 all_goals rw [<-hq] at h
 all_goals exact DK U rfl h
def Uz (c:Int):Int:=match EL c with|some v=>v|none=>if c=38 then -2 else -1
theorem oD (U:0<=c) (h1:c<=255) (h:R (.ret (.int .i64 (Uz c))) st):PC 207 [.int .u8 c] st R:=by
 refine pB Tryz.func207 ?_
 repeat' ((conv=>whnf);first|(refine Br ?_;intros)|(refine BR ?_ ?_<;>intro _)|fail)
 all_goals refine Bm rfl ?_
 all_goals refine Eq.mp (congrArg (λx=>R (.ret (.int .i64 x)) st) ?_) h
 all_goals clear h
 all_goals unfold Uz EL
 all_goals first|(simp [*];done)|(simp_all;done)|(repeat' split)<;>simp_all<;>omega
end
end Go.Proofs.Z
namespace Go.Aw
open Go
theorem Jd {b:Int} {e:UInt8} (h:s[pos]? =some e):Ez b v (s.drop pos)=if Bo ((e.toNat:Nat):Int) b<0 then v else Ez b (min (v*b+Bo ((e.toNat:Nat):Int) b) 1114112) (s.drop (pos+1)):=by
 obtain ⟨U,hx⟩:=List.getElem?_eq_some_iff.1 h
 rw [List.drop_eq_getElem_cons U,hx]
 rfl
def dL (b:Int) (l:List UInt8):Int:=if Bt b l=0\/1114111<Ez b 0 l then -1 else Ez b 0 l
theorem IZ {b x:Int} (h:((Bt b l=0\/1114111<Ez b 0 l)/\x= -1)\/(Bt b l≠0/\Ez b 0 l<=1114111/\x=Ez b 0 l)):dL b l=x:=by
 unfold dL
 split<;>omega
end Go.Aw
namespace Go.Proofs.Z
open Go Go.Aw
section
variable {st:St} {R:At->St->Prop}
theorem ow {b:Int} {q:Nat} (hl:s.length<=100000000) (hq:q<=s.length) (hb:b=8\/b=10\/b=16) (h:R (.ret (.Bj [.int .i64 (dL b (s.drop q)),.int .i64 (q+Bt b (s.drop q):Nat)])) st):PC 208 [.str s,.int .i64 q,.int .i64 b] st R:=by
 refine pB Tryz.func208 ?_
 repeat' ((conv=>whnf);first|(refine Br ?_;intros)|(refine BR ?_ ?_<;>intro _)|fail)
 refine K7 (α:=Nat) (β:=Int) (λpos v=>[(1,.int .i64 (pos:Int)),(8,.int .i64 v)]) (λ_ _=>[]) [0,2,9] [] (λ_ _=>st)
  (λpos v=>q<=pos/\pos<=s.length/\0<=v/\v<=20000000/\q+Bt b (s.drop q)=pos+Bt b (s.drop pos)/\Ez b 0 (s.drop q)=Ez b (min v 1114112) (s.drop pos)) (λpos _=>s.length - pos) q 0 ⟨Nat.le_refl _,hq,Do,Do,rfl,rfl⟩ Yl (St.le_refl _) ?_
 rintro pos v ⟨h0,h1,h2,h3,h4,h5⟩
 have hdl:=λc=>HZ (c:=c) (b:=b)
 rcases hb with rfl|rfl|rfl
 .skip
  repeat' ((conv=>whnf);first|(refine Br ?_;intros)|(refine BR ?_ ?_<;>intro _)|refine J5 ?_|refine QZ ?_|refine Nj h2 AC Do Do ‹_› ?_)
  all_goals first
   |(rename_i hlt e U hk _
     have U:s[pos]? =some e:=U
     have e1:=Gu (base:=8) U
     have e2:=Jd (b:=8) (v:=min v 1114112) U
     rw [if_pos hk] at e1 e2
     exact fin h (Fa (IZ AC) AC))
   |(rename_i hlt e U hk _ _
     have U:s[pos]? =some e:=U
     have e1:=Gu (base:=8) U
     have e2:=Jd (b:=8) (v:=min v 1114112) U
     rw [if_pos hk] at e1 e2
     exact fin h (Fa (IZ AC) AC))
   |(have e1:=FH (base:=8) (s:=s) (pos:=pos) AC
     have e2:=GJ (base:=8) (v:=min v 1114112) (s:=s) (pos:=pos) AC
     exact fin h (Fa (IZ AC) AC))
   |(rename_i hlt e U hk hv
     have U:s[pos]? =some e:=U
     have e1:=Gu (base:=8) U
     have e2:=Jd (b:=8) (v:=min v 1114112) U
     rw [if_neg hk] at e1 e2
     have e3:=hdl ((e.toNat:Nat):Int)
     clear h
     conv=>whnf
     first
      |exact ⟨(pos+1,v*8+Bo ((e.toNat:Nat):Int) 8),⟨So,So,So,So,So,by dsimp only;rw [h5,e2];congr 1;omega⟩,So,Yl,St.le_refl _⟩
      |exact ⟨(pos+1,v),⟨So,So,So,So,So,by dsimp only;rw [h5,e2];congr 1;omega⟩,So,Yl,St.le_refl _⟩)
 .skip
  repeat' ((conv=>whnf);first|(refine Br ?_;intros)|(refine BR ?_ ?_<;>intro _)|refine J5 ?_|refine QZ ?_|refine Nj h2 AC Do Do ‹_› ?_)
  all_goals first
   |(rename_i hlt e U hk _
     have U:s[pos]? =some e:=U
     have e1:=Gu (base:=10) U
     have e2:=Jd (b:=10) (v:=min v 1114112) U
     rw [if_pos hk] at e1 e2
     exact fin h (Fa (IZ AC) AC))
   |(rename_i hlt e U hk _ _
     have U:s[pos]? =some e:=U
     have e1:=Gu (base:=10) U
     have e2:=Jd (b:=10) (v:=min v 1114112) U
     rw [if_pos hk] at e1 e2
     exact fin h (Fa (IZ AC) AC))
   |(have e1:=FH (base:=10) (s:=s) (pos:=pos) AC
     have e2:=GJ (base:=10) (v:=min v 1114112) (s:=s) (pos:=pos) AC
     exact fin h (Fa (IZ AC) AC))
   |(rename_i hlt e U hk hv
     have U:s[pos]? =some e:=U
     have e1:=Gu (base:=10) U
     have e2:=Jd (b:=10) (v:=min v 1114112) U
     rw [if_neg hk] at e1 e2
     have e3:=hdl ((e.toNat:Nat):Int)
     clear h
     conv=>whnf
     first
      |exact ⟨(pos+1,v*10+Bo ((e.toNat:Nat):Int) 10),⟨So,So,So,So,So,by dsimp only;rw [h5,e2];congr 1;omega⟩,So,Yl,St.le_refl _⟩
      |exact ⟨(pos+1,v),⟨So,So,So,So,So,by dsimp only;rw [h5,e2];congr 1;omega⟩,So,Yl,St.le_refl _⟩)
 .skip
  repeat' ((conv=>whnf);first|(refine Br ?_;intros)|(refine BR ?_ ?_<;>intro _)|refine J5 ?_|refine QZ ?_|refine Nj h2 AC Do Do ‹_› ?_)
  all_goals first
   |(rename_i hlt e U hk _
     have U:s[pos]? =some e:=U
     have e1:=Gu (base:=16) U
     have e2:=Jd (b:=16) (v:=min v 1114112) U
     rw [if_pos hk] at e1 e2
     exact fin h (Fa (IZ AC) AC))
   |(rename_i hlt e U hk _ _
     have U:s[pos]? =some e:=U
     have e1:=Gu (base:=16) U
     have e2:=Jd (b:=16) (v:=min v 1114112) U
     rw [if_pos hk] at e1 e2
     exact fin h (Fa (IZ AC) AC))
   |(have e1:=FH (base:=16) (s:=s) (pos:=pos) AC
     have e2:=GJ (base:=16) (v:=min v 1114112) (s:=s) (pos:=pos) AC
     exact fin h (Fa (IZ AC) AC))
   |(rename_i hlt e U hk hv
     have U:s[pos]? =some e:=U
     have e1:=Gu (base:=16) U
     have e2:=Jd (b:=16) (v:=min v 1114112) U
     rw [if_neg hk] at e1 e2
     have e3:=hdl ((e.toNat:Nat):Int)
     clear h
     conv=>whnf
     first
      |exact ⟨(pos+1,v*16+Bo ((e.toNat:Nat):Int) 16),⟨So,So,So,So,So,by dsimp only;rw [h5,e2];congr 1;omega⟩,So,Yl,St.le_refl _⟩
      |exact ⟨(pos+1,v),⟨So,So,So,So,So,by dsimp only;rw [h5,e2];congr 1;omega⟩,So,Yl,St.le_refl _⟩)
end
end Go.Proofs.Z
namespace Go.Aw
open Go
def VJ (s:List UInt8) (p:Nat):Int:=if Ch (s.drop p)=0 then 0 else (p+Ch (s.drop p):Nat)
theorem QV:w.isPrefixOf l=decide (l.take w.length=w):=by
 rw [Bool.eq_iff_iff,List.isPrefixOf_iff_prefix,decide_eq_true_iff,List.prefix_iff_eq_take]
 exact ⟨Eq.symm,Eq.symm⟩
theorem fU {q:Nat}:List.drop ((q:Int)).toNat (List.take ((q:Int)+(n:Int)).toNat s)=(s.drop q).take n:=by
 rw [List.drop_take,show ((q:Int)+(n:Int)).toNat - ((q:Int)).toNat=n by omega,show ((q:Int)).toNat=q by omega]
theorem rK {q:Nat} (h:List.drop ((q:Int)).toNat (List.take ((q:Int)+(w.length:Int)).toNat s)=w):w.isPrefixOf (s.drop q)=true:=by
 rw [fU] at h
 rw [QV,h];simp
theorem oe {q:Nat} (h:¬List.drop ((q:Int)).toNat (List.take ((q:Int)+(w.length:Int)).toNat s)=w):w.isPrefixOf (s.drop q)=false:=by
 rw [fU] at h
 rw [QV,decide_eq_false_iff_not];exact h
theorem jx (h:l.length<w.length):w.isPrefixOf l=false:=by
 rw [QV,decide_eq_false_iff_not]
 intro e
 have:=congrArg List.length e
 rw [List.length_take] at this
 omega
end Go.Aw
namespace Go.Proofs.Z
open Go Go.Aw
section
variable {st:St} {R:At->St->Prop}
theorem Q9 {i:Int} {q:Nat} (hl:s.length<=100000000) (hq:q<=s.length) (U:BQ (λc=>Ax c==1) (s.drop q)=k) (e:i=(q:Int)) (h:R (.ret (.int .i64 (q+k:Nat))) st):PC 206 [.str s,.int .i64 i,.int .i64 1] st R:=by
 subst e;exact sf hl hq (by rw [U];exact h)
theorem rX (hl:s.length<=100000000) (h1:AE (s.drop p)=92) (h:R (.ret (.int .i64 (VJ s p))) st):PC 172 [.str s,.int .i64 p] st R:=by
 refine pB Tryz.func172 ?_
 have hp1:p<s.length:=BS (k:=p) AC
 have hr:=Ew (λc=>Ax c==1) (s.drop (p+1))
 have U:=TM (s:=s) (p:=p)
 have hge:∀x:Int,(Ch (s.drop p)=0/\x=0)\/(Ch (s.drop p)≠0/\x=p+Ch (s.drop p))->VJ s p=x:=λx hx=>by unfold VJ;split<;>omega
 rw [List.length_drop] at hr
 generalize hk:BQ (λc=>Ax c==1) (s.drop (p+1))=k at hr U
 by_cases hlt:p+1+k<s.length
 .obtain ⟨e,he⟩:∃e,s[p+1+k]? =some e:=⟨s[p+1+k],List.getElem?_eq_getElem hlt⟩
  have he':s[((p+1+k:Nat):Int).toNat]? =some e:=he
  have hv:=Ck he
  rw [hv] at U
  repeat' ((conv=>whnf);first|(refine Br ?_;intros)|(refine BR ?_ ?_<;>intro _)|refine Q9 (q:=p+1) hl AC hk AC ?_)
  all_goals exact fin h (Bq (hge _ (by split at U<;>omega)))
 .have hv:=De (s:=s) (i:=p+1+k) AC
  rw [hv] at U
  repeat' ((conv=>whnf);first|(refine Br ?_;intros)|(refine BR ?_ ?_<;>intro _)|refine Q9 (q:=p+1) hl AC hk AC ?_)
  all_goals exact fin h (Bq (hge _ (by split at U<;>omega)))
theorem jM (h:R (.ret (.slice 1 (strs CN) .any)) st):PC 209 [] st R:=by
 refine pB Tryz.func209 ?_
 repeat' ((conv=>whnf);first|  fail)
 all_goals exact Bm rfl h
theorem dF {i:Int} {q:Nat} (hl:s.length<=100000000) (hw:w.length<=10) (hq:q<=s.length) (e:i=(q:Int)) (h:R (.ret (.bool (w.isPrefixOf (s.drop q)))) st):PC 210 [.str s,.int .i64 i,.str w] st R:=by
 subst e
 refine pB Tryz.func210 ?_
 repeat' ((conv=>whnf);first|(refine Br ?_;intros)|(refine BR ?_ ?_<;>intro _)|fail)
 .rename_i e1 U
  exact Au h (by rw [rK U])
 .rename_i e1 U
  exact Au h (by rw [oe U])
 .rename_i e1
  exact Au h (by rw [jx IR])
end
end Go.Proofs.Z
namespace Go.Aw
open Go
def sJ (l:List UInt8) (i:Nat) (v e:Int):Prop:=
 (v= -2/\Dq true l=some (-1,2)/\Dq false l=none/\e=i+2)\/(v= -1/\∀tx,Dq tx l=none)\/(0<=v/\∃n:Nat,(∀tx,Dq tx l=some (v,n))/\e=(i:Int)+n)
theorem gE (h:EL (AE (l.drop 1))=none) (U:AE (l.drop 1)≠38) (h2:¬(AE (l.drop 1)=94/\64<=AE (l.drop 2)/\AE (l.drop 2)<=95)) (h3:AE (l.drop 1)≠111) (h4:AE (l.drop 1)≠120) (h5:¬(48<=AE (l.drop 1)/\AE (l.drop 1)<=57)) (h6:(Ha (l.drop 1)).2=0) (tx:Bool):Dq tx l=none:=by
 rw [Jz h (λx=>U x.1) h2 h3 h4 h5,if_neg AC]
theorem TA {r:List UInt8} {b:Int} (hb:1<=b) (h:∀tx,Dq tx l=(Hb b r).map λp=>(p.1,k+p.2)):sJ l i (dL b r) (((i+k+Bt b r:Nat)):Int):=by
 have hv:=XO b 0 r hb AC AC
 unfold Hb at h
 unfold dL
 split
 .rename_i U
  rw [if_pos U] at h
  exact .inr (.inl ⟨rfl,h⟩)
 .rename_i U
  rw [if_neg U] at h
  exact .inr (.inr ⟨hv.1,k+Bt b r,h,AC⟩)
end Go.Aw
namespace Go.Proofs.Z
open Go Go.Aw
section
variable {st:St} {R:At->St->Prop}
theorem Gv (e:Uz c=v) (U:0<=c) (h1:c<=255) (h:R (.ret (.int .i64 v)) st):PC 207 [.int .u8 c] st R:=by
 subst e;exact oD U h1 h
theorem Uu {b i:Int} {q:Nat} (e:i=(q:Int)) (U:s.length<=100000000) (hq:q<=s.length) (hb:b=8\/b=10\/b=16) (h:R (.ret (.Bj [.int .i64 (dL b (s.drop q)),.int .i64 (q+Bt b (s.drop q):Nat)])) st):PC 208 [.str s,.int .i64 i,.int .i64 b] st R:=by
 subst e;exact ow U hq hb h
theorem Ur (hl:s.length<=100000000) (hi:i<s.length) (h:∀v e,sJ (s.drop i) i v e->R (.ret (.Bj [.int .i64 v,.int .i64 e])) st):PC 173 [.str s,.int .i64 i] st R:=by
 refine pB Tryz.func173 ?_
 have d1:(s.drop i).drop 1=s.drop (i+1):=List.drop_drop
 have d2:(s.drop i).drop 2=s.drop (i+2):=List.drop_drop
 have n0:=gE (l:=s.drop i)
 have n1:=λtx v=>Vy (tx:=tx) (l:=s.drop i) (v:=v)
 have n2:=Vt (l:=s.drop i)
 have n3:=λtx=>Vu (tx:=tx) (l:=s.drop i)
 have n4:=λtx=>Vx (tx:=tx) (l:=s.drop i)
 have n5:=λtx=>Vw (tx:=tx) (l:=s.drop i)
 have n6:=λtx=>Vv (tx:=tx) (l:=s.drop i)
 have n7:=λtx=>Jz (tx:=tx) (l:=s.drop i)
 rw [d1,d2] at n0
 simp only [d1,d2] at n1 n2 n3 n4 n5 n6 n7
 by_cases hlt:i+1<s.length
 .obtain ⟨e,he⟩:∃e,s[i+1]? =some e:=⟨s[i+1],List.getElem?_eq_getElem hlt⟩
  have he':s[((i:Int)+1).toNat]? =some e:=by rw [show ((i:Int)+1).toNat=i+1 by omega];exact he
  have hv:=Ck he
  have hr:=e.toNat_lt
  rw [hv] at n0 n1 n2 n3 n4 n5 n6 n7
  rcases hs:EL ((e.toNat:Nat):Int) with _|v
  .by_cases h38:((e.toNat:Nat):Int)=38
   .have U:Uz ((e.toNat:Nat):Int)= -2:=by unfold Uz;rw [hs];exact if_pos h38
    have a2:Dq false (s.drop i)=none:=by
     rw [n7 false hs GT AC AC AC AC,QG (by rw [hv];omega)];rfl
    have a1:=n2 h38
    clear n0 n1 n2 n3 n4 n5 n6 n7
    repeat' ((conv=>whnf);first|(refine Br ?_;intros)|(refine BR ?_ ?_<;>intro _)|refine Gv U AC AC ?_)
    all_goals exact Gf rfl (h _ _ (.inl ⟨rfl,a1,a2,AC⟩))
   .have U:Uz ((e.toNat:Nat):Int)= -1:=by unfold Uz;rw [hs];exact if_neg h38
    by_cases h94:((e.toNat:Nat):Int)=94
    .skip
     have hno:=n0 hs h38
     have hnm:(Ha (s.drop (i+1))).2=0:=by rw [QG (by rw [hv];omega)]
     have hno:=λx=>hno x AC AC AC hnm
     have hye:=λtx=>n3 tx h94
     clear n0 n1 n2 n3 n4 n5 n6 n7
     by_cases hl2:i+2<s.length
     .obtain ⟨e2,he2⟩:∃e,s[i+2]? =some e:=⟨s[i+2],List.getElem?_eq_getElem hl2⟩
      have he2':s[((i:Int)+1+1).toNat]? =some e2:=by rw [show ((i:Int)+1+1).toNat=i+2 by omega];exact he2
      have hv2:=Ck he2
      have hr2:=e2.toNat_lt
      rw [hv2] at hno hye
      by_cases hin:64<=((e2.toNat:Nat):Int)/\((e2.toNat:Nat):Int)<=95
      .have hye:=λtx=>hye tx hin.1 hin.2
       repeat' ((conv=>whnf);first|(refine Br ?_;intros)|(refine BR ?_ ?_<;>intro _)|refine Gv U AC AC ?_)
       all_goals exact Gf rfl (h _ _ (.inr (.inr ⟨AC,3,hye,AC⟩)))
      .have hno:=hno (λx=>hin x.2)
       repeat' ((conv=>whnf);first|(refine Br ?_;intros)|(refine BR ?_ ?_<;>intro _)|refine Gv U AC AC ?_)
       all_goals exact Gf rfl (h _ _ (.inr (.inl ⟨rfl,hno⟩)))
     .have hv2:=De (s:=s) (i:=i+2) AC
      rw [hv2] at hno
      have hno:=hno (λx=>by omega)
      repeat' ((conv=>whnf);first|(refine Br ?_;intros)|(refine BR ?_ ?_<;>intro _)|refine Gv U AC AC ?_)
      all_goals exact Gf rfl (h _ _ (.inr (.inl ⟨rfl,hno⟩)))
    .by_cases h111:((e.toNat:Nat):Int)=111
     .have hh:=TA (i:=i) (r:=s.drop (i+2)) (k:=2) Do (λtx=>n4 tx h111)
      clear n0 n1 n2 n3 n4 n5 n6 n7
      repeat' ((conv=>whnf);first|(refine Br ?_;intros)|(refine BR ?_ ?_<;>intro _)|refine Gv U AC AC ?_|refine Uu (q:=i+2) AC hl AC Do ?_)
      all_goals exact Gf rfl (h _ _ hh)
     .by_cases h120:((e.toNat:Nat):Int)=120
      .have hh:=TA (i:=i) (r:=s.drop (i+2)) (k:=2) Do (λtx=>n5 tx h120)
       clear n0 n1 n2 n3 n4 n5 n6 n7
       repeat' ((conv=>whnf);first|(refine Br ?_;intros)|(refine BR ?_ ?_<;>intro _)|refine Gv U AC AC ?_|refine Uu (q:=i+2) AC hl AC Do ?_)
       all_goals exact Gf rfl (h _ _ hh)
      .by_cases hdg:48<=((e.toNat:Nat):Int)/\((e.toNat:Nat):Int)<=57
       .have hh:=TA (i:=i) (r:=s.drop (i+1)) (k:=1) Do (λtx=>n6 tx hdg.1 hdg.2)
        clear n0 n1 n2 n3 n4 n5 n6 n7
        repeat' ((conv=>whnf);first|(refine Br ?_;intros)|(refine BR ?_ ?_<;>intro _)|refine Gv U AC AC ?_|refine Uu (q:=i+1) AC hl AC Do ?_)
        all_goals exact Gf rfl (h _ _ hh)
       .have hnn:=λtx=>n7 tx hs AC AC h111 h120 hdg
        clear n0 n1 n2 n3 n4 n5 n6 n7
        repeat' ((conv=>whnf);first|(refine Br ?_;intros)|(refine BR ?_ ?_<;>intro _)|refine Gv U AC AC ?_|refine jM ?_)
        all_goals
         refine K8 (α:=Nat) (β:=Int) (γ:=Nat) (λk v n=>[(11,.int .i64 (k:Int)),(9,.int .i64 v),(8,.int .i64 (n:Int))]) (λ_ _ _=>[]) [0,6,10] [] (λ_ _ _=>st)
          (λk v n=>k<=CN.length/\n<=3/\∃c:Nat,JH (s.drop (i+1)) CN 0 (0,0)=JH (s.drop (i+1)) (CN.drop k) k (c,n)/\((n=0/\v= -1)\/(0<n/\v=c))) (λk _ _=>CN.length - k) 0 (-1) 0 ⟨Nat.zero_le _,Do,0,rfl,.inl ⟨rfl,rfl⟩⟩ Yl (St.le_refl _) ?_
         rintro k v n ⟨j1,j2,c,j3,j4⟩
         rcases hx:CN[k]? with _|x
         .have hge:=List.getElem?_eq_none_iff.1 hx
          rw [List.drop_eq_nil_iff.2 hge] at j3
          have e1:=aN j3
          rw [e1] at hnn
          dsimp only at hnn
          have hend:∀v' e':Int,(n=0/\v'= -1)\/(0<n/\v'=(if c=33 then 127 else (c:Int))/\e'=i+1+n)->sJ (s.drop i) i v' e':=λv' e' hx=>by
           rcases hx with ⟨y1,y2⟩|⟨y1,y2,y3⟩
           .exact .inr (.inl ⟨y2,λtx=>by rw [hnn tx,if_neg AC]⟩)
           .refine .inr (.inr ⟨by rw [y2];split<;>omega,1+n,λtx=>by rw [hnn tx,if_pos y1,y2],AC⟩)
          clear hnn
          rcases j4 with ⟨y1,rfl⟩|⟨y1,rfl⟩
          .skip
           repeat' ((conv=>whnf);first|(refine Br ?_;intros)|(refine BR ?_ ?_<;>intro _)|refine Ml (λ_=>?_))
           all_goals exact Gf rfl (h _ _ (hend _ _ (.inl ⟨y1,rfl⟩)))
          .skip
           repeat' ((conv=>whnf);first|(refine Br ?_;intros)|(refine BR ?_ ?_<;>intro _)|refine Ml (λ_=>?_))
           all_goals first
            |exact Gf rfl (h _ _ (hend _ _ (.inr ⟨y1,by rw [if_pos AC],AC⟩)))
            |exact Gf rfl (h _ _ (hend _ _ (.inr ⟨y1,by rw [if_neg AC],AC⟩)))
         .have hlx:=(List.getElem?_eq_some_iff.1 hx).1
          have hm:=Ny x (List.mem_of_getElem? hx)
          rw [Sw hx] at j3
          have hx':CN[((k:Int)).toNat]? =some x:=hx
          clear hnn h
          repeat' ((conv=>whnf);first|(refine Br ?_;intros)|(refine BR ?_ ?_<;>intro _)|refine Ta hx' AC ?_|refine Ml (λ_=>?_)|refine dF (q:=i+1) hl AC AC AC ?_)
          all_goals first
           |(rw [if_pos ⟨AC,FS⟩] at j3
             conv=>whnf
             exact ⟨(k+1,(k:Int),x.length),⟨So,So,k,j3,.inr ⟨So,rfl⟩⟩,So,Yl,St.le_refl _⟩)
           |(rw [if_neg (λy=>by omega)] at j3
             conv=>whnf
             exact ⟨(k+1,v,n),⟨So,So,c,j3,j4⟩,So,Yl,St.le_refl _⟩)
           |(have hp:x.isPrefixOf (s.drop (i+1))=false:=by assumption
             rw [if_neg (λy=>by rw [hp] at y;cases y.2)] at j3
             conv=>whnf
             exact ⟨(k+1,v,n),⟨So,So,c,j3,j4⟩,So,Yl,St.le_refl _⟩)
  .have hp:=MK hs
   have U:Uz ((e.toNat:Nat):Int)=v:=by unfold Uz;rw [hs]
   have a1:=λtx=>n1 tx v hs
   clear n0 n1 n2 n3 n4 n5 n6 n7
   repeat' ((conv=>whnf);first|(refine Br ?_;intros)|(refine BR ?_ ?_<;>intro _)|refine Gv U AC AC ?_)
   all_goals exact Gf rfl (h _ _ (.inr (.inr ⟨hp.2,2,a1,AC⟩)))
 .have hv:=De (s:=s) (i:=i+1) AC
  rw [hv] at n0
  have hh:=n0 rfl Do (λx=>by omega) Do Do Do (by rw [QG (by rw [hv];decide)])
  clear n0 n1 n2 n3 n4 n5 n6 n7
  repeat' ((conv=>whnf);first|(refine Br ?_;intros)|(refine BR ?_ ?_<;>intro _)|fail)
  all_goals exact Gf rfl (h _ _ (.inr (.inl ⟨rfl,hh⟩)))
end
end Go.Proofs.Z
namespace Go.Aw
open Go
theorem gP (h:Ch (s.drop p)=0):VJ s p=0:=by unfold VJ;rw [if_pos h]
theorem gQ (h:0<Ch (s.drop p)):VJ s p=(p+Ch (s.drop p):Nat):=by unfold VJ;rw [if_neg AC]
theorem pG (h:Di true l=match Dq true l with|none=>.inl 51|some p=>.inr p) (k:sJ l i v e):
 (v= -1->Di true l=.inl 51)/\(v≠ -1->∃(u:Int) (n:Nat),Di true l=.inr (u,n)/\v=(if u= -1 then -2 else u)/\e=(i:Int)+n):=by
 rcases k with ⟨k1,U,k3,k4⟩|⟨k1,U⟩|⟨k1,n,U,k3⟩
 .rw [U] at h
  exact ⟨λx=>by omega,λ_=>⟨-1,2,h,by rw [if_pos rfl];exact k1,k4⟩⟩
 .rw [U] at h
  exact ⟨λ_=>h,λx=>absurd k1 x⟩
 .rw [U] at h
  exact ⟨λx=>by omega,λ_=>⟨v,n,h,by rw [if_neg AC],k3⟩⟩
theorem pF (h:Di false l=match Dq false l with|none=>.inl 51|some p=>.inr p) (k:sJ l i v e):
 (v= -1\/v= -2->Di false l=.inl 51)/\(v≠ -1->v≠ -2->∃(u:Int) (n:Nat),Di false l=.inr (u,n)/\v=(if u= -1 then -2 else u)/\e=(i:Int)+n):=by
 rcases k with ⟨k1,U,k3,k4⟩|⟨k1,U⟩|⟨k1,n,U,k3⟩
 .rw [k3] at h
  exact ⟨λ_=>h,λ_ x=>absurd k1 x⟩
 .rw [U] at h
  exact ⟨λ_=>h,λx=>absurd k1 x⟩
 .rw [U] at h
  exact ⟨λx=>by omega,λ_ _=>⟨v,n,h,by rw [if_neg AC],k3⟩⟩
end Go.Aw
namespace Go.Proofs.Z
open Go Go.Aw
section
variable {st:St} {R:At->St->Prop}
theorem Us (e:VJ s p=v) (hl:s.length<=100000000) (U:AE (s.drop p)=92) (h:R (.ret (.int .i64 v)) st):PC 172 [.str s,.int .i64 p] st R:=by
 subst e;exact rX hl U h
theorem Zn (hl:s.length<=100000000) (hi:i<=s.length) (h0:∀e,Di tx (s.drop i)=.inl e->R (.ret (.Bj [.int .i64 0,.int .i64 i,.int .i64 e])) st)
 (h:∀v n,Di tx (s.drop i)=.inr (v,n)->∀c d:Int,c=(if v= -1 then -2 else v)->d=(i:Int)+n->R (.ret (.Bj [.int .i64 c,.int .i64 d,.int .i64 0])) st):PC 254 [.str s,.int .i64 i,.bool tx] st R:=by
 refine pB Tryz.func254 ?_
 by_cases hlt:i<s.length
 .obtain ⟨e,he⟩:∃e,s[i]? =some e:=⟨s[i],List.getElem?_eq_getElem hlt⟩
  have he':s[(i:Int).toNat]? =some e:=he
  have hv:=Ck he
  have hne:s.drop i≠[]:=λx=>by have:=congrArg List.length x;rw [List.length_drop,List.length_nil] at this;omega
  by_cases h92:((e.toNat:Nat):Int)=92
  .have hq:AE (s.drop i)=92:=AC
   by_cases hg:0<Ch (s.drop i)
   .have hge:=gQ hg
    cases tx with
    |true=>
     have U:=QP hg
     clear h0
     repeat' ((conv=>whnf);first|(refine Br ?_;intros)|(refine BR ?_ ?_<;>intro _)|refine Us hge hl hq ?_)
     all_goals exact Gf rfl (h _ _ U _ _ rfl AC)
    |false=>
     have U:=Ih hq (.inl rfl)
     repeat' ((conv=>whnf);first|(refine Br ?_;intros)|(refine BR ?_ ?_<;>intro _)|refine Ur hl hlt (λv e' hE=>?_))
     all_goals obtain ⟨z1,z2⟩:=pF U hE
     all_goals first
      |exact Gf rfl (h0 _ (z1 AC))
      |(obtain ⟨u,n,y1,y2,y3⟩:=z2 AC AC
        exact Gf rfl (h _ _ y1 _ _ y2 y3))
   .have hge:=gP (show Ch (s.drop i)=0 by omega)
    have U:=Ih (tx:=tx) hq (.inr AC)
    cases tx with
    |true=>
     repeat' ((conv=>whnf);first|(refine Br ?_;intros)|(refine BR ?_ ?_<;>intro _)|refine Us hge hl hq ?_|refine Ur hl hlt (λv e' hE=>?_))
     all_goals obtain ⟨z1,z2⟩:=pG U hE
     all_goals first
      |exact Gf rfl (h0 _ (z1 AC))
      |(obtain ⟨u,n,y1,y2,y3⟩:=z2 AC
        exact Gf rfl (h _ _ y1 _ _ y2 y3))
    |false=>
     repeat' ((conv=>whnf);first|(refine Br ?_;intros)|(refine BR ?_ ?_<;>intro _)|refine Ur hl hlt (λv e' hE=>?_))
     all_goals obtain ⟨z1,z2⟩:=pF U hE
     all_goals first
      |exact Gf rfl (h0 _ (z1 AC))
      |(obtain ⟨u,n,y1,y2,y3⟩:=z2 AC AC
        exact Gf rfl (h _ _ y1 _ _ y2 y3))
  .have hq:AE (s.drop i)≠92:=AC
   have U:=Kk (tx:=tx) hne hq
   rcases hd:AR (s.drop i) with ⟨c,m⟩
   rw [hd] at U
   have hbad:=Td (c:=c) (m:=m)
   have z1:(Ax (c:Int)=0\/(Ax (c:Int)=1/\¬c=32)\/(c=65533/\m=1))->Di tx (s.drop i)=.inl 50:=λx=>by rw [U,if_pos (hbad.2 x)]
   have z2:¬(Ax (c:Int)=0\/(Ax (c:Int)=1/\¬c=32)\/(c=65533/\m=1))->Di tx (s.drop i)=.inr ((c:Int),m):=λx=>by rw [U,if_neg (λy=>x (hbad.1 y))]
   have hm:=Hj hne
   rw [hd,List.length_drop] at hm
   dsimp only at hm
   clear U hbad
   repeat' ((conv=>whnf);first|(refine Br ?_;intros)|(refine BR ?_ ?_<;>intro _)|refine bw hd.symm hlt AC ?_|refine Xa ?_)
   all_goals first
    |exact Gf rfl (h0 _ (z1 AC))
    |exact Gf rfl (h _ _ (z2 AC) _ _ (by rw [if_neg AC]) rfl)
 .have hd:s.drop i=[]:=List.drop_eq_nil_iff.2 AC
  have h0:=h0 50 (by rw [hd];rfl)
  clear h
  repeat' ((conv=>whnf);first|(refine Br ?_;intros)|(refine BR ?_ ?_<;>intro _)|fail)
  all_goals exact Gf rfl h0
end
end Go.Proofs.Z
namespace Go.Aw
open Go
theorem QO {b:Int} {p:Int×Nat} (hb:1<=b) (h:Hb b l=some p):0<=p.1:=by
 have U:=XO b 0 l hb AC AC
 unfold Hb at h
 grind
theorem gD {p:Int×Nat} (h:Dq tx l=some p):(p.1= -1/\tx=true)\/0<=p.1:=by
 unfold Dq at h
 split at h
 .rename_i v hs
  have:=MK hs
  grind
 .repeat' split at h
  .grind
  .grind
  .obtain ⟨q,U,rfl⟩:=Option.map_eq_some_iff.1 h
   have hz:=QO (b:=8) Do U
   omega
  .obtain ⟨q,U,rfl⟩:=Option.map_eq_some_iff.1 h
   have hz:=QO (b:=16) Do U
   omega
  .obtain ⟨q,U,rfl⟩:=Option.map_eq_some_iff.1 h
   have hz:=QO (b:=10) Do U
   omega
  .injection h with h;subst h
   refine .inr ?_
   simp only [Ha]
   omega
  grind
theorem jo (h:Di tx l=.inr (v,n)):(v= -1/\tx=true)\/0<=v:=by
 unfold Di at h
 split at h
 .cases h
 .split at h
  .split at h
   .simp_all
   .split at h
    .cases h
    .rename_i q U
     injection h with h;subst h;exact gD U
  grind
theorem jn (h:Di tx l=.inl e):e=50\/e=51:=by
 unfold Di at h
 grind
theorem fK (h:AE l=39):Ep l=.inl (0,50):=by unfold Ep;simp_all
theorem Sh (h:AE l≠39) (k:Di false l=.inl e):Ep l=.inl (0,e):=by unfold Ep;simp_all
theorem fL (h:AE l≠39) (k:Di false l=.inr (v,n)):Ep l=if AE (l.drop n)=39 then .inr (n+1) else .inl (n,50):=by unfold Ep;simp_all
def nF (k:Int):Sum (Nat×Int) Nat->Int×Int×Int
 | .inl q=>(0,q.1,q.2)
 | .inr n=>(k,n,0)
theorem qk {q:Nat} (h:AE l≠39) (k:Di false l=.inr (v,n)):OB q (Ep l)=OB (q+n) (if AE (l.drop n)=39 then .inr 1 else .inl (0,50)):=by
 rw [fL h k]
 split
 .rfl
 rfl
theorem rQ (h:AE (s.drop p)=34):Bs s p=nF 14 (OB (p+1) (C6 (s.drop (p+1)))):=by
 unfold Bs;rw [if_pos h]
 cases C6 (s.drop (p+1)) with
 |inl q=>rfl
 |inr n=>rfl
theorem rP (h:AE (s.drop p)=39):Bs s p=nF 13 (OB (p+1) (Ep (s.drop (p+1)))):=by
 unfold Bs;rw [if_neg AC,if_pos h]
 cases Ep (s.drop (p+1)) with
 |inl q=>rfl
 |inr n=>rfl
end Go.Aw
namespace Go.Proofs.Z
open Go Go.Aw
section
variable {st:St} {R:At->St->Prop}
attribute [local irreducible] Go.Aw.Ag
theorem Yx {r r':At} {st':St} (hs:st.le st') (e:r=r') (h:R r st):∃r2 U,(r2=r'\/r2=r'.wk)/\St.le U st'/\R r2 U:=⟨r,st,.inl e,hs,h⟩
theorem U2 {l:List Int} {own:AA} {st:St} (h:own.Bw st) (hb:l.length<=999999999)
 (k:∀U:AA,U.Bw st->K (.slice 1 (ints (l++[v])) U) (U.st st (l++[v]).length)):Ag 1 8 (ints l) own [[.int .i64 v]] (own.st st l.length) K:=
 Lw (new:=[v]) h kw k
theorem jN (hl:s.length<=100000000) (hi:i<=s.length) (h0:∀e,Di tx (s.drop i)=.inl e->e=50\/e=51->R (.ret (.Bj [.int .i64 0,.int .i64 i,.int .i64 e])) st)
 (h:∀v n,Di tx (s.drop i)=.inr (v,n)->(v= -1/\tx=true)\/0<=v->1<=n/\i+n<=s.length->∀c:Int,(v= -1/\c= -2)\/(0<=v/\c=v)->R (.ret (.Bj [.int .i64 c,.int .i64 (i+n:Nat),.int .i64 0])) st):PC 254 [.str s,.int .i64 i,.bool tx] st R:=
 Zn hl hi (λe U=>h0 e U (jn U)) (λv n U c d hc hd=>by
  have hv:=jo U
  have hn:=ED U
  rw [List.length_drop] at hn
  dsimp only at hn
  have:=h v n U hv ⟨hn.1,AC⟩ c (by rcases hv with x|x<;>(split at hc<;>omega))
  rw [show d=((i+n:Nat):Int) by omega]
  exact this)
theorem oz (hl:s.length<=100000000) (hp:i<s.length)
 (h:∀o own,AA.Bw st own->R (.ret (.Bj [.int .i64 (Bs s i).1,.slice 1 (ints o) own,.int .i64 (Bs s i).2.1,.int .i64 (Bs s i).2.2])) (AA.st st (List.length o) own)):PC 205 [.str s,.int .i64 i] st R:=by
 have hh:∀a b c,Bs s i=(a,b,c)->∀o own,AA.Bw st own->R (.ret (.Bj [.int .i64 a,.slice 1 (ints o) own,.int .i64 b,.int .i64 c])) (AA.st st (List.length o) own):=λa b c e=>by rw [e] at h;exact h
 clear h
 refine pB Tryz.func205 ?_
 obtain ⟨e,he⟩:∃e,s[i]? =some e:=⟨s[i],List.getElem?_eq_getElem hp⟩
 have he':s[(i:Int).toNat]? =some e:=he
 have hv:=Ck he
 by_cases h34:((e.toNat:Nat):Int)=34
 .have hq:=rQ (s:=s) (p:=i) AC
  repeat' ((conv=>whnf);first|exact Du|(refine Br ?_;intros)|(refine Dw ?_ ?_ ?_;rotate_left)|(refine BR ?_ ?_<;>intro _)|refine An GE ?_|fail)
  refine K8 (α:=Nat) (β:=List Int) (γ:=AA) (λpos l own=>[(11,.int .i64 (pos:Int)),(10,.slice 1 (ints l) own)]) (λ_ _ _=>[]) [0,8,9] [] (λ_ l own=>own.st st l.length)
   (λpos l own=>pos<=s.length/\l.length<=pos/\own.Bw st/\Bs s i=nF 14 (OB pos (C6 (s.drop pos)))) (λpos _ _=>s.length - pos) (i+1) [] .full ⟨AC,GT,trivial,hq⟩ Yl (St.le_refl _) ?_
  rintro pos l own ⟨j1,j2,j3,j4⟩
  by_cases hlt:pos<s.length
  .obtain ⟨e2,U⟩:∃e,s[pos]? =some e:=⟨s[pos],List.getElem?_eq_getElem hlt⟩
   have he2':s[(pos:Int).toNat]? =some e2:=U
   have hv2:=Ck U
   by_cases hq2:((e2.toNat:Nat):Int)=34
   .rw [SQ AC] at j4
    have hx:((e2.toNat:Nat):Int)=(e.toNat:Nat):=AC
    repeat' ((conv=>whnf);first|exact Du|(refine Br ?_;intros)|(refine Dw ?_ ?_ ?_;rotate_left)|(refine BR ?_ ?_<;>intro _)|refine An GE ?_|fail)
    all_goals exact Gf rfl (hh _ _ _ j4 l own j3)
   .have hx:¬((e2.toNat:Nat):Int)=(e.toNat:Nat):=AC
    repeat' ((conv=>whnf);first|exact Du|(refine Br ?_;intros)|(refine Dw ?_ ?_ ?_;rotate_left)|(refine BR ?_ ?_<;>intro _)|refine jN hl j1 (λe' hO z1=>?_) (λv n hO z1 z2 c z3=>?_)|refine U2 j3 AC (λown' ho=>?_)|refine An GE ?_|fail)
    all_goals first
     |(rw [NQ AC hO] at j4
       exact Yx (AA.Bi j3) rfl (hh _ _ _ j4 [] .full trivial))
     |(rw [ZP AC hO,List.drop_drop] at j4
       conv=>whnf
       first
        |exact ⟨(pos+n,l++[c],own'),⟨So,by dsimp only;rw [List.length_append,List.length_singleton];omega,ho,j4⟩,So,Yl,St.le_refl _⟩
        |exact ⟨(pos+n,l,own),⟨So,So,j3,j4⟩,So,Yl,St.le_refl _⟩)
  .have hO:Di true (s.drop pos)=.inl 50:=by rw [List.drop_eq_nil_iff.2 AC];rfl
   rw [NQ (by rw [De AC];decide) hO] at j4
   have hone:∀{R:At->St->Prop},R (.ret (.Bj [.int .i64 0,.int .i64 pos,.int .i64 50])) (own.st st l.length)->PC 254 [.str s,.int .i64 pos,.bool true] (own.st st l.length) R:=λh=>
    Zn hl j1 (λe' x=>by rw [hO] at x;injection x with x;subst x;exact h) (λv n x=>by rw [hO] at x;cases x)
   repeat' ((conv=>whnf);first|exact Du|(refine Br ?_;intros)|(refine Dw ?_ ?_ ?_;rotate_left)|(refine BR ?_ ?_<;>intro _)|refine hone ?_|refine An GE ?_|fail)
   all_goals exact Yx (AA.Bi j3) rfl (hh _ _ _ j4 [] .full trivial)
 .by_cases h39:((e.toNat:Nat):Int)=39
  .have hq:=rP (s:=s) (p:=i) AC
   repeat' ((conv=>whnf);first|exact Du|(refine Br ?_;intros)|(refine Dw ?_ ?_ ?_;rotate_left)|(refine BR ?_ ?_<;>intro _)|refine An GE ?_|fail)
   refine K8 (α:=Nat) (β:=List Int) (γ:=AA) (λpos l own=>[(11,.int .i64 (pos:Int)),(10,.slice 1 (ints l) own)]) (λ_ _ _=>[]) [0,8,9] [] (λ_ l own=>own.st st l.length)
    (λpos l own=>pos<=s.length/\own.Bw st/\((l.length=0/\pos=i+1)\/(l.length=1/\i+1<pos/\Bs s i=nF 13 (OB pos (if AE (s.drop pos)=39 then .inr 1 else .inl (0,50)))))) (λ_ l _=>1 - l.length) (i+1) [] .full ⟨AC,trivial,.inl ⟨rfl,rfl⟩⟩ Yl (St.le_refl _) ?_
   rintro pos l own ⟨j1,j3,j4⟩
   rcases j4 with ⟨j4,rfl⟩|⟨j4,j5,j6⟩
   .by_cases hlt:i+1<s.length
    .obtain ⟨e2,U⟩:∃e,s[i+1]? =some e:=⟨s[i+1],List.getElem?_eq_getElem hlt⟩
     have he2':s[((i+1:Nat):Int).toNat]? =some e2:=U
     have hv2:=Ck U
     by_cases hq2:((e2.toNat:Nat):Int)=39
     .rw [fK AC] at hq
      have hx:((e2.toNat:Nat):Int)=(e.toNat:Nat):=AC
      repeat' ((conv=>whnf);first|exact Du|(refine Br ?_;intros)|(refine Dw ?_ ?_ ?_;rotate_left)|(refine BR ?_ ?_<;>intro _)|refine An GE ?_|fail)
      all_goals exact Yx (AA.Bi j3) rfl (hh _ _ _ hq [] .full trivial)
     .have hx:¬((e2.toNat:Nat):Int)=(e.toNat:Nat):=AC
      repeat' ((conv=>whnf);first|exact Du|(refine Br ?_;intros)|(refine Dw ?_ ?_ ?_;rotate_left)|(refine BR ?_ ?_<;>intro _)|refine jN hl j1 (λe' hO z1=>?_) (λv n hO z1 z2 c z3=>?_)|refine U2 j3 AC (λown' ho=>?_)|refine An GE ?_|fail)
      all_goals first
       |(rw [Sh AC hO] at hq
         exact Yx (AA.Bi j3) rfl (hh _ _ _ hq [] .full trivial))
       |(rw [qk AC hO,List.drop_drop] at hq
         conv=>whnf
         exact ⟨(i+1+n,l++[c],own'),⟨So,ho,.inr ⟨by dsimp only;rw [List.length_append,List.length_singleton];omega,So,hq⟩⟩,by dsimp only;rw [List.length_append,List.length_singleton];omega,Yl,St.le_refl _⟩)
       |(exfalso
         rcases z1 with ⟨_,x⟩|x
         .cases x
         .omega)
    .have hO:Di false (s.drop (i+1))=.inl 50:=by rw [List.drop_eq_nil_iff.2 AC];rfl
     rw [Sh (by rw [De AC];decide) hO] at hq
     have hone:∀{R:At->St->Prop},R (.ret (.Bj [.int .i64 0,.int .i64 (i+1:Nat),.int .i64 50])) (own.st st l.length)->PC 254 [.str s,.int .i64 (i+1:Nat),.bool false] (own.st st l.length) R:=λh=>
      Zn hl j1 (λe' x=>by rw [hO] at x;injection x with x;subst x;exact h) (λv n x=>by rw [hO] at x;cases x)
     repeat' ((conv=>whnf);first|exact Du|(refine Br ?_;intros)|(refine Dw ?_ ?_ ?_;rotate_left)|(refine BR ?_ ?_<;>intro _)|refine hone ?_|refine An GE ?_|fail)
     all_goals exact Yx (AA.Bi j3) rfl (hh _ _ _ hq [] .full trivial)
   .by_cases hlt:pos<s.length
    .obtain ⟨e2,U⟩:∃e,s[pos]? =some e:=⟨s[pos],List.getElem?_eq_getElem hlt⟩
     have he2':s[(pos:Int).toNat]? =some e2:=U
     have hv2:=Ck U
     by_cases hq2:((e2.toNat:Nat):Int)=39
     .rw [if_pos AC] at j6
      have hx:((e2.toNat:Nat):Int)=(e.toNat:Nat):=AC
      repeat' ((conv=>whnf);first|exact Du|(refine Br ?_;intros)|(refine Dw ?_ ?_ ?_;rotate_left)|(refine BR ?_ ?_<;>intro _)|refine An GE ?_|fail)
      all_goals exact Gf rfl (hh _ _ _ j6 l own j3)
     .rw [if_neg AC] at j6
      have hx:¬((e2.toNat:Nat):Int)=(e.toNat:Nat):=AC
      repeat' ((conv=>whnf);first|exact Du|(refine Br ?_;intros)|(refine Dw ?_ ?_ ?_;rotate_left)|(refine BR ?_ ?_<;>intro _)|refine An GE ?_|fail)
      all_goals exact Yx (AA.Bi j3) rfl (hh _ _ _ j6 [] .full trivial)
    .rw [if_neg (by rw [De AC];decide)] at j6
     repeat' ((conv=>whnf);first|exact Du|(refine Br ?_;intros)|(refine Dw ?_ ?_ ?_;rotate_left)|(refine BR ?_ ?_<;>intro _)|refine An GE ?_|fail)
     all_goals exact Yx (AA.Bi j3) rfl (hh _ _ _ j6 [] .full trivial)
  .have hq:Bs s i=(0,0,0):=by unfold Bs;rw [if_neg AC,if_neg AC]
   repeat' ((conv=>whnf);first|exact Du|(refine Br ?_;intros)|(refine Dw ?_ ?_ ?_;rotate_left)|(refine BR ?_ ?_<;>intro _)|refine An GE ?_|fail)
   all_goals exact Gf rfl (hh _ _ _ hq [] .full trivial)
end
end Go.Proofs.Z
namespace Go.Aw
open Go
def Cm (s:List UInt8) (p:Nat):Int×Int×Int:=
 if (QN s p).1≠0 then ((QN s p).1,(QN s p).2,0)
 else if (Bs s p).1=0/\(Bs s p).2.2=0 then
  if (G8 s p).1=0 then (0,p,70) else ((G8 s p).1,(G8 s p).2,0)
 else Bs s p
def OX (s:List UInt8) (p sp:Nat) (U Cp:Int) (AV notes:List (List V)) (w1 w2:AA) (D6 ends:Int) (j:Bool):List V:=
 [.str s,.int .i64 p,.int .i64 sp,.int .i64 U,.int .i64 Cp,.slice 4 AV w1,.slice 5 notes w2,.int .i64 D6,.int .i64 ends,.bool j]
end Go.Aw
namespace Go.Proofs.Z
open Go Go.Aw
section
variable {st:St} {R:At->St->Prop}
theorem rl {Cp ends:Int} (hl:s.length<=100000000) (U:p<s.length) (hb:st.box b=some (OX s p sp ln Cp AV notes w1 w2 D6 ends j))
 (h:R (.ret (.agg [.int .i64 (QN s p).1,.int .i64 (QN s p).2,.int .i64 0])) st):PC 77 [.ptr b 0] st R:=by
 refine pB Tryz.func77 ?_
 repeat' ((conv=>whnf);first|exact B1|(refine B2 ?_ ?_ ?_;rotate_left)|refine Am hb ?_|refine jf AC U ?_|refine Ad 14 [8] [] ?_|fail)
 all_goals exact fin h rfl
theorem rp {Cp ends:Int} (U:s.length<=100000000) (hp:p<s.length) (hb:st.box b=some (OX s p sp ln Cp AV notes w1 w2 D6 ends j))
 (h:R (.ret (.agg [.int .i64 (G8 s p).1,.int .i64 (G8 s p).2,.int .i64 0])) st):PC 79 [.ptr b 0] st R:=by
 refine pB Tryz.func79 ?_
 repeat' ((conv=>whnf);first|exact B1|(refine B2 ?_ ?_ ?_;rotate_left)|refine Am hb ?_|refine ly U hp ?_|refine Ad 14 [8] [] ?_|fail)
 all_goals exact fin h rfl
theorem rk {Cp ends:Int} (U:s.length<=100000000) (hp:p<s.length) (hb:st.box b=some (OX s p sp ln Cp AV notes w1 w2 D6 ends j))
 (h:R (.ret (.agg [.int .i64 (Bs s p).1,.int .i64 (Bs s p).2.1,.int .i64 (Bs s p).2.2])) st):PC 78 [.ptr b 0] st R:=by
 refine pB Tryz.func78 ?_
 repeat' ((conv=>whnf);first|exact B1|(refine B2 ?_ ?_ ?_;rotate_left)|refine Am hb ?_|refine oi U hp ?_|refine Ad 16 [8] [] ?_|fail)
 all_goals exact fin h rfl
theorem iz {Cp ends:Int} (hl:s.length<=100000000) (hp:p<s.length) (hb:st.box b=some (OX s p sp ln Cp AV notes w1 w2 D6 ends j))
 (h:R (.ret (.agg [.int .i64 (Cm s p).1,.int .i64 (Cm s p).2.1,.int .i64 (Cm s p).2.2])) st):PC 50 [.ptr b 0] st R:=by
 refine pB Tryz.func50 ?_
 have U:∀a b c,Cm s p=(a,b,c)->R (.ret (.agg [.int .i64 a,.int .i64 b,.int .i64 c])) st:=λa b c e=>by rw [e] at h;exact h
 clear h
 unfold Cm at U
 repeat' ((conv=>whnf);first|(refine A1 ?_;intros)|(refine CZ ?_ ?_<;>intro _)|refine rl hl hp hb ?_|refine rk hl hp hb ?_|refine rp hl hp hb ?_|refine Am hb ?_)
 .exact fin (U _ _ _ (by rw [if_neg AC,if_pos ⟨AC,AC⟩,if_pos AC])) rfl
 .exact fin (U _ _ _ (by rw [if_neg AC,if_pos ⟨AC,AC⟩,if_neg AC])) rfl
 .exact fin (U _ _ _ (by rw [if_neg AC,if_neg (λx=>by omega)])) rfl
 .exact fin (U _ _ _ (by rw [if_neg AC,if_neg (λx=>by omega)])) rfl
 .exact fin (U _ _ _ (by rw [if_pos AC])) rfl
end
section
variable {st:St} {R:At->St->Prop}
theorem Vi {k Cp:Int} (h:R (.ret (.bool (decide (¬k=15)|| !Lib.contains [123,125,59] t))) st):PC 80 [.agg [.int .i64 k,.str t,.int .i64 ln,.int .i64 Cp]] st R:=by
 refine pB Tryz.func80 ?_
 repeat' ((conv=>whnf);first|  (refine CZ ?_ ?_<;>intro _)|refine Yh Do ?_)
 all_goals first
  |exact Au h (by simp [*])
  |(rename_i U _;exact Au h (by simp [U]))
theorem LH {U Cp ends:Int} (hl:s.length<=100000000) (hp:p<=s.length) (hb:st.box b=some (OX s p sp U Cp AV notes w1 w2 D6 ends j))
 (h:R (.ret (.Bj [])) (st.Aa b (OX s (p+BQ (λc=>Ax c==1) (s.drop p)) sp U Cp AV notes w1 w2 D6 ends j))):PC 47 [.ptr b 0] st R:=by
 refine pB Tryz.func47 ?_
 repeat' ((conv=>whnf);first|refine Ad 13 [9,12] [] ?_|exact B1|(refine B2 ?_ ?_ ?_;rotate_left)|refine Am hb ?_|refine Kq hl hp rfl rfl ?_|fail)
 all_goals exact fin h rfl
end
end Go.Proofs.Z
namespace Go.Aw
open Go
def Bc (s:List UInt8) (a b:Nat):List UInt8:=(s.take b).drop a
theorem Um {a:Nat} {K:List UInt8->Prop} (U:a<=b) (h2:b<=s.length) (k:K (Bc s a b)):
 (0<=(a:Int)/\(a:Int)<=b/\(b:Int)<=s.length)/\∀s',s'=(s.take (b:Int).toNat).drop (a:Int).toNat->K s':=
 ⟨⟨AC,AC,AC⟩,λs' e=>by
   rw [show (b:Int).toNat=b by omega,show (a:Int).toNat=a by omega] at e
   subst e;exact k⟩
end Go.Aw
namespace Go.Proofs.Z
open Go Go.Aw
section
variable {st:St} {R:At->St->Prop}
theorem uh {q:Nat} {Cp ends:Int} (hl:s.length<=100000000) (hsp:sp<=q) (hq:q<=s.length) (hln:1<=ln/\ln<=1000000000) (U:1<=Cp/\Cp<=2147483648)
 (hw:1<=(BZ (Bc s sp q) (Bc s sp q).length (1,1)).1/\(BZ (Bc s sp q) (Bc s sp q).length (1,1)).1<=1000000000)
 (hb:st.box b=some (OX s p sp ln Cp AV notes w1 w2 D6 ends j))
 (h:R (.ret (.Bj [.int .i64 (ln+(BZ (Bc s sp q) (Bc s sp q).length (1,1)).1 - 1),.int .i64 (BZ (Bc s sp q) (Bc s sp q).length (1,Cp)).2]))
   (st.Aa b (OX s p q (ln+(BZ (Bc s sp q) (Bc s sp q).length (1,1)).1 - 1) (BZ (Bc s sp q) (Bc s sp q).length (1,Cp)).2 AV notes w1 w2 D6 ends j))):PC 76 [.ptr b 0,.int .i64 q] st R:=by
 have hpl:(Bc s sp q).length<=100000000:=by unfold Bc;rw [List.length_drop,List.length_take];omega
 have b2:∀cs,(st.Aa b cs).box b=some cs:=λcs=>St.AJ _ _ _
 refine pB Tryz.func76 ?_
 repeat' ((conv=>whnf);first|exact B1|(refine A1 ?_;intros)|(refine B2 ?_ ?_ ?_;rotate_left)|refine Um hsp hq ?_|refine (λ(_:(Bc s sp q).length<C9)=>?_)|refine tE hpl (Nat.le_refl _) ?_|refine pc hpl U.1 U.2 ?_|refine Am hb ?_|refine Am (b2 _) ?_|refine An GE ?_|fail)
 all_goals exact fin h rfl
end
end Go.Proofs.Z
namespace Go.Aw
open Go
def Cq (s:List UInt8) (a b:Nat) (p:Int×Int):Int×Int:=BZ (Bc s a b) (Bc s a b).length p
theorem Ik {a:Nat} (U:a<=b) (h2:b<=s.length):(Bc s a b).length=b - a:=by
 unfold Bc;rw [List.length_drop,List.length_take];omega
theorem aY {a:Nat} {p:Int×Int} (U:a<=b) (h2:b<=s.length) (h:1<=p.2):p.1<=(Cq s a b p).1/\(Cq s a b p).1<=p.1+(b - a:Nat)/\1<=(Cq s a b p).2/\(Cq s a b p).2<=p.2+8*(b - a:Nat):=by
 have:=RH _ (Bc s a b) (Bc s a b).length p (Nat.le_refl _) h
 rw [Ik U h2] at this
 unfold Cq
 rw [Ik U h2]
 omega
end Go.Aw
namespace Go.Proofs.Z
open Go Go.Aw
section
variable {st:St} {R:At->St->Prop}
theorem oO {q:Nat} {U Cp ends:Int} (hl:s.length<=100000000) (hsp:sp<=q) (hq:q<=s.length) (hln:1<=U/\U<=1000000000) (hcol:1<=Cp/\Cp<=2147483648)
 (hb:st.box b=some (OX s p sp U Cp AV notes w1 w2 D6 ends j))
 (h:R (.ret (.Bj [.int .i64 (Cq s sp q (U,Cp)).1,.int .i64 (Cq s sp q (U,Cp)).2]))
   (st.Aa b (OX s p q (Cq s sp q (U,Cp)).1 (Cq s sp q (U,Cp)).2 AV notes w1 w2 D6 ends j))):PC 76 [.ptr b 0,.int .i64 q] st R:=by
 have hlen:=Ik hsp hq
 have h1:=RH _ (Bc s sp q) (Bc s sp q).length (1,1) (Nat.le_refl _) Do
 have h2:=SZ _ (Bc s sp q) (Bc s sp q).length 1 1 Cp U (Nat.le_refl _)
 have h3:=XS _ (Bc s sp q) (Bc s sp q).length 1 Cp U (Nat.le_refl _)
 have e1:U+(BZ (Bc s sp q) (Bc s sp q).length (1,1)).1 - 1=(Cq s sp q (U,Cp)).1:=by unfold Cq;omega
 have e2:(BZ (Bc s sp q) (Bc s sp q).length (1,Cp)).2=(Cq s sp q (U,Cp)).2:=h3
 refine uh hl hsp hq hln hcol ⟨by dsimp only at h1;omega,by dsimp only at h1;omega⟩ hb ?_
 rw [e1,e2]
 exact h
end
end Go.Proofs.Z
namespace Go.Aw
open Go
theorem lq {a:Nat} (h:BT l a) (k:Nat) (p:Int×Int):BZ l (a+k) p=BZ (l.drop a) k (BZ l a p):=by
 induction h generalizing p with
 |zero l=>rw [FN,Nat.zero_add,List.drop_zero]
 |@step l j U h ih=>
  rw [EA U AC,EA (k:=AU l+j) U AC,show AU l+j+k - AU l=j+k by omega,show AU l+j - AU l=j by omega,ih,List.drop_drop]
theorem JD (h:0<m):AE (l.take m)=AE l:=by
 cases l with
 |nil=>rw [List.take_nil]
 |cons a r=>
  obtain ⟨m,rfl⟩:∃k,m=k+1:=⟨m - 1,AC⟩
  rfl
theorem Sr:AE ((l.take m).drop 1)=if 1<m then AE (l.drop 1) else -1:=by
 rw [List.drop_take]
 by_cases h:1<m
 .rw [if_pos h,JD AC]
 .rw [if_neg h,show m - 1=0 by omega,List.take_zero];rfl
theorem iY (h:0<m) (h2:HS l<=m):HS (l.take m)=HS l:=by
 rcases FD l with ⟨e,U⟩|⟨e,U,h3⟩|⟨e,U,h3⟩
 .rw [e];unfold HS;rw [JD h,if_neg (λx=>U (.inl x.1)),if_neg U]
 .rw [e];unfold HS;rw [JD h,Sr,if_neg,if_pos U]
  rintro ⟨x,y⟩
  split at y
  .exact h3 ⟨x,y⟩
  .exact absurd y Do
 .rw [e];unfold HS;rw [JD h,Sr,if_pos (show 1<m by omega),if_pos ⟨U,h3⟩]
theorem eL (h:BT l k) (hv:Vd l) (p:Int×Int):BZ (l.take k) k p=BZ l k p:=by
 induction h generalizing p with
 |zero l=>rw [FN,FN]
 |@step l j U h ih=>
  have h1:=F9 U
  have hn:HS (l.take (AU l+j))=HS l:=iY AC (by
   by_cases hc:0<HS l
   .have e:AU l=HS l:=if_pos hc
    omega
   .omega)
  have hr:=hv.rune U
  have es:AU (l.take (AU l+j))=AU l:=by
   by_cases hc:0<HS l
   .have e3:AU (l.take (AU l+j))=HS (l.take (AU l+j)):=if_pos (by rw [hn];exact hc)
    rw [e3,hn];exact (if_pos hc).symm
   .have e1:AU l=(AR l).2:=if_neg hc
    have e2:AR (l.take (AU l+j))=AR l:=by
     have:=fW U hr.1 ((l.take (AU l+j)).drop (AR l).2)
     rwa [show l.take (AR l).2=(l.take (AU l+j)).take (AR l).2 by rw [List.take_take,Nat.min_eq_left AC],List.take_append_drop] at this
    have e3:AU (l.take (AU l+j))=(AR (l.take (AU l+j))).2:=if_neg (by rw [hn];exact hc)
    rw [e3,e2];exact e1.symm
  have hne':l.take (AU l+j)≠[]:=λe=>by
   have:=congrArg List.length e
   rw [List.length_take,List.length_nil] at this;omega
  have hv':Vd (l.drop (AU l)):=(BT.step U (.zero (l.drop (AU l)))).bd.vd hv
  rw [EA hne' AC,EA U AC,es,show AU l+j - AU l=j by omega,List.drop_take,show AU l+j - AU l=j by omega,ih hv']
  congr 1
  unfold Fi Gq
  rw [hn,JD AC]
def CD (s:List UInt8) (p:Nat):Int×Int:=BZ s p (1,1)
theorem ju {a:Nat} (hv:Vd s) (U:BT s a) (hb:BT (s.drop a) (b - a)) (h:a<=b) (hl:b<=s.length):Cq s a b (CD s a)=CD s b:=by
 have e:Bc s a b=(s.drop a).take (b - a):=by unfold Bc;rw [List.drop_take]
 have hp:=Ik h hl
 unfold Cq CD
 rw [hp,e,eL hb (U.bd.vd hv),<-lq U,show a+(b - a)=b by omega]
theorem kr (s:List UInt8) (n:Nat) (k:Int):n<=(Hz s n k).2:=by
 fun_induction Hz s n k with
 |case1 n k hn U ih=>omega
 |case2 n k hn U=>omega
 |case3 n k hn=>omega
theorem dA (h:(Be l).1≠0):0<(Be l).2:=by
 by_cases U:0<(Be l).2
 .exact U
 .exfalso
  cases l with
  |nil=>exact h rfl
  |cons a r=>
   have hne:a::r≠[]:=GT
   have hp:=FX (a::r)
   apply h
   unfold Be at U |-
   split
   .simp_all
   .rename_i h6
    rw [if_neg h6] at U
    have key:∀p:Int->Bool,p (((AR (a::r)).1:Nat):Int)=true->0<BQ p (a::r):=λp hp'=>by
     rw [dX hne hp'];omega
    split
    .rename_i h5
     rw [if_pos h5] at U
     have:=key (λc=>Ax c==5) (beq_iff_eq.2 h5)
     omega
    .rename_i h5
     rw [if_neg h5] at U
     split
     .rename_i h3
      rw [if_pos h3] at U
      have h3':Ax (((AR (a::r)).1:Nat):Int)=3:=h3
      have:=key HK (by unfold HK;simp_all)
      unfold KL at U;omega
     .rename_i h3
      rw [if_neg h3] at U
      split
      .rename_i h2
       rw [if_pos h2] at U
       have h2':Ax (((AR (a::r)).1:Nat):Int)=2:=h2
       have:=key HK (by unfold HK;simp_all)
       unfold KL at U;omega
      .rfl
def sw (k:Int) (t:List UInt8) (p:Int×Int):List V:=[.int .i64 k,.str t,.int .i64 p.1,.int .i64 p.2]
theorem ke {st:St} {o:List (List V)} {k a b:Int} (h:BU st0 st w1 (o.length*4) w2 n2) (hl:o.length<=1000000000)
 (kk:∀U st',BU st0 st' U ((o.length+1)*4) w2 n2->st'.box=st.box->K (.slice 4 (o++[sw k t (a,b)]) U) st'):Ag 4 40 o w1 [[.int .i64 k,.str t,.int .i64 a,.int .i64 b]] st K:=
 Kp h rfl Pi (by rw [List.length_singleton];unfold C9;omega) rfl GT (λU st' hr hb=>kk U st' hr hb)
end Go.Aw
namespace Go.Proofs.Z
open Go Go.Aw
section
variable {st:St} {R:At->St->Prop}
attribute [local irreducible] Go.Aw.Ag
theorem oP {q:Nat} {k e0 Cp ends:Int} (hl:s.length<=100000000) (hsp:sp<=p) (hpq:p<=q) (hq:q<=s.length) (hln:1<=ln/\ln<=800000000) (hcol:1<=Cp/\Cp<=1000000000)
 (hg:0<=D6/\D6<=1000000000) (ht:AV.length<=1000000000) (U:st0.box b=none) (hR:BU st0 st w1 (AV.length*4) w2 n2) (hb:st.box b=some (OX s p sp ln Cp AV notes w1 w2 D6 ends j))
 (h:∀w1' st',BU st0 st' w1' ((AV.length+1)*4) w2 n2->st'.box b=some (OX s q q (Cq s p q (Cq s sp p (ln,Cp))).1 (Cq s p q (Cq s sp p (ln,Cp))).2 (AV++[sw k (Bc s p q) (Cq s sp p (ln,Cp))]) notes w1' w2
   (if decide (¬k=15)|| !Lib.contains [123,125,59] (Bc s p q) then D6+1 else D6) (Cq s p q (Cq s sp p (ln,Cp))).1 true)->R (.ret (.Bj [])) st'):PC 51 [.ptr b 0,.agg [.int .i64 k,.int .i64 q,.int .i64 e0]] st R:=by
 have z1:=aY (s:=s) (p:=(ln,Cp)) hsp AC hcol.1
 refine AP Ab [] Tryz.func51 rfl Do rfl ?_
 refine Af (Ae Ab ?_)
 repeat' ((conv=>whnf);first|exact B1|(refine A1 ?_;intros)|(refine B2 ?_ ?_ ?_;rotate_left)|fail)
 refine Af (Ae Ab ?_)
 repeat' ((conv=>whnf);first|exact B1|(refine A1 ?_;intros)|(refine B2 ?_ ?_ ?_;rotate_left)|refine oO hl hsp AC AC AC hb ?_|refine Am hb ?_|fail)
 generalize Cq s sp p (ln,Cp)=pl1 at h z1 |-
 have z2:=aY (s:=s) (p:=pl1) hpq hq z1.2.2.1
 dsimp only at z1 z2
 refine Af (M5 Ab (A2 _) (λ_ _ _ _ _ h k=>k.mono h) 16 6 [(0,true),(1,true),(2,true),(3,true),(4,true),(5,true),(6,true),(7,true),(8,true),(9,true),(10,true),(11,true),(12,true),(13,true),(14,true),(15,true)] [] rfl rfl rfl EQ EQ rfl rfl rfl (Nat.le_of_ble_eq_true rfl) rfl ?_)
 repeat' ((conv=>whnf);first|exact B1|(refine A1 ?_;intros)|(refine B2 ?_ ?_ ?_;rotate_left)|refine Um hpq hq ?_|refine Am (St.AJ _ _ _) ?_|fail)
 refine Af (Ae Ab ?_)
 repeat' ((conv=>whnf);first|refine Ad 11 [7,10] [] ?_|exact B1|(refine A1 ?_;intros)|(refine B2 ?_ ?_ ?_;rotate_left)|refine Am (St.AJ _ _ _) ?_|refine ke (hR.set U _) ht (λw1' st1 hr1 hb1=>?_)|refine Am ((congrFun hb1 b).trans (St.AJ _ _ _)) ?_|fail)
 clear hR hb
 rcases hc:(decide (¬k=15)|| !Lib.contains [123,125,59] (Bc s p q)) with _|_
 all_goals rw [hc] at h
 .have hcc:∀{st:St} {R:At->St->Prop},R (.ret (.bool false)) st->PC 80 [.agg [.int .i64 k,.str (Bc s p q),.int .i64 pl1.1,.int .i64 pl1.2]] st R:=λh=>Vi (by rw [hc];exact h)
  refine Af (Ae Ab ?_)
  repeat' ((conv=>whnf);first|exact B1|(refine A1 ?_;intros)|(refine B2 ?_ ?_ ?_;rotate_left)|refine hcc ?_|refine Am (St.AJ _ _ _) ?_|fail)
  refine Ae Ab ?_
  repeat' ((conv=>whnf);first|exact B1|(refine A1 ?_;intros)|(refine B2 ?_ ?_ ?_;rotate_left)|refine oO hl hpq hq AC AC (St.AJ _ _ _) ?_|refine Am (St.AJ _ _ _) ?_|fail)
  all_goals exact fin (h w1' _ ((((hr1.set U _).set U _).set U _).set U _) (St.AJ _ _ _)) rfl
 .have hcc:∀{st:St} {R:At->St->Prop},R (.ret (.bool true)) st->PC 80 [.agg [.int .i64 k,.str (Bc s p q),.int .i64 pl1.1,.int .i64 pl1.2]] st R:=λh=>Vi (by rw [hc];exact h)
  refine Af (Ae Ab ?_)
  repeat' ((conv=>whnf);first|exact B1|(refine A1 ?_;intros)|(refine B2 ?_ ?_ ?_;rotate_left)|refine hcc ?_|refine Am (St.AJ _ _ _) ?_|fail)
  refine Ae Ab ?_
  repeat' ((conv=>whnf);first|exact B1|(refine A1 ?_;intros)|(refine B2 ?_ ?_ ?_;rotate_left)|refine oO hl hpq hq AC AC (St.AJ _ _ _) ?_|refine Am (St.AJ _ _ _) ?_|fail)
  all_goals exact fin (h w1' _ (((((hr1.set U _).set U _).set U _).set U _).set U _) (St.AJ _ _ _)) rfl
end
structure Nt where
 text:List UInt8
 D6:Int
 wh:Int
 line:Int
 Cp:Int
def Nt.cells (n:Nt):List V:=[.str n.text,.int .i64 n.D6,.int .i64 n.wh,.int .i64 n.line,.int .i64 n.Cp]
def GS (l:List Nt):List (List V):=l.map Nt.cells
structure Lx where
 AV:List Tk
 notes:List Nt
 D6:Int
 ends:Int
 j:Bool
def tz:Lx:=⟨[],[],0,0,false⟩
def cntF (k:Int) (t:List UInt8):Bool:=decide (¬k=15)|| !Lib.contains [123,125,59] t
def XH (s:List UInt8) (p q:Nat) (k:Int) (x:Lx):Lx:=
 ⟨x.AV++[⟨k,Bc s p q,(CD s p).1,(CD s p).2⟩],x.notes,if cntF k (Bc s p q) then x.D6+1 else x.D6,(CD s q).1,true⟩
def DQ (s:List UInt8) (p:Nat):Nat:=p+BQ (λc=>Ax c==1) (s.drop p)
theorem J1 (h:p<=s.length):p<=DQ s p/\DQ s p<=s.length:=by
 have:=Ew (λc=>Ax c==1) (s.drop p)
 rw [List.length_drop] at this
 unfold DQ;omega
def sU (s:List UInt8) (p q:Nat) (x:Lx):Bool:=x.j&&decide (x.ends=(CD s p).1)&&decide ((CD s q).1=(CD s p).1)
def YC (s:List UInt8) (p q:Nat):Bool:=decide (DQ s q<s.length)&&decide ((CD s (DQ s q)).1=(CD s p).1)
def je (s:List UInt8) (p q:Nat) (x:Lx):Lx:=
 ⟨x.AV,x.notes++[⟨Bc s p q,x.D6,if sU s p q x then (if YC s p q then 1 else 2) else 3,(CD s p).1,(CD s p).2⟩],x.D6,(CD s q).1,sU s p q x&&YC s p q⟩
def F5 (s:List UInt8) (p:Nat) (x:Lx):Sum (Int×Int) Lx:=
 if hp:p<s.length then
  if (Cw s p).2≠0 then .inl ((p:Nat),(Cw s p).2)
  else if 0<(Cw s p).1 then
   (if U:p<(Cw s p).1.toNat then F5 s (DQ s (Cw s p).1.toNat) (je s p (Cw s p).1.toNat x) else .inr x)
  else if (Cm s p).2.2≠0 then .inl ((Cm s p).2.1,(Cm s p).2.2)
  else (if U:p<(Cm s p).2.1.toNat then F5 s (DQ s (Cm s p).2.1.toNat) (XH s p (Cm s p).2.1.toNat (Cm s p).1 x) else .inr x)
 else .inr x
termination_by s.length - p
decreasing_by
 all_goals unfold DQ;omega
def F4 (s:List UInt8):Sum (Int×Int) Lx:=
 if 16777216<s.length then .inl (0,3)
 else if (LP s).2≠0 then .inl (LP s)
 else if 0<=VN (λc=>Ax (c:Nat)==0) s then .inl (VN (λc=>Ax (c:Nat)==0) s,70)
 else F5 s (DQ s 0) tz
theorem fP (h:(LP s).2=0):Vd s:=by
 unfold LP at h
 split at h
 .exact absurd h (show ¬(10:Int)=0 by decide)
 .have:=ML DV s
  unfold Vd;omega
end Go.Proofs.Z
namespace Go.Aw
open Go
theorem BT.le (h:BT l k):k<=l.length:=by
 induction h with
 |zero l=>omega
 |step U h ih=>have:=F9 U;grind
theorem BT.blank (hv:Vd l):BT l (BQ (λc=>Ax c==1) l):=by
 refine Bd.cut (Bd.span _ l) ?_
 rintro ⟨h0,_,U⟩
 have U:AE (l.drop (BQ (λc=>Ax c==1) l))=10:=U
 have hlt:=BS (l:=l) (k:=BQ (λc=>Ax c==1) l) AC
 have:=Rn (λc=>Ax c==1) l hlt
 rw [(FR AC AC).2,U] at this
 exact absurd this Do
theorem jc (e:(Cw s p).2=0) (U:0<(Cw s p).1):∃n:Nat,0<n/\Fg (s.drop p)=(n:Nat)/\(Cw s p).1=(p+n:Nat):=by
 unfold Cw at e U |-
 split
 .simp_all
 .rename_i h
  rw [if_neg h] at e U
  split
  .simp_all
  .rename_i h1
   exact ⟨(Fg (s.drop p)).toNat,AC,AC,AC⟩
theorem WQ (hv:Vd s) (h:BT s p) (e:(Cw s p).2=0) (h0:0<(Cw s p).1):∃q,(Cw s p).1=(q:Nat)/\p<q/\q<=s.length/\BT s q:=by
 obtain ⟨n,h1,h2,h3⟩:=jc e h0
 have U:=BT.add h (BT.note (h.bd.vd hv) h2)
 exact ⟨p+n,h3,AC,U.le,U⟩
theorem nY (h:(Ei l).1≠0):0<(Ei l).2:=by
 unfold Ei at h |-
 grind
theorem lv (h:(D3 l).1≠0):0<(D3 l).2:=by
 have U:=kr l (Be l).2 (Be l).1
 by_cases hp:(Be l).1=0
 .unfold D3 at h
  rw [Xm (λx=>by omega)] at h
  omega
 .have:=dA hp
  unfold D3;omega
theorem VZ (hv:Vd s) (h:BT s p) (e:(Cm s p).2.2=0):(Cm s p).1≠0/\∃q,(Cm s p).2.1=(q:Nat)/\p<q/\q<=s.length/\BT s q:=by
 have hv':=h.bd.vd hv
 unfold Cm at e |-
 split
 .rename_i h1
  refine ⟨h1,p+(Ei (s.drop p)).2,?_⟩
  have hn:(Ei (s.drop p)).1≠0:=λx=>by
   unfold QN at h1;simp_all
  have U:=BT.add h (BT.num (s.drop p))
  have:=nY hn
  refine ⟨?_,AC,U.le,U⟩
  unfold QN;simp_all
 .rename_i h1
  rw [if_neg h1] at e
  split
  .rename_i h2
   rw [if_pos h2] at e
   split
   .simp_all
   .rename_i h3
    refine ⟨h3,p+(D3 (s.drop p)).2,?_⟩
    have hn:(D3 (s.drop p)).1≠0:=λx=>by
     unfold G8 at h3;simp_all
    have U:=BT.add h (BT.word (s.drop p))
    have:=lv hn
    refine ⟨?_,AC,U.le,U⟩
    unfold G8;simp_all
  .rename_i h2
   rw [if_neg h2] at e
   have hk:(Bs s p).1≠0:=λx=>h2 ⟨x,e⟩
   obtain ⟨n,e1,e2,e3⟩:=BT.quote hv' hk
   have U:=BT.add h e3
   exact ⟨hk,p+n,e1,AC,U.le,U⟩
theorem BT.qx (U:Vd s) (h:BT s p):BT s (Go.Proofs.Z.DQ s p):=BT.add h (BT.blank (h.bd.vd U))
theorem BT.sub {j:Nat} (h:BT l i) (k:BT l j) (hij:i<=j):BT (l.drop i) (j - i):=by
 induction h generalizing j with
 |zero l=>exact k
 |@step l i hne h ih=>
  cases k with
  |zero=>simp_all
  |@step _ U _ k=>
   rw [show AU l+U - (AU l+i)=U - i by omega,<-List.drop_drop]
   simp_all
theorem Pp:1<=(CD s p).1/\(CD s p).1<=1+s.length/\1<=(CD s p).2/\(CD s p).2<=1+8*s.length:=by
 have:=RH _ s p (1,1) (Nat.le_refl _) Do
 unfold CD
 omega
theorem NC {a:Nat} (hv:Vd s) (U:BT s a) (hb:BT s b) (h:a<=b):Cq s a b (CD s a)=CD s b:=ju hv U (U.sub hb h) h hb.le
def ux (t:List UInt8) (D6 wh:Int) (p:Int×Int):List V:=[.str t,.int .i64 D6,.int .i64 wh,.int .i64 p.1,.int .i64 p.2]
theorem NI {st:St} {n1:Nat} {o:List (List V)} {g k a b:Int} (h:BU st0 st w1 n1 w2 (o.length*5)) (hl:o.length<=1000000000)
 (kk:∀U st',BU st0 st' w1 n1 U ((o.length+1)*5)->st'.box=st.box->K (.slice 5 (o++[ux t g k (a,b)]) U) st'):Ag 5 48 o w2 [[.str t,.int .i64 g,.int .i64 k,.int .i64 a,.int .i64 b]] st K:=
 Kp h.swap rfl Pi (by rw [List.length_singleton];unfold C9;omega) rfl GT (λw1' st' hr hb=>kk w1' st' hr.swap hb)
end Go.Aw
namespace Go.Proofs.Z
open Go Go.Aw
section
variable {st:St} {R:At->St->Prop}
attribute [local irreducible] Go.Aw.Ag
theorem bJ {q:Nat} {ends:Int} (hl:s.length<=100000000) (hv:Vd s) (c1:BT s sp) (c2:BT s q) (U:sp<=q)
 (hb:st.box b=some (OX s p sp (CD s sp).1 (CD s sp).2 AV notes w1 w2 D6 ends j))
 (h:R (.ret (.Bj [.int .i64 (CD s q).1,.int .i64 (CD s q).2])) (st.Aa b (OX s p q (CD s q).1 (CD s q).2 AV notes w1 w2 D6 ends j))):PC 76 [.ptr b 0,.int .i64 q] st R:=by
 have e:Cq s sp q ((CD s sp).1,(CD s sp).2)=CD s q:=NC hv c1 c2 U
 have hc:=Pp (s:=s) (p:=sp)
 refine oO hl U c2.le AC AC hb ?_
 rw [e];exact h
theorem kZ {q:Nat} {k e0 ends:Int} (hl:s.length<=50000000) (hv:Vd s) (c1:BT s sp) (c2:BT s p) (c3:BT s q) (hsp:sp<=p) (hpq:p<=q)
 (hg:0<=D6/\D6<=1000000000) (ht:AV.length<=1000000000) (hb0:st0.box b=none) (hR:BU st0 st w1 (AV.length*4) w2 n2) (hb:st.box b=some (OX s p sp (CD s sp).1 (CD s sp).2 AV notes w1 w2 D6 ends j))
 (h:∀U st',BU st0 st' U ((AV.length+1)*4) w2 n2->st'.box b=some (OX s q q (CD s q).1 (CD s q).2 (AV++[sw k (Bc s p q) (CD s p)]) notes U w2
   (if cntF k (Bc s p q) then D6+1 else D6) (CD s q).1 true)->R (.ret (.Bj [])) st'):PC 51 [.ptr b 0,.agg [.int .i64 k,.int .i64 q,.int .i64 e0]] st R:=by
 have e1:Cq s sp p ((CD s sp).1,(CD s sp).2)=CD s p:=NC hv c1 c2 hsp
 have e2:Cq s p q (CD s p)=CD s q:=NC hv c2 c3 hpq
 have hc:=Pp (s:=s) (p:=sp)
 refine oP AC hsp hpq c3.le AC AC hg ht hb0 hR hb (λU st' hr hb'=>h U st' hr ?_)
 rw [e1,e2] at hb';exact hb'
theorem rD {q n1:Nat} {ends:Int} (hl:s.length<=50000000) (hv:Vd s) (c1:BT s sp) (c2:BT s p) (c3:BT s q) (hsp:sp<=p) (hpq:p<=q)
 (hg:0<=D6/\D6<=1000000000) (ht:notes.length<=1000000000) (U:st0.box b=none) (hR:BU st0 st w1 n1 w2 (notes.length*5)) (hb:st.box b=some (OX s p sp (CD s sp).1 (CD s sp).2 AV notes w1 w2 D6 ends j))
 (h:∀w2' st' sp',BT s sp'->sp'<=DQ s q->BU st0 st' w1 n1 w2' ((notes.length+1)*5)->
   st'.box b=some (OX s (DQ s q) sp' (CD s sp').1 (CD s sp').2 AV (notes++[ux (Bc s p q) D6 (if j&&decide (ends=(CD s p).1)&&decide ((CD s q).1=(CD s p).1) then (if YC s p q then 1 else 2) else 3) (CD s p)]) w1 w2' D6 (CD s q).1
    (j&&decide (ends=(CD s p).1)&&decide ((CD s q).1=(CD s p).1)&&YC s p q))->R (.ret (.Bj [])) st'):PC 49 [.ptr b 0,.int .i64 q] st R:=by
 have c4:=c3.qx hv
 have hq:=c3.le
 have hr:=J1 hq
 have z1:=Pp (s:=s) (p:=p)
 have z2:=Pp (s:=s) (p:=q)
 have z3:=Pp (s:=s) (p:=DQ s q)
 refine AP Ab [] Tryz.func49 rfl Do rfl ?_
 refine Af (Ae Ab ?_)
 repeat' ((conv=>whnf);first|exact B1|(refine A1 ?_;intros)|(refine B2 ?_ ?_ ?_;rotate_left)|refine bJ AC hv c1 c2 hsp hb ?_|refine Am hb ?_|refine An GE ?_|fail)
 refine Af (M5 Ab (A2 _) (λ_ _ _ _ _ h k=>k.mono h) 17 6 [(0,true),(1,true),(2,true),(3,true),(4,true),(5,true),(6,true),(7,true),(8,true),(9,true),(10,true),(11,true),(12,true),(13,true),(14,true),(15,true),(16,true)] [] rfl rfl rfl EQ EQ rfl rfl rfl (Nat.le_of_ble_eq_true rfl) rfl ?_)
 repeat' ((conv=>whnf);first|exact B1|(refine A1 ?_;intros)|(refine B2 ?_ ?_ ?_;rotate_left)|refine Um hpq hq ?_|refine Am (St.AJ _ _ _) ?_|refine An GE ?_|fail)
 refine Af (Ae Ab ?_)
 repeat' ((conv=>whnf);first|exact B1|(refine A1 ?_;intros)|(refine B2 ?_ ?_ ?_;rotate_left)|refine bJ AC hv c2 c3 hpq (St.AJ _ _ _) ?_|refine Am (St.AJ _ _ _) ?_|refine An GE ?_|fail)
 have hbl:∀{st:St} {R:At->St->Prop} {sp:Nat} {D6 ends:Int} {j:Bool} {notes:List (List V)} {w2:AA},st.box b=some (OX s q sp (CD s sp).1 (CD s sp).2 AV notes w1 w2 D6 ends j)->
  R (.ret (.Bj [])) (st.Aa b (OX s (DQ s q) sp (CD s sp).1 (CD s sp).2 AV notes w1 w2 D6 ends j))->PC 47 [.ptr b 0] st R:=λhb h=>LH AC hq hb h
 have hcase:(j=false\/(j=true/\¬ends=(CD s p).1)\/(j=true/\ends=(CD s p).1/\¬(CD s q).1=(CD s p).1))\/(j=true/\ends=(CD s p).1/\(CD s q).1=(CD s p).1):=by
  cases j
  .exact .inl (.inl rfl)
  .by_cases e1:ends=(CD s p).1
   .by_cases e2:(CD s q).1=(CD s p).1
    .exact .inr ⟨rfl,e1,e2⟩
    .exact .inl (.inr (.inr ⟨rfl,e1,e2⟩))
   .exact .inl (.inr (.inl ⟨rfl,e1⟩))
 rcases hcase with hc|⟨rfl,he1,he2⟩
 .have e:(j&&decide (ends=(CD s p).1)&&decide ((CD s q).1=(CD s p).1))=false:=by
   rcases hc with rfl|⟨rfl,e1⟩|⟨rfl,e1,e2⟩<;>simp [*]
  rw [e] at h
  rcases hc with rfl|⟨rfl,e1⟩|⟨rfl,e1,e2⟩
  all_goals refine Af (Ae Ab ?_)
  repeat' ((conv=>whnf);first|exact B1|(refine A1 ?_;intros)|(refine B2 ?_ ?_ ?_;rotate_left)|refine Am (St.AJ _ _ _) ?_|refine An GE ?_|fail)
  all_goals refine Af (Ae Ab ?_)
  repeat' ((conv=>whnf);first|exact B1|(refine A1 ?_;intros)|(refine B2 ?_ ?_ ?_;rotate_left)|refine Am (St.AJ _ _ _) ?_|refine An GE ?_|fail)
  all_goals refine Af (Ae Ab ?_)
  repeat' ((conv=>whnf);first|exact B1|(refine A1 ?_;intros)|(refine B2 ?_ ?_ ?_;rotate_left)|refine hbl (St.AJ _ _ _) ?_|refine An GE ?_|fail)
  all_goals refine Af (Ae Ab ?_)
  repeat' ((conv=>whnf);first|exact B1|(refine A1 ?_;intros)|(refine B2 ?_ ?_ ?_;rotate_left)|refine Am (St.AJ _ _ _) ?_|refine An GE ?_|fail)
  all_goals refine Af (Ae Ab ?_)
  repeat' ((conv=>whnf);first|exact B1|(refine A1 ?_;intros)|(refine B2 ?_ ?_ ?_;rotate_left)|refine An GE ?_|fail)
  all_goals refine Ae Ab ?_
  repeat' ((conv=>whnf);first|refine Ad 11 [7,10] [] ?_|exact B1|(refine A1 ?_;intros)|(refine B2 ?_ ?_ ?_;rotate_left)|refine Am (St.AJ _ _ _) ?_|refine NI (((((hR.set U _).set U _).set U _).set U _).set U _) ht (λw1' st1 hr1 hb1=>?_)|refine Am ((congrFun hb1 b).trans (St.AJ _ _ _)) ?_|refine An GE ?_|fail)
  all_goals exact fin (h w1' _ q c3 hr.1 (hr1.set U _) (St.AJ _ _ _)) rfl
 .have e:(true&&decide (ends=(CD s p).1)&&decide ((CD s q).1=(CD s p).1))=true:=by simp [*]
  rw [e] at h
  refine Af (Ae Ab ?_)
  repeat' ((conv=>whnf);first|exact B1|(refine A1 ?_;intros)|(refine B2 ?_ ?_ ?_;rotate_left)|refine Am (St.AJ _ _ _) ?_|refine An GE ?_|fail)
  refine Af (Ae Ab ?_)
  repeat' ((conv=>whnf);first|exact B1|(refine A1 ?_;intros)|(refine B2 ?_ ?_ ?_;rotate_left)|refine Am (St.AJ _ _ _) ?_|refine An GE ?_|fail)
  refine Af (Ae Ab ?_)
  repeat' ((conv=>whnf);first|exact B1|(refine A1 ?_;intros)|(refine B2 ?_ ?_ ?_;rotate_left)|refine hbl (St.AJ _ _ _) ?_|refine An GE ?_|fail)
  refine Af (Ae Ab ?_)
  repeat' ((conv=>whnf);first|exact B1|(refine A1 ?_;intros)|(refine B2 ?_ ?_ ?_;rotate_left)|refine Am (St.AJ _ _ _) ?_|refine An GE ?_|fail)
  rcases hin:YC s p q with _|_
  all_goals rw [hin] at h
  .have hno:¬DQ s q<s.length\/(DQ s q<s.length/\¬(CD s (DQ s q)).1=(CD s p).1):=by
    by_cases h1:DQ s q<s.length
    .exact .inr ⟨h1,λx=>by unfold YC at hin;simp [h1,x] at hin⟩
    .exact .inl h1
   rcases hno with hno|⟨hy,hno⟩
   all_goals refine Af (Ae Ab ?_)
   repeat' ((conv=>whnf);first|exact B1|(refine A1 ?_;intros)|(refine B2 ?_ ?_ ?_;rotate_left)|refine bJ AC hv c3 c4 hr.1 (St.AJ _ _ _) ?_|refine Am (St.AJ _ _ _) ?_|refine WJ (λ_=>?_)|refine An GE ?_|fail)
   all_goals refine Ae Ab ?_
   repeat' ((conv=>whnf);first|refine Ad 11 [7,10] [] ?_|exact B1|(refine A1 ?_;intros)|(refine B2 ?_ ?_ ?_;rotate_left)|refine Am (St.AJ _ _ _) ?_|refine NI ((((((hR.set U _).set U _).set U _).set U _).set U _).set U _) ht (λw1' st1 hr1 hb1=>?_)|refine Am ((congrFun hb1 b).trans (St.AJ _ _ _)) ?_|refine An GE ?_|fail)
   all_goals exact fin (h w1' _ (DQ s q) c4 (Nat.le_refl _) (hr1.set U _) (St.AJ _ _ _)) rfl
  .have hy:DQ s q<s.length/\(CD s (DQ s q)).1=(CD s p).1:=by unfold YC at hin;simpa using hin
   obtain ⟨hy1,hy2⟩:=hy
   refine Af (Ae Ab ?_)
   repeat' ((conv=>whnf);first|exact B1|(refine A1 ?_;intros)|(refine B2 ?_ ?_ ?_;rotate_left)|refine bJ AC hv c3 c4 hr.1 (St.AJ _ _ _) ?_|refine Am (St.AJ _ _ _) ?_|refine WJ (λ_=>?_)|refine An GE ?_|fail)
   refine Ae Ab ?_
   repeat' ((conv=>whnf);first|refine Ad 11 [7,10] [] ?_|exact B1|(refine A1 ?_;intros)|(refine B2 ?_ ?_ ?_;rotate_left)|refine Am (St.AJ _ _ _) ?_|refine NI (((((((hR.set U _).set U _).set U _).set U _).set U _).set U _).set U _) ht (λw1' st1 hr1 hb1=>?_)|refine Am ((congrFun hb1 b).trans (St.AJ _ _ _)) ?_|refine An GE ?_|fail)
   all_goals exact fin (h w1' _ (DQ s q) c4 (Nat.le_refl _) (hr1.set U _) (St.AJ _ _ _)) rfl
end
end Go.Proofs.Z
