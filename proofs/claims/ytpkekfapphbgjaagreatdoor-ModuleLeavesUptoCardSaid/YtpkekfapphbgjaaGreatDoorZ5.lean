/-
  Parts of a proof: lemmas that the last text uses.
-/
import Derived.Test.YtpkekfapphbgjaaGreatDoorZ4
import Derived.Lib.Join
import Derived.RangeFuncRecord
import Derived.RangeFuncSeq
import Derived.OrdersIn
set_option linter.unusedVariables false
set_option linter.unusedSimpArgs false
set_option maxHeartbeats 16000000
variable {s l r t x:List UInt8} {b p m n i n2 d id:Nat} {K:Go.Aw.V->Go.Aw.St->Prop} {DL k base:Int} {Ar notes:List (List Go.Aw.V)} {w1 w2:Go.Aw.AH} {j tx:Bool} {st0 S:Go.Aw.St} {o:Option (List (Int×List UInt8))} {c:Go.Code} {g f:Go.FuncId} {w w':Go.World} {ks:List Int} {Q:Go.Aw.AF->Go.Aw.Env->Go.Aw.St->Prop} {C cs args:List Go.Aw.V} {P:Go.Program} {ops:Array Go.Oper} {Im:Go.Aw.Mem} {fn:Go.Func}
namespace Go.Aw
open Go
def AY (s:List UInt8) (a b:Nat):List UInt8:=(s.take b).drop a
theorem Xa {a:Nat} {K:List UInt8->Prop} (U:a<=b) (h2:b<=s.length) (k:K (AY s a b)):
 (0<=(a:Int)/\(a:Int)<=b/\(b:Int)<=s.length)/\∀s',s'=(s.take (b:Int).toNat).drop (a:Int).toNat->K s':=
 ⟨⟨AC,AC,AC⟩,λs' e=>by
   rw [show (b:Int).toNat=b by omega,show (a:Int).toNat=a by omega] at e
   subst e;exact k⟩
end Go.Aw
namespace Go.Proofs.Z
open Go Go.Aw
section
variable {st:St} {R:AB->St->Prop}
theorem Xap {sp q:Nat} {ln Ch ends:Int} (hl:s.length<=100000000) (hsp:sp<=q) (hq:q<=s.length) (hln:1<=ln/\ln<=1000000000) (U:1<=Ch/\Ch<=2147483648)
 (hw:1<=(BT (AY s sp q) (AY s sp q).length (1,1)).1/\(BT (AY s sp q) (AY s sp q).length (1,1)).1<=1000000000)
 (hb:st.box b=some (QC s p sp ln Ch Ar notes w1 w2 DL ends j))
 (h:R (.ret (.BM [.int .i64 (ln+(BT (AY s sp q) (AY s sp q).length (1,1)).1 - 1),.int .i64 (BT (AY s sp q) (AY s sp q).length (1,Ch)).2]))
   (st.Aa b (QC s p q (ln+(BT (AY s sp q) (AY s sp q).length (1,1)).1 - 1) (BT (AY s sp q) (AY s sp q).length (1,Ch)).2 Ar notes w1 w2 DL ends j))):PC 76 [.ptr b 0,.int .i64 q] st R:=by
 have hpl:(AY s sp q).length<=100000000:=by unfold AY;rw [List.length_drop,List.length_take];omega
 have b2:∀cs,(st.Aa b cs).box b=some cs:=λcs=>St.AM _ _ _
 refine pB Tryz.func76 ?_
 repeat' ((conv=>whnf);first|exact CH|(refine Br ?_;intros)|(refine CI ?_ ?_ ?_;rotate_left)|(refine Bs ?_ ?_<;>intro _)|refine Xa hsp hq ?_|refine (λ(_:(AY s sp q).length<D7)=>?_)|refine zD hpl (Nat.le_refl _) ?_|refine vz hpl U.1 U.2 ?_|refine Ao hb ?_|refine Ao (b2 _) ?_|with_reducible refine WF ?_)
 all_goals exact fin h rfl
end
end Go.Proofs.Z
namespace Go.Aw
open Go
def CY (s:List UInt8) (a b:Nat) (p:Int×Int):Int×Int:=BT (AY s a b) (AY s a b).length p
theorem Jx {a:Nat} (U:a<=b) (h2:b<=s.length):(AY s a b).length=b - a:=by
 unfold AY;rw [List.length_drop,List.length_take];omega
theorem fD {a:Nat} {p:Int×Int} (U:a<=b) (h2:b<=s.length) (h:1<=p.2):p.1<=(CY s a b p).1/\(CY s a b p).1<=p.1+(b - a:Nat)/\1<=(CY s a b p).2/\(CY s a b p).2<=p.2+8*(b - a:Nat):=by
 have:=Tt _ (AY s a b) (AY s a b).length p (Nat.le_refl _) h
 rw [Jx U h2] at this
 unfold CY
 rw [Jx U h2]
 omega
end Go.Aw
namespace Go.Proofs.Z
open Go Go.Aw
section
variable {st:St} {R:AB->St->Prop}
theorem vc {sp q:Nat} {U Ch ends:Int} (hl:s.length<=100000000) (hsp:sp<=q) (hq:q<=s.length) (hln:1<=U/\U<=1000000000) (hcol:1<=Ch/\Ch<=2147483648)
 (hb:st.box b=some (QC s p sp U Ch Ar notes w1 w2 DL ends j))
 (h:R (.ret (.BM [.int .i64 (CY s sp q (U,Ch)).1,.int .i64 (CY s sp q (U,Ch)).2]))
   (st.Aa b (QC s p q (CY s sp q (U,Ch)).1 (CY s sp q (U,Ch)).2 Ar notes w1 w2 DL ends j))):PC 76 [.ptr b 0,.int .i64 q] st R:=by
 have hlen:=Jx hsp hq
 have h1:=Tt _ (AY s sp q) (AY s sp q).length (1,1) (Nat.le_refl _) Do
 have h2:=Pk _ (AY s sp q) (AY s sp q).length 1 1 Ch U (Nat.le_refl _)
 have h3:=Tu _ (AY s sp q) (AY s sp q).length 1 Ch U (Nat.le_refl _)
 have e1:U+(BT (AY s sp q) (AY s sp q).length (1,1)).1 - 1=(CY s sp q (U,Ch)).1:=by unfold CY;omega
 have e2:(BT (AY s sp q) (AY s sp q).length (1,Ch)).2=(CY s sp q (U,Ch)).2:=h3
 refine Xap hl hsp hq hln hcol ⟨by dsimp only at h1;omega,by dsimp only at h1;omega⟩ hb ?_
 rw [e1,e2]
 exact h
end
end Go.Proofs.Z
namespace Go.Aw
open Go
theorem Oo {a:Nat} (h:BH l a) (k:Nat) (p:Int×Int):BT l (a+k) p=BT (l.drop a) k (BT l a p):=by
 induction h generalizing p with
 |zero l=>rw [Ei,Nat.zero_add,List.drop_zero]
 |@step l j U h ih=>
  rw [D8 U AC,D8 (k:=AV l+j) U AC,show AV l+j+k - AV l=j+k by omega,show AV l+j - AV l=j by omega,ih,List.drop_drop]
theorem KT (h:0<m):AE (l.take m)=AE l:=by
 cases l with
 |nil=>rw [List.take_nil]
 |cons a r=>
  obtain ⟨m,rfl⟩:∃k,m=k+1:=⟨m - 1,AC⟩
  rfl
theorem Uh:AE ((l.take m).drop 1)=if 1<m then AE (l.drop 1) else -1:=by
 rw [List.drop_take]
 by_cases h:1<m
 .rw [if_pos h,KT AC]
 .rw [if_neg h,show m - 1=0 by omega,List.take_zero];rfl
theorem oI (h:0<m) (h2:Hx l<=m):Hx (l.take m)=Hx l:=by
 rcases FR l with ⟨e,U⟩|⟨e,U,h3⟩|⟨e,U,h3⟩
 .rw [e];unfold Hx;rw [KT h,if_neg (λx=>U (.inl x.1)),if_neg U]
 .rw [e];unfold Hx;rw [KT h,Uh,if_neg,if_pos U]
  rintro ⟨x,y⟩
  split at y
  .exact h3 ⟨x,y⟩
  .exact absurd y Do
 .rw [e];unfold Hx;rw [KT h,Uh,if_pos (show 1<m by omega),if_pos ⟨U,h3⟩]
theorem kL {k:Nat} (h:BH l k) (hv:Vd l) (p:Int×Int):BT (l.take k) k p=BT l k p:=by
 induction h generalizing p with
 |zero l=>rw [Ei,Ei]
 |@step l j U h ih=>
  have h1:=Gh U
  have hn:Hx (l.take (AV l+j))=Hx l:=oI AC (by
   by_cases hc:0<Hx l
   .have e:AV l=Hx l:=if_pos hc
    omega
   .omega)
  have hr:=hv.rune U
  have es:AV (l.take (AV l+j))=AV l:=by
   by_cases hc:0<Hx l
   .have e3:AV (l.take (AV l+j))=Hx (l.take (AV l+j)):=if_pos (by rw [hn];exact hc)
    rw [e3,hn];exact (if_pos hc).symm
   .have e1:AV l=(AJ l).2:=if_neg hc
    have e2:AJ (l.take (AV l+j))=AJ l:=by
     have:=Rm U hr.1 ((l.take (AV l+j)).drop (AJ l).2)
     rwa [show l.take (AJ l).2=(l.take (AV l+j)).take (AJ l).2 by rw [List.take_take,Nat.min_eq_left AC],List.take_append_drop] at this
    have e3:AV (l.take (AV l+j))=(AJ (l.take (AV l+j))).2:=if_neg (by rw [hn];exact hc)
    rw [e3,e2];exact e1.symm
  have hne':l.take (AV l+j)≠[]:=λe=>by
   have:=congrArg List.length e
   rw [List.length_take,List.length_nil] at this;omega
  have hv':Vd (l.drop (AV l)):=(BH.step U (.zero (l.drop (AV l)))).bd.vd hv
  rw [D8 hne' AC,D8 U AC,es,show AV l+j - AV l=j by omega,List.drop_take,show AV l+j - AV l=j by omega,ih hv']
  congr 1
  unfold EC Fw
  rw [hn,KT AC]
def CL (s:List UInt8) (p:Nat):Int×Int:=BT s p (1,1)
theorem o0 {a:Nat} (hv:Vd s) (U:BH s a) (hb:BH (s.drop a) (b - a)) (h:a<=b) (hl:b<=s.length):CY s a b (CL s a)=CL s b:=by
 have e:AY s a b=(s.drop a).take (b - a):=by unfold AY;rw [List.drop_take]
 have hp:=Jx h hl
 unfold CY CL
 rw [hp,e,kL hb (U.bd.vd hv),<-Oo U,show a+(b - a)=b by omega]
def tr (l:List UInt8) (m:Nat) (r:List UInt8):List UInt8:=l.take m++r
def Ll (r:List UInt8):Prop:=AE r= -1\/AE r=32\/AE r=10
theorem sW (h:AE r= -1):r=[]:=by
 cases r with
 |nil=>rfl
 |cons a r=>have h:((a.toNat:Nat):Int)= -1:=h;omega
theorem E8:tr l 0 r=r:=H1
theorem CA {j:Nat} (h:j<=m) (U:m<=l.length):(tr l m r).drop j=tr (l.drop j) (m - j) r:=by
 unfold tr;rw [List.drop_append_of_le_length ke,List.drop_take]
theorem Gt (h:0<m) (U:m<=l.length):AE (tr l m r)=AE l:=by
 cases l with
 |nil=>simp_all
 |cons a l=>
  obtain ⟨m,rfl⟩:∃k,m=k+1:=⟨m - 1,AC⟩
  rfl
theorem ET {j:Nat} (h:j<m) (U:m<=l.length):AE ((tr l m r).drop j)=AE (l.drop j):=by
 rw [CA AC U,Gt AC (by grind)]
theorem L2 (U:m<=l.length):AE ((tr l m r).drop m)=AE r:=by
 rw [CA (Nat.le_refl _) U,Nat.sub_self,E8]
theorem Ok (h:n<=m) (U:m<=l.length):(tr l m r).take n=l.take n:=by
 unfold tr
 grind
theorem Td (U:m<=l.length):(tr l m r).length=m+r.length:=by
 unfold tr;simp_all
theorem N4 (U:Ll r):Bn base r=0:=by
 cases r with
 |nil=>rfl
 |cons a r=>
  unfold Bn
  rw [if_pos]
  by_cases h:BW ((a.toNat:Nat):Int) base<0
  .exact h
  .have:=X6 h
   unfold Ll at U
   simp only [AE] at U
   omega
theorem Je (U:Ll r) (hm:m<=l.length) (h:Bn base l<=m):Bn base (tr l m r)=Bn base l:=by
 induction l generalizing m with
 |nil=>
  have:m=0:=by simpa using hm
  subst this
  rw [E8,N4 U];rfl
 |cons a l ih=>
  cases m with
  |zero=>rw [E8,N4 U];omega
  |succ m=>
   show Bn base (a::tr l m r)=_
   unfold Bn at h |-
   grind
theorem yF {v:Int} (U:Ll r) (hm:m<=l.length) (h:Bn base l<=m):Hg base v (tr l m r)=Hg base v l:=by
 induction l generalizing m v with
 |nil=>
  have:m=0:=by simpa using hm
  subst this
  rw [E8]
  cases r with
  |nil=>rfl
  |cons a r=>
   have e:=N4 (base:=base) U
   unfold Bn at e
   unfold Hg
   simp_all
 |cons a l ih=>
  cases m with
  |zero=>
   rw [E8]
   unfold Bn at h
   split at h
   .rename_i hd
    unfold Hg
    rw [if_pos hd]
    cases r with
    |nil=>rfl
    |cons b r=>
     have e:=N4 (base:=base) U
     unfold Bn at e
     simp_all
   .omega
  |succ m=>
   show Hg base v (a::tr l m r)=_
   unfold Bn at h
   unfold Hg
   grind
theorem mT (U:Ll r):EL r=0:=by
 unfold Ll at U
 unfold EL;grind
theorem sO (U:Ll r) (hm:m<=l.length) (h:EL l<=m):EL (tr l m r)=EL l:=by
 cases m with
 |zero=>rw [E8,mT U];omega
 |succ m=>
  have e1:=Gt (l:=l) (r:=r) (m:=m+1) AC hm
  have e2:=CA (l:=l) (r:=r) (m:=m+1) (j:=1) AC hm
  rw [Nat.add_sub_cancel] at e2
  unfold EL at h |-
  rw [e1,e2]
  by_cases hd:AE l=46
  .by_cases hz:Bn 10 (l.drop 1)=0
   .rw [Je U (by grind) AC]
   .rw [if_pos ⟨hd,hz⟩] at h
    rw [Je U (by grind) AC]
  simp_all
theorem pU (U:Ll r):FV r=0:=by
 unfold Ll at U
 unfold FV;grind
theorem sJ (U:Ll r):G4 r=0:=by
 unfold Ll at U
 unfold G4;grind
theorem xf (U:Ll r) (hm:m<=l.length) (h:G4 l<=m):G4 (tr l m r)=G4 l:=by
 cases m with
 |zero=>rw [E8,sJ U];omega
 |succ m=>
  have e1:=Gt (l:=l) (r:=r) (m:=m+1) AC hm
  have e2:=CA (l:=l) (r:=r) (m:=m+1) (j:=1) AC hm
  rw [Nat.add_sub_cancel] at e2
  by_cases hd:AE l=101\/AE l=69
  .cases m with
   |zero=>
    rw [E8] at e2
    have z:G4 l=0:=by
     unfold G4 at h |-
     by_cases hz:Bn 10 (l.drop (1+FV (l.drop 1)))=0
     .simp_all
     .grind
    rw [z]
    unfold G4
    rw [if_neg]
    rintro ⟨_,h2⟩
    rw [e2,pU U,e2] at h2
    exact h2 (N4 U)
   |succ m=>
    have e3:FV ((tr l (m+1+1) r).drop 1)=FV (l.drop 1):=by
     unfold FV
     rw [ET AC hm]
    have hs:FV (l.drop 1)<=1:=by unfold FV;split<;>omega
    have e4:=CA (l:=l) (r:=r) (m:=m+1+1) (j:=1+FV (l.drop 1)) AC hm
    unfold G4 at h |-
    rw [e1,e3,e4]
    by_cases hz:Bn 10 (l.drop (1+FV (l.drop 1)))=0
    .rw [Je U (by grind) AC]
    .rw [if_pos ⟨hd,hz⟩] at h
     rw [Je U (by grind) AC]
  .unfold G4
   simp_all
theorem uu (hr:Ll r) (h0:0<m) (U:m<=l.length) (h:(BL l).1≠10->2+Bn (BL l).1 (l.drop 2)<=m):BL (tr l m r)=BL l:=by
 have e1:=Gt (l:=l) (r:=r) h0 U
 by_cases hd:AE l=48
 .by_cases h1:m=1
  .subst h1
   have e2:=L2 (l:=l) (r:=r) (m:=1) U
   have z:(BL l).1=10:=by
    by_cases hz:(BL l).1=10
    .exact hz
    .omega
   have zz:BL l=(10,0):=by
    unfold BL at z |-
    split
    .simp_all
    .rfl
   rw [zz]
   unfold BL
   rw [if_neg]
   rintro ⟨_,h2,_⟩
   unfold Ll at hr
   unfold DI at h2
   omega
  .have e2:DI (tr l m r)=DI l:=by
    unfold DI
    rw [ET AC U]
   have e3:=CA (l:=l) (r:=r) (m:=m) (j:=2) AC U
   by_cases hb:DI l=10
   .unfold BL
    simp_all
   .by_cases hz:Bn (DI l) (l.drop 2)=0
    .unfold BL
     rw [e1,e2,e3,Je hr (by grind) AC]
    .have hp:BL l=(DI l,2):=by unfold BL;rw [if_pos ⟨hd,hb,hz⟩]
     rw [hp] at h
     have:=h hb
     unfold BL
     rw [e1,e2,e3,Je hr (by grind) (by grind)]
 .unfold BL
  simp_all
theorem oO (hr:Ll r) (h0:0<m) (hm:m<=l.length) (h:(CN l).2<=m):CN (tr l m r)=CN l:=by
 have e1:BL (tr l m r)=BL l:=uu hr h0 hm (λU=>by
  unfold CN at h
  simp_all)
 unfold CN at h |-
 rw [e1]
 by_cases U:(BL l).1≠10
 .rw [if_pos U] at h
  dsimp only at h
  rw [if_pos U,if_pos U,CA AC hm,Je hr (by grind) AC]
 .rw [if_neg U] at h
  rw [if_neg U,if_neg U]
  by_cases hz:Bn 10 l=0
  .rw [Je hr hm AC,if_pos hz,if_pos hz]
  .rw [if_neg hz] at h
   dsimp only at h
   have r1:=Je (base:=10) hr hm (by omega:Bn 10 l<=m)
   have d1:=CA (l:=l) (r:=r) (m:=m) (j:=Bn 10 l) AC hm
   have f1:EL ((tr l m r).drop (Bn 10 l))=EL (l.drop (Bn 10 l)):=by
    rw [d1];exact sO hr (by grind) AC
   have x1:G4 ((tr l m r).drop (Bn 10 l+EL (l.drop (Bn 10 l))))=G4 (l.drop (Bn 10 l+EL (l.drop (Bn 10 l)))):=by
    rw [CA AC hm];exact xf hr (by grind) AC
   simp_all
theorem Rn (hv:Vd l) (h0:0<m) (hm:m<=l.length) (hb:Bd l m):AJ (tr l m r)=AJ l/\(AJ l).2<=m:=by
 have U:l≠[]:=λe=>by simp_all
 have hd:(AJ l).2<=m:=by
  cases hb with
  |zero=>omega
  |step _ _=>omega
 have:=Rm U (hv.rune U).1 ((l.take m).drop (AJ l).2++r)
 rw [<-List.append_assoc] at this
 rw [show l.take (AJ l).2=(l.take m).take (AJ l).2 by grind,List.take_append_drop] at this
 exact ⟨this,hd⟩
theorem Oa {p:Nat×Nat->Bool} (hv:Vd l) (hb:Bd l m) (hm:m<=l.length) (hr:BB p r=0) (h:BB p l<=m):BB p (tr l m r)=BB p l:=by
 induction hb with
 |zero l=>rw [E8,hr];omega
 |@step l k U hb ih=>
  have hp:=Ek l
  have hd:=Rn (r:=r) hv AC hm (.step U hb)
  have hne':tr l ((AJ l).2+k) r≠[]:=λe=>by
   have:=congrArg List.length e
   rw [Td hm] at this;simp_all
  cases hc:p (AJ l) with
  |false=>rw [En hc,En ke]
  |true=>
   rw [Cp U hc] at h |-
   rw [Cp hne' ke,hd.1,CA AC hm,show (AJ l).2+k - (AJ l).2=k by omega,ih (hv.rune U).2 (by grind) AC]
theorem dX (U:Ll r):r=[]\/(r≠[]/\(((AJ r).1:Nat):Int)=32)\/(r≠[]/\(((AJ r).1:Nat):Int)=10):=by
 rcases U with h|h|h
 .exact .inl (sW h)
 .exact .inr (.inl ⟨λe=>by rw [e] at h;exact absurd h Do,by rw [(EA AC AC).2,h]⟩)
 .exact .inr (.inr ⟨λe=>by rw [e] at h;exact absurd h Do,by rw [(EA AC AC).2,h]⟩)
theorem N9 {p:Int->Bool} (U:Ll r) (h1:p 32=false) (h2:p 10=false):Bx p r=0:=by
 rcases dX U with rfl|⟨_,h⟩|⟨_,h⟩
 .exact UM p
 .exact N8 ke
 .exact N8 ke
theorem mS (hv:Vd l) (hb:Bd l m) (U:0<m) (hm:m<=l.length):FE (tr l m r)=FE l:=by
 have hd:=Rn (r:=r) hv U hm hb
 cases l with
 |nil=>simp_all
 |cons a l=>
  obtain ⟨m,rfl⟩:∃k,m=k+1:=⟨m - 1,AC⟩
  have e:tr (a::l) (m+1) r=a::tr l m r:=rfl
  rw [e] at hd |-
  show Ay ((AJ (a::tr l m r)).1:Nat)=Ay ((AJ (a::l)).1:Nat)
  rw [hd.1]
theorem SB (hr:Ll r) (hv:Vd l) (hb:Bd l m) (h0:0<m) (U:m<=l.length) (h:(A8 l).2<=m):A8 (tr l m r)=A8 l:=by
 have hs:Bx (λc=>Ay c==5) r=0:=N9 hr Do Do
 have hn:Bx H0 r=0:=N9 hr Do Do
 unfold A8 at h |-
 rw [mS hv hb h0 U]
 split
 .rfl
 .rename_i h6
  rw [if_neg h6] at h
  split
  .rename_i h5
   rw [if_pos h5] at h
   have e:Bx (λc=>Ay c==5) (tr l m r)=Bx (λc=>Ay c==5) l:=Oa hv hb U hs h
   rw [e,Ok h U]
  .rename_i h5
   rw [if_neg h5] at h
   split
   .rename_i h3
    rw [if_pos h3] at h
    have e:IC (tr l m r)=IC l:=Oa hv hb U hn h
    rw [e]
   .rename_i h3
    rw [if_neg h3] at h
    split
    .rename_i h2
     rw [if_pos h2] at h
     have e:IC (tr l m r)=IC l:=Oa hv hb U hn h
     rw [e,Ok h U]
    .rfl
theorem Bd.sub {j:Nat} (h:Bd l i) (k:Bd l j) (hij:i<=j):Bd (l.drop i) (j - i):=by
 induction h generalizing j with
 |zero l=>exact k
 |@step l i hne h ih=>
  cases k with
  |zero=>simp_all
  |@step _ U _ k=>
   rw [show (AJ l).2+U - ((AJ l).2+i)=U - i by omega,<-List.drop_drop]
   simp_all
theorem SE (s:List UInt8) (n:Nat) (k:Int):n<=(Fc s n k).2:=by
 fun_induction Fc s n k with
 |case1 n k hn U ih=>omega
 |case2 n k hn U=>omega
 |case3 n k hn=>omega
theorem UD (h:(A8 l).1≠0):0<(A8 l).2:=by
 by_cases U:0<(A8 l).2
 .exact U
 .exfalso
  cases l with
  |nil=>exact h rfl
  |cons a r=>
   have hne:a::r≠[]:=GT
   have hp:=Ek (a::r)
   apply h
   unfold A8 at U |-
   split
   .simp_all
   .rename_i h6
    rw [if_neg h6] at U
    have key:∀p:Int->Bool,p (((AJ (a::r)).1:Nat):Int)=true->0<Bx p (a::r):=λp hp'=>by
     rw [O8 hne hp'];omega
    split
    .rename_i h5
     rw [if_pos h5] at U
     have:=key (λc=>Ay c==5) (beq_iff_eq.2 h5)
     omega
    .rename_i h5
     rw [if_neg h5] at U
     split
     .rename_i h3
      rw [if_pos h3] at U
      have h3':Ay (((AJ (a::r)).1:Nat):Int)=3:=h3
      have:=key H0 (by unfold H0;simp_all)
      unfold IC at U;omega
     .rename_i h3
      rw [if_neg h3] at U
      split
      .rename_i h2
       rw [if_pos h2] at U
       have h2':Ay (((AJ (a::r)).1:Nat):Int)=2:=h2
       have:=key H0 (by unfold H0;simp_all)
       unfold IC at U;omega
      .rfl
theorem pc (h:JB k≠0):k≠0:=λe=>by subst e;exact h Do
theorem pQ (hr:Ll r) (hv:Vd l) (hb:Bd l m) (hm:m<=l.length) (hc:BH l n) (h:(Fc l n k).2<=m) (U:m=(Fc l n k).2\/m=l.length):Fc (tr l m r) n k=Fc l n k:=by
 fun_induction Fc l n k with
 |case1 n k hn hx ih=>
  have hge:=SE l (n+1+(A8 (l.drop (n+1))).2) (JB (A8 (l.drop (n+1))).1)
  have hpp:=UD (pc hx.2.2)
  have hd:AE (l.drop n)=46:=hx.2.1
  have c1:BH l (n+1):=BH.add hc (BH.one AC AC AC)
  have hv1:=c1.bd.vd hv
  have hb1:=c1.bd.sub hb AC
  have e0:=CA (l:=l) (r:=r) (m:=m) (j:=n+1) AC hm
  have e1:A8 ((tr l m r).drop (n+1))=A8 (l.drop (n+1)):=by
   rw [e0];exact SB hr hv1 hb1 AC (by grind) AC
  rw [ZD (s:=tr l m r) (by rw [Td hm];omega) ⟨hx.1,by rw [ET AC hm];exact hd,ke⟩,e1]
  exact ih (BH.add c1 (BH.plain _)) h U
 |case2 n k hn hx=>
  refine K4 ?_
  rintro ⟨y1,y2,y3,y4⟩
  have h:n<=m:=h
  rcases U with U|U
  .have U:m=n:=U
   subst U
   rw [L2 hm] at y3
   unfold Ll at hr;omega
  .subst U
   rw [ET hn hm] at y3
   refine hx ⟨y2,y3,?_⟩
   have c1:BH l (n+1):=BH.add hc (BH.one AC AC AC)
   have hv1:=c1.bd.vd hv
   have hb1:=c1.bd.sub hb AC
   have e0:=CA (l:=l) (r:=r) (m:=l.length) (j:=n+1) AC hm
   rw [e0] at y4
   by_cases hz:n+1<l.length
   .rwa [SB hr hv1 hb1 AC ke (by have:=Jy (l.drop (n+1));simp_all)] at y4
   .rw [show l.length - (n+1)=0 by omega,E8] at y4
    exfalso
    have e5:(A8 r).1=0:=by
     rcases dX hr with rfl|⟨hne,h⟩|⟨hne,h⟩
     .rfl
     all_goals
      cases r with
      |nil=>exact absurd rfl hne
      |cons a r=>
       have ef:FE (a::r)=1:=by
        show Ay (((AJ (a::r)).1:Nat):Int)=1
        rw [h];decide
       unfold A8
       rw [ef];rfl
    rw [e5] at y4
    exact y4 Do
 |case3 n k hn=>
  refine K4 ?_
  rintro ⟨y1,y2,y3,y4⟩
  have h:n<=m:=h
  have e:n=m:=AC
  subst e
  rw [L2 hm] at y3
  unfold Ll at hr;omega
theorem vA (hr:Ll r) (hv:Vd l) (hb:Bd l m) (h0:0<m) (U:m<=l.length) (h:(CB l).2<=m) (hM:m=(CB l).2\/m=l.length):CB (tr l m r)=CB l:=by
 have hge:=SE l (A8 l).2 (A8 l).1
 have e1:A8 (tr l m r)=A8 l:=SB hr hv hb h0 U (by unfold CB at h;omega)
 unfold CB
 rw [e1]
 exact pQ hr hv hb U (BH.plain l) h hM
def yA (k:Int) (t:List UInt8) (p:Int×Int):List V:=[.int .i64 k,.str t,.int .i64 p.1,.int .i64 p.2]
theorem pL {st:St} {o:List (List V)} {a b:Int} (h:Ce st0 st w1 (o.length*4) w2 n2) (hl:o.length<=1000000000)
 (kk:∀U st',Ce st0 st' U ((o.length+1)*4) w2 n2->st'.box=st.box->K (.slice 4 (o++[yA k t (a,b)]) U) st'):Am 4 40 o w1 [[.int .i64 k,.str t,.int .i64 a,.int .i64 b]] st K:=
 LQ h rfl (by rw [List.length_singleton];omega) (by rw [List.length_singleton];unfold D7;omega) rfl GT (λU st' hr hb=>kk U st' hr hb)
end Go.Aw
namespace Go.Proofs.Z
open Go Go.Aw
section
variable {st:St} {R:AB->St->Prop}
attribute [local irreducible] Go.Aw.Am
theorem ve {sp q:Nat} {e0 ln Ch ends:Int} (hl:s.length<=100000000) (hsp:sp<=p) (hpq:p<=q) (hq:q<=s.length) (hln:1<=ln/\ln<=800000000) (hcol:1<=Ch/\Ch<=1000000000)
 (hg:0<=DL/\DL<=1000000000) (ht:Ar.length<=1000000000) (U:st0.box b=none) (hR:Ce st0 st w1 (Ar.length*4) w2 n2) (hb:st.box b=some (QC s p sp ln Ch Ar notes w1 w2 DL ends j))
 (h:∀w1' st',Ce st0 st' w1' ((Ar.length+1)*4) w2 n2->st'.box b=some (QC s q q (CY s p q (CY s sp p (ln,Ch))).1 (CY s p q (CY s sp p (ln,Ch))).2 (Ar++[yA k (AY s p q) (CY s sp p (ln,Ch))]) notes w1' w2
   (if decide (¬k=15)|| !Lib.contains [123,125,59] (AY s p q) then DL+1 else DL) (CY s p q (CY s sp p (ln,Ch))).1 true)->R (.ret (.BM [])) st'):PC 51 [.ptr b 0,.agg [.int .i64 k,.int .i64 q,.int .i64 e0]] st R:=by
 have z1:=fD (s:=s) (p:=(ln,Ch)) hsp AC hcol.1
 refine A6 Ac [] Tryz.func51 rfl Do rfl ?_
 refine Al (An Ac ?_)
 repeat' ((conv=>whnf);first|exact CH|(refine Br ?_;intros)|(refine CI ?_ ?_ ?_;rotate_left)|(refine Bs ?_ ?_<;>intro _)|with_reducible refine WF ?_)
 refine Al (An Ac ?_)
 repeat' ((conv=>whnf);first|exact CH|(refine Br ?_;intros)|(refine CI ?_ ?_ ?_;rotate_left)|(refine Bs ?_ ?_<;>intro _)|refine vc hl hsp AC AC AC hb ?_|refine Ao hb ?_|with_reducible refine WF ?_)
 generalize CY s sp p (ln,Ch)=pl1 at h z1 |-
 have z2:=fD (s:=s) (p:=pl1) hpq hq z1.2.2.1
 dsimp only at z1 z2
 refine Al (An Ac ?_)
 repeat' ((conv=>whnf);first|exact CH|(refine Br ?_;intros)|(refine CI ?_ ?_ ?_;rotate_left)|(refine Bs ?_ ?_<;>intro _)|refine Xa hpq hq ?_|refine Ao (St.AM _ _ _) ?_|with_reducible refine WF ?_)
 refine Al (An Ac ?_)
 repeat' ((conv=>whnf);first|refine Af [(0,true),(1,true),(2,true),(3,true),(4,true),(5,true),(6,true),(7,false),(8,true),(9,true),(10,false)] [] GE ?_|exact CH|(refine Br ?_;intros)|(refine CI ?_ ?_ ?_;rotate_left)|(refine Bs ?_ ?_<;>intro _)|refine Ao (St.AM _ _ _) ?_|refine pL (hR.set U _) ht (λw1' st1 hr1 hb1=>?_)|refine Ao ((congrFun hb1 b).trans (St.AM _ _ _)) ?_|with_reducible refine WF ?_)
 clear hR hb
 rcases hc:(decide (¬k=15)|| !Lib.contains [123,125,59] (AY s p q)) with _|_
 all_goals rw [hc] at h
 .have hcc:∀{st:St} {R:AB->St->Prop},R (.ret (.bool false)) st->PC 80 [.agg [.int .i64 k,.str (AY s p q),.int .i64 pl1.1,.int .i64 pl1.2]] st R:=λh=>X4 (by rw [hc];exact h)
  refine Al (An Ac ?_)
  repeat' ((conv=>whnf);first|exact CH|(refine Br ?_;intros)|(refine CI ?_ ?_ ?_;rotate_left)|(refine Bs ?_ ?_<;>intro _)|refine hcc ?_|refine Ao (St.AM _ _ _) ?_|with_reducible refine WF ?_)
  refine An Ac ?_
  repeat' ((conv=>whnf);first|exact CH|(refine Br ?_;intros)|(refine CI ?_ ?_ ?_;rotate_left)|(refine Bs ?_ ?_<;>intro _)|refine vc hl hpq hq AC AC (St.AM _ _ _) ?_|refine Ao (St.AM _ _ _) ?_|with_reducible refine WF ?_)
  all_goals exact fin (h w1' _ ((((hr1.set U _).set U _).set U _).set U _) (St.AM _ _ _)) rfl
 .have hcc:∀{st:St} {R:AB->St->Prop},R (.ret (.bool true)) st->PC 80 [.agg [.int .i64 k,.str (AY s p q),.int .i64 pl1.1,.int .i64 pl1.2]] st R:=λh=>X4 (by rw [hc];exact h)
  refine Al (An Ac ?_)
  repeat' ((conv=>whnf);first|exact CH|(refine Br ?_;intros)|(refine CI ?_ ?_ ?_;rotate_left)|(refine Bs ?_ ?_<;>intro _)|refine hcc ?_|refine Ao (St.AM _ _ _) ?_|with_reducible refine WF ?_)
  refine An Ac ?_
  repeat' ((conv=>whnf);first|exact CH|(refine Br ?_;intros)|(refine CI ?_ ?_ ?_;rotate_left)|(refine Bs ?_ ?_<;>intro _)|refine vc hl hpq hq AC AC (St.AM _ _ _) ?_|refine Ao (St.AM _ _ _) ?_|with_reducible refine WF ?_)
  all_goals exact fin (h w1' _ (((((hr1.set U _).set U _).set U _).set U _).set U _) (St.AM _ _ _)) rfl
end
structure Nt where
 text:List UInt8
 DL:Int
 wh:Int
 line:Int
 Ch:Int
def Nt.cells (n:Nt):List V:=[.str n.text,.int .i64 n.DL,.int .i64 n.wh,.int .i64 n.line,.int .i64 n.Ch]
def Fm (l:List Nt):List (List V):=l.map Nt.cells
structure Lx where
 Ar:List Tk
 notes:List Nt
 DL:Int
 ends:Int
 j:Bool
def rp:Lx:=⟨[],[],0,0,false⟩
def cntF (k:Int) (t:List UInt8):Bool:=decide (¬k=15)|| !Lib.contains [123,125,59] t
def Ih (s:List UInt8) (p q:Nat) (k:Int) (x:Lx):Lx:=
 ⟨x.Ar++[⟨k,AY s p q,(CL s p).1,(CL s p).2⟩],x.notes,if cntF k (AY s p q) then x.DL+1 else x.DL,(CL s q).1,true⟩
def Cv (s:List UInt8) (p:Nat):Nat:=p+Bx (λc=>Ay c==1) (s.drop p)
theorem JR (h:p<=s.length):p<=Cv s p/\Cv s p<=s.length:=by
 have:=Gg (λc=>Ay c==1) (s.drop p)
 rw [List.length_drop] at this
 unfold Cv;omega
def lC (s:List UInt8) (p q:Nat) (x:Lx):Bool:=x.j&&decide (x.ends=(CL s p).1)&&decide ((CL s q).1=(CL s p).1)
def TK (s:List UInt8) (p q:Nat):Bool:=decide (Cv s q<s.length)&&decide ((CL s (Cv s q)).1=(CL s p).1)
def NQ (s:List UInt8) (p q:Nat) (x:Lx):Lx:=
 ⟨x.Ar,x.notes++[⟨AY s p q,x.DL,if lC s p q x then (if TK s p q then 1 else 2) else 3,(CL s p).1,(CL s p).2⟩],x.DL,(CL s q).1,lC s p q x&&TK s p q⟩
def DA (s:List UInt8) (p:Nat) (x:Lx):Sum (Int×Int) Lx:=
 if hp:p<s.length then
  if (B7 s p).2≠0 then .inl ((p:Nat),(B7 s p).2)
  else if 0<(B7 s p).1 then
   (if U:p<(B7 s p).1.toNat then DA s (Cv s (B7 s p).1.toNat) (NQ s p (B7 s p).1.toNat x) else .inr x)
  else if (BA s p).2.2≠0 then .inl ((BA s p).2.1,(BA s p).2.2)
  else (if U:p<(BA s p).2.1.toNat then DA s (Cv s (BA s p).2.1.toNat) (Ih s p (BA s p).2.1.toNat (BA s p).1 x) else .inr x)
 else .inr x
termination_by s.length - p
decreasing_by
 all_goals unfold Cv;omega
def Ew (s:List UInt8):Sum (Int×Int) Lx:=
 if 16777216<s.length then .inl (0,3)
 else if (MC s).2≠0 then .inl (MC s)
 else if 0<=VT (λc=>Ay (c:Nat)==0) s then .inl (VT (λc=>Ay (c:Nat)==0) s,70)
 else DA s (Cv s 0) rp
theorem bg (h:(MC s).2=0):Vd s:=by
 unfold MC at h
 split at h
 .exact absurd h (show ¬(10:Int)=0 by decide)
 .have:=K7 Df s
  unfold Vd;omega
end Go.Proofs.Z
namespace Go.Aw
open Go
theorem BH.le {k:Nat} (h:BH l k):k<=l.length:=by
 induction h with
 |zero l=>omega
 |step U h ih=>have:=Gh U;grind
theorem BH.blank (hv:Vd l):BH l (Bx (λc=>Ay c==1) l):=by
 refine Bd.cut (Bd.span _ l) ?_
 rintro ⟨h0,_,U⟩
 have U:AE (l.drop (Bx (λc=>Ay c==1) l))=10:=U
 have hlt:=B8 (l:=l) (k:=Bx (λc=>Ay c==1) l) AC
 have:=SP (λc=>Ay c==1) l hlt
 rw [(EA AC AC).2,U] at this
 exact absurd this Do
theorem Zg (e:(B7 s p).2=0) (U:0<(B7 s p).1):∃n:Nat,0<n/\CJ (s.drop p)=(n:Nat)/\(B7 s p).1=(p+n:Nat):=by
 unfold B7 at e U |-
 split
 .simp_all
 .rename_i h
  rw [if_neg h] at e U
  split
  .simp_all
  .rename_i h1
   exact ⟨(CJ (s.drop p)).toNat,AC,AC,AC⟩
theorem Sv (hv:Vd s) (h:BH s p) (e:(B7 s p).2=0) (h0:0<(B7 s p).1):∃q,(B7 s p).1=(q:Nat)/\p<q/\q<=s.length/\BH s q:=by
 obtain ⟨n,h1,h2,h3⟩:=Zg e h0
 have U:=BH.add h (BH.note (h.bd.vd hv) h2)
 exact ⟨p+n,h3,AC,U.le,U⟩
theorem uq (h:(CN l).1≠0):0<(CN l).2:=by
 unfold CN at h |-
 grind
theorem q8 (h:(CB l).1≠0):0<(CB l).2:=by
 have U:=SE l (A8 l).2 (A8 l).1
 by_cases hp:(A8 l).1=0
 .unfold CB at h
  rw [K4 (λx=>by omega)] at h
  omega
 .have:=UD hp
  unfold CB;omega
theorem R6 (hv:Vd s) (h:BH s p) (e:(BA s p).2.2=0):(BA s p).1≠0/\∃q,(BA s p).2.1=(q:Nat)/\p<q/\q<=s.length/\BH s q:=by
 have hv':=h.bd.vd hv
 unfold BA at e |-
 split
 .rename_i h1
  refine ⟨h1,p+(CN (s.drop p)).2,?_⟩
  have hn:(CN (s.drop p)).1≠0:=λx=>by
   unfold Gp at h1;simp_all
  have U:=BH.add h (BH.num (s.drop p))
  have:=uq hn
  refine ⟨?_,AC,U.le,U⟩
  unfold Gp;simp_all
 .rename_i h1
  rw [if_neg h1] at e
  split
  .rename_i h2
   rw [if_pos h2] at e
   split
   .simp_all
   .rename_i h3
    refine ⟨h3,p+(CB (s.drop p)).2,?_⟩
    have hn:(CB (s.drop p)).1≠0:=λx=>by
     unfold C1 at h3;simp_all
    have U:=BH.add h (BH.word (s.drop p))
    have:=q8 hn
    refine ⟨?_,AC,U.le,U⟩
    unfold C1;simp_all
  .rename_i h2
   rw [if_neg h2] at e
   have hk:(BD s p).1≠0:=λx=>h2 ⟨x,e⟩
   obtain ⟨n,e1,e2,e3⟩:=BH.quote hv' hk
   have U:=BH.add h e3
   exact ⟨hk,p+n,e1,AC,U.le,U⟩
theorem BH.dU (U:Vd s) (h:BH s p):BH s (Go.Proofs.Z.Cv s p):=BH.add h (BH.blank (h.bd.vd U))
def iX (a b:Int×Int):Prop:=a.1<b.1\/(a.1=b.1/\a.2<b.2)
theorem iX.trans {a b c:Int×Int} (h:iX a b) (k:iX b c):iX a c:=by unfold iX at *;omega
theorem uY {p:Int×Int} (h:1<=p.2):iX p (EC l p.1,Fw l p.2):=by
 unfold iX EC Fw Z3
 omega
theorem vu {k:Nat} (h:BH l k) (p:Int×Int) (hp:1<=p.2):(k=0/\BT l k p=p)\/(0<k/\iX p (BT l k p)):=by
 induction h generalizing p with
 |zero l=>exact .inl ⟨rfl,Ei⟩
 |@step l j U h ih=>
  have h1:=Gh U
  have h2:=uY (l:=l) hp
  refine .inr ⟨AC,?_⟩
  rw [D8 U AC,show AV l+j - AV l=j by omega]
  rcases ih (EC l p.1,Fw l p.2) (QQ l hp).1 with ⟨_,e⟩|⟨_,e⟩
  .simp_all
  .exact h2.trans e
theorem BH.sub {j:Nat} (h:BH l i) (k:BH l j) (hij:i<=j):BH (l.drop i) (j - i):=by
 induction h generalizing j with
 |zero l=>exact k
 |@step l i hne h ih=>
  cases k with
  |zero=>simp_all
  |@step _ U _ k=>
   rw [show AV l+U - (AV l+i)=U - i by omega,<-List.drop_drop]
   simp_all
theorem My:1<=(CL s p).1/\(CL s p).1<=1+s.length/\1<=(CL s p).2/\(CL s p).2<=1+8*s.length:=by
 have:=Tt _ s p (1,1) (Nat.le_refl _) Do
 unfold CL
 omega
theorem lr {q:Nat} (h:BH s p) (k:BH s q) (U:p<q):iX (CL s p) (CL s q):=by
 have c:=h.sub k AC
 have e:CL s q=BT (s.drop p) (q - p) (CL s p):=by
  unfold CL
  rw [<-Oo h,show p+(q - p)=q by omega]
 rw [e]
 rcases vu c (CL s p) My.2.2.1 with ⟨x,_⟩|⟨_,x⟩
 .omega
 omega
theorem OX {a:Nat} (hv:Vd s) (U:BH s a) (hb:BH s b) (h:a<=b):CY s a b (CL s a)=CL s b:=o0 hv U (U.sub hb h) h hb.le
def ntV (t:List UInt8) (DL wh:Int) (p:Int×Int):List V:=[.str t,.int .i64 DL,.int .i64 wh,.int .i64 p.1,.int .i64 p.2]
theorem O2 {st:St} {n1:Nat} {o:List (List V)} {g a b:Int} (h:Ce st0 st w1 n1 w2 (o.length*5)) (hl:o.length<=1000000000)
 (kk:∀U st',Ce st0 st' w1 n1 U ((o.length+1)*5)->st'.box=st.box->K (.slice 5 (o++[ntV t g k (a,b)]) U) st'):Am 5 48 o w2 [[.str t,.int .i64 g,.int .i64 k,.int .i64 a,.int .i64 b]] st K:=
 LQ h.swap rfl (by rw [List.length_singleton];omega) (by rw [List.length_singleton];unfold D7;omega) rfl GT (λw1' st' hr hb=>kk w1' st' hr.swap hb)
end Go.Aw
namespace Go.Proofs.Z
open Go Go.Aw
section
variable {st:St} {R:AB->St->Prop}
attribute [local irreducible] Go.Aw.Am
theorem gi {sp q:Nat} {ends:Int} (hl:s.length<=100000000) (hv:Vd s) (c1:BH s sp) (c2:BH s q) (U:sp<=q)
 (hb:st.box b=some (QC s p sp (CL s sp).1 (CL s sp).2 Ar notes w1 w2 DL ends j))
 (h:R (.ret (.BM [.int .i64 (CL s q).1,.int .i64 (CL s q).2])) (st.Aa b (QC s p q (CL s q).1 (CL s q).2 Ar notes w1 w2 DL ends j))):PC 76 [.ptr b 0,.int .i64 q] st R:=by
 have e:CY s sp q ((CL s sp).1,(CL s sp).2)=CL s q:=OX hv c1 c2 U
 have hc:=My (s:=s) (p:=sp)
 refine vc hl U c2.le AC AC hb ?_
 rw [e];exact h
theorem qG {sp q:Nat} {e0 ends:Int} (hl:s.length<=50000000) (hv:Vd s) (c1:BH s sp) (c2:BH s p) (c3:BH s q) (hsp:sp<=p) (hpq:p<=q)
 (hg:0<=DL/\DL<=1000000000) (ht:Ar.length<=1000000000) (hb0:st0.box b=none) (hR:Ce st0 st w1 (Ar.length*4) w2 n2) (hb:st.box b=some (QC s p sp (CL s sp).1 (CL s sp).2 Ar notes w1 w2 DL ends j))
 (h:∀U st',Ce st0 st' U ((Ar.length+1)*4) w2 n2->st'.box b=some (QC s q q (CL s q).1 (CL s q).2 (Ar++[yA k (AY s p q) (CL s p)]) notes U w2
   (if cntF k (AY s p q) then DL+1 else DL) (CL s q).1 true)->R (.ret (.BM [])) st'):PC 51 [.ptr b 0,.agg [.int .i64 k,.int .i64 q,.int .i64 e0]] st R:=by
 have e1:CY s sp p ((CL s sp).1,(CL s sp).2)=CL s p:=OX hv c1 c2 hsp
 have e2:CY s p q (CL s p)=CL s q:=OX hv c2 c3 hpq
 have hc:=My (s:=s) (p:=sp)
 refine ve AC hsp hpq c3.le AC AC hg ht hb0 hR hb (λU st' hr hb'=>h U st' hr ?_)
 rw [e1,e2] at hb';exact hb'
theorem xT {sp q n1:Nat} {ends:Int} (hl:s.length<=50000000) (hv:Vd s) (c1:BH s sp) (c2:BH s p) (c3:BH s q) (hsp:sp<=p) (hpq:p<=q)
 (hg:0<=DL/\DL<=1000000000) (ht:notes.length<=1000000000) (U:st0.box b=none) (hR:Ce st0 st w1 n1 w2 (notes.length*5)) (hb:st.box b=some (QC s p sp (CL s sp).1 (CL s sp).2 Ar notes w1 w2 DL ends j))
 (h:∀w2' st' sp',BH s sp'->sp'<=Cv s q->Ce st0 st' w1 n1 w2' ((notes.length+1)*5)->
   st'.box b=some (QC s (Cv s q) sp' (CL s sp').1 (CL s sp').2 Ar (notes++[ntV (AY s p q) DL (if j&&decide (ends=(CL s p).1)&&decide ((CL s q).1=(CL s p).1) then (if TK s p q then 1 else 2) else 3) (CL s p)]) w1 w2' DL (CL s q).1
    (j&&decide (ends=(CL s p).1)&&decide ((CL s q).1=(CL s p).1)&&TK s p q))->R (.ret (.BM [])) st'):PC 49 [.ptr b 0,.int .i64 q] st R:=by
 have c4:=c3.dU hv
 have hq:=c3.le
 have hr:=JR hq
 have z1:=My (s:=s) (p:=p)
 have z2:=My (s:=s) (p:=q)
 have z3:=My (s:=s) (p:=Cv s q)
 refine A6 Ac [] Tryz.func49 rfl Do rfl ?_
 refine Al (An Ac ?_)
 repeat' ((conv=>whnf);first|exact CH|(refine Br ?_;intros)|(refine CI ?_ ?_ ?_;rotate_left)|(refine Bs ?_ ?_<;>intro _)|refine gi AC hv c1 c2 hsp hb ?_|refine Ao hb ?_|with_reducible refine WF ?_)
 refine Al (An Ac ?_)
 repeat' ((conv=>whnf);first|exact CH|(refine Br ?_;intros)|(refine CI ?_ ?_ ?_;rotate_left)|(refine Bs ?_ ?_<;>intro _)|refine Xa hpq hq ?_|refine Ao (St.AM _ _ _) ?_|with_reducible refine WF ?_)
 refine Al (An Ac ?_)
 repeat' ((conv=>whnf);first|exact CH|(refine Br ?_;intros)|(refine CI ?_ ?_ ?_;rotate_left)|(refine Bs ?_ ?_<;>intro _)|refine gi AC hv c2 c3 hpq (St.AM _ _ _) ?_|refine Ao (St.AM _ _ _) ?_|with_reducible refine WF ?_)
 have hbl:∀{st:St} {R:AB->St->Prop} {sp:Nat} {DL ends:Int} {j:Bool} {notes:List (List V)} {w2:AH},st.box b=some (QC s q sp (CL s sp).1 (CL s sp).2 Ar notes w1 w2 DL ends j)->
  R (.ret (.BM [])) (st.Aa b (QC s (Cv s q) sp (CL s sp).1 (CL s sp).2 Ar notes w1 w2 DL ends j))->PC 47 [.ptr b 0] st R:=λhb h=>Nh AC hq hb h
 have hcase:(j=false\/(j=true/\¬ends=(CL s p).1)\/(j=true/\ends=(CL s p).1/\¬(CL s q).1=(CL s p).1))\/(j=true/\ends=(CL s p).1/\(CL s q).1=(CL s p).1):=by
  cases j
  .exact .inl (.inl rfl)
  .by_cases e1:ends=(CL s p).1
   .by_cases e2:(CL s q).1=(CL s p).1
    .exact .inr ⟨rfl,e1,e2⟩
    .exact .inl (.inr (.inr ⟨rfl,e1,e2⟩))
   .exact .inl (.inr (.inl ⟨rfl,e1⟩))
 rcases hcase with hc|⟨rfl,he1,he2⟩
 .have e:(j&&decide (ends=(CL s p).1)&&decide ((CL s q).1=(CL s p).1))=false:=by
   rcases hc with rfl|⟨rfl,e1⟩|⟨rfl,e1,e2⟩<;>simp [*]
  rw [e] at h
  rcases hc with rfl|⟨rfl,e1⟩|⟨rfl,e1,e2⟩
  all_goals refine Al (An Ac ?_)
  repeat' ((conv=>whnf);first|exact CH|(refine Br ?_;intros)|(refine CI ?_ ?_ ?_;rotate_left)|(refine Bs ?_ ?_<;>intro _)|refine Ao (St.AM _ _ _) ?_|with_reducible refine WF ?_)
  all_goals refine Al (An Ac ?_)
  repeat' ((conv=>whnf);first|exact CH|(refine Br ?_;intros)|(refine CI ?_ ?_ ?_;rotate_left)|(refine Bs ?_ ?_<;>intro _)|refine Ao (St.AM _ _ _) ?_|with_reducible refine WF ?_)
  all_goals refine Al (An Ac ?_)
  repeat' ((conv=>whnf);first|exact CH|(refine Br ?_;intros)|(refine CI ?_ ?_ ?_;rotate_left)|(refine Bs ?_ ?_<;>intro _)|refine hbl (St.AM _ _ _) ?_|with_reducible refine WF ?_)
  all_goals refine Al (An Ac ?_)
  repeat' ((conv=>whnf);first|exact CH|(refine Br ?_;intros)|(refine CI ?_ ?_ ?_;rotate_left)|(refine Bs ?_ ?_<;>intro _)|refine Ao (St.AM _ _ _) ?_|with_reducible refine WF ?_)
  all_goals refine Al (An Ac ?_)
  repeat' ((conv=>whnf);first|exact CH|(refine Br ?_;intros)|(refine CI ?_ ?_ ?_;rotate_left)|(refine Bs ?_ ?_<;>intro _)|with_reducible refine WF ?_)
  all_goals refine An Ac ?_
  repeat' ((conv=>whnf);first|refine Af [(0,true),(1,true),(2,true),(3,true),(4,true),(5,true),(6,true),(7,false),(8,true),(9,true),(10,false)] [] GE ?_|exact CH|(refine Br ?_;intros)|(refine CI ?_ ?_ ?_;rotate_left)|(refine Bs ?_ ?_<;>intro _)|refine Ao (St.AM _ _ _) ?_|refine O2 (((((hR.set U _).set U _).set U _).set U _).set U _) ht (λw1' st1 hr1 hb1=>?_)|refine Ao ((congrFun hb1 b).trans (St.AM _ _ _)) ?_|with_reducible refine WF ?_)
  all_goals exact fin (h w1' _ q c3 hr.1 (hr1.set U _) (St.AM _ _ _)) rfl
 .have e:(true&&decide (ends=(CL s p).1)&&decide ((CL s q).1=(CL s p).1))=true:=by simp [*]
  rw [e] at h
  refine Al (An Ac ?_)
  repeat' ((conv=>whnf);first|exact CH|(refine Br ?_;intros)|(refine CI ?_ ?_ ?_;rotate_left)|(refine Bs ?_ ?_<;>intro _)|refine Ao (St.AM _ _ _) ?_|with_reducible refine WF ?_)
  refine Al (An Ac ?_)
  repeat' ((conv=>whnf);first|exact CH|(refine Br ?_;intros)|(refine CI ?_ ?_ ?_;rotate_left)|(refine Bs ?_ ?_<;>intro _)|refine Ao (St.AM _ _ _) ?_|with_reducible refine WF ?_)
  refine Al (An Ac ?_)
  repeat' ((conv=>whnf);first|exact CH|(refine Br ?_;intros)|(refine CI ?_ ?_ ?_;rotate_left)|(refine Bs ?_ ?_<;>intro _)|refine hbl (St.AM _ _ _) ?_|with_reducible refine WF ?_)
  refine Al (An Ac ?_)
  repeat' ((conv=>whnf);first|exact CH|(refine Br ?_;intros)|(refine CI ?_ ?_ ?_;rotate_left)|(refine Bs ?_ ?_<;>intro _)|refine Ao (St.AM _ _ _) ?_|with_reducible refine WF ?_)
  rcases hin:TK s p q with _|_
  all_goals rw [hin] at h
  .have hno:¬Cv s q<s.length\/(Cv s q<s.length/\¬(CL s (Cv s q)).1=(CL s p).1):=by
    by_cases h1:Cv s q<s.length
    .exact .inr ⟨h1,λx=>by unfold TK at hin;simp [h1,x] at hin⟩
    .exact .inl h1
   rcases hno with hno|⟨hy,hno⟩
   all_goals refine Al (An Ac ?_)
   repeat' ((conv=>whnf);first|exact CH|(refine Br ?_;intros)|(refine CI ?_ ?_ ?_;rotate_left)|(refine Bs ?_ ?_<;>intro _)|refine gi AC hv c3 c4 hr.1 (St.AM _ _ _) ?_|refine Ao (St.AM _ _ _) ?_|refine WJ (λ_=>?_)|with_reducible refine WF ?_)
   all_goals refine An Ac ?_
   repeat' ((conv=>whnf);first|refine Af [(0,true),(1,true),(2,true),(3,true),(4,true),(5,true),(6,true),(7,false),(8,true),(9,true),(10,false)] [] GE ?_|exact CH|(refine Br ?_;intros)|(refine CI ?_ ?_ ?_;rotate_left)|(refine Bs ?_ ?_<;>intro _)|refine Ao (St.AM _ _ _) ?_|refine O2 ((((((hR.set U _).set U _).set U _).set U _).set U _).set U _) ht (λw1' st1 hr1 hb1=>?_)|refine Ao ((congrFun hb1 b).trans (St.AM _ _ _)) ?_|with_reducible refine WF ?_)
   all_goals exact fin (h w1' _ (Cv s q) c4 (Nat.le_refl _) (hr1.set U _) (St.AM _ _ _)) rfl
  .have hy:Cv s q<s.length/\(CL s (Cv s q)).1=(CL s p).1:=by unfold TK at hin;simpa using hin
   obtain ⟨hy1,hy2⟩:=hy
   refine Al (An Ac ?_)
   repeat' ((conv=>whnf);first|exact CH|(refine Br ?_;intros)|(refine CI ?_ ?_ ?_;rotate_left)|(refine Bs ?_ ?_<;>intro _)|refine gi AC hv c3 c4 hr.1 (St.AM _ _ _) ?_|refine Ao (St.AM _ _ _) ?_|refine WJ (λ_=>?_)|with_reducible refine WF ?_)
   refine An Ac ?_
   repeat' ((conv=>whnf);first|refine Af [(0,true),(1,true),(2,true),(3,true),(4,true),(5,true),(6,true),(7,false),(8,true),(9,true),(10,false)] [] GE ?_|exact CH|(refine Br ?_;intros)|(refine CI ?_ ?_ ?_;rotate_left)|(refine Bs ?_ ?_<;>intro _)|refine Ao (St.AM _ _ _) ?_|refine O2 (((((((hR.set U _).set U _).set U _).set U _).set U _).set U _).set U _) ht (λw1' st1 hr1 hb1=>?_)|refine Ao ((congrFun hb1 b).trans (St.AM _ _ _)) ?_|with_reducible refine WF ?_)
   all_goals exact fin (h w1' _ (Cv s q) c4 (Nat.le_refl _) (hr1.set U _) (St.AM _ _ _)) rfl
end
end Go.Proofs.Z
namespace Go.Aw
open Go
theorem uO {p:Nat×Nat->Bool} (hv:Vd l) (hb:Bd l m) (hm:m<=l.length) (h:BB p l<m):BB p (tr l m r)=BB p l:=by
 induction hb with
 |zero l=>omega
 |@step l k U hb ih=>
  have hp:=Ek l
  have hd:=Rn (r:=r) hv AC hm (.step U hb)
  have hne':tr l ((AJ l).2+k) r≠[]:=λe=>by
   have:=congrArg List.length e
   rw [Td hm] at this;simp_all
  cases hc:p (AJ l) with
  |false=>rw [En hc,En ke]
  |true=>
   rw [Cp U hc] at h |-
   rw [Cp hne' ke,hd.1,CA AC hm,show (AJ l).2+k - (AJ l).2=k by omega,ih (hv.rune U).2 (by grind) AC]
theorem lW {c:Int} (U:32<c) (h:c<127):Ay c≠1:=by
 have key:∀k:Nat,k<127->32<k->Ay (k:Nat)≠1:=Do
 have:=key c.toNat AC AC
 grind
theorem Rb (U:32<AE l) (h:AE l<127):Bx (λc=>Ay c==1) l=0:=by
 refine N8 ?_
 rw [(EA AC AC).2]
 exact beq_false_of_ne (lW U h)
theorem xY {w:List UInt8} {j:Nat} (U:m<=l.length) (hj:j<m) {q:UInt8} (hq:l[j]? =some q) (hw:q ∉ w):w.isPrefixOf (tr l m r)=w.isPrefixOf l:=by
 have h1:w.isPrefixOf (tr l m r)=true↔w.isPrefixOf l=true:=by
  rw [List.isPrefixOf_iff_prefix,List.isPrefixOf_iff_prefix,List.prefix_iff_eq_take,List.prefix_iff_eq_take]
  by_cases hl:w.length<=j
  .rw [Ok AC U]
  .have key:∀x:List UInt8,x[j]? =some q->¬w=x.take w.length:=λx hx e=>by
    apply hw
    have:w[j]? =some q:=by
     rw [e,List.getElem?_take_of_lt AC];exact hx
    grind
   refine ⟨λe=>absurd e (key _ ?_),λe=>absurd e (key _ hq)⟩
   unfold tr
   grind
 grind
theorem fj {l l':List UInt8}:∀(U:List (List UInt8)) (i:Nat) (p:Nat×Nat),(∀w ∈ U,w.isPrefixOf l'=w.isPrefixOf l)->Hi l' U i p=Hi l U i p
 |[],_,p,_=>rfl
 |w::U,i,p,h=>by
  unfold Hi
  rw [h w List.mem_cons_self,fj U _ _ (λx hx=>h x (List.mem_cons_of_mem _ hx))]
theorem tZ:∀w ∈ CQ,(34:UInt8) ∉ w/\(39:UInt8) ∉ w:=by
 have h:CQ.all (λw=> !w.contains 34&& !w.contains 39)=true:=GE
 simp_all
theorem tX {j:Nat} (hm:m<=l.length) (hj:j<m) (hq:AE (l.drop j)=34\/AE (l.drop j)=39):Gn (tr l m r)=Gn l:=by
 have U:=B8 (l:=l) (k:=j) AC
 have hb:=List.getElem?_eq_getElem U
 have hd:=Ee hb
 have e:Hi (tr l m r) CQ 0 (0,0)=Hi l CQ 0 (0,0):=fj _ _ _ (λw hw=>by
  have:=tZ w hw
  refine xY hm hj hb ?_
  rcases hq with h|h
  .have:l[j]=34:=by apply UInt8.toNat_inj.1;show l[j].toNat=34;omega
   simp_all
  .have:l[j]=39:=by apply UInt8.toNat_inj.1;show l[j].toNat=39;omega
   simp_all)
 unfold Gn
 rw [e]
theorem fv {p:Int×Nat} (hr:Ll r) (hm:m<=l.length) (h:Gq base l=some p) (U:p.2<=m):Gq base (tr l m r)=some p:=by
 unfold Gq at h |-
 split at h
 .cases h
 .rename_i hc
  injection h with h
  subst h
  dsimp only at U
  rw [Je hr hm U,yF hr hm U,if_neg hc]
theorem xd {j:Nat} {p:Int×Nat} (hr:Ll r) (hm:m<=l.length) (h:GA tx l=some p) (hj:p.2<=j) (hjm:j<m) (hq:AE (l.drop j)=34\/AE (l.drop j)=39):
 2<=p.2/\32<AE (l.drop 1)/\AE (l.drop 1)<127/\GA tx (tr l m r)=some p:=by
 have hmp:p.2<=m - 1:=AC
 have e1:1<m->AE ((tr l m r).drop 1)=AE (l.drop 1):=λh=>ET h hm
 have e2:2<m->AE ((tr l m r).drop 2)=AE (l.drop 2):=λh=>ET h hm
 have key:2<=p.2/\32<AE (l.drop 1)/\AE (l.drop 1)<127:=by
  unfold GA at h
  split at h
  .rename_i v hs
   injection h with h;subst h
   unfold HA at hs
   grind
  .repeat' split at h
   .grind
   .grind
   .obtain ⟨q,U,rfl⟩:=Option.map_eq_some_iff.1 h
    omega
   .obtain ⟨q,U,rfl⟩:=Option.map_eq_some_iff.1 h
    omega
   .obtain ⟨q,U,rfl⟩:=Option.map_eq_some_iff.1 h
    have:=NT U
    omega
   .rename_i hn
    injection h with h;subst h
    have hl:65<=AE (l.drop 1)/\AE (l.drop 1)<=90:=by
     by_cases hx:65<=AE (l.drop 1)/\AE (l.drop 1)<=90
     .exact hx
     .rw [xQ hx] at hn;omega
    omega
   grind
 refine ⟨key.1,key.2.1,key.2.2,?_⟩
 have e1:=e1 AC
 have e2:=e2 AC
 have d1:=CA (l:=l) (r:=r) (m:=m) (j:=1) AC hm
 have d2:=CA (l:=l) (r:=r) (m:=m) (j:=2) AC hm
 have n1:∀{b q},Gq b (l.drop 1)=some q->q.2+1<=m->Gq b (tr (l.drop 1) (m - 1) r)=some q:=λh h2=>fv hr (by grind) h AC
 have n2:∀{b q},Gq b (l.drop 2)=some q->q.2+2<=m->Gq b (tr (l.drop 2) (m - 2) r)=some q:=λh h2=>fv hr (by grind) h AC
 have nm:Gn (tr (l.drop 1) (m - 1) r)=Gn (l.drop 1):=tX (j:=j - 1) (by grind) AC (by rw [List.drop_drop,show 1+(j - 1)=j by omega];exact hq)
 unfold GA at h |-
 rw [e1,e2,d1,d2,nm]
 split
 .grind
 .rename_i hs
  rw [hs] at h
  dsimp only at h
  repeat' split at h
  .simp_all
  .simp_all
  .rename_i h1 h2 h3
   rw [if_neg h1,if_neg h2,if_pos h3]
   obtain ⟨q,U,rfl⟩:=Option.map_eq_some_iff.1 h
   grind
  .rename_i h1 h2 h3 h4
   rw [if_neg h1,if_neg h2,if_neg h3,if_pos h4]
   obtain ⟨q,U,rfl⟩:=Option.map_eq_some_iff.1 h
   grind
  .rename_i h1 h2 h3 h4 h5
   rw [if_neg h1,if_neg h2,if_neg h3,if_neg h4,if_pos h5]
   obtain ⟨q,U,rfl⟩:=Option.map_eq_some_iff.1 h
   grind
  .grind
  grind
theorem xk (hv:Vd l) (hb:Bd l m) (U:m<=l.length) (h:0<DM l) (hg:DM l<m):DM (tr l m r)=DM l:=by
 unfold DM at h hg |-
 split at h
 .rename_i hc
  rw [if_pos hc] at hg
  have b1:Bd l 1:=(BH.one AC AC AC).bd
  have e:Bx (λc=>Ay c==1) ((tr l m r).drop 1)=Bx (λc=>Ay c==1) (l.drop 1):=by
   rw [CA AC U]
   exact uO (b1.vd hv) (b1.sub hb AC) (by grind) (show Bx (λc=>Ay c==1) (l.drop 1)<m - 1 by omega)
  rw [Gt AC U,e,ET AC U]
 .omega
theorem oU {j:Nat} {p:Int×Nat} (hr:Ll r) (hv:Vd l) (hb:Bd l m) (U:m<=l.length) (h:Hj tx l=.inr p) (hj:p.2<=j) (hjm:j<m) (hq:AE (l.drop j)=34\/AE (l.drop j)=39):
 Hj tx (tr l m r)=.inr p:=by
 have hle:=Hy h
 cases l with
 |nil=>cases h
 |cons a l=>
  have hd:=Rn (r:=r) hv AC U hb
  have h1:=Gt (l:=a::l) (r:=r) (m:=m) AC U
  have ht:∃t,tr (a::l) m r=a::t:=by
   obtain ⟨k,rfl⟩:∃k,m=k+1:=⟨m - 1,AC⟩
   exact ⟨_,rfl⟩
  obtain ⟨t,ht⟩:=ht
  have hg:=xk (r:=r) hv hb U
  have he:=xd (tx:=tx) (r:=r) (p:=p) (j:=j) hr U
  have hg0:32<AE ((a::l).drop 1)->AE ((a::l).drop 1)<127->1<m->¬0<DM (tr (a::l) m r):=λx y z=>by
   have e:=ET (l:=a::l) (r:=r) (m:=m) (j:=1) z U
   unfold DM
   rw [if_neg]
   .omega
   .rintro ⟨_,k,_⟩
    exact k (Rb AC AC)
  rw [ht] at hd h1 hg he hg0 |-
  unfold Hj at h |-
  grind
theorem Bd.word {w:List UInt8} (h:∀b ∈ w,b.toNat<128):Bd (w++t) w.length:=by
 induction w with
 |nil=>exact .zero _
 |cons a w U=>
  have e:(AJ (a::(w++t))).2=1:=by rw [DJ (h a List.mem_cons_self)]
  have:=Bd.step (l:=a::(w++t)) (k:=w.length) GT ke
  grind
theorem fh (l:List UInt8):∀(U:List (List UInt8)) (i:Nat) (p:Nat×Nat),(p.2=0\/∃w,w ∈ CQ/\w<+:l/\p.2=w.length)->(∀w ∈ U,w ∈ CQ)->(Hi l U i p).2=0\/∃w,w ∈ CQ/\w<+:l/\(Hi l U i p).2=w.length
 |[],_,p,h,_=>h
 |w::U,i,p,h,hw=>by
  unfold Hi
  refine fh l U _ _ ?_ (λx hx=>hw x (List.mem_cons_of_mem _ hx))
  grind
theorem oz:∀w ∈ CQ,∀b ∈ w,b.toNat<128:=by
 have h:CQ.all (λw=>w.all λb=>decide (b.toNat<128))=true:=GE
 grind
theorem y9 {p:Int×Nat} (h92:AE l=92) (h:GA tx l=some p):Bd l p.2:=by
 have c1:BH l 1:=BH.one AC AC AC
 have c2:0<=AE (l.drop 1)->AE (l.drop 1)<128->Bd (l.drop 1) 1:=λh1 h2=>by
  cases hl:l.drop 1 with
  |nil=>rw [hl] at h1;exact absurd h1 Do
  |cons a r=>
   rw [hl] at h2
   have:=Bd.word (w:=[a]) (t:=r) (λb hb=>by rw [List.mem_singleton] at hb;subst hb;have h2:((b.toNat:Nat):Int)<128:=h2;omega)
   grind
 have c3:0<=AE (l.drop 1)->AE (l.drop 1)<128->Bd l 2:=λh1 h2=>Bd.add (i:=1) (j:=1) c1.bd (c2 h1 h2)
 unfold GA at h
 split at h
 .rename_i v hs
  injection h with h;subst h
  unfold HA at hs
  grind
 .repeat' split at h
  .grind
  .rename_i h1 h2
   injection h with h;subst h
   have b2:=c3 AC AC
   refine Bd.add (i:=2) (j:=1) b2 ?_
   have hh:0<=AE (l.drop 2)/\AE (l.drop 2)<128:=⟨AC,AC⟩
   cases hl:l.drop 2 with
   |nil=>rw [hl] at hh;exact absurd hh.1 Do
   |cons a r=>
    rw [hl] at hh
    have:=Bd.word (w:=[a]) (t:=r) (λb hb=>by rw [List.mem_singleton] at hb;subst hb;have h2:((b.toNat:Nat):Int)<128:=hh.2;omega)
    grind
  .obtain ⟨q,U,rfl⟩:=Option.map_eq_some_iff.1 h
   unfold Gq at U
   split at U
   .cases U
   .injection U with U;subst U
    exact Bd.add (c3 AC AC) (BH.row _ _).bd
  .obtain ⟨q,U,rfl⟩:=Option.map_eq_some_iff.1 h
   unfold Gq at U
   split at U
   .cases U
   .injection U with U;subst U
    exact Bd.add (c3 AC AC) (BH.row _ _).bd
  .obtain ⟨q,U,rfl⟩:=Option.map_eq_some_iff.1 h
   unfold Gq at U
   split at U
   .cases U
   .injection U with U;subst U
    exact Bd.add c1.bd (BH.row _ _).bd
  .rename_i hn
   injection h with h;subst h
   rcases fh (l.drop 1) CQ 0 (0,0) (.inl rfl) (λ_ h=>h) with e|⟨w,hw,⟨t,ht⟩,e⟩
   .have h7:(Gn (l.drop 1)).2=(Hi (l.drop 1) CQ 0 (0,0)).2:=by simp only [Gn]
    omega
   .have h7:(Gn (l.drop 1)).2=(Hi (l.drop 1) CQ 0 (0,0)).2:=by simp only [Gn]
    have e:=h7.trans e
    dsimp only
    rw [e]
    refine Bd.add c1.bd ?_
    rw [<-ht]
    exact Bd.word (oz w hw)
  grind
theorem u7 (hr:Ll r) (hv:Vd l) (hb:Bd l m) (hm:m<=l.length) (h:Dq l=.inr n) (hn:n<=m):Dq (tr l m r)=.inr n:=by
 fun_induction Dq l generalizing m n with
 |case1 l hc=>
  injection h with h;subst h
  rw [Dq,if_pos (by rw [Gt AC hm];exact hc)]
 |case2 l hc e he=>cases h
 |case3 l hc p U q hq ih=>cases h
 |case4 l hc p U k hk ih=>
  injection h with h
  subst h
  have hl:=Ta _ _ hk
  have hle:=Hy U
  have h2:=hl.2
  rw [List.drop_drop] at h2
  have h1:=oU (r:=r) (j:=p.2+(k - 1)) hr hv hb hm U AC AC (.inl h2)
  have bp:Bd l p.2:=by
   unfold Hj at U
   split at U
   .cases U
   .rename_i a t
    split at U
    .rename_i h92
     split at U
     .injection U with U;subst U
      rename_i hg
      have hv':=hv
      have hge:DM (a::t)=(DM (a::t) - 1)+1:=AC
      have hx:AE ((a::t).drop (DM (a::t) - 1))=92:=by
       have:=hg.2
       unfold DM at this |-
       split at this
       .grind
       .omega
      have:=BH.behind hv (k:=DM (a::t) - 1) AC AC AC
      rw [<-hge] at this
      exact this.bd
     .split at U
      .cases U
      .rename_i q hs
       injection U with U;subst U
       exact y9 h92 hs
    .split at U
     .cases U
     .injection U with U;subst U
      exact Bd.one GT
  rw [Dq,if_neg (by rw [Gt AC hm];exact hc)]
  have h3:=ih (bp.vd hv) (bp.sub hb AC) ke hk AC
  rw [h1]
  dsimp only
  rw [CA AC hm,h3]
theorem rY (hr:Ll r) (hv:Vd l) (hb:Bd l m) (U:m<=l.length) (h:G1 l=.inr n) (hn:n<=m):G1 (tr l m r)=.inr n:=by
 unfold G1 at h
 split at h
 .cases h
 .rename_i h1
  split at h
  .cases h
  .rename_i p hp
   split at h
   .rename_i hx
    injection h with h;subst h
    have h2:=oU (r:=r) (j:=p.2) hr hv hb U hp (Nat.le_refl _) AC (.inr hx)
    unfold G1
    rw [if_neg (by rw [Gt AC U];exact h1),h2]
    dsimp only
    rw [if_pos (by rw [ET AC U];exact hx)]
   grind
theorem fx {e:Int} (h:Hj tx l=.inl e):e≠0:=by
 unfold Hj at h
 grind
theorem Z8 {q:Nat×Int} (h:Dq l=.inl q):q.2≠0:=by
 fun_induction Dq l generalizing q with
 |case1 l U=>cases h
 |case2 l U e he=>injection h with h;subst h;exact fx he
 |case3 l U p hp k hk ih=>grind
 |case4 l U p hp k hk ih=>cases h
theorem X2 {q:Nat×Int} (h:G1 l=.inl q):q.2≠0:=by
 unfold G1 at h
 split at h
 .grind
 .split at h
  .rename_i e U;injection h with h;subst h;exact fx U
  grind
theorem pf (hr:Ll r) (hv:Vd l) (hb:Bd l m) (h0:0<m) (hm:m<=l.length) (h:(BD l 0).2.2=0) (hn:(BD l 0).2.1<=m):BD (tr l m r) 0=BD l 0:=by
 have e1:=Gt (l:=l) (r:=r) h0 hm
 have d1:=CA (l:=l) (r:=r) (m:=m) (j:=1) AC hm
 have hc:0<=AE l->AE l<128->¬(AE l=13\/AE l=10\/AE l=12)->Vd (l.drop 1)/\Bd (l.drop 1) (m - 1):=λa b c=>
  have b1:=(BH.one a b c).bd
  ⟨b1.vd hv,b1.sub hb AC⟩
 have hl:m - 1<=(l.drop 1).length:=IR
 have e0:∀x:List UInt8,x.drop 0=x:=λx=>rfl
 unfold BD at h hn |-
 simp only [e0,Nat.zero_add] at h hn |-
 rw [e1,d1]
 by_cases U:AE l=34
 .have hq:=hc AC AC AC
  rw [if_pos U] at h hn
  rw [if_pos U,if_pos U]
  cases ht:Dq (l.drop 1) with
  |inl q=>
   rw [ht] at h
   dsimp only at h
   exact absurd h (Z8 ht)
  |inr n=>
   rw [ht] at hn
   dsimp only at hn
   rw [u7 hr hq.1 hq.2 hl ht AC]
 .rw [if_neg U] at h hn
  rw [if_neg U,if_neg U]
  by_cases h39:AE l=39
  .have hq:=hc AC AC AC
   rw [if_pos h39] at h hn
   rw [if_pos h39,if_pos h39]
   cases ht:G1 (l.drop 1) with
   |inl q=>
    rw [ht] at h
    dsimp only at h
    exact absurd h (X2 ht)
   |inr n=>
    rw [ht] at hn
    dsimp only at hn
    rw [rY hr hq.1 hq.2 hl ht AC]
  simp_all
theorem cM (l:List UInt8):0<Hx l↔(AE l=13\/AE l=10\/AE l=12):=by
 rcases FR l with ⟨e,h⟩|⟨e,h,_⟩|⟨e,h,_⟩
 .omega
 .omega
 omega
theorem ug (hm:m<=l.length) (h:CC d l=some n) (hn:n<=m):CC d (tr l m r)=some n:=by
 fun_induction CC d l generalizing m n with
 |case1=>cases h
 |case2 d a l hc ih=>
  obtain ⟨k,hk,rfl⟩:=Option.map_eq_some_iff.1 h
  have h2:=H7 _ _ _ hk
  obtain ⟨m,rfl⟩:∃j,m=j+1:=⟨m - 1,AC⟩
  have hl:m<=l.length:=by simpa using hm
  show CC d (a::tr l m r)=_
  rw [CC,if_pos ⟨hc.1,by rw [Gt AC hl];omega⟩,CA AC hl,ih (by grind) hk AC]
  rfl
 |case3 d a l hc hk hd=>
  injection h with h
  subst h
  obtain ⟨m,rfl⟩:∃j,m=j+1:=⟨m - 1,AC⟩
  have hl:m<=l.length:=by simpa using hm
  show CC d (a::tr l m r)=_
  rw [CC,if_neg AC,if_pos ⟨hk.1,by rw [Gt AC hl];omega⟩,if_pos hd]
 |case4 d a l hc hk hd ih=>
  obtain ⟨k,U,rfl⟩:=Option.map_eq_some_iff.1 h
  have h2:=H7 _ _ _ U
  obtain ⟨m,rfl⟩:∃j,m=j+1:=⟨m - 1,AC⟩
  have hl:m<=l.length:=by simpa using hm
  show CC d (a::tr l m r)=_
  rw [CC,if_neg AC,if_pos ⟨hk.1,by rw [Gt AC hl];omega⟩,if_neg hd,CA AC hl,ih (by grind) U AC]
  rfl
 |case5 d a l hc hk ih=>
  obtain ⟨k,U,rfl⟩:=Option.map_eq_some_iff.1 h
  have h2:=H7 _ _ _ U
  obtain ⟨m,rfl⟩:∃j,m=j+1:=⟨m - 1,AC⟩
  have hl:m<=l.length:=by simpa using hm
  show CC d (a::tr l m r)=_
  rw [CC,if_neg (by rw [Gt AC hl];exact hc),if_neg (by rw [Gt AC hl];exact hk),ih hl U AC]
  rfl
def wD (r:List UInt8):Prop:=AE r= -1\/AE r=10
theorem wD.brk (h:wD r):Ll r:=by unfold wD at h;unfold Ll;omega
theorem xb (hr:wD r) (U:m<=l.length) (h:D5 l<=m):D5 (tr l m r)=D5 l:=by
 have e0:D5 r=0:=by
  cases r with
  |nil=>rfl
  |cons a r=>
   unfold wD at hr
   have:((a.toNat:Nat):Int)=AE (a::r):=rfl
   rw [D5,if_pos ((cM _).2 AC)]
 induction l generalizing m with
 |nil=>
  have:m=0:=by simpa using U
  subst this
  rw [E8,e0];rfl
 |cons a l ih=>
  cases m with
  |zero=>rw [E8,e0];omega
  |succ m=>
   have hl:m<=l.length:=by simpa using U
   show D5 (a::tr l m r)=_
   have hp:0<Hx (a::tr l m r)↔0<Hx (a::l):=by rw [cM,cM];exact Iff.rfl
   unfold D5 at h |-
   grind
theorem jA (hr:wD r) (hv:Vd l) (hb:Bd l m) (U:m<=l.length) (h:0<Eh l) (hn:Eh l<=m):Eh (tr l m r)=Eh l:=by
 unfold Eh at h hn |-
 dsimp only at h hn |-
 split at h
 .rename_i hc
  rw [if_pos hc] at hn |-
  have e:Bx (λc=>Ay c==5) (tr l m r)=Bx (λc=>Ay c==5) l:=Oa hv hb U (N9 (p:=λc=>Ay c==5) hr.brk Do Do) (show BB _ l<=m by show Bx (λc=>Ay c==5) l<=m;omega)
  rw [e,Ok AC U,if_pos hc,CA AC U,xb hr (by grind) AC]
 .omega
theorem uo (hr:wD r) (hv:Vd l) (hb:Bd l m) (U:m<=l.length) (h0:0<n) (h:CJ l=n) (hn:n<=m):CJ (tr l m r)=n:=by
 unfold CJ at h |-
 split at h
 .rename_i hc
  cases ht:CC 1 (l.drop 2) with
  |none=>rw [ht] at h;simp only [EH] at h;omega
  |some k=>
   rw [ht] at h
   simp only [EH] at h
   have h2:=H7 _ _ _ ht
   rw [Gt AC U,ET AC U,if_pos hc,CA AC U,ug (by grind) ht AC]
   simp only [EH];omega
 .rename_i hc
  split at h
  .rename_i hd
   have h:Eh l=n:=AC
   rw [Gt AC U,if_neg,if_pos hd,jA hr hv hb U AC AC,h]
   omega
  .omega
theorem jk (U:Vd l) (h0:0<n) (h:CJ l=n):CJ (l.take n)=(l.take n).length/\(l.take n).length=n:=by
 have hle:=Zh l
 have hc:=BH.note U h
 have e:=uo (r:=[]) (.inl rfl) U hc.bd AC h0 h (Nat.le_refl _)
 unfold tr at e
 simp_all
end Go.Aw
namespace Go.Proofs.Z
open Go Go.Aw
def tkP (t:Tk):Int×Int:=(t.line,t.Ch)
def ntP (n:Nt):Int×Int:=(n.line,n.Ch)
def vE (t:List UInt8):Prop:=t≠[]/\CJ t=(t.length:Nat)
structure Mu (s:List UInt8) (p:Nat) (x:Lx):Prop where
 t:x.Ar.Pairwise λa b=>iX (tkP a) (tkP b)
 tp:∀a ∈ x.Ar,iX (tkP a) (CL s p)
 n:x.notes.Pairwise λa b=>iX (ntP a) (ntP b)/\a.DL<=b.DL
 np:∀a ∈ x.notes,iX (ntP a) (CL s p)/\0<=a.DL/\a.DL<=x.DL/\(a.wh=1\/a.wh=2\/a.wh=3)/\vE a.text
 g:0<=x.DL/\x.DL<=x.Ar.length
theorem SA {a:Nat}:AY s a b=(s.drop a).take (b - a):=by unfold AY;rw [List.drop_take]
theorem Mu.le {q:Nat} {x:Lx} (h:Mu s p x) (hp:BH s p) (hq:BH s q) (hpq:p<q):Mu s q x:=
 have l:=lr hp hq hpq
 ⟨h.t,λa U=>(h.tp a U).trans l,h.n,λa U=>⟨(h.np a U).1.trans l,(h.np a U).2⟩,h.g⟩
theorem Mu.tok {q:Nat} {x:Lx} (h:Mu s p x) (hp:BH s p) (hq:BH s q) (hpq:p<q):Mu s q (Ih s p q k x):=by
 have h':=h.le hp hq hpq
 have hg:=h.g
 have hgg:x.DL<=(Ih s p q k x).DL/\(Ih s p q k x).DL<=x.DL+1:=by
  show x.DL<=(if cntF k (AY s p q) then x.DL+1 else x.DL)/\(if cntF k (AY s p q) then x.DL+1 else x.DL)<=x.DL+1
  split<;>omega
 refine ⟨?_,?_,h.n,λa U=>?_,?_⟩
 .refine List.pairwise_append.2 ⟨h.t,List.pairwise_singleton _ _,λa U b hb=>?_⟩
  rw [List.mem_singleton] at hb;subst hb
  exact h.tp a U
 .intro a U
  rcases List.mem_append.1 U with U|U
  .exact h'.tp a U
  .rw [List.mem_singleton] at U;subst U
   exact lr hp hq hpq
 .have:=h'.np a U
  grind
 .have:(Ih s p q k x).Ar.length=x.Ar.length+1:=by simp [Ih]
  omega
theorem Mu.note {q:Nat} {x:Lx} (hv:Vd s) (h:Mu s p x) (hp:BH s p) (hq:BH s q) (hpq:p<q) (hn:CJ (s.drop p)=(q - p:Nat)):Mu s q (NQ s p q x):=by
 have h':=h.le hp hq hpq
 have hg:=h.g
 refine ⟨h.t,h'.tp,?_,?_,h.g⟩
 .refine List.pairwise_append.2 ⟨h.n,List.pairwise_singleton _ _,λa U b hb=>?_⟩
  rw [List.mem_singleton] at hb;subst hb
  exact ⟨(h.np a U).1,(h.np a U).2.2.1⟩
 .intro a U
  rcases List.mem_append.1 U with U|U
  .exact h'.np a U
  .rw [List.mem_singleton] at U;subst U
   refine ⟨lr hp hq hpq,hg.1,Int.le_refl _,?_,?_⟩
   .grind
   .show vE (AY s p q)
    rw [SA]
    have e:=jk (hp.bd.vd hv) AC hn
    refine ⟨λe0=>?_,e.1⟩
    grind
theorem Mu.dU {s:List UInt8} {p:Nat} {x:Lx} (hv:Vd s) (h:Mu s p x) (U:BH s p):Mu s (Cv s p) x:=by
 by_cases e:p=Cv s p
 .grind
 .exact h.le U (U.dU hv) (by have:=(JR U.le).1;omega)
theorem iM {x y:Lx} (hv:Vd s) (hp:BH s p) (h:Mu s p x) (e:DA s p x=.inr y):∃q,Mu s q y:=by
 fun_induction DA s p x with
 |case1 p x hl h1=>cases e
 |case2 p x hl h1 h2 h3 ih=>
  obtain ⟨q,e1,e2,e3,U⟩:=Sv hv hp AC h2
  have eq:(B7 s p).1.toNat=q:=AC
  rw [eq] at ih e
  obtain ⟨n,n1,n2,n3⟩:=Zg AC h2
  exact ih (U.dU hv) ((h.note hv hp U e2 AC).dU hv U) e
 |case3 p x hl h1 h2 h3=>grind
 |case4 p x hl h1 h2 h3=>cases e
 |case5 p x hl h1 h2 h3 h4 ih=>
  obtain ⟨e0,q,e1,e2,e3,U⟩:=R6 hv hp AC
  have eq:(BA s p).2.1.toNat=q:=AC
  rw [eq] at ih e
  exact ih (U.dU hv) ((h.tok hp U e2).dU hv U) e
 |case6 p x hl h1 h2 h3 h4=>grind
 |case7 p x hl=>grind
theorem iJ {y:Lx} (e:Ew s=.inr y):∃q,Mu s q y:=by
 unfold Ew at e
 split at e
 .cases e
 .split at e
  .cases e
  .rename_i h
   split at e
   .cases e
   .have hv:=bg (s:=s) AC
    exact iM hv (BH.dU hv (.zero s)) ⟨List.Pairwise.nil,(λa U=>absurd U List.not_mem_nil),List.Pairwise.nil,(λa U=>absurd U List.not_mem_nil),Do⟩ e
end Go.Proofs.Z
namespace Go.Aw
open Go
def Jt (l:List UInt8):Int×Nat×Int:=((BA l 0).1,(BA l 0).2.1.toNat,(BA l 0).2.2)
theorem jv (h:(BD s p).1≠0\/(BD s p).2.2≠0):BD s p=((BD (s.drop p) 0).1,p+(BD (s.drop p) 0).2.1,(BD (s.drop p) 0).2.2):=by
 unfold BD at h |-
 simp only [List.drop_drop,Nat.add_zero,Nat.zero_add] at h |-
 split
 .split<;>(dsimp only;congr 2;omega)
 .split
  .split<;>(dsimp only;congr 2;omega)
  simp_all
theorem cY:(BD (s.drop p) 0).1=(BD s p).1/\(BD (s.drop p) 0).2.2=(BD s p).2.2:=by
 unfold BD
 simp only [List.drop_drop,Nat.add_zero,Nat.zero_add]
 grind
theorem pd:0<=(BD l 0).2.1:=by
 unfold BD
 grind
theorem V1:BA s p=((Jt (s.drop p)).1,((p+(Jt (s.drop p)).2.1:Nat):Int),(Jt (s.drop p)).2.2):=by
 have q0:=cY (s:=s) (p:=p)
 have qn:=pd (l:=s.drop p)
 unfold Jt BA
 have en:Gp (s.drop p) 0=(if (CN (s.drop p)).1=0 then ((0:Int),(0:Int)) else ((CN (s.drop p)).1,((CN (s.drop p)).2:Nat))):=by unfold Gp;rw [List.drop_zero,Nat.zero_add]
 have ew:C1 (s.drop p) 0=(if (CB (s.drop p)).1=0 then ((0:Int),(0:Int)) else ((CB (s.drop p)).1,((CB (s.drop p)).2:Nat))):=by unfold C1;rw [List.drop_zero,Nat.zero_add]
 have U:Gp s p=(if (CN (s.drop p)).1=0 then ((0:Int),(0:Int)) else ((CN (s.drop p)).1,((p+(CN (s.drop p)).2:Nat):Int))):=rfl
 have ew':C1 s p=(if (CB (s.drop p)).1=0 then ((0:Int),(0:Int)) else ((CB (s.drop p)).1,((p+(CB (s.drop p)).2:Nat):Int))):=rfl
 rw [en,ew,U,ew']
 by_cases h1:(CN (s.drop p)).1=0
 .rw [if_pos h1,if_pos h1]
  dsimp only
  have z0:¬((0:Int)≠0):=λx=>x rfl
  rw [if_neg z0,if_neg z0,q0.1,q0.2]
  by_cases h2:(BD s p).1=0/\(BD s p).2.2=0
  .grind
  .rw [if_neg h2,if_neg h2]
   rw [jv (s:=s) (p:=p) AC]
   grind
 simp_all
theorem WT:B7 s p=if CJ (s.drop p)<0 then (0,60) else if CJ (s.drop p)=0 then (0,0) else (p+CJ (s.drop p),0):=rfl
theorem tD (hr:Ll r) (hv:Vd l) (hb:Bd l m) (h0:0<m) (hm:m<=l.length) (e:(Jt l).2.2=0) (h:(Jt l).2.1<=m) (hM:m=(Jt l).2.1\/m=l.length):Jt (tr l m r)=Jt l:=by
 have key:BA (tr l m r) 0=BA l 0:=by
  have d0:∀x:List UInt8,x.drop 0=x:=λx=>rfl
  have hnn:=pd (l:=l)
  unfold Jt at e h hM
  dsimp only at e h hM
  by_cases h1:(CN l).1=0
  .have n2:(CN l).2=0:=by
    unfold CN at h1 |-
    split
    .simp_all
    .grind
   have e1:=oO (l:=l) (r:=r) (m:=m) hr h0 hm AC
   have en:Gp l 0=(0,0):=by unfold Gp;rw [d0,if_pos h1]
   have en':Gp (tr l m r) 0=(0,0):=by unfold Gp;rw [d0,e1,if_pos h1]
   unfold BA at e h hM |-
   rw [en] at e h hM |-
   rw [en']
   rw [if_neg (λx=>x rfl)] at e h hM
   have z0:¬(((0:Int),(0:Int)).1≠0):=λx=>x rfl
   rw [if_neg z0,if_neg z0]
   by_cases h2:(BD l 0).1=0/\(BD l 0).2.2=0
   .have q1:(BD l 0).2.1=0:=by
     have h21:=h2.1
     have U:=h2.2
     unfold BD at h21 U |-
     by_cases c1:AE (l.drop 0)=34
     .rw [if_pos c1] at h21 U
      split at h21
      .rename_i q hq;rw [hq] at U;exact absurd U (Z8 hq)
      omega
     .rw [if_neg c1] at h21 U |-
      by_cases c2:AE (l.drop 0)=39
      .rw [if_pos c2] at h21 U
       split at h21
       .rename_i q hq;rw [hq] at U;exact absurd U (X2 hq)
       omega
      simp_all
    have e2:=pf (l:=l) (r:=r) (m:=m) hr hv hb h0 hm h2.2 AC
    rw [if_pos h2] at e h hM
    rw [e2,if_pos h2,if_pos h2]
    by_cases h3:(CB l).1=0
    .have ew:C1 l 0=(0,0):=by unfold C1;rw [d0,if_pos h3]
     simp_all
    .have ew:C1 l 0=((CB l).1,(((CB l).2:Nat):Int)):=by unfold C1;rw [d0,if_neg h3,Nat.zero_add]
     rw [ew,if_neg h3] at h hM
     dsimp only at h hM
     have e3:=vA (l:=l) (r:=r) (m:=m) hr hv hb h0 hm AC AC
     have ew':C1 (tr l m r) 0=C1 l 0:=by unfold C1;rw [d0,d0,e3]
     rw [ew']
   .rw [if_neg h2] at e h hM
    have e2:=pf (l:=l) (r:=r) (m:=m) hr hv hb h0 hm e AC
    simp_all
  .have en:Gp l 0=((CN l).1,(((CN l).2:Nat):Int)):=by unfold Gp;rw [d0,if_neg h1,Nat.zero_add]
   unfold BA at h hM |-
   rw [en,if_pos h1] at h hM
   dsimp only at h hM
   have e1:=oO (l:=l) (r:=r) (m:=m) hr h0 hm AC
   have en':Gp (tr l m r) 0=Gp l 0:=by unfold Gp;rw [d0,d0,e1]
   simp_all
 unfold Jt
 rw [key]
theorem oK (hr:Ll r) (hv:Vd l) (hb:Bd l m) (h0:0<m) (hm:m<=l.length) (e:(Jt l).2.2=0) (h:(Jt l).2.1<=m) (hn:CJ l=0):CJ (tr l m r)=0:=by
 have h1:=Gt (l:=l) (r:=r) h0 hm
 unfold CJ at hn |-
 split at hn
 .exfalso
  cases ht:CC 1 (l.drop 2) with
  |none=>rw [ht] at hn;exact absurd hn (by decide:¬(-1:Int)=0)
  |some k=>rw [ht] at hn;simp only [EH] at hn;omega
 .rename_i hc
  rw [h1,if_neg]
  .split at hn
   .rename_i U
    rw [if_pos U]
    have hs:Bx (λc=>Ay c==5) l<=m:=by
     by_cases hle:Bx (λc=>Ay c==5) l<=m
     .exact hle
     .exfalso
      have hf:FE l=5:=by
       cases l with
       |nil=>simp_all
       |cons a t=>
        show Ay (((AJ (a::t)).1:Nat):Int)=5
        rw [(EA AC AC).2,U];decide
      have hp:A8 l=(TU (l.take (Bx (λc=>Ay c==5) l)),Bx (λc=>Ay c==5) l):=by
       unfold A8;rw [if_neg AC,if_pos hf]
      have hk:TU (l.take (Bx (λc=>Ay c==5) l))≠2/\TU (l.take (Bx (λc=>Ay c==5) l))≠4/\TU (l.take (Bx (λc=>Ay c==5) l))≠0:=by
       unfold TU;split
       .decide
       .omega
      have hw:CB l=A8 l:=by
       unfold CB
       rw [K4]
       rw [hp];rintro ⟨_,x,_⟩
       exact x.elim hk.1 hk.2.1
      have hnum:(CN l).1=0:=by
       unfold CN
       have p0:(BL l).1=10:=by unfold BL;rw [if_neg (λx=>by omega)]
       have r0:Bn 10 l=0:=by
        cases l with
        |nil=>rfl
        |cons a t=>
         have U:((a.toNat:Nat):Int)=45:=U
         unfold Bn
         rw [if_pos (by rw [U];decide)]
       rw [if_neg AC,if_pos r0]
      have hq:BD l 0=(0,0,0):=by
       unfold BD
       rw [List.drop_zero,if_neg AC,if_neg AC]
      have:(Jt l).2.1=(CB l).2:=by
       unfold Jt BA
       have en:Gp l 0=(0,0):=by unfold Gp;rw [List.drop_zero,if_pos hnum]
       have ew:C1 l 0=((CB l).1,(((CB l).2:Nat):Int)):=by unfold C1;rw [List.drop_zero,if_neg ke,Nat.zero_add]
       rw [en,hq,ew]
       dsimp only
       rw [if_neg (λx=>x rfl),if_pos ⟨rfl,rfl⟩,if_neg ke]
       rfl
      simp_all
    have es:Bx (λc=>Ay c==5) (tr l m r)=Bx (λc=>Ay c==5) l:=Oa hv hb hm (N9 (p:=λc=>Ay c==5) hr Do Do) hs
    have hn:Eh l=0:=AC
    have:Eh (tr l m r)=0:=by
     unfold Eh at hn |-
     dsimp only at hn |-
     rw [es,Ok hs hm]
     split
     .simp_all
     .rfl
    omega
   omega
  .rintro ⟨x,y⟩
   by_cases hm1:1<m
   .rw [ET hm1 hm] at y;omega
   .have:m=1:=AC
    subst this
    rw [L2 hm] at y
    unfold Ll at hr;omega
def wS (l:List UInt8):Nat:=Bx (λc=>Ay c==1) l
def zW (l:List UInt8):List UInt8:=l.drop (wS l)
def Cl (l:List UInt8):Prop:=BB (λd=> !(Ay (d.1:Nat)==0)) l=l.length
theorem aQ {p:Nat×Nat->Bool} {k:Nat} (hv:Vd l) (hb:Bd l k) (hk:k<=l.length) (h:BB p l=l.length):BB p (l.take k)=(l.take k).length/\BB p (l.drop k)=(l.drop k).length:=by
 have e:l.take k=tr l k []:=by unfold tr;rw [List.append_nil]
 rw [e]
 induction hb with
 |zero l=>exact ⟨by rw [E8,E6];rfl,h⟩
 |@step l k U hb ih=>
  have hd:=Rn (r:=[]) hv (by have:=Ek l;omega) hk (.step U hb)
  have hl:=Hs U
  have hp:=Ek l
  have hc:p (AJ l)=true:=by
   cases hc:p (AJ l) with
   |true=>rfl
   |false=>rw [En hc] at h;omega
  have hne':tr l ((AJ l).2+k) []≠[]:=λe=>by simp_all
  rw [Cp U hc] at h
  have ih:=ih (hv.rune U).2 (by grind) (by grind) (by unfold tr;simp_all)
  rw [Cp hne' ke,hd.1,CA AC hk,show (AJ l).2+k - (AJ l).2=k by omega,ih.1]
  rw [List.drop_drop] at ih
  refine ⟨?_,ih.2⟩
  rw [Td hk,Td (by grind)]
  rfl
theorem Vd.take {l:List UInt8} {k:Nat} (U:Vd l) (hb:Bd l k) (hk:k<=l.length):Vd (l.take k):=(aQ (p:=Df) U hb hk U).1
theorem Cl.take {l:List UInt8} {k:Nat} (h:Cl l) (hv:Vd l) (hb:Bd l k) (U:k<=l.length):Cl (l.take k):=(aQ hv hb U h).1
theorem Cl.drop {l:List UInt8} {k:Nat} (h:Cl l) (hv:Vd l) (hb:Bd l k) (U:k<=l.length):Cl (l.drop k):=(aQ hv hb U h).2
theorem Cl.app (h:Cl l) (U:Vd l) (k:Cl t):Cl (l++t):=by
 unfold Cl at *
 rw [UL l t U,if_pos h,k,List.length_append]
theorem qK:tr l l.length r=l++r:=by unfold tr;simp_all
theorem rQ (l:List UInt8):wS (zW l)=0:=by
 by_cases h:wS l<l.length
 .have:=SP (λc=>Ay c==1) l h
  exact N8 this
 .have:zW l=[]:=List.drop_eq_nil_iff.2 AC
  rw [this];exact UM _
theorem Vd.sp:Vd [32]:=by unfold Vd;rw [Cp GT Do];rw [show (([32]:List UInt8).drop (AJ [32]).2)=[] from by rfl,E6,DJ Do];rfl
theorem Vd.nl:Vd [10]:=by unfold Vd;rw [Cp GT Do];rw [show (([10]:List UInt8).drop (AJ [10]).2)=[] from by rfl,E6,DJ Do];rfl
theorem Cl.sp:Cl [32]:=by unfold Cl;rw [Cp GT Do];rw [show (([32]:List UInt8).drop (AJ [32]).2)=[] from by rfl,E6,DJ Do];rfl
theorem Cl.nl:Cl [10]:=by unfold Cl;rw [Cp GT Do];rw [show (([10]:List UInt8).drop (AJ [10]).2)=[] from by rfl,E6,DJ Do];rfl
end Go.Aw
namespace Go.Proofs.Z
open Go Go.Aw
def kts (l:List Tk):List (Int×List UInt8):=l.map λt=>(t.kind,t.text)
def TX (is:Option (List (Int×List UInt8))) (x:Lx) (r:Sum (Int×Int) Lx):Prop:=match is with
 |none=>∃e,r=.inl e
 |some is=>∃y,r=.inr y/\kts y.Ar=kts x.Ar++is.filter (λt=>t.1 !=0)/\y.notes.map (·.text)=x.notes.map (·.text)++(is.filter (λt=>t.1==0)).map (·.2)
theorem TX.tok {q:Nat} {x:Lx} {r:Sum (Int×Int) Lx} (h:TX o (Ih s p q k x) r) (hk:k≠0) (ht:t=AY s p q):TX (o.map ((k,t)::·)) x r:=by
 subst ht
 cases o with
 |none=>exact h
 |some is=>
  obtain ⟨y,h1,h2,h3⟩:=h
  refine ⟨y,h1,?_,?_⟩
  .have U:(((k,AY s p q)::is).filter λt:Int×List UInt8=>t.1 !=0)=(k,AY s p q)::is.filter λt=>t.1 !=0:=List.filter_cons_of_pos ke
   rw [U,h2]
   simp [kts,Ih]
  .have U:(((k,AY s p q)::is).filter λt:Int×List UInt8=>t.1==0)=is.filter λt=>t.1==0:=List.filter_cons_of_neg ke
   rw [U,h3];rfl
theorem TX.note {q:Nat} {x:Lx} {r:Sum (Int×Int) Lx} (h:TX o (NQ s p q x) r) (ht:t=AY s p q):TX (o.map ((0,t)::·)) x r:=by
 subst ht
 cases o with
 |none=>exact h
 |some is=>
  obtain ⟨y,h1,h2,h3⟩:=h
  refine ⟨y,h1,?_,?_⟩
  .have U:(((0,AY s p q)::is).filter λt:Int×List UInt8=>t.1 !=0)=is.filter λt=>t.1 !=0:=List.filter_cons_of_neg GT
   rw [U,h2];rfl
  .have U:(((0,AY s p q)::is).filter λt:Int×List UInt8=>t.1==0)=(0,AY s p q)::is.filter λt=>t.1==0:=List.filter_cons_of_pos GT
   rw [U,h3]
   simp [NQ]
def z8 (s:List UInt8):Prop:=s.length<=16777216/\Vd s/\Cl s
theorem eV {y:Lx} (h:Ew s=.inr y):z8 s:=by
 unfold Ew at h
 split at h
 .cases h
 .split at h
  .cases h
  .rename_i h1 h2
   split at h
   .cases h
   .rename_i U
    refine ⟨AC,bg AC,?_⟩
    unfold VT at U
    have hle:=K7 (λd=> !((λc:Nat=>Ay (c:Nat)==0) d.1)) s
    split at U
    .omega
    .show BB (λd=> !((λc:Nat=>Ay (c:Nat)==0) d.1)) s=_
     omega
theorem nJ {x:Lx} (h:¬p<s.length):DA s p x=.inr x:=by rw [DA,dif_neg h]
theorem nI {x:Lx} (h:p<s.length) (U:(B7 s p).2≠0):DA s p x=.inl ((p:Nat),(B7 s p).2):=by rw [DA,dif_pos h,if_pos U]
theorem iL {q:Nat} {x:Lx} (h:p<s.length) (U:(B7 s p).2=0) (h2:(B7 s p).1=(q:Nat)) (h3:p<q):DA s p x=DA s (Cv s q) (NQ s p q x):=by
 rw [DA,dif_pos h,if_neg (λe=>e U),if_pos AC,h2,Int.toNat_natCast,dif_pos h3]
theorem nK {x:Lx} (h:p<s.length) (U:(B7 s p).2=0) (h2:¬0<(B7 s p).1) (h3:(BA s p).2.2≠0):DA s p x=.inl ((BA s p).2.1,(BA s p).2.2):=by
 rw [DA,dif_pos h,if_neg (λe=>e U),if_neg h2,if_pos h3]
theorem nN {q:Nat} {x:Lx} (h:p<s.length) (U:(B7 s p).2=0) (h2:¬0<(B7 s p).1) (h3:(BA s p).2.2=0) (h4:(BA s p).2.1=(q:Nat)) (h5:p<q):DA s p x=DA s (Cv s q) (Ih s p q (BA s p).1 x):=by
 rw [DA,dif_pos h,if_neg (λe=>e U),if_neg h2,if_neg (λe=>e h3),h4,Int.toNat_natCast,dif_pos h5]
structure LW where
 p:Nat
 sp:Nat
 x:Lx
 w1:AH
 w2:AH
 m:St
theorem kA (l:List Tk) (t:Tk):AQ (l++[t])=AQ l++[t.cells]:=by simp [AQ]
theorem cN (l:List Nt) (t:Nt):Fm (l++[t])=Fm l++[t.cells]:=by simp [Fm]
theorem Kb (l:List Nt):(Fm l).length=l.length:=by simp [Fm]
theorem rU (s:List UInt8) (p:Nat):Cv s (Cv s p)=Cv s p:=by
 have h:=rQ (s.drop p)
 have e:zW (s.drop p)=s.drop (Cv s p):=by unfold zW;rw [List.drop_drop];rfl
 rw [e] at h
 exact Nat.add_eq_left.2 h
section
variable {st:St} {R:AB->St->Prop}
attribute [local irreducible] Go.Aw.Am
theorem YN (c:Nat) (U:c<=1114111):PC 45 [.int .i32 (c:Int)] xS λr _=>r=.ret (.bool (Ay (c:Int)==0)):=by
 refine pB Tryz.func45 ?_
 repeat' ((conv=>whnf);first|(refine Br ?_;intros)|(refine Bs ?_ ?_<;>intro _)|refine Lp ?_)
 all_goals first|exact Av rfl (by simp [*])|(conv=>whnf;simp [*])
theorem vR (h1:∀i e,Ew s=.inl (i,e)->R (.ret (.BM [.slice 4 [] .full,.slice 5 [] .full,.int .i64 i,.int .i64 e])) st)
 (h1':∀i e st',st.le st'->Ew s=.inl (i,e)->R (.ret (.BM [.slice 4 [] .full,.slice 5 [] .full,.int .i64 i,.int .i64 e])) st')
 (h2:∀x w1 w2 st',Ew s=.inr x->st.le st'->R (.ret (.BM [.slice 4 (AQ x.Ar) w1,.slice 5 (Fm x.notes) w2,.int .i64 0,.int .i64 0])) st'):PC 18 [.str s] st R:=by
 refine A6 Ac [30] Tryz.func18 rfl Do rfl ?_
 by_cases hl:16777216<s.length
 .have e:Ew s=.inl (0,3):=by unfold Ew;rw [if_pos hl]
  refine An Ac ?_
  repeat' ((conv=>whnf);first|exact CH|(refine Br ?_;intros)|(refine CI ?_ ?_ ?_;rotate_left)|(refine Bs ?_ ?_<;>intro _)|refine Gm (λ_=>?_) ?_|refine WJ (λ_=>?_)|with_reducible refine WF ?_)
  exact fin (h1 _ _ e) rfl
 .by_cases hk:(MC s).2=0
  .by_cases hx:0<=VT (λc=>Ay (c:Nat)==0) s
   .have e:Ew s=.inl (VT (λc=>Ay (c:Nat)==0) s,70):=by unfold Ew;rw [if_neg hl,if_neg (λx=>x hk),if_pos hx]
    refine An Ac ?_
    repeat' ((conv=>whnf);first|exact CH|(refine Br ?_;intros)|(refine CI ?_ ?_ ?_;rotate_left)|(refine Bs ?_ ?_<;>intro _)|refine Gm (λ_=>?_) ?_|refine WJ (λ_=>?_)|refine Vq ?_|refine eM (p:=λc=>Ay (c:Nat)==0) YN ?_|with_reducible refine WF ?_)
    exact fin (h1 _ _ e) rfl
   .have e:Ew s=DA s (Cv s 0) rp:=by unfold Ew;rw [if_neg hl,if_neg (λx=>x hk),if_neg hx]
    have hv:=bg hk
    refine Al (An Ac ?_)
    repeat' ((conv=>whnf);first|exact CH|(refine Br ?_;intros)|(refine CI ?_ ?_ ?_;rotate_left)|(refine Bs ?_ ?_<;>intro _)|refine Gm (λ_=>?_) ?_|with_reducible refine WF ?_)
    refine Al (An Ac ?_)
    repeat' ((conv=>whnf);first|exact CH|(refine Br ?_;intros)|(refine CI ?_ ?_ ?_;rotate_left)|(refine Bs ?_ ?_<;>intro _)|refine Gm (λ_=>?_) ?_|refine WJ (λ_=>?_)|with_reducible refine WF ?_)
    refine Al (An Ac ?_)
    repeat' ((conv=>whnf);first|exact CH|(refine Br ?_;intros)|(refine CI ?_ ?_ ?_;rotate_left)|(refine Bs ?_ ?_<;>intro _)|refine Gm (λ_=>?_) ?_|refine Vq ?_|with_reducible refine WF ?_)
    refine Al (An Ac ?_)
    repeat' ((conv=>whnf);first|exact CH|(refine Br ?_;intros)|(refine CI ?_ ?_ ?_;rotate_left)|(refine Bs ?_ ?_<;>intro _)|refine Gm (λ_=>?_) ?_|refine eM (p:=λc=>Ay (c:Nat)==0) YN ?_|with_reducible refine WF ?_)
    refine Al (An Ac ?_)
    repeat' ((conv=>whnf);first|exact CH|(refine Br ?_;intros)|(refine CI ?_ ?_ ?_;rotate_left)|(refine Bs ?_ ?_<;>intro _)|refine Gm (λ_=>?_) ?_|refine Vn (λb fb=>?_)|with_reducible refine WF ?_)
    have hb0:=fb.1
    have hq0:=JR (s:=s) (p:=0) AC
    refine An Ac ?_
    repeat' ((conv=>whnf);first|exact CH|(refine Br ?_;intros)|(refine CI ?_ ?_ ?_;rotate_left)|(refine Bs ?_ ?_<;>intro _)|refine Gm (λ_=>?_) ?_|refine Nh (p:=0) AC AC (St.AM _ _ _) ?_|with_reducible refine WF ?_)
    refine V4 (α:=LW) (λ_=>[]) [0,6] [] (λy=>y.m) (λy=>y.m.box b=some (QC s y.p y.sp (CL s y.sp).1 (CL s y.sp).2 (AQ y.x.Ar) (Fm y.x.notes) y.w1 y.w2 y.x.DL y.x.ends y.x.j)/\Ce st y.m y.w1 (y.x.Ar.length*4) y.w2 (y.x.notes.length*5)/\
     BH s y.sp/\BH s y.p/\y.sp<=y.p/\0<=y.x.DL/\y.x.DL<=y.p/\y.x.Ar.length<=y.p/\y.x.notes.length<=y.p/\DA s (Cv s 0) rp=DA s y.p y.x)
     (λy=>s.length - y.p) ⟨Cv s 0,0,rp,.full,.full,_⟩ ⟨?_,⟨trivial,trivial,trivial,trivial,trivial,St.Ak (St.Ak (St.le_refl _) hb0 _) hb0 _⟩,.zero s,BH.dU hv (.zero s),by simp only [];omega,Int.le_refl _,by simp only [rp];omega,Nat.zero_le _,Nat.zero_le _,rfl⟩ Yl (St.le_refl _) ?_
    .have e0:CL s 0=(1,1):=Ei
     dsimp only
     rw [e0]
     exact St.AM _ _ _
    rintro ⟨p,sp,x,w1,w2,m⟩ ⟨j1,j2,j3,j4,j5,j6,j7,j8,j9,U⟩
    dsimp only at j1 j2 j3 j4 j5 j6 j7 j8 j9 U |-
    have hp:=j4.le
    by_cases hpl:p<s.length
    .have hns:=λ{R:AB->St->Prop}=>um (st:=m) (R:=R) (s:=s) (pos:=p) AC hpl
     by_cases n2:(B7 s p).2=0
     .rw [n2] at hns
      by_cases n1:0<(B7 s p).1
      .obtain ⟨q,e1,e2,e3,e4⟩:=Sv hv j4 n2 n1
       rw [e1] at hns
       rw [iL hpl n2 e1 e2] at U
       have hq:=JR e3
       have hnt:=λ{R:AB->St->Prop}=>xT (st:=m) (R:=R) (st0:=st) AC hv j3 j4 e4 j5 AC ⟨j6,AC⟩ (by rw [Kb];omega) hb0 (by rw [Kb];exact j2) j1
       repeat' ((conv=>whnf);first|exact CH|(refine Br ?_;intros)|(refine CI ?_ ?_ ?_;rotate_left)|(refine Bs ?_ ?_<;>intro _)|refine Gm (λ_=>?_) ?_|refine hns ?_|refine Ao j1 ?_|refine WJ (λ_=>?_)|refine hnt (λv2 st' sp' c' hs' hR hB=>?_)|refine Nh (p:=Cv s q) AC AC hB ?_|with_reducible refine WF ?_)
       all_goals conv=>whnf
       have eb:=rU s q
       refine ⟨⟨Cv s q,sp',NQ s p q x,w1,v2,_⟩,⟨?_,?_,c',e4.dU hv,hs',j6,by show x.DL<=_;simp only [];omega,by show x.Ar.length<=_;simp only [];omega,by show (x.notes++[_]).length<=_;rw [List.length_append,List.length_singleton];simp only [];omega,U⟩,by simp only [];omega,Yl,St.le_refl _⟩
       .refine (St.AM _ _ _).trans ?_
        show _=some (QC s (Cv s q) sp' _ _ (AQ x.Ar) (Fm (x.notes++[_])) w1 v2 x.DL (CL s q).1 _)
        rw [cN]
        exact congrArg (λz=>some (QC s z sp' _ _ _ _ _ _ _ _ _)) eb
       .show Ce st _ w1 (x.Ar.length*4) v2 ((x.notes++[_]).length*5)
        rw [List.length_append,List.length_singleton]
        rw [Kb] at hR
        exact hR.set hb0 _
      .have hlx:=λ{R:AB->St->Prop}=>nO (st:=m) (R:=R) AC hpl j1
       by_cases k2:(BA s p).2.2=0
       .obtain ⟨k1,q,e1,e2,e3,e4⟩:=R6 hv j4 k2
        rw [k2,e1] at hlx
        rw [nN hpl n2 n1 k2 e1 e2] at U
        have hq:=JR e3
        have htk:=λ{R:AB->St->Prop}=>qG (st:=m) (R:=R) (st0:=st) (k:=(BA s p).1) (e0:=0) AC hv j3 j4 e4 j5 AC ⟨j6,AC⟩ (by rw [IK];omega) hb0 (by rw [IK];exact j2) j1
        repeat' ((conv=>whnf);first|exact CH|(refine Br ?_;intros)|(refine CI ?_ ?_ ?_;rotate_left)|(refine Bs ?_ ?_<;>intro _)|refine Gm (λ_=>?_) ?_|refine hns ?_|refine Ao j1 ?_|refine WJ (λ_=>?_)|refine hlx ?_|refine htk (λv1 st' hR hB=>?_)|refine Nh (p:=q) AC e3 hB ?_|with_reducible refine WF ?_)
        all_goals conv=>whnf
        have hgap:(Ih s p q (BA s p).1 x).DL=x.DL\/(Ih s p q (BA s p).1 x).DL=x.DL+1:=by
         show (if cntF (BA s p).1 (AY s p q) then x.DL+1 else x.DL)=_\/(if cntF (BA s p).1 (AY s p q) then x.DL+1 else x.DL)=_
         split
         .exact .inr rfl
         .exact .inl rfl
        refine ⟨⟨Cv s q,q,Ih s p q (BA s p).1 x,v1,w2,_⟩,⟨?_,?_,e4,e4.dU hv,hq.1,by simp only [];omega,by simp only [];omega,by show (x.Ar++[_]).length<=_;rw [List.length_append,List.length_singleton];simp only [];omega,by show x.notes.length<=_;simp only [];omega,U⟩,by simp only [];omega,Yl,St.le_refl _⟩
        .refine (St.AM _ _ _).trans ?_
         show _=some (QC s (Cv s q) q _ _ (AQ (x.Ar++[_])) (Fm x.notes) v1 w2 _ (CL s q).1 true)
         rw [kA]
         rfl
        .show Ce st _ v1 ((x.Ar++[_]).length*4) w2 (x.notes.length*5)
         rw [List.length_append,List.length_singleton]
         rw [IK] at hR
         exact hR.set hb0 _
       .rw [nK hpl n2 n1 k2] at U
        repeat' ((conv=>whnf);first|exact CH|(refine Br ?_;intros)|(refine CI ?_ ?_ ?_;rotate_left)|(refine Bs ?_ ?_<;>intro _)|refine Gm (λ_=>?_) ?_|refine hns ?_|refine Ao j1 ?_|refine WJ (λ_=>?_)|refine hlx ?_|with_reducible refine WF ?_)
        exact fin (h1' _ _ _ j2.le (e.trans U)) rfl
     .rw [nI hpl n2] at U
      repeat' ((conv=>whnf);first|exact CH|(refine Br ?_;intros)|(refine CI ?_ ?_ ?_;rotate_left)|(refine Bs ?_ ?_<;>intro _)|refine Gm (λ_=>?_) ?_|refine hns ?_|refine Ao j1 ?_|refine WJ (λ_=>?_)|with_reducible refine WF ?_)
      exact fin (h1' _ _ _ j2.le (e.trans U)) rfl
    .rw [nJ hpl] at U
     repeat' ((conv=>whnf);first|exact CH|(refine Br ?_;intros)|(refine CI ?_ ?_ ?_;rotate_left)|(refine Bs ?_ ?_<;>intro _)|refine Gm (λ_=>?_) ?_|refine Ao j1 ?_|refine WJ (λ_=>?_)|with_reducible refine WF ?_)
     exact fin (h2 x w1 w2 m (e.trans U) j2.le) rfl
  .have e:Ew s=.inl ((MC s).1,(MC s).2):=by unfold Ew;rw [if_neg hl,if_pos hk]
   refine An Ac ?_
   repeat' ((conv=>whnf);first|exact CH|(refine Br ?_;intros)|(refine CI ?_ ?_ ?_;rotate_left)|(refine Bs ?_ ?_<;>intro _)|refine Gm (λ_=>?_) ?_|refine WJ (λ_=>?_)|refine Vq ?_|with_reducible refine WF ?_)
   exact fin (h1 _ _ e) rfl
end
section
variable {st:St} {R:AB->St->Prop}
def PI (k:Int) (t:List UInt8):Bool:=decide (¬k=15)||(!(t==[123])&& !(t==[125])&& !(t==[59]))
theorem LO {ln Ch:Int} (h:R (.ret (.bool (PI k t))) st):PC 20 [.agg [.int .i64 k,.str t,.int .i64 ln,.int .i64 Ch]] st R:=by
 refine pB Tryz.func20 ?_
 unfold PI at h
 repeat' ((conv=>whnf);first|(refine Br ?_;intros)|(refine Bs ?_ ?_<;>intro _)|fail)
 all_goals first
  |(refine Av h ?_;simp only [*];rfl)
  |(refine Av h ?_;simp [*])
  |(rename_i U;refine Av h ?_;simp [U])
  |(rename_i U h2;refine Av h ?_;simp [U,h2])
  |(rename_i U h2 h3;refine Av h ?_;simp [U,h2,h3])
  |(rename_i U h2 h3 h4;refine Av h ?_;simp [U,h2,h3,h4])
end
def gB (t:Tk):Bool:= !(t.kind==16)&&(!(t.kind==17)&&PI t.kind t.text)
def BG (l:List Tk):List Tk:=l.filter gB
def P8 (l:List Tk) (a b:Int):List Tk:=(l.take b.toNat).drop a.toNat
theorem Nk {l:List Tk} {a:Int}:P8 l a a=[]:=by
 unfold P8
 exact List.drop_eq_nil_iff.2 NE
theorem si {l:List Tk} {a:Int} {t:Tk} (U:0<=a) (h:l[a.toNat]? =some t):P8 l a (a+1)=[t]:=by
 unfold P8
 rw [show (a+1).toNat=a.toNat+1 by omega,List.take_add_one,h]
 have hl:=(List.getElem?_eq_some_iff.1 h).1
 rw [List.drop_append,List.drop_eq_nil_iff.2 NE,List.length_take,Nat.min_eq_left AC,Nat.sub_self]
 rfl
theorem sg {l:List Tk} {a b c:Int} (h0:0<=a) (h1:a<=b) (h2:b<=c):P8 l a b++P8 l b c=P8 l a c:=by
 unfold P8
 obtain ⟨x,rfl⟩:∃x:Nat,a=x:=⟨a.toNat,AC⟩
 obtain ⟨y,rfl⟩:∃y:Nat,b=y:=⟨b.toNat,AC⟩
 obtain ⟨z,rfl⟩:∃z:Nat,c=z:=⟨c.toNat,AC⟩
 simp only [Int.toNat_natCast]
 have e:l.take y=(l.take z).take y:=by rw [List.take_take,Nat.min_eq_left AC]
 rw [e]
 generalize l.take z=m
 have hx:m.drop x=(m.take y).drop x++m.drop y:=by
  have U:m=m.take y++m.drop y:=(List.take_append_drop y m).symm
  by_cases hy:y<=m.length
  .conv=>lhs;rw [U]
   rw [List.drop_append,List.length_take,Nat.min_eq_left hy,show x - y=0 by omega,List.drop_zero]
  .rw [List.drop_eq_nil_iff.2 (show m.length<=y by omega),List.append_nil,List.take_of_length_le AC]
 exact hx.symm
structure Ps (s s':Ae) (m:List Tk):Prop where
 tk:s'.Ar=s.Ar
 le:s.pos<=s'.pos
 ok:s'=s\/(0<=s.pos/\s'.pos<=s.Ar.length)
 eq:BG m=BG (P8 s.Ar s.pos s'.pos)
theorem Ps.nil (s:Ae):Ps s s []:=⟨rfl,Int.le_refl _,.inl rfl,by rw [Nk]⟩
theorem Ps.trans {s s1 s2:Ae} {m n:List Tk} (h:Ps s s1 m) (k:Ps s1 s2 n):Ps s s2 (m++n):=by
 have ht:=k.tk.trans h.tk
 have hw:BG (m++n)=BG m++BG n:=by unfold BG;rw [List.filter_append]
 rcases h.ok with rfl|⟨U,a2⟩
 .refine ⟨ht,k.le,k.ok,?_⟩
  rw [hw,h.eq,Nk,k.eq];rfl
 .have hle:=h.le
  rcases k.ok with rfl|⟨b1,b2⟩
  .refine ⟨ht,hle,.inr ⟨U,a2⟩,?_⟩
   rw [hw,h.eq,k.eq,Nk];exact List.append_nil _
  .have kle:=k.le
   refine ⟨ht,AC,.inr ⟨U,by rw [<-h.tk];exact b2⟩,?_⟩
   rw [hw,h.eq,k.eq,h.tk,<-sg U hle kle]
   unfold BG;rw [List.filter_append]
theorem Ps.still {s s':Ae} {m:List Tk} (U:0<=s.pos) (h1:s.pos<=s.Ar.length) (ht:s'.Ar=s.Ar) (hp:s'.pos=s.pos) (hm:BG m=[]):Ps s s' m:=⟨ht,AC,.inr ⟨U,AC⟩,by rw [hm,hp,Nk];rfl⟩
theorem Ps.step {s s':Ae} {m:List Tk} {t:Tk} (U:0<=s.pos) (h:s.Ar[s.pos.toNat]? =some t) (ht:s'.Ar=s.Ar) (hp:s'.pos=s.pos+1) (hm:BG m=BG [t]):Ps s s' m:=by
 have hl:=(List.getElem?_eq_some_iff.1 h).1
 exact ⟨ht,AC,.inr ⟨U,AC⟩,by rw [hm,hp,si U h]⟩
theorem L5 {t:Tk} (h:t.kind=16\/t.kind=17):BG [t]=[]:=by
 unfold BG gB
 rcases h with h|h<;>simp [h]
def rm (t:Tk):List Tk:=if t.kind<18 then [t] else []
theorem Zb:∀(n:Nat) (s:Ae),(∀t ∈ s.Ar,t.kind<18)->0<=s.pos->s.pos<=s.Ar.length->(B3 n s).2.2=0->Ps s (B3 n s).2.1 (rm (B3 n s).1)
 |n,s,hN,U,h1,h=>by
  have hend:∀{x:Tk×Ae×Int},x=DK s->x.2.2=0->Ps s x.2.1 (rm x.1):=λ{x} e hx=>by
   subst e
   unfold DK at hx |-
   split
   .exact .still U h1 rfl rfl rfl
   .rename_i e1
    rw [if_neg e1] at hx
    split
    .exact .still U h1 rfl rfl rfl
    .rename_i e2;rw [if_neg e2] at hx;cases hx
  cases n with
  |zero=>exact hend rfl h
  |succ n=>
   cases ht:s.Ar[s.pos.toNat]? with
   |none=>exact hend (by rw [B3,ht]) h
   |some t=>
    have e:B3 (n+1) s=if t.kind=16/\s.wait<2 then ((Eb t s).1,(Eb t s).2,0)
     else if t.kind=16\/t.kind=17 then if (Da t s).1.kind=0 then B3 n (Da t s).2 else ((Da t s).1,(Da t s).2,0) else BP t s:=by rw [B3,ht]
    have hl:=(List.getElem?_eq_some_iff.1 ht).1
    rw [e] at h |-
    clear e
    split
    .rename_i hk
     unfold Eb
     split
     .exact .still U h1 rfl rfl rfl
     .split
      .exact .step U ht rfl rfl (by rw [L5 (.inl hk.1)];rfl)
      .exact .still U h1 rfl rfl rfl
    .rename_i hk
     rw [if_neg hk] at h
     split
     .rename_i hk2
      rw [if_pos hk2] at h
      split
      .rename_i hz
       rw [if_pos hz] at h
       rw [DT hz] at h |-
       have h3:Ps s {s with pos:=s.pos+1,wait:=0} []:=.step U ht rfl rfl (by rw [L5 hk2];rfl)
       exact h3.trans (Zb n {s with pos:=s.pos+1,wait:=0} hN (by show 0<=s.pos+1;omega) (by show s.pos+1<=(s.Ar.length:Int);omega) h)
      .rename_i hz
       unfold Da at hz |-
       split
       .exact .still U h1 rfl rfl rfl
       .rename_i e1
        rw [if_neg e1] at hz
        split
        .exact .step U ht rfl rfl (by rw [L5 hk2];rfl)
        .rename_i e2;rw [if_neg e2] at hz;exact absurd rfl hz
     .rename_i hk2
      rw [if_neg hk2] at h
      have ha:BG (rm t)=BG [t]:=by unfold rm;rw [if_pos (hN t (List.mem_of_getElem? ht))]
      unfold BP at h |-
      split
      .exact .step U ht rfl rfl ha
      .rename_i e1
       rw [if_neg e1] at h
       split
       .rename_i e2
        rw [if_pos e2] at h
        split
        .rename_i e3;rw [if_pos e3] at h;cases h
        .exact .step U ht rfl rfl ha
       .exact .step U ht rfl rfl ha
theorem V7 {s:Ae} (h:G9 s=true):0<=s.pos/\s.pos<=s.Ar.length:=by
 unfold G9 at h
 simp only [Bool.and_eq_true,decide_eq_true_eq] at h
 omega
theorem QF {s:Ae} (hN:∀t ∈ s.Ar,t.kind<18) (h:(Ab s).2.2=0):Ps s (Ab s).2.1 (rm (Ab s).1):=by
 unfold Ab at h |-
 cases U:G9 s with
 |false=>rw [U] at h;cases h
 |true=>
  rw [U,if_pos rfl] at h
  rw [if_pos rfl]
  obtain ⟨h0,h1⟩:=V7 U
  exact Zb _ s hN h0 h1 h
theorem Uk {t:Tk} (h:Fq t=true):BG (rm t)=[]:=by
 unfold rm
 split
 .rename_i hk
  unfold Fq at h
  have h:t.kind=15/\(t.text=[123]\/t.text=[125]\/t.text=[59]):=by
   simp only [Bool.or_eq_true,Bool.and_eq_true,beq_iff_eq] at h
   rcases h with h|h
   .omega
   .exact ⟨h.1,by rcases h.2 with (h|h)|h<;>simp [h]⟩
  unfold BG gB PI
  rcases h with ⟨h1,U|U|U⟩<;>simp [h1,U]
 .rfl
theorem I8 {f:Bool} {l:List Nd}:B0 (C6 f l)=Bj l:=by unfold C6;rw [B0,if_neg Do]
theorem Ps.words {s s':Ae} {m n:List Tk} (h:Ps s s' m) (e:BG n=BG m):Ps s s' n:=⟨h.tk,h.le,h.ok,e.trans h.eq⟩
theorem Bh.ps {l:List Nd} {s s':Ae} (h:Bh l s s'):(∀t ∈ s.Ar,t.kind<18)->Ps s s' (Bj l):=by
 induction h with
 |nil s=>intro _;exact Ps.nil s
 |app _ _ U h2=>
   intro hN
   have k1:=U hN
   rw [DD]
   exact k1.trans (h2 (by rw [k1.tk];exact hN))
 |tok U h2 h3=>
   intro hN
   rw [Cc,NJ]
   exact (QF hN U).words (by unfold rm;rw [if_pos h2])
 |skip U h2=>intro hN;exact (QF hN U).words (by rw [Uk h2];rfl)
 |close U=>
   intro hN
   rename_i s
   unfold Ck at U |-
   split
   .rename_i hc
    obtain ⟨h0,U⟩:=V7 hc.1
    exact .still h0 U rfl rfl rfl
   .rename_i hc;rw [if_neg hc] at U;cases U
 |node U h2 h3 ih=>
   intro hN
   rw [Cc,J5 h2]
   exact ih hN
 |block U h2 h3 ih=>
   intro hN
   rename_i f l s s'
   have k1:=QF hN U
   rw [Cc,I8]
   have:=k1.trans (ih (by rw [k1.tk];exact hN))
   refine this.words ?_
   unfold BG
   rw [List.filter_append]
   have e:=Uk h2
   unfold BG at e
   rw [e];rfl
mutual
theorem V0:∀n:Nd,(B0 n).length<=n.size
 | .mk k f t l c ks=>by
   have:=Ja ks
   rw [B0,Nd.size]
   split
   .rw [List.length_singleton];omega
   .omega
theorem Ja:∀l:List Nd,(Bj l).length<=Dh l
 |[]=>Nat.le_refl _
 |n::r=>by
  have:=V0 n
  have:=Ja r
  rw [Bj,Dh,List.length_append];omega
end
theorem rq {a:Int} (k:Int) (h:a=k) (U:k≠16/\k≠17):a≠16/\a≠17:=h ▸ U
theorem ui (s:Ae):(Ab s).1.kind≠16/\(Ab s).1.kind≠17:=by
 have U:∀s:Ae,(DK s).1.kind≠16/\(DK s).1.kind≠17:=λs=>by unfold DK;split;exact rq 21 rfl Do;split;exact rq 20 rfl Do;exact rq 0 rfl Do
 have hg:∀n (s:Ae),(B3 n s).1.kind≠16/\(B3 n s).1.kind≠17:=by
  intro n
  induction n with
  |zero=>exact U
  |succ n ih=>
   intro s
   rw [B3]
   split
   .exact U s
   .split
    .unfold Eb Ti;split;exact rq 20 rfl Do;split<;>exact rq 18 rfl Do
    .split
     .split
      .exact ih _
      .unfold Da Ti;split;exact rq 20 rfl Do;split;exact rq 19 rfl Do;exact rq 0 rfl Do
     .rename_i h;unfold BP;split;exact not_or.1 h;split;split;exact rq 0 rfl Do;exact not_or.1 h;exact not_or.1 h
 unfold Ab
 split
 .exact hg _ s
 .exact rq 0 rfl Do
theorem Bh.nk {l:List Nd} {s s':Ae} (h:Bh l s s'):∀t ∈ Bj l,t.kind≠16/\t.kind≠17:=by
 induction h with
 |nil s=>intro t h;cases h
 |app _ _ U h2=>rw [DD];intro t ht;exact (List.mem_append.1 ht).elim (U t) (h2 t)
 |tok U h2 h3=>rw [Cc,NJ];intro t ht;rw [List.mem_singleton.1 ht];exact ui _
 |skip U h2=>intro t h;cases h
 |close U=>intro t h;cases h
 |node U h2 h3 ih=>rw [Cc,J5 h2];exact ih
 |block U h2 h3 ih=>rw [Cc,I8];exact ih
def Lf (l:List Nd) (s s':Ae):Prop:=(Bj l).length+4*mu s'<=4*mu s/\((∀t ∈ s.Ar,t.kind<18)->Ps s s' (Bj l))/\∀t ∈ Bj l,t.kind≠16/\t.kind≠17
def Gk (A:Rd Nd):Prop:=∀s,Rd.wp A s (λn s'=>Lf [n] s s') DP
section
variable {A B C D E F:Rd Nd} {s s0 s1 s2 s':Ae} {Q:Nd->Ae->Prop} {l m:List Nd}
theorem Lf.nil (s:Ae):Lf [] s s:=⟨i7,λ_=>Ps.nil s,λt h=>by cases h⟩
theorem Lf.app (h:Lf l s s1) (k:Lf m s1 s2):Lf (l++m) s s2:=by
 unfold Lf
 rw [DD]
 refine ⟨by have:=h.1;have:=k.1;rw [List.length_append];omega,λhN=>?_,λt ht=>(List.mem_append.1 ht).elim (h.2.2 t) (k.2.2 t)⟩
 have U:=h.2.1 hN
 exact U.trans (k.2.1 (by rw [U.tk];exact hN))
theorem Lf.CP {n m:Nd} {l:List Nd} (h:Lf [n] s s1) (k:Lf (m::l) s1 s2):Lf (n::m::l) s s2:=.app h k
theorem Lf.node (U:k≠1) (h:Lf l s s'):Lf [As k l] s s':=by
 unfold Lf
 rw [Cc,J5 U];exact h
theorem Lf.of (h:Bh l s s'):Lf l s s':=⟨by have:=h.size;have:=Ja l;omega,h.ps,h.nk⟩
theorem Lf.block {f:Bool} (U:Lf [] s s1) (h:Lf l s1 s'):Lf [C6 f l] s s':=by
 unfold Lf
 rw [Cc,I8];exact Lf.app U h
theorem Gk.of (h:Dv A):Gk A:=λs=>Rd.wp_mono (h s) (λn s' _ h=>.of h) (λ_ _ _ _=>trivial)
theorem OR (U:Gk A) (k:∀n s1,Lf [n] s s1->Q n s1):Rd.wp A s Q DP:=Rd.wp_mono (U s) (λn s1 _ h=>k n s1 h) (λ_ _ _ _=>trivial)
theorem Fs (U:Real s) (k:Lf [Be (Ab s).1] s (Ab s).2.1->Q (Be (Ab s).1) (Ab s).2.1):Rd.wp Az s Q DP:=C9 U λh=>k (.of h)
theorem TM (U:k≠0) (h1:k<18) (kk:∀n s1,Lf [n] s s1->Q n s1):Rd.wp (A0 k x) s Q DP:=Tx U h1 λn s1 h=>kk n s1 (.of h)
theorem R7 (U:(ks.all λk=>decide (k≠0)&&decide (k<18))=true) (kk:∀n s1,Lf [n] s s1->Q n s1):Rd.wp (CX ks) s Q DP:=eo U λn s1 h=>kk n s1 (.of h)
theorem OS {b:Bool} {Q:Unit->Ae->Prop} (k:Q () s):Rd.wp (Gs b) s Q DP:=by
 unfold Gs
 rw [Rd.Ax]
 exact Bg (λ_=>k) λ_=>trivial
theorem LH {item:Rd Nd} {Q:List Nd->Ae->Prop} (hi:Gk item) (U:Lf l s0 s) (k:∀l s1,Lf l s0 s1->Q l s1):Rd.wp (DW item x l) s Q DP:=by
 simp only [DW,Rd.wp_seq,Rd.wp_ret]
 refine DS (P:=λp s1=>Lf p.2 s0 s1) (λp s1 U=>?_) U
 simp only [Vs,Rd.Ag,Rd.Ax,Rd.wp_seq,Rd.wp_ret]
 repeat' (first
  |exact trivial
  |assumption
  |refine Bg (λe=>?_) (λe=>?_)
  |refine Fs (AO ‹_› Do Do) (λhn=>?_)
  |refine Fs (Bz ‹_› Do Do) (λhn=>?_)
  |refine Fs ‹_› (λhn=>?_)
  |refine TM Do Do (λn s1 hn=>?_)
  |refine R7 Do (λn s1 hn=>?_)
  |refine OS ?_
  |refine OR ‹_› (λn s1 hn=>?_)
  |exact k _ _ (.app ‹_› ‹_›)
  |exact k _ _ (.app (.app ‹_› ‹_›) ‹_›)
  |refine Lf.node Do ?_
  |apply Lf.app
  |apply Lf.CP)
theorem LI (U:(ks.all λk=>decide (k≠0)&&decide (k<18))=true):Gk (FA ks):=λs=>by
 simp only [FA,Rd.wp_seq,Rd.wp_ret]
 repeat' (first
  |exact trivial
  |assumption
  |refine Bg (λe=>?_) (λe=>?_)
  |refine Fs (AO ‹_› Do Do) (λhn=>?_)
  |refine Fs (Bz ‹_› Do Do) (λhn=>?_)
  |refine Fs ‹_› (λhn=>?_)
  |refine TM Do Do (λn s1 hn=>?_)
  |refine R7 Do (λn s1 hn=>?_)
  |refine OS ?_
  |refine OR ‹_› (λn s1 hn=>?_)
  |refine R7 U (λn s1 hn=>?_)
  |refine Lf.node Do ?_
  |apply Lf.app
  |apply Lf.CP)
theorem YU:Gk K6:=λs=>by
 have U:=LI (ks:=[5,6]) Do
 simp only [K6,Rd.Ag,Rd.Ax,Rd.wp_seq,Rd.wp_ret,Rd.Fb]
 repeat' (first
  |exact trivial
  |assumption
  |refine Bg (λe=>?_) (λe=>?_)
  |refine Fs (AO ‹_› Do Do) (λhn=>?_)
  |refine Fs (Bz ‹_› Do Do) (λhn=>?_)
  |refine Fs ‹_› (λhn=>?_)
  |refine TM Do Do (λn s1 hn=>?_)
  |refine R7 Do (λn s1 hn=>?_)
  |refine OS ?_
  |refine OR ‹_› (λn s1 hn=>?_)
  |refine Lf.node Do ?_
  |apply Lf.app
  |apply Lf.CP)
theorem iP:Gk LK:=λs=>by
 have U:=LI (ks:=[5,6]) Do
 simp only [LK,Rd.Ag,Rd.Ax]
 repeat' (first
  |exact trivial
  |assumption
  |refine Bg (λe=>?_) (λe=>?_)
  |refine Fs (AO ‹_› Do Do) (λhn=>?_)
  |refine Fs (Bz ‹_› Do Do) (λhn=>?_)
  |refine Fs ‹_› (λhn=>?_)
  |refine TM Do Do (λn s1 hn=>?_)
  |refine R7 Do (λn s1 hn=>?_)
  |refine OS ?_
  |refine OR ‹_› (λn s1 hn=>?_)
  |refine Lf.node Do ?_
  |apply Lf.app
  |apply Lf.CP)
theorem nR (U:Lf l s0 s) (k:∀n s1,Lf [n] s0 s1->Q n s1):Rd.wp (Sj l) s Q DP:=by
 have hm:=iP
 simp only [Sj,Rd.Ag,Rd.Ax,Rd.wp_seq,Rd.wp_ret]
 repeat' (first
  |exact trivial
  |assumption
  |refine Bg (λe=>?_) (λe=>?_)
  |refine Fs (AO ‹_› Do Do) (λhn=>?_)
  |refine Fs (Bz ‹_› Do Do) (λhn=>?_)
  |refine Fs ‹_› (λhn=>?_)
  |refine TM Do Do (λn s1 hn=>?_)
  |refine R7 Do (λn s1 hn=>?_)
  |refine OS ?_
  |refine OR ‹_› (λn s1 hn=>?_)
  |refine LH hm (.app U ‹_›) (λl s1 h=>k _ _ (.node Do h))
  |refine k _ _ ?_
  |refine Lf.node Do ?_
  |apply Lf.app
  |apply Lf.CP)
theorem tL {o:Bool}:Gk (Uq o):=λs=>by
 have hs:=LI (ks:=u6 o) (by cases o<;>decide)
 have U:((ON o).all λk=>decide (k≠0)&&decide (k<18))=true:=by cases o<;>decide
 have h2:((Xq o).all λk=>decide (k≠0)&&decide (k<18))=true:=by cases o<;>decide
 simp only [Uq,Y6,Rd.Ag,Rd.Ax,Rd.wp_seq,Rd.wp_ret]
 repeat' (first
  |exact trivial
  |assumption
  |refine Bg (λe=>?_) (λe=>?_)
  |refine Fs (AO ‹_› Do Do) (λhn=>?_)
  |refine Fs (Bz ‹_› Do Do) (λhn=>?_)
  |refine Fs ‹_› (λhn=>?_)
  |refine TM Do Do (λn s1 hn=>?_)
  |refine R7 Do (λn s1 hn=>?_)
  |refine OS ?_
  |refine OR ‹_› (λn s1 hn=>?_)
  |refine R7 U (λn s1 hn=>?_)
  |refine R7 h2 (λn s1 hn=>?_)
  |exact nR ‹_› (λn s1 h=>h)
  |refine Lf.node Do ?_
  |apply Lf.app
  |apply Lf.CP)
theorem YR {o:Bool}:Gk (Ex o):=λs=>by
 have hi:=tL (o:=o)
 simp only [Ex,Rd.wp_seq,Rd.wp_ret]
 refine TM Do Do λn s1 U=>?_
 refine DS (P:=λl s1=>Lf l s s1) (λl s1 U=>?_) U
 simp only [cI,bm,Rd.Ag,Rd.Ax,Rd.wp_seq,Rd.wp_ret]
 repeat' (first
  |exact trivial
  |assumption
  |refine Bg (λe=>?_) (λe=>?_)
  |refine Fs (AO ‹_› Do Do) (λhn=>?_)
  |refine Fs (Bz ‹_› Do Do) (λhn=>?_)
  |refine Fs ‹_› (λhn=>?_)
  |refine TM Do Do (λn s1 hn=>?_)
  |refine R7 Do (λn s1 hn=>?_)
  |refine OS ?_
  |refine OR ‹_› (λn s1 hn=>?_)
  |refine Lf.node Do ?_
  |apply Lf.app
  |apply Lf.CP)
theorem cp (U:Real s) (k:∀n s1,Lf [n] s s1->Q n s1):Rd.wp G7 s Q DP:=by
 have hi:=YR (o:=true)
 simp only [G7,LB,LC,LD,Rd.Ag,Rd.Ax,Rd.wp_seq,Rd.wp_ret]
 repeat' (first
  |exact trivial
  |assumption
  |refine Bg (λe=>?_) (λe=>?_)
  |refine Fs (AO ‹_› Do Do) (λhn=>?_)
  |refine Fs (Bz ‹_› Do Do) (λhn=>?_)
  |refine Fs ‹_› (λhn=>?_)
  |refine TM Do Do (λn s1 hn=>?_)
  |refine R7 Do (λn s1 hn=>?_)
  |refine OS ?_
  |refine OR ‹_› (λn s1 hn=>?_)
  |refine k _ _ ?_
  |refine Lf.node Do ?_
  |apply Lf.app
  |apply Lf.CP)
theorem uA {a b:List UInt8} (h:(if AZ s 1 a=true then true else AZ s 1 b)=true):Real s:=by
 split at h
 .exact AO ‹_› Do Do
 .exact AO h Do Do
theorem cn (U:Gk D) (hr:Real s) (k:∀n s1,Lf [n] s s1->Q n s1):Rd.wp (G5 D) s Q DP:=by
 have hi:=YU
 simp only [G5,Jk,KS,HU,Jl,Rd.Ag,Rd.Ax,Rd.wp_seq,Rd.wp_ret]
 repeat' (first
  |exact trivial
  |assumption
  |refine Bg (λe=>?_) (λe=>?_)
  |refine Fs (AO ‹_› Do Do) (λhn=>?_)
  |refine Fs (Bz ‹_› Do Do) (λhn=>?_)
  |refine Fs ‹_› (λhn=>?_)
  |refine TM Do Do (λn s1 hn=>?_)
  |refine R7 Do (λn s1 hn=>?_)
  |refine OS ?_
  |refine OR ‹_› (λn s1 hn=>?_)
  |refine Fs (uA ‹_›) (λhn=>?_)
  |refine k _ _ ?_
  |refine Lf.node Do ?_
  |apply Lf.app
  |apply Lf.CP)
theorem YO (U:Gk A) (hr:Real s) (k:∀n s1,Lf [n] s s1->Q n s1):Rd.wp (FL A) s Q DP:=by
 simp only [FL,Rd.wp_seq,Rd.wp_ret]
 repeat' (first
  |exact trivial
  |assumption
  |refine Bg (λe=>?_) (λe=>?_)
  |refine Fs (AO ‹_› Do Do) (λhn=>?_)
  |refine Fs (Bz ‹_› Do Do) (λhn=>?_)
  |refine Fs ‹_› (λhn=>?_)
  |refine TM Do Do (λn s1 hn=>?_)
  |refine R7 Do (λn s1 hn=>?_)
  |refine OS ?_
  |refine OR ‹_› (λn s1 hn=>?_)
  |refine LH U ?_ (λl s1 h=>k _ _ (.node Do h))
  |refine Lf.node Do ?_
  |apply Lf.app
  |apply Lf.CP)
theorem Qz {Q:List Nd×Nd->Ae->Prop} (hA:Gk A) (U:Lf l s0 s) (k:∀l n s1,Lf (l++[n]) s0 s1->Q (l,n) s1):Rd.wp (Ix A l) s Q DP:=by
 simp only [Ix,Rd.Ag,Rd.Ax,Rd.wp_seq,Rd.wp_ret]
 repeat' (first
  |exact trivial
  |assumption
  |refine Bg (λe=>?_) (λe=>?_)
  |refine Fs (AO ‹_› Do Do) (λhn=>?_)
  |refine Fs (Bz ‹_› Do Do) (λhn=>?_)
  |refine Fs ‹_› (λhn=>?_)
  |refine TM Do Do (λn s1 hn=>?_)
  |refine R7 Do (λn s1 hn=>?_)
  |refine OS ?_
  |refine OR ‹_› (λn s1 hn=>?_)
  |refine k _ _ _ ?_
  |refine Lf.node Do ?_
  |apply Lf.app
  |apply Lf.CP)
theorem cr (U:Gk A) (hB:Gk B) (hr:Real s) (k:∀n s1,Lf [n] s s1->Q n s1):Rd.wp (He A B) s Q DP:=by
 simp only [He,Rd.wp_seq,Rd.wp_ret]
 repeat' (first
  |exact trivial
  |assumption
  |refine Bg (λe=>?_) (λe=>?_)
  |refine Fs (AO ‹_› Do Do) (λhn=>?_)
  |refine Fs (Bz ‹_› Do Do) (λhn=>?_)
  |refine Fs ‹_› (λhn=>?_)
  |refine TM Do Do (λn s1 hn=>?_)
  |refine R7 Do (λn s1 hn=>?_)
  |refine OS ?_
  |refine OR ‹_› (λn s1 hn=>?_)
  |refine k _ _ ?_
  |refine Lf.node Do ?_
  |apply Lf.app
  |apply Lf.CP)
theorem Um (U:Gk A) (hr:Real s) (k:∀n s1,Lf [n] s s1->Q n s1):Rd.wp (HB A) s Q DP:=by
 simp only [HB,Rd.wp_seq,Rd.wp_ret]
 repeat' (first
  |exact trivial
  |assumption
  |refine Bg (λe=>?_) (λe=>?_)
  |refine Fs (AO ‹_› Do Do) (λhn=>?_)
  |refine Fs (Bz ‹_› Do Do) (λhn=>?_)
  |refine Fs ‹_› (λhn=>?_)
  |refine TM Do Do (λn s1 hn=>?_)
  |refine R7 Do (λn s1 hn=>?_)
  |refine OS ?_
  |refine OR ‹_› (λn s1 hn=>?_)
  |refine k _ _ ?_
  |refine Lf.node Do ?_
  |apply Lf.app
  |apply Lf.CP)
theorem tM (U:Gk A):Gk (Ii A):=λs=>by
 have hs:=LI (ks:=[6]) Do
 simp only [Ii,Rd.Ag,Rd.Ax]
 repeat' (first
  |exact trivial
  |assumption
  |refine Bg (λe=>?_) (λe=>?_)
  |refine Fs (AO ‹_› Do Do) (λhn=>?_)
  |refine Fs (Bz ‹_› Do Do) (λhn=>?_)
  |refine Fs ‹_› (λhn=>?_)
  |refine TM Do Do (λn s1 hn=>?_)
  |refine R7 Do (λn s1 hn=>?_)
  |refine OS ?_
  |refine OR ‹_› (λn s1 hn=>?_)
  |exact Um U (AO ‹_› Do Do) (λn s1 h=>h)
  |refine Lf.node Do ?_
  |apply Lf.app
  |apply Lf.CP)
theorem YT {Q:List Nd->Ae->Prop} (hA:Gk A) (k:∀l s1,Lf l s s1->Q l s1):Rd.wp (Jd A) s Q DP:=by
 have hp:=tM hA
 simp only [Jd,Rd.wp_seq]
 refine OR hp λn s1 U=>DS (P:=λl s1=>Lf l s s1) (λl s1 U=>?_) U
 simp only [W6,Rd.Ag,Rd.Ax,Rd.wp_seq,Rd.wp_ret]
 repeat' (first
  |exact trivial
  |assumption
  |refine Bg (λe=>?_) (λe=>?_)
  |refine Fs (AO ‹_› Do Do) (λhn=>?_)
  |refine Fs (Bz ‹_› Do Do) (λhn=>?_)
  |refine Fs ‹_› (λhn=>?_)
  |refine TM Do Do (λn s1 hn=>?_)
  |refine R7 Do (λn s1 hn=>?_)
  |refine OS ?_
  |refine OR ‹_› (λn s1 hn=>?_)
  |refine k _ _ ?_
  |refine Lf.node Do ?_
  |apply Lf.app
  |apply Lf.CP)
theorem eX (U:Lf l s0 s) (k:∀n,Lf [n] s0 s->Q n s):Rd.wp (PT l) s Q DP:=by
 unfold PT
 rw [Rd.Ax]
 refine Bg (λe=>?_) λ_=>?_
 .match l,e with
  |[x],_=>exact k _ U
 .rw [Rd.wp_seq]
  exact OS (k _ (.node Do U))
theorem nQ (hA:Gk A) (hB:Gk B):Gk (IJ A B):=λs=>by
 have hs:=YU
 simp only [IJ,Rd.wp_seq]
 refine OR hs λn s1 U=>DS (P:=λl s1=>Lf l s s1) (λl s1 U=>?_) U
 simp only [bN,Rd.Ag,Rd.Ax,Rd.wp_seq,Rd.wp_ret]
 repeat' (first
  |exact trivial
  |assumption
  |refine Bg (λe=>?_) (λe=>?_)
  |refine Fs (AO ‹_› Do Do) (λhn=>?_)
  |refine Fs (Bz ‹_› Do Do) (λhn=>?_)
  |refine Fs ‹_› (λhn=>?_)
  |refine TM Do Do (λn s1 hn=>?_)
  |refine R7 Do (λn s1 hn=>?_)
  |refine OS ?_
  |refine OR ‹_› (λn s1 hn=>?_)
  |refine Um hA (AO ‹_› Do Do) (λn s1 hn=>?_)
  |refine Lf.node Do ?_
  |apply Lf.app
  |apply Lf.CP)
theorem nS (U:Real s) (k:∀n s1,Lf [n] s s1->Q n s1):Rd.wp M0 s Q DP:=by
 simp only [M0,Rd.Ag,Rd.Ax,Rd.wp_seq,Rd.wp_ret,Rd.Fb]
 repeat' (first
  |exact trivial
  |assumption
  |refine Bg (λe=>?_) (λe=>?_)
  |refine Fs (AO ‹_› Do Do) (λhn=>?_)
  |refine Fs (Bz ‹_› Do Do) (λhn=>?_)
  |refine Fs ‹_› (λhn=>?_)
  |refine TM Do Do (λn s1 hn=>?_)
  |refine R7 Do (λn s1 hn=>?_)
  |refine OS ?_
  |refine OR ‹_› (λn s1 hn=>?_)
  |refine k _ _ ?_
  |refine Lf.node Do ?_
  |apply Lf.app
  |apply Lf.CP)
theorem R8 (hA:Gk A) (hr:Real s) (U:Lf l s0 s) (k:∀n s1,Lf [n] s0 s1->Q n s1):Rd.wp (GS A l) s Q DP:=by
 simp only [GS,Rd.wp_seq,Rd.wp_ret]
 exact eX U λa h1=>nS hr λo s1 h2=>YT hA λr s2 h3=>eX h3 λb h4=>k _ _ (.node Do (.CP h1 (.CP h2 h4)))
theorem Ul (hA:Gk A) (hB:Gk B):Gk (GU A B):=λs=>by
 have hf:=nQ hA hB
 have hb:∀{l:List Nd} {s1:Ae},Lf l s s1->Rd.wp (Hr A l) s1 (λn s'=>Lf [n] s s') DP:=λU=>by
  simp only [Hr,Rd.Ag,Rd.Ax,Rd.wp_seq,Rd.wp_ret]
  exact Bg (λe=>R8 hA (Bz e Do Do) U λ_ _ h=>h) λ_=>Bg (λe=>R8 hA (AO e Do Do) U λ_ _ h=>h) λ_=>OS (.node Do U)
 simp only [GU,Rd.Ag,Rd.Ax,Rd.wp_seq,Rd.wp_ret]
 refine YT hA λl s1 U=>Bg (λ_=>Bg (λe=>?_) λ_=>hb U) λ_=>hb U
 exact Fs (AO e Do Do) λh1=>LH hf (.app U h1) λl s2 h=>.node Do h
theorem YP (U:Real s) (k:∀n s1,Lf [n] s s1->Q n s1):Rd.wp FM s Q DP:=by
 have hi:Gk (CX [2,4]):=λs=>R7 Do λn s1 h=>h
 simp only [FM,Rd.Ag,Rd.Ax,Rd.wp_seq,Rd.wp_ret]
 repeat' (first
  |exact trivial
  |assumption
  |refine Bg (λe=>?_) (λe=>?_)
  |refine Fs (AO ‹_› Do Do) (λhn=>?_)
  |refine Fs (Bz ‹_› Do Do) (λhn=>?_)
  |refine Fs ‹_› (λhn=>?_)
  |refine TM Do Do (λn s1 hn=>?_)
  |refine R7 Do (λn s1 hn=>?_)
  |refine OS ?_
  |refine OR ‹_› (λn s1 hn=>?_)
  |refine LH hi ?_ (λl s1 h=>k _ _ (.node Do h))
  |refine k _ _ ?_
  |refine Lf.node Do ?_
  |apply Lf.app
  |apply Lf.CP)
theorem R9 {c:Int} (hc:c≠1) (U:Lf l s0 s) (k:∀n s1,Lf [n] s0 s1->Q n s1):Rd.wp (G2 c l) s Q DP:=by
 simp only [G2,Rd.Ag,Rd.Ax,Rd.wp_seq,Rd.wp_ret]
 exact Bg (λe=>YP (AO e Do Do) λn s1 h=>k _ _ (.node hc (.app U h))) λ_=>k _ _ (.node hc U)
theorem tJ (hA:Gk A) (hB:Gk B) (hC:Gk C) (hr:Real s) (k:∀n s1,Lf [n] s s1->Q n s1):Rd.wp (Pu A B C) s Q DP:=by
 have hn:=Ul hA hC
 simp only [Pu,Rd.wp_seq]
 refine Fs hr λU=>Qz hB U λl n s1 h1=>OS (DS (P:=λp s1=>Lf p.2 s s1) (λp s1 U=>?_) h1)
 simp only [l5,Rd.Ag,Rd.Ax,Rd.wp_seq,Rd.wp_ret]
 exact Bg (λe=>Fs (AO e Do Do) λh2=>OR hn λc s2 h3=>.app (.app U h2) h3) λ_=>R9 Do U k
theorem cq (hA:Gk A) (hB:Gk B) (hC:Gk C) (hr:Real s) (k:∀n s1,Lf [n] s s1->Q n s1):Rd.wp (Ha A B C) s Q DP:=by
 have hn:=Ul hA hC
 simp only [Ha,Rd.wp_seq]
 exact Fs hr λU=>Qz hB U λl n s1 h1=>OS (TM Do Do λe s2 h2=>OR hn λc s3 h3=>OS (R9 Do (.app (.app h1 h2) h3) k))
theorem eW {c:Int} {may:Nd->Bool} (hA:Gk A) (hc:c≠1) (U:Lf l s0 s) (k:∀n s1,Lf [n] s0 s1->Q n s1):Rd.wp (Pr A c l may) s Q DP:=by
 simp only [Pr,Rd.Ag,Rd.Ax,Rd.wp_seq,Rd.wp_ret]
 exact Bg (λe=>Fs (AO e Do Do) λh1=>OR hA λb s1 h2=>OS (k _ _ (.node hc (.app U (.node Do (.CP h1 h2)))))) λ_=>k _ _ (.node hc U)
theorem nP (hA:Gk A) (hB:Gk B) (hr:Real s) (k:∀n s1,Lf [n] s s1->Q n s1):Rd.wp (KL A B) s Q DP:=by
 simp only [KL,Rd.wp_seq]
 exact Fs hr λU=>Qz hA U λl n s1 h1=>OS (eW hB Do h1 k)
theorem YQ (hA:Gk A) (hB:Gk B) (hr:Real s) (k:∀n s1,Lf [n] s s1->Q n s1):Rd.wp (FO A B) s Q DP:=by
 simp only [FO,Rd.wp_seq]
 exact Fs hr λU=>Qz hA U λl n s1 h1=>OS (eW hB Do h1 k)
theorem xC (hA:Gk A) (hB:Gk B) (hC:Gk C) (hD:Gk D) (hE:Gk E) (hF:Gk F):Gk (af A B C D E F):=λs=>by
 simp only [af,Rd.Ag,Rd.Ax]
 refine Bg (λe=>?_) λ_=>hE s
 have U:=Bz e Do Do
 exact Bg (λ_=>cp U λ_ _ h=>h) λ_=>Bg (λ_=>cr hB hC U λ_ _ h=>h) λ_=>Bg (λ_=>tJ hA hB hC U λ_ _ h=>h) λ_=>Bg (λ_=>cq hA hB hC U λ_ _ h=>h) λ_=>
  Bg (λ_=>nP hB hF U λ_ _ h=>h) λ_=>Bg (λ_=>YQ hB hF U λ_ _ h=>h) λ_=>Bg (λ_=>YO hC U λ_ _ h=>h) λ_=>Bg (λ_=>cn hD U λ_ _ h=>h) λ_=>hE s
end
end Go.Proofs.Z
namespace Go.Proofs.Z
open Go Go.Aw
open Rd (Ap)
def OC:Nat->Rd Nd
 |0=>.fail It
 |d+1=>Vx (d+1)
def kB (d:Nat):Rd Nd:=af (XB d) (qL d) (XH d) (Kv d) (Ro d) (OC (d - 1))
def Kn (top:Rd Nd) (l:List Nd):Rd Nd:=.look λs0=>.seq top λn=>if ((n.kind==50)&&l.any λx=> !(x.kind==50))=true then .Dm s0 Iu else .ret n
def Of (top:Rd Nd):Rd Nd:=JS Oj (Kn top)
def G0 (d:Nat):Rd Nd:=Of (kB d)
theorem V2 {X:Ae->Rs} {h:∀s v s',X s=.inr (v,s')->mu s'<=mu s} (k:DG X):Gk (Ia X h):=Gk.of (Dv.of λs n s' e=>k s n s' (by
 unfold Ia at e
 dsimp only at e
 split at e
 .split at e<;>cases e
 .rename_i U;rw [U];injection e with e;rw [e]))
theorem iN:∀d,Gk (OC d)
 |0=>λs=>trivial
 |d+1=>Gk.of (Nu (KN (HR _) (OE _)))
theorem tN (d:Nat):Gk (kB d):=
 xC (V2 (Nq (Nr _))) (V2 (VD (Nq (Nr _)))) (V2 (Ry (Nq (Nr _)))) (Gk.of (HR d)) (Gk.of (KN (HR _) (OE _))) (iN _)
section
variable {s s0 s1:Ae} {A:Rd Nd} {l:List Nd}
theorem Lf.pass {l:List Nd} (h:Lf l s0 s) (k:Lf [] s s1):Lf l s0 s1:=by
 have:=Lf.app h k
 rwa [List.append_nil] at this
theorem tK (U:Gk A) (l:List Nd):Gk (Kn A l):=λs=>by
 simp only [Kn,Rd.Ag,Rd.Ax,Rd.wp_seq,Rd.wp_ret,Rd.Fb]
 exact OR U λn s1 h=>Bg (λ_=>trivial) λ_=>h
theorem iQ (hA:Gk A):Gk (Of A):=λs=>by
 simp only [Of,JS,Rd.Ag,Rd.Ax,Rd.wp_seq,Rd.wp_ret]
 have hb:∀{f:Bool} {s1:Ae},(Ab s).2.2=0->Fq (Ab s).1=true->(Ab s).2.1=s1->Rd.wp (Rd.loop (Fx Oj (Kn A) f) []) s1 (λl s'=>Lf [C6 f l] s s') DP:=λ{f s1} e1 e2 e3=>by
  subst e3
  have hz:Lf [] s (Ab s).2.1:=.of (.skip e1 e2)
  refine DS (P:=λl s1=>Lf l (Ab s).2.1 s1) (λl s1 U=>?_) (.nil _)
  simp only [Fx,Rd.Ag,Rd.Ax,Rd.wp_seq,Rd.wp_ret]
  refine Ya λs2 g2=>Nv λb s3 g3=>Bg (λ_=>.block hz ((U.pass (.of g2)).pass (.of g3))) λ_=>OR (tK hA l) λn s4 g4=>Nv λb s5 g5=>?_
  have h1:Lf (l++[n]) (Ab s).2.1 s5:=(Lf.app ((U.pass (.of g2)).pass (.of g3)) g4).pass (.of g5)
  exact Bg (λ_=>.block hz h1) λ_=>h1
 refine Bg (λe=>?_) λ_=>?_
 .have hi:Fq (Ab s).1=true:=by rw [beq_iff_eq] at e;simp [Fq,e]
  exact yZ hi λ_=>hb (DX (LA hi).1) hi rfl
 .unfold A0
  rw [Rd.Ag,Rd.Ax]
  refine Bg (λe=>?_) λ_=>trivial
  have hi:Fq (Ab s).1=true:=by
   unfold AZ at e
   simp only [Bool.and_eq_true,beq_iff_eq] at e
   simp [Fq,e.1,e.2]
  exact C9 (AO e Do Do) λ_=>hb (DX (LA hi).1) hi rfl
theorem ct (d:Nat):Gk (G0 d):=iQ (tN d)
theorem bK {A B C D E F:Rd Nd} (U:Rd.A4 E):Rd.A4 (af A B C D E F):=Rd.A4.look λs v s' h=>by
 split at h
 .rename_i hk
  rw [beq_iff_eq] at hk
  have ht:∀{v:Nd} {s':Ae},Az.run s=.inr (v,s')->mu s'<mu s:=λe=>Ig e AC
  (repeat' split at h)<;>first|exact Rd.A4.at (λ_ _ e=>ht e) h|exact U _ _ _ h
 .exact U _ _ _ h
theorem bJ (d:Nat):Rd.A4 (kB d):=bK (KN (HR _) (OE _)).vN
end
end Go.Proofs.Z
namespace Go.Proofs.Z
open Go Go.Aw
theorem ue {a b:Bool} {P Q:Prop}:(if (if a=true then true else b)=true then P else Q)=if a=true then P else if b=true then P else Q:=by cases a<;>cases b<;>simp
section
variable {st0 st:St} {b d:Nat} {s:Ae} {rows:List (AH×List Nd)} {K:AB->St->Prop} {A B R W F D E:Rd Nd}
attribute [local irreducible] Go.Aw.Am
theorem qs {k':Int} {x':List UInt8} {P:Prop} {Q:Nd->Ae->Prop} {E:Er->Ae->Prop} (hc:Cx st0 b s st rows) (h:if AZ (Ab s).2.1 k' x'=true then P else Az.wp s Q E) (e:AZ s k x=true) (U:k≠0/\k≠21) (kk:∀st',mu (Ab s).2.1<mu s->Cx st0 b (Ab s).2.1 st' rows->K (.ret (enc (Be (Ab s).1))) st'):PC 150 [.ptr b 0] st K:=
 MZ hc.has hc.hb (λ_ st' hu=>kk st' (C8 e U.1 U.2) (hc.Pg hu (Nat.le_of_lt (C8 e U.1 U.2)))) (λn=>absurd (Ev e U.1) n)
theorem mV {s0:Ae} (U:Cx st0 b s st rows) (hm:mu (Ab s0).2.1<mu s0) (hb:mu s0<=100000000) (k:∀st',Cx st0 b s0 st' rows->K (.ret (.BM [])) st'):PC 154 [.ptr b 0,.agg s0.cells] st K:=GW U hb k
theorem zK {U:Int} {y:List UInt8} {P:Prop} {Q:Nd->Ae->Prop} {E:Er->Ae->Prop} (hc:Cx st0 b (Ab s).2.1 st rows) (h:if AZ (Ab s).2.1 k x=true then P else Az.wp s Q E) (e:AZ s U y=true) (hk:U≠0)
 (k1:∀st',Cx st0 b (Ab s).2.1 st' rows->P->K (.ret (.bool true)) st') (U:∀st',Cx st0 b (Ab s).2.1 st' rows->Q (Be (Ab s).1) (Ab s).2.1->K (.ret (.bool false)) st'):PC 149 [.ptr b 0,.int .i64 k,.str x] st K:=by
 refine nj hc h (λst' c _ p=>k1 st' c p) (λst' c _ q=>U st' c ?_)
 unfold Rd.wp at q
 rw [BQ (Ev e hk)] at q
 exact q
theorem zh {p:Prop} (e:AZ s 1 x=true) (k:(Ab s).1.kind=14):p:=by
 unfold AZ at e
 rw [k] at e
 cases e
theorem qA {o:Bool}:AX enc 267 (λb=>[pv b d,.bool o]) (Uq o):=by
 refine ⟨λ{st0 b s st rows K} hc h=>?_⟩
 have hmu:=hc.mu
 refine pB Tryz.func267 ?_
 cases o
 all_goals simp only [Uq,Y6,Sj,Bool.false_eq_true,if_false,if_true,Rd.Ag,Rd.Ax,Rd.wp_seq,Rd.wp_ret] at h
 .skip
  repeat' ((conv=>whnf);first|refine Gz h (λe h=>?_) (λe h=>?_)|exact Dr|(refine Ba ?_;intros)|(refine Ds ?_ ?_ ?_;rotate_left)|(refine Bb ?_ ?_<;>intro e h)|(refine Bc ?_ ?_<;>intro _)|(refine M8 ?_;intro U hc)|(refine TC ?_ ?_<;>intro U hc e h)|(refine Kr ?_;intro s1 U hz hm hc h)|(refine JQ ?_ ?_<;>(first|intro n s1 U hr hm hc h|intro e s1 U hc h))|exact Gw|refine Tw ?_|(refine Qn ?_;intro own1 U hc)|refine Ad (λe1=>?_)|refine Cx.wN (l:=[1]) (new:=[3]) hc (Nat.le_of_ble_eq_true rfl) (λown1 U hc=>?_)|refine Cx.wN (l:=[2]) (new:=[4]) hc (Nat.le_of_ble_eq_true rfl) (λown1 U hc=>?_)|refine Cx.wN (l:=[5,6]) (new:=[7,8]) hc (Nat.le_of_ble_eq_true rfl) (λown1 U hc=>?_)|refine AX.go (EB (ks:=ON false) rfl) hc h (λn s1 U hr hm hc h=>?_) (λe s1 U hc h=>?_)|refine AX.go (EB (ks:=Xq false) rfl) hc h (λn s1 U hr hm hc h=>?_) (λe s1 U hc h=>?_)|refine AX.go (Ij (ks:=u6 false) rfl) hc h (λn s1 U hr hm hc h=>?_) (λe s1 U hc h=>?_)|refine Cx.Hp (l:=[_]) (hc.push [_]) (Nat.le_of_ble_eq_true rfl) (λown1 U hc=>?_)|refine Cx.wM (l:=[_,_]) hc (Nat.le_of_ble_eq_true rfl) (λown1 U hc=>?_)|refine JJ (l:=[_,_]) (fs:=[pv b d]) (cs:=[]) Tb.z (Nat.le_of_ble_eq_true rfl) hc h (λl own1 s1 U hm hc h=>?_) (λe s1 U hc h=>?_)|refine Af [(0,true),(1,true),(3,true),(4,true),(5,true),(2,false),(6,false),(7,true),(8,false),(9,false)] [1] GE ?_|refine Af [(0,true),(1,true),(2,true),(4,true),(5,true),(3,false),(6,false),(7,true),(8,false),(9,false),(10,false)] [1] GE ?_|with_reducible refine WF ?_)
 .skip
  repeat' ((conv=>whnf);first|refine Gz h (λe h=>?_) (λe h=>?_)|exact Dr|(refine Ba ?_;intros)|(refine Ds ?_ ?_ ?_;rotate_left)|(refine Bb ?_ ?_<;>intro e h)|(refine Bc ?_ ?_<;>intro _)|(refine M8 ?_;intro U hc)|(refine TC ?_ ?_<;>intro U hc e h)|(refine Kr ?_;intro s1 U hz hm hc h)|(refine JQ ?_ ?_<;>(first|intro n s1 U hr hm hc h|intro e s1 U hc h))|exact Gw|refine Tw ?_|(refine Qn ?_;intro own1 U hc)|refine Ad (λe1=>?_)|refine AX.go (EB (ks:=ON true) rfl) hc h (λn s1 U hr hm hc h=>?_) (λe s1 U hc h=>?_)|refine AX.go (EB (ks:=Xq true) rfl) hc h (λn s1 U hr hm hc h=>?_) (λe s1 U hc h=>?_)|refine AX.go (Ij (ks:=u6 true) rfl) hc h (λn s1 U hr hm hc h=>?_) (λe s1 U hc h=>?_)|refine Cx.Hp (l:=[_]) (hc.push [_]) (Nat.le_of_ble_eq_true rfl) (λown1 U hc=>?_)|refine Cx.wM (l:=[_,_]) hc (Nat.le_of_ble_eq_true rfl) (λown1 U hc=>?_)|refine JJ (l:=[_,_]) (fs:=[pv b d]) (cs:=[]) Tb.z (Nat.le_of_ble_eq_true rfl) hc h (λl own1 s1 U hm hc h=>?_) (λe s1 U hc h=>?_)|refine Af [(0,true),(1,true),(3,true),(4,true),(5,true),(2,false),(6,false),(7,true),(8,false),(9,false)] [1] GE ?_|refine Af [(0,true),(1,true),(2,true),(4,true),(5,true),(3,false),(6,false),(7,true),(8,false),(9,false),(10,false)] [1] GE ?_|with_reducible refine WF ?_)
theorem UW {o:Bool}:AX enc 221 (λb=>[pv b d,.bool o]) (Ex o):=by
 refine ⟨λ{st0 b s st rows K} U h=>?_⟩
 simp only [Ex,Rd.wp_seq,Rd.wp_ret] at h
 have hmu:=U.mu
 refine pB Tryz.func221 ?_
 repeat' ((conv=>whnf);(first|refine Ba ?_|refine Bb ?_ ?_|refine Bc ?_ ?_|refine M8 ?_|refine TC ?_ ?_|refine Kr ?_|refine JQ ?_ ?_|exact Gw|refine Tw ?_|refine Qn ?_|refine Ad ?_)<;>intros)
 refine CS (λl own=>[(5,.slice 6 (l.map AP) own)]) (λ_ _=>[]) [1,2,4] [0,1] (λl own=>(own,l)::rows) (λl=>l.length) .full (Cx.push ‹_› _) ‹_› (by show 1+_<=_;omega) Yl ?_
 intro l s1 st1 own1 U h hl hm1
 simp only [cI,bm,Rd.Ag,Rd.Ax,Rd.wp_seq,Rd.wp_ret,Rd.BJ] at h
 repeat' ((conv=>whnf);(first|refine Ba ?_|refine Bb ?_ ?_|refine Bc ?_ ?_|refine M8 ?_|refine TC ?_ ?_|refine Kr ?_|refine JQ ?_ ?_|exact Gw|refine Tw ?_|refine Qn ?_|refine Ad ?_|refine Gl.go (by first|exact AX.q|exact (qA (o:=o)).a) ?_ ?_)<;>intros)
theorem aa:AX enc 227 (λb=>[pv b d]) G7:=by
 refine ⟨λ{st0 b s st rows K} U h=>?_⟩
 simp only [G7,LB,LC,LD,Rd.Ag,Rd.Ax,Rd.wp_seq,Rd.wp_ret] at h
 have hmu:=U.mu
 refine pB Tryz.func227 ?_
 repeat' ((conv=>whnf);(first|refine Ba ?_|refine Bb ?_ ?_|refine Bc ?_ ?_|refine M8 ?_|refine TC ?_ ?_|refine Kr ?_|refine JQ ?_ ?_|exact Gw|refine Tw ?_|refine Qn ?_|refine Ad ?_|refine Gl.go (by first|exact AX.q|exact (EB (ks:=[2,4]) rfl).a|exact (UW (o:=true)).a) ?_ ?_|refine Cx.Hp (l:=[_]) (Cx.push ‹_› [_]) (Nat.le_of_ble_eq_true rfl) ?_)<;>intros)
theorem Z9 (hf:AX enc 287 (λb=>[pv b d]) F):AX enc 234 (λb=>[pv b d]) (G5 F):=by
 refine ⟨λ{st0 b s st rows K} U h=>?_⟩
 simp only [G5,Jk,KS,HU,Jl,Rd.Ag,Rd.Ax,Rd.wp_seq,Rd.wp_ret,ue] at h
 have hmu:=U.mu
 refine pB Tryz.func234 ?_
 repeat' ((conv=>whnf);(first|exact zh ‹_› ‹_›|refine zK ‹_› ‹_› ‹_› Do ?_ ?_|refine qs ‹_› ‹_› ‹_› Do ?_|refine Ba ?_|refine Bb ?_ ?_|refine Bc ?_ ?_|refine M8 ?_|refine TC ?_ ?_|refine Kr ?_|refine JQ ?_ ?_|refine Yt6 ?_|exact Gw|refine Tw ?_|refine Qn ?_|refine Ad ?_|refine Gl.go (by first|exact AX.q|exact (EB (ks:=[1]) rfl).a|exact Pf.a) ?_ ?_|refine Q5 (Cx.has ‹_›) ?_ ?_|refine mV ‹_› ‹_› AC ?_|refine Cx.Hp (l:=[_]) (Cx.push ‹_› [_]) (Nat.le_of_ble_eq_true rfl) ?_)<;>intros)
theorem XC (hw:AX enc 276 (λb=>[pv b d]) W):AX enc 233 (λb=>[pv b d]) (FL W):=by
 refine ⟨λ{st0 b s st rows K} hc h=>?_⟩
 simp only [FL,Rd.wp_seq,Rd.wp_ret] at h
 have hmu:=hc.mu
 refine pB Tryz.func233 ?_
 repeat' ((conv=>whnf);first|exact Dr|(refine Ba ?_;intros)|(refine Ds ?_ ?_ ?_;rotate_left)|(refine Bb ?_ ?_<;>intro e h)|(refine Bc ?_ ?_<;>intro _)|(refine Kr ?_;intro s1 U hz hm hc h)|(refine JQ ?_ ?_<;>(first|intro n s1 U hr hm hc h|intro e s1 U hc h))|exact Gw|refine Tw ?_|refine Ad (λe1=>?_)|refine JJ (l:=[_,_]) (fs:=[pv b d]) (cs:=[]) hw.z (Nat.le_of_ble_eq_true rfl) (hc.push _) h (λl own1 s1 U hm hc h=>?_) (λe s1 U hc h=>?_)|refine Af [(0,true),(1,true),(3,true),(4,true),(2,false),(5,false),(6,true),(7,true)] [] GE ?_|with_reducible refine WF ?_)
end
theorem Cx.wa {st:St} {c:Nat} {s:Ae} {rows:List (AH×List Nd)} {cs':List V} (h:Cx (st0.Aa c cs) b s st rows) (U:c≠b):Cx (st0.Aa c cs') b s (st.Aa c cs') rows:=by
 obtain ⟨c0,hr⟩:=h.rx
 refine ⟨?_,⟨c0,?_⟩,h.mu⟩
 .rcases h.has with e|⟨q1,q2,q3,q4,q5,e⟩
  .exact .inl (by rw [St.Ai U];exact e)
  .exact .inr ⟨q1,q2,q3,q4,q5,by rw [St.Ai U];exact e⟩
 .rw [S6 U] at hr |-
  exact hr.Aa
section
variable {st0 st:St} {b d c:Nat} {s:Ae} {rows:List (AH×List Nd)} {K R:AB->St->Prop} {A B C D E F:Rd Nd}
attribute [local irreducible] Go.Aw.Am
theorem vm (h1:AX enc 227 (λb=>[pv b d]) G7) (h2:AX enc 228 (λb=>[pv b d]) (He B C)) (h3:AX enc 229 (λb=>[pv b d]) (Pu A B C)) (h4:AX enc 230 (λb=>[pv b d]) (Ha A B C))
 (h5:AX enc 231 (λb=>[pv b d]) (KL B F)) (h6:AX enc 232 (λb=>[pv b d]) (FO B F)) (h7:AX enc 233 (λb=>[pv b d]) (FL C)) (h8:AX enc 234 (λb=>[pv b d]) (G5 D))
 (he:AX enc 110 (λb=>[.ptr b 0,.func 226 [] [],.int .i64 (d:Int)]) E):AX enc 192 (λb=>[pv b d]) (af A B C D E F):=by
 refine ⟨λ{st0 b s st rows K} U h=>?_⟩
 simp only [af,Rd.Ag,Rd.Ax] at h
 have hmu:=U.mu
 refine pB Tryz.func192 ?_
 repeat' ((conv=>whnf);(first|refine Ba ?_|refine Bb ?_ ?_|refine Bc ?_ ?_|refine M8 ?_|exact Gw|refine Ad ?_|refine Gl.go (by first|exact AX.q) ?_ ?_)<;>intros)
theorem lI {l:List Nd} {c2:Nat} {Q:Nd->Ae->Prop} {E:Er->Ae->Prop} (ht:AX enc 192 (λb=>[pv b d]) A) (hF:Rd.A4 A) (f2:st0.box c2=none/\c2≠b)
 (hc:Cx (st0.Aa c2 [.bool (l.any λx=> !(x.kind==50))]) b s st rows) (h:Rd.wp (Kn A l) s Q E)
 (k:∀n s1 U,mu s1<mu s->Cx (st0.Aa c2 [.bool ((l++[n]).any λx=> !(x.kind==50))]) b s1 U rows->Q n s1->K (.ret (enc n)) U)
 (kb:∀e s1 U,Cy st0 b s1 U rows->E e s1->K (.Cd (fault e.1)) U):PC 191 [zE b d,.ptr c2 0] st K:=by
 simp only [Kn,Rd.Ag,Rd.wp_seq,Rd.Ax,Rd.wp_ret,Rd.Fb] at h
 simp only [List.any_append,List.any_cons,List.any_nil,Bool.or_false] at k
 have hmu:=hc.mu
 generalize (l.any λx=> !(x.kind==50))=o at hc h k
 refine A6 Ac [] Tryz.func191 rfl Do rfl ?_
 refine Al (An Ac ?_)
 repeat' ((conv=>whnf);(first|refine Ba ?_|refine Bb ?_ ?_|refine Bc ?_ ?_|fail)<;>intros)
 refine Al (An Ac ?_)
 repeat' ((conv=>whnf);first|(refine Ba ?_;intros)|(refine Bb ?_ ?_<;>intro e h)|(refine Bc ?_ ?_<;>intro _)|refine CD ?_|exact Gw|refine Ad (λe1=>?_)|refine Q5 hc.has ?_ (λt u o1 o2 e=>?_))
 all_goals refine Al (An Ac ?_)
 all_goals (repeat' ((conv=>whnf);first|(refine Ba ?_;intros)|(refine Bb ?_ ?_<;>intro e h)|(refine Bc ?_ ?_<;>intro _)|refine CD ?_|exact Gw|refine Ad (λe1=>?_)|refine AX.vP ht hF hc h (λn s1 U hr hm hc h=>?_) (λe s1 U hc h=>?_)|exact ⟨_,_,.inl rfl,St.le_refl _,kb _ _ _ (hc.unbox f2) h⟩|fail))
 all_goals cases hk:n.kind==50
 all_goals cases o
 all_goals simp only [hk,Bool.and_false,Bool.and_true,Bool.false_and,Bool.true_and,Bool.false_eq_true,if_false,if_true] at h
 all_goals have hk2:=hk
 all_goals simp only [beq_iff_eq,beq_eq_false_iff_ne] at hk2
 all_goals refine An Ac ?_
 all_goals (repeat' ((conv=>whnf);first|(refine Ba ?_;intros)|(refine Bb ?_ ?_<;>intro e h)|(refine Bc ?_ ?_<;>intro _)|refine Ah (Cx.boxed hc f2) ?_|refine GW hc hmu (λU hc=>?_)|refine CD ?_|exact BR rfl (k _ _ _ hm (by rw [hk]<;>exact Cx.wa hc f2.2) h)|exact BR rfl (k _ _ _ hm (by exact Cx.wa hc f2.2) h)|exact ⟨_,_,.inl rfl,St.le_refl _,kb _ _ _ (hc.y.unbox f2) h⟩|fail))
theorem bH {X:Ae->Rs} {hle:∀s v s',X s=.inr (v,s')->mu s'<=mu s} (h:∀s v s',X s=.inr (v,s')->mu s'<mu s):Rd.A4 (Ia X hle):=λs v s' e=>h s v s' (by
 unfold Ia at e
 dsimp only at e
 split at e
 .split at e<;>cases e
 .rename_i U;rw [U];injection e with e;rw [e])
theorem wz {A:Rd Nd} {hle:∀s v s',CZ A s=.inr (v,s')->mu s'<=mu s} {Q:Nd->Ae->Prop} {E:Er->Ae->Prop} (h:Rd.wp A s Q E):Rd.wp (Ia (CZ A) hle) s Q E:=by
 have e:(Ia (CZ A) hle).run s=A.run s:=by
  unfold Ia CZ
  dsimp only
  cases U:A.run s with
  |inl p=>simp only [U];rw [dif_neg p.1.2]
  |inr p=>simp only [U]
 unfold Rd.wp at h |-
 rw [e];exact h
theorem ni {A:Rd Nd} (hf:DQ g (d:Int) (CZ A)) (h0:d=0->∀s,CZ A s=.inl (2,s)):AX enc 110 (λb=>[.ptr b 0,.func g [] [],.int .i64 (d:Int)]) A:=
 ⟨λ{st0 b s st rows K} hc h=>(NC (A:=CZ A) (hle:=λs v s' e=>by
   unfold CZ at e
   split at e
   .cases e
   .rename_i p hp;cases e;exact A.le _ _ _ hp) (λs e s' U=>by
   unfold CZ at U
   split at U
   .rename_i p hp;cases U;exact p.1.2
   .cases U) hf h0).ap hc (wz h)⟩
theorem iw (U:1<=d) (h1:d<=100):AX enc 110 (λb=>[.ptr b 0,.func 226 [] [],.int .i64 (d:Int)]) (Ro d):=
 ni (λs hm st R h=>vD (deep:=(d:Int)) hm (by rw [Rr U h1];exact h)) (λe=>by omega)
theorem bV (U:d<=100):AX enc 110 (λb=>[.ptr b 0,.func 326 [] [],.int .i64 (d:Int)]) (OC d):=
 ni (λs hm st R h=>rf (deep:=(d:Int)) hm (by
  cases d with
  |zero=>exact h
  |succ d=>rw [Rr (Nat.succ_le_succ (Nat.zero_le d)) U];exact h)) (λe=>by subst e;intro s;rfl)
theorem vf (h0:1<=d) (U:d<=100):AX enc 192 (λb=>[pv b d]) (kB d):=by
 have ha:=qt h0 U
 have hr:=vh h0 U
 have hw:=kG h0 U
 have hA:Rd.A4 (XB d):=bH λs v s' e=>BK (Bo _) _ _ _ e
 have hc:=dv hA (qJ ha) (kx (Th ha) hw)
 have hd:AX enc 110 (λb=>[.ptr b 0,.func 326 [] [],.int .i64 ((d:Int) - 1)]) (OC (d - 1)):=by
  have:=bV (d:=d - 1) AC
  rwa [show (((d - 1:Nat)):Int)=(d:Int) - 1 by omega] at this
 exact vm aa (aq hr hw Pc) (qu hc hr) (ab hc hr) (ko hr hd U) (XE hr hd U) (XC hw) (Z9 (qz h0 U)) (iw h0 U)
theorem kn (ht:AX enc 192 (λb=>[pv b d]) A) (hF:Rd.A4 A):AX enc 156 (λb=>[pv b d]) (Of A):=by
 refine ⟨λ{st0 b s st rows K} hc h=>?_⟩
 refine A6 Ac [] Tryz.func156 rfl Do rfl ?_
 refine Al (An Ac ?_)
 repeat' ((conv=>whnf);(first|refine Ba ?_|refine Bb ?_ ?_|refine Bc ?_ ?_|fail)<;>intros)
 refine Qm 1 0 rfl rfl rfl ?_
 refine Al (An Ac ?_)
 repeat' ((conv=>whnf);(first|refine Ba ?_|refine Bb ?_ ?_|refine Bc ?_ ?_|fail)<;>intros)
 refine Ms 3 2 rfl rfl rfl (λc fc=>?_)
 have U:=hc.VP fc
 have hc:=hc.Xc (cs:=[.bool false]) fc
 have hB:∀{K:AB->St->Prop},Rd.wp (Of A) s (λn s'=>∀(l:List Nd) st',Cx (st0.Aa c [.bool (l.any λx=> !(x.kind==50))]) b s' st' rows->K (.ret (enc n)) st') (λe s'=>∀st',Cy st0 b s' st' rows->K (.Cd (fault e.1)) st')->PC 189 [.ptr b 0,.func 190 [] [],.func 191 [] [zE b d,.ptr c 0]] (st.Aa c [.bool false]) K:=λh=>
  T4 (fs:=[]) (cs:=[zE b d,.ptr c 0]) (starts:=Oj) (base:=λl=>st0.Aa c [.bool (l.any λx=> !(x.kind==50))]) (item:=Kn A) (λk=>kF k)
   (λl s st rows K Q E hc h k kb=>lI ht hF U hc h k kb) (λhc=>hc.unbox U) hc h
 refine An Ac ?_
 repeat' ((conv=>whnf);first|(refine Ba ?_;intros)|(refine Bb ?_ ?_<;>intro e h)|(refine Bc ?_ ?_<;>intro _)|refine hB (Rd.wp_mono h (λv s' r q l st' hk=>?_) (λe s' r q st' hk=>?_))|exact Dn (hk.unbox U) q rfl|exact Dn (hk.unbox U) q Cn|exact B5 hk q|fail)
theorem du (U:1<=d) (h1:d<=100):AX enc 156 (λb=>[pv b d]) (G0 d):=kn (vf U h1) (bJ d)
end
section
variable {st0 st:St} {b d c:Nat} {s:Ae} {K R:AB->St->Prop}
theorem vi {A:Rd Nd} (hA:AX enc g (λb=>[pv b d]++cs) A) (hx:st.box c=some [.func g [] cs]) (hs:Has st b s) (hm:mu s<=100000000) (ht:Fj st b K (CZ A s)):PC 188 [.ptr b 0,.int .i64 (d:Int),.ptr c 0] st K:=by
 have U:∀{K:AB->St->Prop},Fj st b K (CZ A s)->PC g ([pv b d]++cs) st K:=λh=>S7 hA hs hm h
 refine pB Tryz.func188 ?_
 unfold CZ at *
 cases hr:A.run s with
 |inl p=>
  rw [hr] at ht U
  repeat' ((conv=>whnf);first|(refine Ba ?_;intros)|(refine Bb ?_ ?_<;>intro e h)|(refine Bc ?_ ?_<;>intro _)|refine Ah hx ?_|refine Bp.2 ?_|refine U (λst1 hu=>?_))
  all_goals exact ⟨_,_,.inl rfl,St.le_refl _,ht _ hu⟩
 |inr p=>
  rw [hr] at ht U
  repeat' ((conv=>whnf);first|(refine Ba ?_;intros)|(refine Bb ?_ ?_<;>intro e h)|(refine Bc ?_ ?_<;>intro _)|refine Ah hx ?_|refine Bp.2 ?_|refine U (λst1 hu=>?_))
  all_goals exact BR rfl (ht _ hu)
theorem qM {deep:Int} {A:Nat->Rd Nd} (hA:∀d:Nat,1<=d->d<=100->AX enc g (λb=>[pv b d]++cs) (A d)) (hm:mu s<=100000000) (h:K (.ret (Kt (BV s deep (CZ (A (Ed deep)) s)))) st):
 PC 155 [D4 s,.int .i64 deep,.func g [] cs] st K:=by
 refine A6 Ac [] Tryz.func155 rfl Do rfl ?_
 refine Al (An Ac ?_)
 repeat' ((conv=>whnf);(first|refine Ba ?_|refine Bb ?_ ?_|refine Bc ?_ ?_|fail)<;>intros)
 refine Ms 5 1 rfl rfl rfl (λc fc=>?_)
 refine An Ac ?_
 have hq:¬deep<1->∀(b:Nat) (U:St) (R:AB->St->Prop),(st.Aa c [.func g [] cs]).le U->Has U b s->Fj U b R (CZ (A (Ed deep)) s)->PC 188 [.ptr b 0,.int .i64 (if 100<deep then 100 else deep),.ptr c 0] U R:=λhd b U R hle hs ht=>by
  have e:(if 100<deep then 100 else deep)=((Ed deep:Nat):Int):=by unfold Ed;split<;>omega
  rw [e]
  exact vi (hA _ (by unfold Ed;split<;>omega) (by unfold Ed;split<;>omega)) (hle.1 _ _ (St.Aj ..)) hs hm ht
 obtain ⟨n,s',e,hq3⟩:∃n s' e,BV s deep (CZ (A (Ed deep)) s)=(n,s',e):=⟨_,_,_,rfl⟩
 rw [hq3] at h
 have hcat:∀{K:AB->St->Prop},K (.ret (RB n s' e)) (st.Aa c [.func g [] cs])->PC 64 [D4 s,.int .i64 deep,.func 188 [] [.ptr c 0]] (st.Aa c [.func g [] cs]) K:=λk=>dY (s:=s) (q:=CZ (A (Ed deep)) s) hq (by rw [hq3];exact k)
 repeat' ((conv=>whnf);(first|refine Ba ?_|refine Bb ?_ ?_|refine Bc ?_ ?_|refine hcat ?_)<;>intros)
 all_goals exact EV (St.Ak (St.le_refl _) fc.1 _) rfl h
theorem kQ {deep:Int} (hm:mu s<=100000000) (h:K (.ret (Kt (BV s deep (CZ (G0 (Ed deep)) s)))) st):PC 111 [D4 s,.int .i64 deep] st K:=by
 refine pB Tryz.func111 ?_
 repeat' ((conv=>whnf);(first|refine Ba ?_|refine Bb ?_ ?_|refine Bc ?_ ?_|refine qM (s:=s) (cs:=[]) (A:=G0) (λd U h1=>du U h1) hm ?_)<;>intros)
 all_goals exact BR rfl h
end
section
variable {st:St} {K:AB->St->Prop}
attribute [local irreducible] Go.Aw.Am
theorem jd {o:Bool}:AX enc 220 (λb=>[pv b d]++[.G3 [.bool o] 0]) (Ex o):=by
 refine ⟨λ{st0 b s st rows K} U h=>?_⟩
 refine pB Tryz.func220 ?_
 repeat' ((conv=>whnf);first|(refine Ba ?_;intros)|(refine Bb ?_ ?_<;>intro e h)|(refine Bc ?_ ?_<;>intro _)|refine AX.go (UW (o:=o)) U h (λn s1 st1 hr hm U h=>?_) (λe s1 st1 U h=>?_)|exact Dn U h rfl|exact Dn U h Cn|exact B5 U h|fail)
theorem kR {s:Ae} {o:Bool} (U:mu s<=100000000) (h:K (.ret (Kt (BV s 1 (CZ (Ex o) s)))) st):PC 187 [D4 s,.bool o] st K:=by
 refine A6 Ac [] Tryz.func187 rfl Do rfl ?_
 refine Al (An Ac ?_)
 repeat' ((conv=>whnf);first|(refine Ba ?_;intros)|(refine Bb ?_ ?_<;>intro e h)|(refine Bc ?_ ?_<;>intro _)|fail)
 refine Qm 3 1 rfl rfl rfl ?_
 refine An Ac ?_
 repeat' ((conv=>whnf);first|(refine Ba ?_;intros)|(refine Bb ?_ ?_<;>intro e h)|(refine Bc ?_ ?_<;>intro _)|refine qM (s:=s) (deep:=1) (cs:=[.G3 [.bool o] 0]) (A:=λ_=>Ex o) (λd h0 h1=>jd) U ?_)
 all_goals exact BR rfl h
end
def Fy:Rd (List Nd):=.look λs=>if AZ s 9 E9=true then .seq Az λm=>.seq (CX [2,4]) λn=>.look λs=>
 if AZ s 15 [40]=true then .seq (Ex false) λx=>.seq (A0 9 Dd) λw=>.ret ([m]++[n]++[x]++[w]) else .seq (A0 9 Dd) λw=>.ret ([m]++[n]++[w])
 else .ret []
def QD (A:Rd Nd):Rd Nd:=.seq Fy λl=>.seq A λb=>.look λs=>if ((Ab s).1.kind==21)=true then .ret (As 53 (l++[b])) else HO
def CF (d:Nat):Rd Nd:=QD (G0 d)
theorem bT {s s':Ae} {l:List Nd} (h:Fy.run s=.inr (l,s')):l.length<=4:=by
 replace h:(if AZ s 9 E9=true then .seq Az λm=>.seq (CX [2,4]) λn=>.look λs=>
  if AZ s 15 [40]=true then .seq (Ex false) λx=>.seq (A0 9 Dd) λw=>.ret ([m]++[n]++[x]++[w]) else .seq (A0 9 Dd) λw=>.ret ([m]++[n]++[w])
 else .ret []:Rd (List Nd)).run s=.inr (l,s'):=h
 split at h
 .obtain ⟨m,s1,_,h⟩:=AU h
  obtain ⟨n,s2,_,h⟩:=AU h
  replace h:(if AZ s2 15 [40]=true then .seq (Ex false) λx=>.seq (A0 9 Dd) λw=>.ret ([m]++[n]++[x]++[w]) else .seq (A0 9 Dd) λw=>.ret ([m]++[n]++[w]):Rd (List Nd)).run s2=.inr (l,s'):=h
  split at h
  .obtain ⟨x,s3,_,h⟩:=AU h
   obtain ⟨w,s4,_,h⟩:=AU h
   cases h;simp
  .obtain ⟨w,s4,_,h⟩:=AU h
   cases h;simp
 .cases h;simp
section
variable {st0 st:St} {b d:Nat} {s:Ae} {rows:List (AH×List Nd)} {K R:AB->St->Prop}
attribute [local irreducible] Go.Aw.Am
theorem dS {A:Rd Nd}:Fh (CZ A):=λs e s' U=>by
 unfold CZ at U
 split at U
 .rename_i p hp;cases U;exact p.1.2
 .cases U
theorem ng {x:Int} {A:Rd Nd} (U:∀(s:Ae),mu s<=100000000->∀(st:St) (R:AB->St->Prop),R (.ret (Kt (BV s 1 (CZ A s)))) st->PC g [D4 s,.int .i64 x] st R):
 AX enc 110 (λb=>[.ptr b 0,.func g [] [],.int .i64 x]) A:=⟨λ{st0 b s st rows K} hc h=>by
 have ht:=S9 (A:=CZ A) (hle:=λs v s' e=>by
  unfold CZ at e
  split at e
  .cases e
  .rename_i p hp;cases e;exact A.le _ _ _ hp) dS hc (wz h)
 have U:=U s hc.mu
 unfold BV at U
 simp only [show ¬(1:Int)<1 by decide,if_false] at U
 cases hq:CZ A s with
 |inr p=>
  rw [hq] at ht U
  exact RV (n:=p.1) (s':=p.2) (e:=0) U hc.has (λ_=>ht) (λe=>absurd rfl e)
 |inl p=>
  rw [hq] at ht U
  have hne:=dS s p.1 p.2 hq
  exact RV (n:=Gj) (s':=p.2) (e:=p.1) U hc.has (λe=>absurd e hne) (λ_=>ht)⟩
theorem oj {x:Int} (hm:mu s<=100000000) (h:K (.ret (Kt (BV s 1 (CZ (Ex false) s)))) st):PC 152 [D4 s,.int .i64 x] st K:=by
 obtain ⟨n,t,e,U⟩:∃n t e,BV s 1 (CZ (Ex false) s)=(n,t,e):=⟨_,_,_,rfl⟩
 have hn:∀{st:St} {K:AB->St->Prop},K (.ret (RB n t e)) st->PC 187 [D4 s,.bool false] st K:=λh=>kR hm (by rw [U];exact h)
 rw [U] at h
 refine pB Tryz.func152 ?_
 repeat' ((conv=>whnf);first|(refine Br ?_;intros)|(refine Bs ?_ ?_<;>intro _)|refine hn ?_)
 all_goals exact BR rfl h
theorem cE:rl pF (λl=>l) 109 (λb=>[.ptr b 0]) Fy:=by
 refine ⟨λ{st0 b s st rows K} hc h=>?_⟩
 simp only [Fy,Rd.Ag,Rd.Ax,Rd.wp_seq,Rd.wp_ret] at h
 have hmu:=hc.mu
 have hn:AX enc 110 (λb=>[.ptr b 0,.func 152 [] [],.int .i64 0]) (Ex false):=ng λs hm st R h=>oj hm h
 refine pB Tryz.func109 ?_
 repeat' ((conv=>whnf);first|(refine Br ?_;intros)|(refine Bs ?_ ?_<;>intro _)|refine Gm (λ_=>?_) ?_|(refine M8 ?_;intro U hc)|(refine TC ?_ ?_<;>intro U hc e h)|(refine Kr ?_;intro s1 U hz hm hc h)|(refine JQ ?_ ?_<;>(first|intro n s1 U hr hm hc h|intro e s1 U hc h))|exact Gw|(refine Qn ?_;intro own1 U hc)|refine Ad (λe1=>?_)|refine AX.go (EB (ks:=[2,4]) rfl) hc h (λn s1 U hr hm hc h=>?_) (λe s1 U hc h=>?_)|refine AX.go hn hc h (λn s1 U hr hm hc h=>?_) (λe s1 U hc h=>?_)|refine Cx.Hp (l:=[_]) (hc.push [_]) (Nat.le_of_ble_eq_true rfl) (λown1 U hc=>?_)|exact fin (h .full _ (hc.push [])) rfl|fail)
theorem cD {Q:List Nd->Ae->Prop} {E:Er->Ae->Prop} (hc:Cx st0 b s st rows) (h:Rd.wp Fy s Q E)
 (k:∀l own1 s1 U,l.length<=4->mu s1<=mu s->Cx st0 b s1 U ((own1,l)::rows)->Q l s1->K (.ret (pF l own1)) U) (kb:∀e s1 U,Cy st0 b s1 U rows->E e s1->K (.Cd (fault e.1)) U):PC 109 [.ptr b 0] st K:=
 rl.go cE hc h (λl own1 s1 U hr hm hc h=>k l own1 s1 U (bT hr) hm hc h) kb
theorem cH (h0:1<=d) (h1:d<=100):AX enc 65 (λb=>[.ptr b 0,.int .i64 (d:Int)]) (CF d):=by
 refine ⟨λ{st0 b s st rows K} hc h=>?_⟩
 simp only [CF,QD,Rd.Ag,Rd.Ax,Rd.wp_seq,Rd.wp_ret] at h
 have hmu:=hc.mu
 have hb:AX enc 110 (λb=>[.ptr b 0,.func 111 [] [],.int .i64 (d:Int)]) (G0 d):=ni (λs hm st R h=>kQ hm (by rw [Rr h0 h1];exact h)) (λe=>by omega)
 refine pB Tryz.func65 ?_
 repeat' ((conv=>whnf);first|refine Gz h (λe h=>?_) (λe h=>?_)|(refine Br ?_;intros)|(refine Bs ?_ ?_<;>intro _)|(refine M8 ?_;intro U hc)|(refine Yt6 ?_;intro e s1 U hc h)|exact Gw|(refine Qn ?_;intro own1 U hc)|refine Ad (λe1=>?_)|refine cD hc h (λl own1 s1 U hl hm hc h=>?_) (λe s1 U hc h=>?_)|refine AX.go hb hc h (λn s1 U hr hm hc h=>?_) (λe s1 U hc h=>?_)|refine Cx.Hp (l:=l) hc AC (λown1 U hc=>?_))
theorem kP {deep:Int} (hm:mu s<=100000000) (h:R (.ret (Kt (BV s deep (CZ (CF (Ed deep)) s)))) st):PC 40 [D4 s,.int .i64 deep] st R:=by
 obtain ⟨n,t,e,U⟩:∃n t e,BV s deep (CZ (CF (Ed deep)) s)=(n,t,e):=⟨_,_,_,rfl⟩
 have hc:∀{K:AB->St->Prop},K (.ret (RB n t e)) st->PC 64 [D4 s,.int .i64 deep,.func 65 [] []] st K:=λh=>Ni (s:=s) (q:=CZ (CF (Ed deep)) s) (λhd b st5 R hs ht=>by
  have e:(if 100<deep then 100 else deep)=((Ed deep:Nat):Int):=by unfold Ed;split<;>omega
  rw [e]
  exact S7 (cH (by unfold Ed;split<;>omega) (by unfold Ed;split<;>omega)) hs hm ht) (by rw [U];exact h)
 rw [U] at h
 refine pB Tryz.func40 ?_
 repeat' ((conv=>whnf);first|(refine Br ?_;intros)|(refine Bs ?_ ?_<;>intro _)|refine hc ?_)
 all_goals exact BR rfl h
end
end Go.Proofs.Z
namespace Go.Aw
open Go
theorem kV {x y:Code} {env:Env} {st:St} {α:Type} (f:α->List (Nat×V)) (g:α->List (Nat×List V)) (keep U:List Nat) (S:α->St) (J:α->Prop)
 (hx:AW P x (Ca (λenv' st'=>∃p,J p/\(env.Ow (f p) (g p) keep U).FF env'/\St.le (S p) st') Q) env st)
 (hy:∀p,J p->AW P y Q (env.Ow (f p) (g p) keep U) (S p)):AW P (.seq x y) Q env st:=
 rz (λp=>env.Ow (f p) (g p) keep U) S J hy hx
end Go.Aw
namespace Go.Proofs.Z
open Go Go.Aw
def rB (st m:St) (nv:V) (l:List Nt):Prop:=
 (nv=.slice 5 [] .full/\l=[])\/∃b cap rest,nv=.GG 5 b l.length cap/\m.box b=some ((Fm l).flatten++rest)/\((Fm l).flatten++rest).length=cap*5/\st.box b=none/\l≠[]
structure RW where
 i:Nat
 x:Lx
 wait:Bool
 w1:AH
 nv:V
 m:St
def RW.BS (s:List UInt8) (st:St) (y:RW):Prop:=
 rB st y.m y.nv y.x.notes/\Ce st y.m y.w1 (y.x.Ar.length*4) .full 0/\BH s y.i/\0<=y.x.DL/\y.x.DL<=y.i/\y.x.Ar.length<=y.i/\y.x.notes.length<=y.i/\(y.wait=true->y.x.notes≠[])
theorem nF (a b:List (List UInt8)):Lib.lens (a++b)=Lib.lens a+Lib.lens b:=by simp [Lib.lens]
theorem nL {x y:Lx} (hv:Vd s) (hp:BH s p) (h:x.Ar.length<=p/\Lib.lens (x.Ar.map Tk.text)<=p) (e:DA s p x=.inr y):y.Ar.length<=s.length/\Lib.lens (y.Ar.map Tk.text)<=s.length:=by
 have hpl:=hp.le
 fun_induction DA s p x with
 |case1 p x U h1=>cases e
 |case2 p x U h1 h2 h3 ih=>
  obtain ⟨q,e1,e2,e3,e4⟩:=Sv hv hp AC h2
  have eq:(B7 s p).1.toNat=q:=AC
  rw [eq] at ih e
  have hb:=JR e3
  exact ih (e4.dU hv) ⟨by show x.Ar.length<=_;omega,by show Lib.lens (x.Ar.map Tk.text)<=_;omega⟩ e hb.2
 |case3 p x U h1 h2 h3=>injection e with e;subst e;omega
 |case4 p x U h1 h2 h3=>cases e
 |case5 p x U h1 h2 h3 h4 ih=>
  obtain ⟨e0,q,e1,e2,e3,e4⟩:=R6 hv hp AC
  have eq:(BA s p).2.1.toNat=q:=AC
  rw [eq] at ih e
  have hb:=JR e3
  have hpc:(AY s p q).length=q - p:=Jx AC e3
  have l1:(Ih s p q (BA s p).1 x).Ar.length=x.Ar.length+1:=by simp [Ih]
  have l2:Lib.lens ((Ih s p q (BA s p).1 x).Ar.map Tk.text)=Lib.lens (x.Ar.map Tk.text)+(q - p):=by
   show Lib.lens ((x.Ar++[_]).map Tk.text)=_
   rw [List.map_append,nF]
   simp [Lib.lens,hpc]
  exact ih (e4.dU hv) ⟨AC,AC⟩ e hb.2
 |case6 p x U h1 h2 h3 h4=>injection e with e;subst e;omega
 |case7 p x U=>injection e with e;subst e;omega
theorem R5 {y:Lx} (e:Ew s=.inr y):y.Ar.length<=s.length/\Lib.lens (y.Ar.map Tk.text)<=s.length:=by
 have ok:=eV e
 unfold Ew at e
 split at e
 .cases e
 .split at e
  .cases e
  .split at e
   .cases e
   .exact nL ok.2.1 (BH.dU ok.2.1 (.zero s)) ⟨Nat.zero_le _,Nat.zero_le _⟩ e
theorem iK {x:Lx} {i e:Int} (h:DA s p x=.inl (i,e)):e≠0:=by
 fun_induction DA s p x with
 |case1 p x U h1=>injection h with h;injection h with h h';omega
 |case2 p x U h1 h2 h3 ih=>exact ih h
 |case3 p x U h1 h2 h3=>cases h
 |case4 p x U h1 h2 h3=>injection h with h;injection h with h h';omega
 |case5 p x U h1 h2 h3 h4 ih=>exact ih h
 |case6 p x U h1 h2 h3 h4=>cases h
 |case7 p x U=>cases h
theorem YL {i e:Int} (h:Ew s=.inl (i,e)):e≠0:=by
 unfold Ew at h
 split at h
 .injection h with h;injection h with h h';omega
 .split at h
  .rename_i U
   injection h with h
   rw [h] at U;exact U
  .split at h
   .injection h with h;injection h with h h';omega
   .exact iK h
section
variable {st:St} {R:AB->St->Prop}
theorem zn {i e:Int} (hs:Ew s=.inl (i,e)) (h:∀st',st.le st'->R (.ret (.BM [.slice 4 [] .full,.slice 5 [] .full,.int .i64 i,.int .i64 e])) st'):PC 18 [.str s] st R:=by
 refine vR (λi' e' U=>?_) (λi' e' st' hle U=>?_) (λx w1 w2 st' U=>?_)
 .rw [hs] at U;injection U with U;injection U with e1 e2;subst e1;subst e2;exact h st (St.le_refl _)
 .rw [hs] at U;injection U with U;injection U with e1 e2;subst e1;subst e2;exact h st' hle
 .rw [hs] at U;cases U
theorem vS {x:Lx} (hs:Ew s=.inr x) (h:∀w1 w2 st',st.le st'->R (.ret (.BM [.slice 4 (AQ x.Ar) w1,.slice 5 (Fm x.notes) w2,.int .i64 0,.int .i64 0])) st'):PC 18 [.str s] st R:=by
 refine vR (λi' e' U=>?_) (λi' e' st' hle U=>?_) (λx w1 w2 st' U hle=>?_)
 .rw [hs] at U;cases U
 .rw [hs] at U;cases U
 .rw [hs] at U;injection U with U;subst U;exact h w1 w2 st' hle
end
end Go.Proofs.Z
namespace Go.Aw
open Go
abbrev fw (ro:Option Nat):Fence:={Fence.wide with round:=ro}
section
variable {P:Program} {n:Nat} {ro:Option Nat}
theorem lN {args:Array Value} {R:Ending->World->Prop} (h:Calls P f args w R):CallsIn (fw ro) n P f args w R:=callsIn_wide.2 h
theorem uD {row:String} {args:Array Value} {R:Value->World->Prop} (h:Rows P row args w R):RowsIn (fw ro) n P row args w R:=λc cs _=>let ⟨v,w',r,s⟩:=h c cs;⟨v,w',r,stepsIn_wide.2 s⟩
theorem vZ {o:Oper} {a:Act} {next next':Act->World->Prop} {Q0 Q:Exit->Act->World->Prop} (nd:∀c,o.op≠.defer c) (h:o.wp P a w next Q0) (hn:∀a w,next a w->next' a w) (hq:∀e a w,e≠.normal->Q0 e a w->Q e a w):o.wpIn (fw ro) n P a w next' Q:=by
 refine ⟨λ_ _=>trivial,?_⟩
 rw [Oper.semAt_eq _ _ _ nd]
 unfold Oper.wp at h
 generalize (execOp a.eval o).run P w=r at h
 cases r with
 |ok x w'=>
  cases x<;>simp only [Oper.upon] at h<;>simp only [Oper.uponIn]
  all_goals first
   |exact hn _ _ h
   |exact ⟨λe=>(by cases e),(lN h).mono λe w'' U=>by cases e<;>first|exact hn _ _ U|exact hq _ _ _ GT U|exact U.imp λa U=>U.imp λw U=>hq _ _ _ GT U⟩
   |exact ⟨λe=>(by cases e),(uD h).mono λv w'' U=>hn _ _ U⟩
 |halt x w'=>cases x<;>simp only [Oper.upon] at h<;>simp only [Oper.uponIn]<;>exact hq _ _ _ GT h
theorem QA {ops:Array Oper} {Q0 Q:Exit->Act->World->Prop} (hl:¬LetsOut Q0) (hq:∀e a w,e≠.normal->Q0 e a w->Q e a w) {l2:List Oper} (hN:∀a w,Q0 .normal a w->wpListIn (fw ro) n P ops Q l2 a w):
 ∀(l1:List Oper) (a:Act) (w:World),(∀o ∈ l1,∀c,o.op≠.defer c)->wpList P ops Q0 l1 a w->wpListIn (fw ro) n P ops Q (l1++l2) a w
 |[],a,w,_,h=>hN a w h
 |o::r,a,w,nd,h=>by
  have ih:=QA hl hq hN r
  unfold wpList at h
  rw [List.cons_append]
  unfold wpListIn
  split
  .rename_i hw
   rw [if_pos hw] at h
   rcases h with h|h
   .exact vZ (nd o List.mem_cons_self) h (λa w h=>ih a w (λo U=>nd o (List.mem_cons_of_mem _ U)) h) hq
   simp_all
  .rename_i hw
   rw [if_neg hw] at h
   exact ⟨λ_ _=>trivial,ih _ w (λo U=>nd o (List.mem_cons_of_mem _ U)) h⟩
theorem lj {ops:Array Oper} {md:Region.Mode} {Q0:Exit->Act->World->Prop} (hl:¬LetsOut Q0) (nd:∀o ∈ ops.toList,∀c,o.op≠.defer c):∀(fuel:Nat) (listed:Array Bool) (a:Act) (w:World),
 wpAny P md ops Q0 fuel listed a w->wpAnyIn (fw ro) n P md ops Q0 fuel listed a w
 |0,listed,a,w,h=>h
 |fuel+1,listed,a,w,h=>by
  have ih:=lj (md:=md) hl nd fuel
  refine ⟨h.1,λi hi=>?_⟩
  have U:=h.2 i hi
  unfold wpOp at U
  unfold wpOpIn
  split
  .simp_all
  .rename_i o ho
   rw [ho] at U
   dsimp only at U
   split
   .rename_i hw
    rw [if_pos hw] at U
    rcases U with U|U
    .exact vZ (nd o (by grind)) U (λa w h=>ih _ a w h) (λ_ _ _ _ h=>h)
    simp_all
   .rename_i hw
    rw [if_neg hw] at U
    exact ⟨λ_ _=>trivial,ih _ _ _ U⟩
theorem NK {D:List Deferred} {I0:Mem} {w0:World}:¬LetsOut (Ct D I0 st0 w0 Q):=by
 rintro ⟨a,w,I,β,env,st,U,_,h,_⟩
 cases U<;>exact h
end
def QG (l:List Oper):Bool:=l.all λo=>match o.op with| .defer _=>false|_=>true
theorem KZ {l:List Oper} (h:QG l=true):∀o ∈ l,∀c,o.op≠.defer c:=λo U c e=>by
 have:=List.all_eq_true.1 h o U
 simp_all
def GZ:Code->Bool
 | .skip=>true
 | .region _ ops _=>QG ops.toList
 | .seq x y=>GZ x&&GZ y
 | .cond _ x y=>GZ x&&GZ y
 | .block _ c=>GZ c
 |_=>false
section
variable {P:Program} {T:List (Nat×Ty)}
def AWr (P:Program) (ro:Option Nat) (c:Code) (Q:AF->Env->St->Prop) (env:Env) (st:St):Prop:=
 ∀n D I0 st0 w0 I β a w,Rel D I0 st0 w0 I β env st a w->c.wpIn (fw ro) n P (Ct D I0 st0 w0 Q) a w
theorem MA (hP:TZ P T) (ro:Option Nat):∀(c:Code) {Q:AF->Env->St->Prop} {env:Env} {st:St},GZ c=true->Qp T (A9 P) c Q env st->AWr P ro c Q env st
 | .skip,Q,env,st,_,k=>λn D I0 st0 w0 I β a w h=>wpIn_skip ⟨I,β,env,st,.normal,h,trivial,k⟩
 | .region id ops true,Q,env,st,U,k=>λn D I0 st0 w0 I β a w h=>by
   have hC:=BU P
   have hM:∀f args st (R R':AB->St->Prop),(∀r s,R r s->R' r s)->A9 P f args st R->A9 P f args st R':=λ_ _ _ _ _ h k=>k.mono h
   have k:(HZ env ops.toList ops.toList λk L=>(KM k ops.toList&&Jc L)=true/\I7 T (A9 P) ops.toList Q env env.boxes (Bm L env.boxes) ops.toList env st)\/∃(sched:List (Nat×Bool)) (L:List Nat),Kx sched ops.toList=true/\F8 T (A9 P) ops.toList sched L (Bm (L.map some) env.boxes) Q sched env st:=k
   refine wpIn_region_any hP.m (lj NK (KZ U) _ _ _ _ ?_)
   rcases k with k|⟨sched,L,k1,k2⟩
   .obtain ⟨h1,h2⟩:=J1.1 k
    have:=Ru hP.t hC hM h1 h2 h
    omega
   .have:=Up hP.t hC hM k1 k2 h
    omega
 | .region id ops false,Q,env,st,U,k=>λn D I0 st0 w0 I β a w h=>by
   have:=FT hP.t (BU P) h (show EO T (A9 P) ops.toList Q ops.toList env st from k)
   have h2:=QA (ro:=ro) (n:=n) (l2:=[]) NK (λ_ _ _ _ h=>h) (λa w h=>h) ops.toList a w (KZ U) (by simpa using this)
   rw [List.append_nil] at h2
   exact wpIn_region_list h2
 | .seq x y,Q,env,st,U,k=>λn D I0 st0 w0 I β a w h=>by
   simp only [GZ,Bool.and_eq_true] at U
   refine wpIn_seq (wpIn_mono (MA hP ro x U.1 (show Qp T (A9 P) x _ env st from k) n D I0 st0 w0 I β a w h) ?_)
   rintro e a w ⟨I,β,env,st,ae,h1,h2,h3⟩
   cases ae with
   |normal=>cases e<;>first|exact MA hP ro y U.2 h3 n D I0 st0 w0 I β a w h1|exact h2.elim
   |exit i=>cases e<;>first|exact ⟨I,β,env,st,.exit i,h1,h2,h3⟩|exact h2.elim
   |goto i=>cases e<;>first|exact ⟨I,β,env,st,.goto i,h1,h2,h3⟩|exact h2.elim
   |ret=>cases e<;>first|exact ⟨I,β,env,st,.ret,h1,h2,h3⟩|exact h2.elim
   |Cd v=>cases e<;>first|exact ⟨I,β,env,st,.Cd v,h1,h2,h3⟩|exact h2.elim
 | .cond c x y,Q,env,st,U,k=>λn D I0 st0 w0 I β a w h=>by
   simp only [GZ,Bool.and_eq_true] at U
   have hc:=h.f.eval c
   have k:(match env.eval c with
    | .bool t=>lit t (Qp T (A9 P) x Q env st) (Qp T (A9 P) y Q env st)
    |_=>False):=k
   split at k
   .rename_i t he
    rw [he] at hc
    have hc:=JC hc
    cases t with
    |true=>exact wpIn_cond_true hc (MA hP ro x U.1 (show Qp T (A9 P) x Q env st from k) n D I0 st0 w0 I β a w h)
    |false=>exact wpIn_cond_false hc (MA hP ro y U.2 (show Qp T (A9 P) y Q env st from k) n D I0 st0 w0 I β a w h)
   simp_all
 | .block id c,Q,env,st,U,k=>λn D I0 st0 w0 I β a w h=>by
   refine wpIn_block (wpIn_mono (MA hP ro c U (show Qp T (A9 P) c _ env st from k) n D I0 st0 w0 I β a w h) ?_)
   rintro e a w ⟨I,β,env,st,ae,h1,h2,h3⟩
   cases ae with
   |normal=>cases e<;>first|exact ⟨I,β,env,st,.normal,h1,trivial,h3⟩|exact h2.elim
   |exit i=>
    cases e<;>try exact h2.elim
    rename_i i'
    have h2:i'=i:=h2
    subst h2
    simp only [Rc] at h3
    show (if i'=id then Ct D I0 st0 w0 Q .normal a w else Ct D I0 st0 w0 Q (.exit i') a w)
    by_cases hi:i'=id
    .subst hi
     rw [if_pos rfl]
     simp only [Nat.beq_refl,cond_true] at h3
     exact ⟨I,β,env,st,.normal,h1,trivial,h3⟩
    .rw [if_neg hi]
     have:Nat.beq i' id=false:=by
      cases hb:Nat.beq i' id with
      |false=>rfl
      |true=>simp_all
     rw [this] at h3
     exact ⟨I,β,env,st,.exit i',h1,rfl,h3⟩
   |goto i=>cases e<;>first|exact ⟨I,β,env,st,.goto i,h1,h2,h3⟩|exact h2.elim
   |ret=>cases e<;>first|exact ⟨I,β,env,st,.ret,h1,h2,h3⟩|exact h2.elim
   |Cd v=>cases e<;>first|exact ⟨I,β,env,st,.Cd v,h1,h2,h3⟩|exact h2.elim
 | .loop _,_,_,_,U,_| .exit _,_,_,_,U,_| .goto _,_,_,_,U,_| .label _,_,_,_,U,_| .ret,_,_,_,U,_| .rangeFunc ..,_,_,_,U,_| .scope _,_,_,_,U,_| .refuse _,_,_,_,U,_=>by cases U
end
section
variable {D:List Deferred} {P:Program} {T:List (Nat×Ty)} {I0 I:Mem} {st0 st:St} {w0 w:World} {β:Nat->Option Nat} {env:Env} {a:Act}
theorem uj {l:Nat} {r:Loop} {o:Nat} {v:Value} (U:w.heap[l]? =some (.loop r)) (h:w.cell? ⟨b,o,none⟩=some v):b≠l:=by
 rintro rfl
 simp [World.cell?,U] at h
theorem CU.put {l:Nat} {r r':Loop} (h:CU I st w) (hl:w.heap[l]? =some (.loop r)):CU I st (w.putObj l (.loop r')):=by
 have ne:∀{b:Nat} {c:Array Value} {ty:TypeId},w.heap[b]? =some (.cells c ty (0,0))->b≠l:=λe=>by grind
 refine ⟨λb o v e=>?_,λb n e=>?_,λb cs e=>?_,h.IV,λb n e=>?_,h.UU⟩
 .have e:=h.cell b o v e
  rw [Hq (World.putObj_heap_other (uj hl e))];exact e
 .obtain ⟨c,ty,U,h2⟩:=h.shape b n e
  exact ⟨c,ty,by rw [World.putObj_heap_other (ne U)];exact U,h2⟩
 .obtain ⟨vs,ty,U,h2⟩:=h.box b cs e
  exact ⟨vs,ty,by rw [World.putObj_heap_other (ne U)];exact U,h2⟩
 .rw [World.putObj_size];exact h.hw b n e
def Idle (l:Nat) (st:St):Prop:=st.box l=none/\st.hw l=none
theorem Idle.fr {l:Nat} {I':Mem} {st':St} (h:Idle l st) (hl:l<w.heap.size) (U:Fr I st w I' st' w'):Idle l st'/\w'.heap[l]? =w.heap[l]? :=by
 refine ⟨?_,U.Mn l hl h.1 h.2⟩
 have:¬(st'.box l≠none\/st'.hw l≠none):=λe=>by
  rcases U.L9 l e with e|e|e
  .omega
  .exact e h.1
  .exact e h.2
 exact ⟨Classical.byContradiction λe=>this (.inl e),Classical.byContradiction λe=>this (.inr e)⟩
theorem J7 {l:Nat} {o:Obj} (h:w.heap[l]? =some o):l<w.heap.size:=(Array.getElem?_eq_some_iff.1 h).1
def YS (P:Program) (l:Nat) (r:Loop) (Im:Mem) (vs:List V) (st:St) (K:St->Prop):Prop:=
 ∀n I w (U:List Value),Im.le I->CU I st w->Aq I vs U->w.heap[l]? =some (.loop r)->Idle l st->
  YieldAt (fw none) n P l U.toArray w λe w'=>e=.returned (.bool true)/\∃I' st',Fr I st w I' st' w'/\CU I' st' w'/\K st'
theorem YS.mono {l:Nat} {r:Loop} {Im:Mem} {vs:List V} {K K':St->Prop} (h:YS P l r Im vs st K) (k:∀st,K st->K' st):YS P l r Im vs st K':=λn I w U h1 h2 h3 h4 h5=>by
 obtain ⟨fn,tmps,assign,body,e,hr⟩:=h n I w U h1 h2 h3 h4 h5
 exact ⟨fn,tmps,assign,body,e,hr.mono λe w' ⟨e1,I',st',q1,q2,q3⟩=>⟨e1,I',st',q1,q2,k _ q3⟩⟩
def fO (P:Program) (T:List (Nat×Ty)) (assign body:Code) (env:Env) (st:St) (K:St->Prop):Prop:=
 Qp T (A9 P) assign (Ca (λenv st=>(env.boxes=[]/\(env.tmps.all λp=>p.2.plain)=true)/\Qp T (A9 P) body (Ca (λ_ st=>K st) ru) env st) ru) env st
theorem UH {v:V} {c:Value} (h:A1 I β v c) (U:v.plain=true):A1 I (λ_=>none) v c:=by
 cases v<;>first|exact h|cases U
theorem Rel.bare (h:IP D w0.heap.size I β env st a w) (hb:env.boxes=[]) (hp:(env.tmps.all λp=>p.2.plain)=true) {st':St} {U:Mem} (hs:CU U st' w') (hle:I.le U) {D':List Deferred}:Rel D' U st' w' U (λ_=>none) env st' {a with defers:=D'} w':=by
 refine ⟨Fr.refl,hs,⟨h.size,λt v e=>?_,λid cs e=>?_,(λid b e=>by cases e),(λi j b e=>by cases e),(λid b e=>by cases e),rfl⟩⟩
 .have hv:=List.all_eq_true.1 hp _ (Gy e)
  have:=UH (h.tmps t v e) hv
  have e2:v.plain=true:=hv
  cases v<;>first|exact AL.mono hle _ _ this|cases e2
 .rw [hb] at e;cases e
theorem rh (hP:TZ P T) {l:Nat} {r:Loop} {wm:World} {stm:St} {B:Nat} (hF:IP D B Im β env stm a wm) (hb:env.boxes=[]) (hp:(env.tmps.all λp=>p.2.plain)=true) {fn:FuncId} {p1 p2:Tmp} {assign body:Code} {df:Nat}
 (hr:r={state:=.ready,pending:=none,fn,tmps:=a.tmps,params:=#[p1,p2],assign,body,defers:=df}) (ok:(GZ assign&&GZ body)=true) (hlt:(Nat.blt p1 env.sz&&Nat.blt p2 env.sz)=true) {v1 v2:V} {K:St->Prop} (hv:(v1.plain&&v2.plain)=true)
 (h:fO P T assign body {env with tmps:=(p2,v2)::(p1,v1)::env.tmps} st K):YS P l r Im [v1,v2] st K:=by
 intro n I w cargs hle hs hargs hl hid
 simp only [Aq] at hargs
 obtain ⟨c1,r1,rfl,q1,c2,r2,rfl,q2,rfl⟩:=hargs
 simp only [Bool.and_eq_true] at ok hlt hv
 have hl1:p1<env.sz:=by simpa [Nat.blt_eq] using hlt.1
 have hl2:p2<env.sz:=by simpa [Nat.blt_eq] using hlt.2
 have hy:=run_yield (P:=P) (args:=#[c1,c2]) hl ke
 rw [hr] at hy
 have ht:(#[p1,p2].zip #[c1,c2]).foldl (λtmps (x:Nat×Value)=>match x with|(t,a)=>tmps.setIfInBounds t a) a.tmps=(a.tmps.setIfInBounds p1 c1).setIfInBounds p2 c2:=by
  simp [Array.zip]
 dsimp only at hy
 rw [ht] at hy
 refine ⟨fn,_,assign,body,hy,roundIn_of_wpIn trivial ?_⟩
 have hsz:=hF.size
 have r0:Rel [] I st w I (λ_=>none) {env with tmps:=(p2,v2)::(p1,v1)::env.tmps} st {tmps:=(a.tmps.setIfInBounds p1 c1).setIfInBounds p2 c2,defers:=[]} w:=by
  refine ⟨Fr.refl,hs,⟨ke,λt v e=>?_,λid cs e=>?_,λid b e=>(by cases e),λi j b e=>(by cases e),λid b e=>(by cases e),rfl⟩⟩
  .have key:∀{x:V} {c:Value},AL I x c->x.plain=true->A1 I (λ_=>none) x c:=λh _=>A1.of h
   rw [Bu] at e
   cases hb2:Nat.beq p2 t with
   |true=>
    simp_all
   |false=>
    rw [hb2] at e
    have hn2:p2≠t:=λx=>by simp_all
    simp only [cond_false] at e
    rw [Bu] at e
    cases hb1:Nat.beq p1 t with
    |true=>
     simp_all
    |false=>
     rw [hb1] at e
     have hn1:p1≠t:=λx=>by simp_all
     simp only [cond_false] at e
     have hpl:v.plain=true:=List.all_eq_true.1 hp _ (Gy e)
     have h0:=UH (hF.tmps t v e) hpl
     have:((a.tmps.setIfInBounds p1 c1).setIfInBounds p2 c2).getD t undef=a.tmps.getD t undef:=by
      simp [Array.getD_eq_getD_getElem?,Array.getElem?_setIfInBounds_ne hn2,Array.getElem?_setIfInBounds_ne hn1]
     rw [this]
     cases v<;>first|exact AL.mono hle _ _ h0|cases hpl
  .rw [show ({env with tmps:=(p2,v2)::(p1,v1)::env.tmps}:Env).boxes=[] from hb] at e;cases e
 have hltl:=J7 hl
 refine wpIn_mono (MA hP (some l) assign ok.1 h n [] I st w I _ _ w r0) ?_
 rintro e a1 w1 ⟨I1,β1,env1,st1,ae,r1,x1,k1⟩
 cases ae with
 |exit _|goto _|ret|Cd _=>exact k1.elim
 |normal=>
 cases e with
 |exit _|goto _|ret|panic _|outgrown=>exact x1.elim
 |normal=>
 obtain ⟨⟨b1,b2⟩,k1⟩:=k1
 obtain ⟨hid1,U⟩:=hid.fr hltl r1.fr
 rw [hl] at U
 have hrdy:r.state=.ready:=by rw [hr]
 refine ⟨_,run_beginRound U hrdy,?_⟩
 have hs2:CU I1 st1 (w1.putObj l (.loop {r with state:=.busy})):=r1.s.put U
 have r2:=Rel.bare (D':=[]) r1.f b1 b2 hs2 (Mem.le_refl _)
 have hd1:a1={a1 with defers:=[]}:=by
  have:=r1.f.defers
  cases a1;simp_all
 rw [hd1]
 refine wpIn_mono (MA hP (some l) body ok.2 k1 n [] I1 st1 _ I1 _ _ _ r2) ?_
 rintro e a3 w3 ⟨I3,β3,env3,st3,ae,r3,x3,k3⟩
 cases ae with
 |exit _|goto _|ret|Cd _=>exact k3.elim
 |normal=>
 cases e with
 |exit _|goto _|ret|panic _|outgrown=>exact x3.elim
 |normal=>
 have hlt1:l<w1.heap.size:=J7 U
 obtain ⟨hid3,hl3⟩:=hid1.fr (w:=w1.putObj l (.loop {r with state:=.busy})) (by rw [World.putObj_size];omega) r3.fr
 rw [World.putObj_heap_same hlt1] at hl3
 refine ⟨_,_,run_endRound none hl3,?_⟩
 have hrr:({({r with state:=.busy}:Loop) with state:=if (none:Option Code).isNone then .ready else .done,pending:=none}:Loop)=r:=by rw [hr];rfl
 rw [hrr]
 refine ⟨rfl,I3,st3,?_,r3.s.put hl3,k3⟩
 have f1:=r1.fr
 have f3:=r3.fr
 have z1:(w1.putObj l (.loop {r with state:=.busy})).heap.size=w1.heap.size:=World.putObj_size
 have z3:(w3.putObj l (.loop r)).heap.size=w3.heap.size:=World.putObj_size
 have f13:Fr I1 st1 w1 I3 st3 (w3.putObj l (.loop r)):=by
  refine ⟨f3.os,f3.tape,f3.output,by rw [z3,<-z1];exact f3.size,λb hb h1 h2=>?_,f3.le,λb o h1 h2=>by rw [<-z1];exact f3.new b o h1 h2,λb h1 h2=>by rw [<-z1];exact f3.Mb b h1 h2,λb h1=>by rw [<-z1];exact f3.L9 b h1⟩
  by_cases e:b=l
  .subst e
   rw [World.putObj_heap_same (J7 hl3),U]
  .rw [World.putObj_heap_other e,f3.Mn b AC h1 h2,World.putObj_heap_other e]
 exact f1.trans f13
def QU (P:Program) (l:Nat) (r:Loop) (Im:Mem) (c:Code) (Q:AF->Env->St->Prop) (env:Env) (st:St):Prop:=
 ∀D I0 st0 w0 I β a w,Im.le I0->w0.heap[l]? =some (.loop r)->Idle l st0->Rel D I0 st0 w0 I β env st a w->c.wp P (Ct D I0 st0 w0 Q) a w
variable {l:Nat} {r:Loop} {Im:Mem} {Q:AF->Env->St->Prop}
theorem QU.of (h:AW P c Q env st):QU P l r Im c Q env st:=λD I0 st0 w0 I β a w _ _ _ U=>h D I0 st0 w0 I β a w U
theorem GR {x y:Code} (h:QU P l r Im x (Ca (λenv st=>QU P l r Im y Q env st) Q) env st):QU P l r Im (.seq x y) Q env st:=λD I0 st0 w0 I β a w g1 g2 g3 hr=>by
 refine wp_seq (wp_mono (h D I0 st0 w0 I β a w g1 g2 g3 hr) ?_)
 rintro e a w ⟨I,β,env,st,ae,h1,U,h3⟩
 cases ae with
 |normal=>cases e<;>first|exact h3 D I0 st0 w0 I β a w g1 g2 g3 h1|exact U.elim
 |exit i=>cases e<;>first|exact ⟨I,β,env,st,.exit i,h1,U,h3⟩|exact U.elim
 |goto i=>cases e<;>first|exact ⟨I,β,env,st,.goto i,h1,U,h3⟩|exact U.elim
 |ret=>cases e<;>first|exact ⟨I,β,env,st,.ret,h1,U,h3⟩|exact U.elim
 |Cd v=>cases e<;>first|exact ⟨I,β,env,st,.Cd v,h1,U,h3⟩|exact U.elim
theorem TV (h:QU P l r Im c (Rc id Q) env st):QU P l r Im (.block id c) Q env st:=λD I0 st0 w0 I β a w g1 g2 g3 hr=>by
 refine wp_block (wp_mono (h D I0 st0 w0 I β a w g1 g2 g3 hr) ?_)
 rintro e a w ⟨I,β,env,st,ae,h1,U,h3⟩
 cases ae with
 |normal=>cases e<;>first|exact ⟨I,β,env,st,.normal,h1,trivial,h3⟩|exact U.elim
 |exit i=>
  cases e<;>try exact U.elim
  rename_i i'
  have U:i'=i:=U
  subst U
  simp only [Rc] at h3
  show (if i'=id then Ct D I0 st0 w0 Q .normal a w else Ct D I0 st0 w0 Q (.exit i') a w)
  by_cases hi:i'=id
  .subst hi
   rw [if_pos rfl]
   simp only [Nat.beq_refl,cond_true] at h3
   exact ⟨I,β,env,st,.normal,h1,trivial,h3⟩
  .rw [if_neg hi]
   have:Nat.beq i' id=false:=by
    cases hb:Nat.beq i' id with
    |false=>rfl
    |true=>simp_all
   rw [this] at h3
   exact ⟨I,β,env,st,.exit i',h1,rfl,h3⟩
 |goto i=>cases e<;>first|exact ⟨I,β,env,st,.goto i,h1,U,h3⟩|exact U.elim
 |ret=>cases e<;>first|exact ⟨I,β,env,st,.ret,h1,U,h3⟩|exact U.elim
 |Cd v=>cases e<;>first|exact ⟨I,β,env,st,.Cd v,h1,U,h3⟩|exact U.elim
theorem kX (h:∃(α:Type) (E:α->Env) (S:α->St) (J:α->Prop) (μ:α->Nat) (x0:α),J x0/\(E x0).FF env/\St.le (S x0) st/\
 ∀x,J x->QU P l r Im c (Ca (λenv' st'=>∃y,J y/\μ y<μ x/\(E y).FF env'/\St.le (S y) st') Q) (E x) (S x)):QU P l r Im (.loop c) Q env st:=λD I0 st0 w0 I β a w g1 g2 g3 hr=>by
 obtain ⟨α,E,S,J,μ,x0,h0,he,hs,round⟩:=h
 refine P5 (λn a w=>∃I β x,Rel D I0 st0 w0 I β (E x) (S x) a w/\J x/\n=μ x) (n0:=μ x0) ⟨I,_,x0,(hr.Il hs).Ku (Env.Kw he),h0,rfl⟩ ?_
 rintro n a w ⟨I,β,x,h,hi,rfl⟩
 refine wp_mono (round x hi D I0 st0 w0 I β a w g1 g2 g3 h) ?_
 rintro e a w ⟨I,β,env,st,ae,h1,U,h3⟩
 cases ae with
 |normal=>
  cases e<;>try exact U.elim
  obtain ⟨y,q1,q2,q3,q4⟩:=h3
  exact ⟨μ y,q2,I,_,y,(h1.Il q4).Ku (Env.Kw q3),q1,rfl⟩
 |exit i=>cases e<;>first|exact ⟨I,β,env,st,.exit i,h1,U,h3⟩|exact U.elim
 |goto i=>cases e<;>first|exact ⟨I,β,env,st,.goto i,h1,U,h3⟩|exact U.elim
 |ret=>cases e<;>first|exact ⟨I,β,env,st,.ret,h1,U,h3⟩|exact U.elim
 |Cd v=>cases e<;>first|exact ⟨I,β,env,st,.Cd v,h1,U,h3⟩|exact U.elim
theorem gC (hP:TZ P T) {all pre post:List Oper} {oc:Oper} {c:Call} {f:Operand} (hall:all=pre++oc::post) (hnd:QG all=true) (hc:oc.op=.call c) (hf:c.callee=.value f) (hg:oc.guard=none)
 (h:EO T (A9 P) all (Ca (λenv st=>env.eval f=.kU l/\XP env c.args.toList λvs=>YS P l r Im vs st λst'=>env.go oc.dst (.bool true) λenv=>EO T (A9 P) all Q post env st') Q) pre env st):
 QU P l r Im (.region id all.toArray false) Q env st:=λD I0 st0 w0 I β a w g1 g2 g3 hr=>by
 have hC:=BU P
 have nd:=KZ hnd
 rw [<-wpIn_wide (n:=1)]
 refine wpIn_region_list (F:=fw none) (n:=1) ?_
 rw [show all.toArray.toList=pre++oc::post by rw [hall]]
 have hpre:∀o ∈ pre,∀c,o.op≠.defer c:=λo ho=>nd o ke
 refine QA (ro:=none) (n:=1) (Q0:=Ct D I0 st0 w0 (Ca (λenv st=>env.eval f=.kU l/\XP env c.args.toList λvs=>YS P l r Im vs st λst'=>env.go oc.dst (.bool true) λenv=>EO T (A9 P) all Q post env st') Q)) NK ?_ ?_ pre a w hpre (FT hP.t hC hr h)
 .rintro e a w hne ⟨I,β,env,st,ae,U,h2,h3⟩
  cases ae with
  |normal=>cases e<;>first|exact absurd rfl hne|exact h2.elim
  |exit i=>exact ⟨I,β,env,st,.exit i,U,h2,h3⟩
  |goto i=>exact ⟨I,β,env,st,.goto i,U,h2,h3⟩
  |ret=>exact ⟨I,β,env,st,.ret,U,h2,h3⟩
  |Cd v=>exact ⟨I,β,env,st,.Cd v,U,h2,h3⟩
 .rintro a1 w1 ⟨I1,β1,env1,st1,ae,U,h2,h3⟩
  cases ae with
  |exit _|goto _|ret|Cd _=>exact h2.elim
  |normal=>
  obtain ⟨he,h3⟩:=h3
  have hfv:=U.f.eval f
  rw [he] at hfv
  have hfv':AL I1 (.kU l) (a1.eval f):=hfv
  simp only [AL] at hfv'
  obtain ⟨vs,q1,q2⟩:=GC U.f h3
  obtain ⟨hid,hl⟩:=g3.fr (J7 g2) U.fr
  rw [g2] at hl
  obtain ⟨fn,tmps,assign,body,hy,hround⟩:=q2 (1 - 1) I1 w1 _ (Mem.le_trans g1 U.fr.le) U.s q1 hl hid
  have harr:(c.args.toList.map a1.eval).toArray=c.args.map a1.eval:=by apply Array.ext';simp
  rw [harr] at hy
  have hrun:(execOp a1.eval oc).run P w1=.ok (.round l fn tmps assign body) w1:=by
   simp only [execOp,hc,resolve,hf,hfv',Deferred.ofValue,Sem.run_bind,Sem.run_pure,Result.andThen_ok,invoke]
   simpa using hy
  unfold wpListIn
  rw [if_pos (by simp [Region.wanted,hg])]
  refine ⟨λ_ _=>trivial,?_⟩
  rw [Oper.semAt_eq _ _ _ ke,hrun]
  refine ⟨λe=>(by cases e),hround.mono λe w' ⟨e1,I2,st2,f1,f2,k⟩=>?_⟩
  subst e1
  have r2:=U.called f1 f2
  obtain ⟨env3,r3,k3⟩:=Cw r2 (c:=.bool true) (A1.of H1) k
  have hpost:∀o ∈ post,∀c,o.op≠.defer c:=λo ho=>nd o ke
  have:=QA (ro:=none) (n:=1) (l2:=[]) NK (λ_ _ _ _ h=>h) (λa w h=>h) post _ w' hpost (FT hP.t hC r3 k3)
  simp_all
end
def bk:Obj->Bool
 | .loop _| .deferred _=>true
 |_=>false
section
variable {D:List Deferred} {P:Program} {T:List (Nat×Ty)} {I0 I:Mem} {st0 st:St} {w0 w:World} {β:Nat->Option Nat} {env:Env} {a:Act}
theorem rT {l o:Nat} {x:Obj} {v:Value} (U:w.heap[l]? =some x) (hx:bk x=true) (h:w.cell? ⟨b,o,none⟩=some v):b≠l:=by
 rintro rfl
 cases x<;>first|(simp [World.cell?,U] at h;done)|cases hx
theorem Ra {l:Nat} {x:Obj} {c:Array Value} {ty:TypeId} (U:w.heap[l]? =some x) (hx:bk x=true) (h:w.heap[b]? =some (.cells c ty (0,0))):b≠l:=by
 rintro rfl
 rw [U] at h;cases h;cases hx
theorem CU.jt {l:Nat} {x y:Obj} (h:CU I st w) (hl:w.heap[l]? =some x) (hx:bk x=true):CU I st (w.putObj l y):=by
 refine ⟨λb o v e=>?_,λb n e=>?_,λb cs e=>?_,h.IV,λb n e=>?_,h.UU⟩
 .have e:=h.cell b o v e
  rw [Hq (World.putObj_heap_other (rT hl hx e))];exact e
 .obtain ⟨c,ty,U,h2⟩:=h.shape b n e
  exact ⟨c,ty,by rw [World.putObj_heap_other (Ra hl hx U)];exact U,h2⟩
 .obtain ⟨vs,ty,U,h2⟩:=h.box b cs e
  exact ⟨vs,ty,by rw [World.putObj_heap_other (Ra hl hx U)];exact U,h2⟩
 .rw [World.putObj_size];exact h.hw b n e
theorem Fr.jt {l:Nat} {y:Obj} (h:Fr I0 st0 w0 I st w) (hl:w0.heap.size<=l):Fr I0 st0 w0 I st (w.putObj l y):=
 ⟨h.os,h.tape,h.output,by rw [World.putObj_size];exact h.size,λb hb U h2=>by rw [World.putObj_heap_other AC];exact h.Mn b hb U h2,h.le,h.new,h.Mb,h.L9⟩
theorem Rel.jt {l:Nat} {x y:Obj} (h:Rel D I0 st0 w0 I β env st a w) (hl:w.heap[l]? =some x) (hx:bk x=true) (hw:w0.heap.size<=l):Rel D I0 st0 w0 I β env st a (w.putObj l y):=by
 refine ⟨h.fr.jt hw,h.s.jt hl hx,⟨h.f.size,h.f.tmps,λid cs e=>?_,h.f.Bw,h.f.inj,λid b e=>?_,h.f.defers⟩⟩
 .obtain ⟨b,h1,U⟩:=h.f.box id cs e
  refine ⟨b,h1,?_⟩
  have hne:b≠l:=by
   rintro rfl
   rcases U with ⟨vs,ty,U,_⟩|⟨s,pos,_,_,U⟩
   .exact Ra hl hx U rfl
   .rw [hl] at U;cases U;cases hx
  rw [World.putObj_heap_other hne];exact U
 .rw [World.putObj_size];exact h.f.sep id b e
theorem CU.idle {l:Nat} (h:CU I st w) (hl:w.heap.size<=l):Idle l st:=by
 refine ⟨?_,?_⟩
 .cases e:st.box l with
  |none=>rfl
  |some cs=>
   obtain ⟨vs,ty,U,_⟩:=h.box l cs e
   simp_all
 .cases e:st.hw l with
  |none=>rfl
  |some n=>have:=(h.hw l n e).1;omega
theorem Vp (hP:TZ P T) (hf:P.funcs[f]? =some fn) (hb:fn.body=some c) (hres:fn.results.toList=[]) {l:Nat} {r:Loop} {K:St->Prop} (hle:Nat.ble args.length fn.ntmps=true)
 (h:QU P l r Im c (λae _ st=>(ae=.normal\/ae=.ret)/\K st) {tmps:=Jg 0 args,boxes:=[],Bw:=0,sz:=fn.ntmps,gl:=[]} st) {U:List Value} (hm:Im.le I) (hs:CU I st w) (hargs:Aq I args U) (hl:w.heap[l]? =some (.loop r)) (hi:Idle l st):
 Calls P f U.toArray w λe w'=>(∃v,e=.returned v)/\∃I' st',Fr I st w I' st' w'/\CU I' st' w'/\K st':=by
 refine calls_of_wp hf hb (wp_mono (h [] I st w I _ _ w hm hl hi (GN [] hs hargs hle)) ?_)
 rintro e a w' ⟨I1,β1,env1,st1,ae,h1,h2,h3,h4⟩
 have hret:a.defers=[]/\∃v,(results fn a.tmps).run P w'=.ok v w'/\((∃v',Ending.returned v=.returned v')/\∃I' st',Fr I st w I' st' w'/\CU I' st' w'/\K st'):=by
  obtain ⟨v,c,g1,g2,g3⟩:=CT (P:=P) (fn:=fn) (R:=λ_ s=>K s) hP.t h1 (by rw [hres];exact h4)
  exact ⟨h1.f.defers,c,g1,⟨_,rfl⟩,I1,st1,h1.fr,h1.s,g3⟩
 rcases h3 with rfl|rfl<;>(cases e<;>first|exact hret|exact h2.elim)
def yc (P:Program) (T:List (Nat×Ty)) (fn:Func) (g:Operand) (p1 p2:Tmp) (assign body rest:Code) (R:AB->St->Prop) (env:Env) (st:St):Prop:=
 (env.boxes=[]/\(env.tmps.all λp=>p.2.plain)=true)/\∃(gf:FuncId) (caps:List V) (K:St->Prop),(env.eval g=.func gf [] caps/\Plain P gf)/\
   (∀(D:List Deferred) (B:Nat) (Im:Mem) (β:Nat->Option Nat) (a:Act) (wm:World) (l df:Nat) (fi:FuncId),IP D B Im β env st a wm->
     ∀(I:Mem) (w:World) (U:List Value),Im.le I->CU I st w->Aq I caps U->w.heap[l]? =some (.loop {state:=.ready,pending:=none,fn:=fi,tmps:=a.tmps,params:=#[p1,p2],assign,body,defers:=df})->Idle l st->
      Calls P gf (Value.func (.yield l) #[] #[]::U).toArray w λe w'=>(∃v,e=.returned v)/\∃I' st',Fr I st w I' st' w'/\CU I' st' w'/\K st')/\
   ∀st',K st'->AW P rest (λae env st=>(ae=.normal\/ae=.ret)/\Xf T fn R env st) env st'
theorem W7 (hP:TZ P T) {R:AB->St->Prop} (hf:P.funcs[f]? =some fn) {c0 c1 c2 assign body rest:Code} {bid:Nat} {g:Operand} {p1 p2:Tmp}
 (hb : fn.body = some (.seq c0 (.seq c1 (.seq (.seq c2 (.block bid (.rangeFunc g #[p1, p2] assign body))) rest)))) (hn : (fn.name == "runtime.NumGoroutine") = false) (hle : Nat.ble args.length fn.ntmps = true)
 (h:AW P c0 (Ca (λenv st=>AW P c1 (Ca (λenv st=>AW P c2 (Ca (kS (yc P T fn g p1 p2 assign body rest R)) ru) env st) ru) env st) ru) {tmps:=Jg 0 args,boxes:=[],Bw:=0,sz:=fn.ntmps,gl:=[]} st):A9 P f args st R:=by
 refine ⟨?_,fn,hf,ke,hn⟩
 intro I w cargs hs hargs
 rw [<-callsIn_wide (n:=3)]
 refine callsIn_of_wp_marks hf hb trivial ?_
 have norm:∀{c:Code} {Q:Env->St->Prop} {n:Nat} {D:List Deferred} {I0:Mem} {st0:St} {w0:World} {X:Act->World->Prop} {Y:Exit->Act->World->Prop} {a:Act} {w:World},c.wp P (Ct D I0 st0 w0 (Ca Q ru)) a w->
  (∀I β env st a w,Rel D I0 st0 w0 I β env st a w->Q env st->X a w)->c.wpIn Fence.wide n P (Exit.then X Y) a w:=λh k=>by
  refine wpIn_wide.2 (wp_mono h ?_)
  rintro e a w ⟨I,β,env,st,ae,h1,h2,h3⟩
  cases ae with
  |exit _|goto _|ret|Cd _=>exact h3.elim
  |normal=>
  cases e with
  |exit _|goto _|ret|panic _|outgrown=>exact h2.elim
  |normal=>exact k I β env st a w h1 h3
 refine wpIn_seq (norm (h [] I st w I _ _ w (GN [] hs hargs hle)) λI1 β1 env1 st1 a1 w1 r1 k1=>?_)
 refine wpIn_seq (norm (k1 [] I st w I1 β1 a1 w1 r1) λI2 β2 env2 st2 a2 w2 r2 k2=>?_)
 refine wpIn_seq (wpIn_seq (norm (k2 [] I st w I2 β2 a2 w2 r2) λI3 β3 env3 st3 a3 U r3 k3=>?_))
 refine wpIn_block ?_
 obtain ⟨I4,β4,env4,st4,r4,k4⟩:=k3 [] I st w I3 β3 a3 U r3
 obtain ⟨⟨b1,b2⟩,gf,caps,K,⟨hg,fg,q1,q2,q3⟩,hit,hrest⟩:=k4
 have hgv:=r4.f.eval g
 rw [hg] at hgv
 have hgv':AL I4 (.func gf [] caps) (a3.eval g):=hgv
 simp only [AL,Aq] at hgv'
 obtain ⟨az,lb,hge,haz,hlb⟩:=hgv'
 subst haz
 refine wpIn_rangeFunc λfi hfi=>?_
 obtain ⟨rec,hrec⟩:∃rec:Loop,rec={state:=.ready,pending:=none,fn:=fi,tmps:=a3.tmps,params:=#[p1,p2],assign,body,defers:=U.heap.size}:=⟨_,rfl⟩
 obtain ⟨W1,hW1⟩:∃W1,(U.alloc (.deferred (some []))).alloc (.loop rec)=W1:=⟨_,rfl⟩
 have hL1:W1.heap[U.heap.size+1]? =some (.loop rec):=by
  rw [<-hW1];have:=World.alloc_heap_new (U.alloc (.deferred (some []))) (.loop rec);rwa [World.size_alloc] at this
 have hK1:W1.heap[U.heap.size]? =some (.deferred (some [])):=by
  rw [<-hW1];exact (RowKit.Below.heap_alloc _ _ _ GT).trans (World.alloc_heap_new U _)
 have r5:Rel [] I st w I4 β4 env4 st4 a3 W1:=by rw [<-hW1];exact (r4.JZ (Gu.alloc _ _)).JZ (Gu.alloc _ _)
 have hidL:Idle (U.heap.size+1) st4:=r4.s.idle AC
 have hidD:Idle U.heap.size st4:=r4.s.idle (Nat.le_refl _)
 have hsz:w.heap.size<=U.heap.size:=r4.fr.size
 have heg:∀args w,(callFunc gf args).run P w=.ok (.enter gf args) w:=λargs w=>by
  have hb:fg.body.isNone=false:=by cases hb:fg.body<;>simp_all
  simp only [callFunc,Sem.run_bind,Sem.run_pure,Result.andThen_ok,run_program,q1]
  rw [q3]
  simp [hb]
 refine ⟨U.heap.size+1,[{target:=.collected U.heap.size,args:=#[]}],W1,{target:=.fn (.func gf) lb.toArray,args:=#[.func (.yield (U.heap.size+1)) #[] #[]]},W1,gf,#[.func (.yield (U.heap.size+1)) #[] #[]]++lb.toArray,W1,?_,?_,λ_ _=>trivial,?_,λe=>(by cases e),?_⟩
 .rw [<-hW1,hrec];exact run_enterLoop_outer _ _ _ _ _
 .simp only [resolve,hge,Deferred.ofValue,Sem.run_pure]
  simp [Act.eval]
 .simp [invoke,heg]
 .have hcall:=hit [] w.heap.size I4 β4 a3 U (U.heap.size+1) U.heap.size fi r4.f I4 W1 lb (Mem.le_refl _) r5.s hlb ke hidL
  have harr:(Value.func (.yield (U.heap.size+1)) #[] #[]::lb).toArray=#[.func (.yield (U.heap.size+1)) #[] #[]]++lb.toArray:=by apply Array.ext';simp
  rw [harr] at hcall
  refine (callsIn_wide.2 hcall).mono ?_
  rintro e W2 ⟨⟨v,rfl⟩,I6,st6,f6,s6,k6⟩
  have r6:=r5.called f6 s6
  obtain ⟨hidL6,hL6⟩:=hidL.fr (J7 hL1) f6
  obtain ⟨hidD6,hD6⟩:=hidD.fr (J7 hK1) f6
  rw [hL1] at hL6
  rw [hK1] at hD6
  refine ⟨none,W2.putObj (U.heap.size+1) (.loop {rec with state:=.exhausted}),by have:=run_endLoop (P:=P) hL6 (by grind);grind,?_⟩
  have r7:=r6.jt (y:=.loop {rec with state:=.exhausted}) hL6 rfl AC
  have hD7:(W2.putObj (U.heap.size+1) (.loop {rec with state:=.exhausted})).heap[U.heap.size]? =some (.deferred (some [])):=(World.putObj_heap_other AC).trans hD6
  generalize W2.putObj (U.heap.size+1) (.loop {rec with state:=.exhausted})=W3 at r7 hD7
  show rest.wpIn Fence.wide 3 P _ _ W3
  have r8:=Rel.bare (D':=[{target:=.collected U.heap.size,args:=#[]}]) r7.f b1 b2 r7.s (Mem.le_refl _)
  have hd0:a3.defers=[]:=r7.f.defers
  rw [hd0]
  refine wpIn_wide.2 (wp_mono (hrest st6 k6 _ I6 st6 W3 I6 _ _ W3 r8) ?_)
  rintro e a9 w9 ⟨I9,β9,env9,st9,ae,r9,x9,k9,q9⟩
  have hlast:LeavesInM Fence.wide 3 P fn a9.tmps (λe w'=>∃I' st' r,Fr I st w I' st' w'/\CU I' st' w'/\Zt I' e r/\R r st') a9.defers .returning w9:=by
   rw [r9.f.defers]
   obtain ⟨_,hD9⟩:=hidD6.fr (J7 hD7) r9.fr
   rw [hD7] at hD9
   refine ⟨GT,.inl ⟨_,_,rfl,run_takeDeferred hD9,?_⟩⟩
   have hle9:W3.heap.size<=w9.heap.size:=r9.fr.size
   have hfr:Fr I st w I9 st9 w9:=r7.fr.trans r9.fr
   have r10:Rel [{target:=.collected U.heap.size,args:=#[]}] I st w I9 β9 env9 st9 a9 w9:=⟨hfr,r9.s,⟨r9.f.size,r9.f.tmps,r9.f.box,r9.f.Bw,r9.f.inj,λid b e=>by
    obtain ⟨h1,h2⟩:=r9.f.sep id b e
    grind,r9.f.defers⟩⟩
   have r11:=r10.jt (y:=.deferred none) hD9 rfl hsz
   obtain ⟨v,c,g1,g2,g3⟩:=CT (P:=P) hP.t r11 q9
   exact ⟨c,g1,I9,st9,.ret v,r11.fr,r11.s,g2,g3⟩
  rcases k9 with rfl|rfl
  .cases e<;>first|exact hlast|exact x9.elim
  .cases e<;>first|exact hlast|exact x9.elim
theorem dI (hP:TZ P T) {l:Nat} {r:Loop} {all:List Oper} (k:Nat) {U:Oper} {c:Call} {f:Operand} (hk:all[k]? =some U) (hnd:QG all=true) (hc:U.op=.call c) (hf:c.callee=.value f) (hg:U.guard=none)
 (h:EO T (A9 P) all (Ca (λenv st=>env.eval f=.kU l/\XP env c.args.toList λvs=>YS P l r Im vs st λst'=>env.go U.dst (.bool true) λenv=>EO T (A9 P) all Q (all.drop (k+1)) env st') Q) (all.take k) env st):
 QU P l r Im (.region id all.toArray false) Q env st:=
 gC hP (by
  obtain ⟨h1,h2⟩:=List.getElem?_eq_some_iff.1 hk
  rw [<-h2,<-List.drop_eq_getElem_cons h1,List.take_append_drop]) hnd hc hf hg h
end
end Go.Aw
namespace Go.Proofs.Z
open Go Go.Aw
theorem iH {l:List (List UInt8)} {K:Nat->Prop} (k:l.length<4611686018427387904->K l.length):∀m,m=(strs l).length->m<D7->K m:=λm U h=>by
 rw [show (strs l).length=l.length by simp [strs]] at U;subst U;exact k h
theorem cv (s:List UInt8) (U pos:Nat):(Eg s U pos).length<=s.length - pos+1:=by
 fun_induction Eg s U pos with
 |case1 U pos h1 h2 ih=>rw [List.length_cons];omega
 |case2 U pos h1 h2 ih=>omega
 |case3 U pos h1=>rw [List.length_singleton];omega
def OT (t:Tk):Bool:=t.kind==9&&(t.text==[108,101,116]||t.text==[119,104,101,114,101]||t.text==[100,111]||t.text==[111,102])
def Ma (t:Tk) (k:Int) (x:List UInt8):Bool:=t.kind==k&&t.text==x
def RC (t:Tk):Int:=t.line+((Eg t.text 0 0).length:Nat) - 1
def FQ (p:Option Tk) (t:Tk):Int:=match p with
 |none=>if (Ma t 9 [109,111,100,117,108,101]||Ma t 15 [123])=true then 17 else 16
 |some p=>if (OT p&& !Ma t 15 [123])=true then 16 else if (!(t.line==p.line)&& !(t.line==RC p))=true then 17 else 0
def markT (m:Int) (t:Tk):List Tk:=if m=0 then [t] else [⟨m,[],t.line,t.Ch⟩,t]
def Cj:Option Tk->List Tk->List Tk
 |_,[]=>[]
 |p,t::r=>markT (FQ p t) t++Cj (some t) r
def G8 (l:List Tk):List Tk:=match l.getLast? with
 |none=>[⟨16,[],0,0⟩]
 |some t=>if OT t=true then [⟨16,[],0,0⟩] else []
def BC (l:List Tk):List Tk:=Cj none l++G8 l
def ahead (l:List Tk) (i:Nat):Option Tk:=if i=0 then none else l[i - 1]?
def F7 (l:List Tk) (i:Nat):Int:=match l[i]? with
 |some t=>FQ (ahead l i) t
 |none=>0
section
variable {st:St} {K:AB->St->Prop}
theorem Sh {t:Tk} (h:K (.ret (.bool (OT t))) st):PC 67 [F1 t] st K:=by
 refine pB Tryz.func67 ?_
 repeat' ((conv=>whnf);first|(refine Br ?_;intros)|(refine Bs ?_ ?_<;>intro _)|fail)
 all_goals conv=>whnf
 all_goals (refine Av h ?_;clear h;simp_all [OT])
theorem vU {t:Tk} (h:K (.ret (.bool (Ma t k x))) st):PC 115 [F1 t,.int .i64 k,.str x] st K:=by
 refine pB Tryz.func115 ?_
 repeat' ((conv=>whnf);first|(refine Br ?_;intros)|(refine Bs ?_ ?_<;>intro _)|fail)
 all_goals conv=>whnf
 all_goals (refine Av h ?_;clear h;simp_all [Ma])
theorem xa {t:Tk} (U:t.text.length<=100000000) (h2: -1000000000<=t.line) (h3:t.line<=1000000000) (h:K (.ret (.int .i64 (RC t))) st):PC 116 [F1 t] st K:=by
 refine pB Tryz.func116 ?_
 have hb:=cv t.text 0 0
 repeat' ((conv=>whnf);first|exact CH|(refine Br ?_;intros)|(refine CI ?_ ?_ ?_;rotate_left)|(refine Bs ?_ ?_<;>intro _)|refine eY U (λown ho=>?_)|refine iH (λ_=>?_)|refine Af [(0,true),(1,true),(2,true),(3,true),(4,false),(5,true),(6,true),(7,true),(8,true)] [] GE ?_|with_reducible refine WF ?_)
 all_goals conv=>whnf
 all_goals exact ⟨_,_,.inl rfl,AH.BZ ho,h⟩
theorem uZ {l:List Tk} {own:AH} (h:∀c,st.fresh c->K (.ret (.func 114 [] [.ptr c 0])) (st.Aa c [.slice 4 (AQ l) own])):PC 66 [.slice 4 (AQ l) own] st K:=by
 refine A6 Ac [] Tryz.func66 rfl Do rfl ?_
 refine Al (An Ac ?_)
 repeat' ((conv=>whnf);first|(refine Br ?_;intros)|(refine Bs ?_ ?_<;>intro _)|fail)
 refine Ms 1 0 rfl rfl rfl (λc U=>?_)
 refine An Ac ?_
 repeat' ((conv=>whnf);first|(refine Br ?_;intros)|(refine Bs ?_ ?_<;>intro _)|fail)
 all_goals conv=>whnf
 all_goals exact ⟨_,_,.inl rfl,St.le_refl _,h c U⟩
end
def lf (l:List Tk):Prop:=∀t ∈ l,t.text.length<=100000000/\ -1000000000<=t.line/\t.line<=1000000000
theorem lf.at {l:List Tk} (h:lf l) {t:Tk} (e:l[i]? =some t):t.text.length<=100000000/\ -1000000000<=t.line/\t.line<=1000000000:=h t (List.mem_of_getElem? e)
theorem wA {L:Nat} {r:Loop} {v:V} {m U:Int} {st:St} {K K':St->Prop} (h:YS Tryz.prog L r Im [v,.int .i64 U] st K) (e:U=m) (k:∀st,K st->K' st):YS Tryz.prog L r Im [v,.int .i64 m] st K':=by subst e;exact h.mono k
section
variable {st:St} {l:List Tk} {own:AH} {c L:Nat} {r:Loop} {Im:Mem}
attribute [local irreducible] Go.Aw.Am
theorem xv (hok:lf l) (hn:l.length<=100000000) {J:Nat->St->Prop} (hJ:∀i st,J i st->st.box c=some [.slice 4 (AQ l) own]) (hY:∀i st,i<l.length->J i st->YS Tryz.prog L r Im [.int .i64 (i:Int),.int .i64 (F7 l i)] st (J (i+1))) (h0:J 0 st)
 {I:Mem} {cargs:List Value} (hm:Im.le I) (hs:CU I st w) (U:Aq I [.ptr c 0] cargs) (hl:w.heap[L]? =some (.loop r)) (hi:Idle L st):
 Calls Tryz.prog 114 (Value.func (.yield L) #[] #[]::cargs).toArray w λe w'=>(∃v,e=.returned v)/\∃I' st',Fr I st w I' st' w'/\CU I' st' w'/\J l.length st':=by
 refine Vp Ac Tryz.func114 rfl rfl (r:=r) (Im:=Im) (args:=[.kU L,.ptr c 0]) (K:=J l.length) rfl ?_ hm hs (by
  simp only [Aq] at U |-
  exact ⟨_,_,rfl,by simp only [AL],U⟩) hl hi
 have hb:=hJ 0 st h0
 refine GR (QU.of (An Ac ?_))
 repeat' ((conv=>whnf);first|exact CH|(refine Br ?_;intros)|(refine CI ?_ ?_ ?_;rotate_left)|(refine Bs ?_ ?_<;>intro _)|refine Ah hb ?_|with_reducible refine WF ?_)
 refine TV ?_
 refine kX ?_
 refine Sc (α:=Nat×St) (λx=>[(8,.int .i64 (x.1:Int))]) (λ_=>[]) [0,1,6,7] [] (λx=>x.2) (λx=>x.1<=l.length/\J x.1 x.2) (λx=>l.length - x.1) (0,st) ⟨Nat.zero_le _,h0⟩ Yl (St.le_refl _) ?_
 rintro ⟨i,st1⟩ ⟨hi1,hj⟩
 dsimp only at hi1 hj |-
 have hb1:=hJ i st1 hj
 refine GR (QU.of (An Ac ?_))
 by_cases hlt:i<l.length
 .obtain ⟨t,ht⟩:∃t,l[(i:Int).toNat]? =some t:=⟨_,List.getElem?_eq_getElem AC⟩
  have ht':l[i]? =some t:=ht
  have hlt2:(i:Int)<(l.length:Int):=AC
  repeat' ((conv=>whnf);first|exact CH|(refine Br ?_;intros)|(refine CI ?_ ?_ ?_;rotate_left)|(refine Bs ?_ ?_<;>intro _)|with_reducible refine WF ?_)
  refine GR (QU.of (An Ac ?_))
  repeat' ((conv=>whnf);first|exact CH|(refine Br ?_;intros)|(refine CI ?_ ?_ ?_;rotate_left)|(refine Bs ?_ ?_<;>intro _)|with_reducible refine WF ?_)
  refine GR ?_
  refine TV ?_
  refine GR (QU.of (An Ac ?_))
  repeat' ((conv=>whnf);first|exact CH|(refine Br ?_;intros)|(refine CI ?_ ?_ ?_;rotate_left)|(refine Bs ?_ ?_<;>intro _)|with_reducible refine WF ?_)
  refine GR (QU.of (An Ac ?_))
  repeat' ((conv=>whnf);first|exact CH|(refine Br ?_;intros)|(refine CI ?_ ?_ ?_;rotate_left)|(refine Bs ?_ ?_<;>intro _)|with_reducible refine WF ?_)
  have hy:=hY i st1 hlt hj
  refine GR (QU.of (An Ac ?_))
  have ho:=hok.at ht'
  clear hY U hs hm hl hi
  by_cases hz:i=0
  .subst hz
   have hma:F7 l 0=if (Ma t 9 [109,111,100,117,108,101]||Ma t 15 [123])=true then 17 else 16:=by unfold F7;rw [ht'];rfl
   repeat' ((conv=>whnf);first|exact CH|(refine Br ?_;intros)|(refine CI ?_ ?_ ?_;rotate_left)|(refine Bs ?_ ?_<;>intro _)|refine vU ?_|with_reducible refine WF ?_)
   all_goals refine GR (dI Ac 3 rfl rfl rfl rfl rfl ?_)
   all_goals (repeat' ((conv=>whnf);first|exact CH|(refine Br ?_;intros)|(refine CI ?_ ?_ ?_;rotate_left)|(refine Bs ?_ ?_<;>intro _)|refine ⟨rfl,?_⟩|refine wA hy (by rw [hma]<;>simp [*]) (λst2 hj2=>?_)|with_reducible refine WF ?_))
   all_goals refine QU.of (An Ac ?_)
   all_goals (repeat' ((conv=>whnf);first|exact CH|(refine Br ?_;intros)|(refine CI ?_ ?_ ?_;rotate_left)|(refine Bs ?_ ?_<;>intro _)|with_reducible refine WF ?_))
   all_goals refine QU.of (An Ac ?_)
   all_goals (repeat' ((conv=>whnf);first|exact CH|(refine Br ?_;intros)|(refine CI ?_ ?_ ?_;rotate_left)|(refine Bs ?_ ?_<;>intro _)|with_reducible refine WF ?_))
   all_goals conv=>whnf
   all_goals exact ⟨(0+1,st2),⟨hlt,hj2⟩,UV,Yl,St.le_refl _⟩
  .obtain ⟨p,hp⟩:∃p,l[((i:Int) - 1).toNat]? =some p:=⟨_,List.getElem?_eq_getElem AC⟩
   have hp':l[i - 1]? =some p:=by rw [<-hp];congr 1;omega
   have hop:=hok.at hp'
   have hma:F7 l i=FQ (some p) t:=by unfold F7 ahead;rw [ht',if_neg hz,hp']
   unfold FQ at hma
   have hz2:¬(i:Int)=0:=AC
   repeat' ((conv=>whnf);first|exact CH|(refine Br ?_;intros)|(refine CI ?_ ?_ ?_;rotate_left)|(refine Bs ?_ ?_<;>intro _)|refine Ah hb1 ?_|refine vU ?_|refine Sh ?_|refine xa hop.1 hop.2.1 hop.2.2 ?_|refine Af [(0,true),(1,true),(2,true),(3,true),(4,true),(5,true),(6,true),(7,true),(8,true),(9,true),(10,true),(11,true),(12,true),(13,true),(14,true),(15,true),(16,true),(17,false),(18,true),(19,true),(20,true)] [] GE ?_|with_reducible refine WF ?_)
   all_goals refine GR (dI Ac 3 rfl rfl rfl rfl rfl ?_)
   all_goals (repeat' ((conv=>whnf);first|exact CH|(refine Br ?_;intros)|(refine CI ?_ ?_ ?_;rotate_left)|(refine Bs ?_ ?_<;>intro _)|refine ⟨rfl,?_⟩|refine wA hy (by rw [hma]<;>simp [*]) (λst2 hj2=>?_)|with_reducible refine WF ?_))
   all_goals refine QU.of (An Ac ?_)
   all_goals (repeat' ((conv=>whnf);first|exact CH|(refine Br ?_;intros)|(refine CI ?_ ?_ ?_;rotate_left)|(refine Bs ?_ ?_<;>intro _)|with_reducible refine WF ?_))
   all_goals refine QU.of (An Ac ?_)
   all_goals (repeat' ((conv=>whnf);first|exact CH|(refine Br ?_;intros)|(refine CI ?_ ?_ ?_;rotate_left)|(refine Bs ?_ ?_<;>intro _)|with_reducible refine WF ?_))
   all_goals conv=>whnf
   all_goals exact ⟨(i+1,st2),⟨hlt,hj2⟩,UV,Yl,St.le_refl _⟩
 .have hlt2:¬(i:Int)<(l.length:Int):=AC
  obtain rfl:i=l.length:=AC
  repeat' ((conv=>whnf);first|exact CH|(refine Br ?_;intros)|(refine CI ?_ ?_ ?_;rotate_left)|(refine Bs ?_ ?_<;>intro _)|with_reducible refine WF ?_)
  refine GR (QU.of (An Ac ?_))
  repeat' ((conv=>whnf);first|exact CH|(refine Br ?_;intros)|(refine CI ?_ ?_ ?_;rotate_left)|(refine Bs ?_ ?_<;>intro _)|with_reducible refine WF ?_)
  all_goals conv=>whnf
  all_goals exact ⟨.inl rfl,hj⟩
end
end Go.Proofs.Z
namespace Go.Aw
theorem AH.Pa {own:AH}:(own.st S n).box=S.box:=by cases own<;>rfl
theorem AH.Xy {own:AH}:(own.st S n).Aa b C=own.st (S.Aa b C) n:=by cases own<;>rfl
theorem Z1 {own:AH}:(own.st (S.Aa b C) n).box b=some C:=by rw [AH.Pa];simp [St.Aa]
theorem AH.Jo {own:AH} (h:own.BS S) (hb:S.box b≠none):own.BS (S.Aa b C):=by
 cases own with
 |any=>exact h
 |full=>exact trivial
 |tok t=>
  have h:S.fresh t:=h
  refine (show (S.Aa b C).fresh t from ⟨?_,h.2⟩)
  have:t≠b:=by rintro rfl;exact hb h.1
  simp only [St.Aa]
  rw [if_neg this];exact h.1
theorem AH.RQ {own:AH} {D:List V} (h:own.BS (S.Aa b C)):own.BS (S.Aa b D):=by
 cases own with
 |any=>exact h
 |full=>exact trivial
 |tok t=>
  have h:(S.Aa b C).fresh t:=h
  refine (show (S.Aa b D).fresh t from ⟨?_,h.2⟩)
  have U:=h.1
  simp only [St.Aa] at U |-
  split at U
  .cases U
  .rename_i e;rw [if_neg e];exact U
end Go.Aw
namespace Go.Proofs.Z
open Go Go.Aw
theorem GV (l:List Tk):(AQ l).length=l.length:=by unfold AQ;rw [List.length_map]
theorem M9 {l:List Tk} {x:Tk} {own:AH} {st:St} (h:own.BS st) (hb:l.length+1<=1000000000)
 (k:∀U:AH,U.BS st->K (.slice 4 (AQ (l++[x])) U) (U.st st ((l++[x]).length*4))):Am 4 40 (AQ l) own [x.cells] (own.st st (l.length*4)) K:=by
 have:=FZ (sz:=4) (bytes:=40) (es:=AQ l) (new:=[x.cells]) (K:=K) h (by rw [GV];show (l.length+1)*40<=_;omega) (by rw [GV];show l.length+1<D7;simp only [D7];omega) rfl (λU ho=>by
  have:=k U ho
  rw [GV]
  have e:AQ l++[x.cells].map (·.map V.KD)=AQ (l++[x]):=by unfold AQ;rw [List.map_append];rfl
  rw [e]
  rw [List.length_append] at this
  exact this)
 rw [GV] at this
 exact this
abbrev yI (m:Int) (t:Tk):Tk:=⟨m,[],t.line,t.Ch⟩
theorem gQ {st:St} {K:AB->St->Prop} {c:Bool} (U:∀(st:St) (K:AB->St->Prop),K (.ret (.bool c)) st->PC f args st K) (e:c=true) (k:K (.ret (.bool true)) st):PC f args st K:=U st K (by rw [e];exact k)
theorem lJ {st:St} {K:AB->St->Prop} {c:Bool} (U:∀(st:St) (K:AB->St->Prop),K (.ret (.bool c)) st->PC f args st K) (e:c=false) (k:K (.ret (.bool false)) st):PC f args st K:=U st K (by rw [e];exact k)
theorem Ji {st:St} {c:Nat} (h:b≠c):(st.Aa b cs).box c=st.box c:=by simp [St.Aa,Ne.symm h]
theorem rI {l:List Tk} {x:Tk} {own:AH} (h:own.BS (S.Aa b C)) (hb:l.length+1<=1000000000)
 (k:∀U:AH,U.BS (S.Aa b C)->K (.slice 4 (AQ (l++[x])) U) (U.st (S.Aa b C) ((l++[x]).length*4))):Am 4 40 (AQ l) own [x.cells] ((own.st S (l.length*4)).Aa b C) K:=by
 rw [AH.Xy];exact M9 h hb k
theorem Sd:∀(a:List Tk) (p:Option Tk) (t:Tk),Cj p (a++[t])=Cj p a++markT (FQ (a.getLast?.or p) t) t
 |[],p,t=>by simp [Cj]
 |x::r,p,t=>by
  rw [List.cons_append,Cj,Sd r (some x) t,Cj,List.append_assoc]
  congr 3
  cases r with
  |nil=>rfl
  |cons y r=>rw [List.getLast?_cons_cons];cases h:(y::r).getLast? with
   |none=>simp at h
   |some z=>rfl
theorem LJ:∀(a:List Tk) (p:Option Tk),(Cj p a).length<=2*a.length
 |[],p=>Nat.le_refl _
 |x::r,p=>by
  have:=LJ r (some x)
  rw [Cj,List.length_append,List.length_cons]
  unfold markT
  split<;>simp only [List.length_cons,List.length_nil]<;>omega
theorem cA {l:List Tk} {t:Tk} (h:l[i]? =some t):Cj none (l.take (i+1))=Cj none (l.take i)++markT (F7 l i) t:=by
 have U:=(List.getElem?_eq_some_iff.1 h).1
 have e:l.take (i+1)=l.take i++[t]:=by rw [List.take_add_one,h];rfl
 rw [e,Sd]
 congr 3
 unfold F7 ahead
 rw [h]
 dsimp only
 congr 1
 cases i with
 |zero=>rfl
 |succ i=>
  rw [if_neg AC,List.getLast?_take,if_neg AC]
  have:l[i+1 - 1]? =some l[i]:=by rw [Nat.add_sub_cancel];exact List.getElem?_eq_getElem AC
  rw [this];rfl
section
variable {st:St} {l:List Tk} {own:AH} {K:AB->St->Prop}
attribute [local irreducible] Go.Aw.Am
theorem tS (hok:lf l) (hn:l.length<=100000000) (h:K (.ret (.slice 4 (AQ (BC l)) .any)) st):PC 41 [.slice 4 (AQ l) own] st K:=by
 refine A9.ends (W7 Ac Tryz.func41 rfl Do rfl ?_)
 refine An Ac ?_
 repeat' ((conv=>whnf);first|exact CH|(refine Br ?_;intros)|(refine CI ?_ ?_ ?_;rotate_left)|(refine Bs ?_ ?_<;>intro _)|refine Gm (λ_=>?_) ?_|with_reducible refine WF ?_)
 refine An Ac ?_
 repeat' ((conv=>whnf);first|exact CH|(refine Br ?_;intros)|(refine CI ?_ ?_ ?_;rotate_left)|(refine Bs ?_ ?_<;>intro _)|refine Gm (λ_=>?_) ?_|refine ⟨⟨AC,AC,AC,(by unfold D7<;>omega)⟩,.inl ⟨rfl,λb0 f0=>?_⟩⟩|with_reducible refine WF ?_)
 refine An Ac ?_
 repeat' ((conv=>whnf);first|exact CH|(refine Br ?_;intros)|(refine CI ?_ ?_ ?_;rotate_left)|(refine Bs ?_ ?_<;>intro _)|refine Gm (λ_=>?_) ?_|refine uZ (λc fc=>?_)|with_reducible refine WF ?_)
 conv=>whnf
 refine kS.pub 1 0 rfl rfl rfl (λb1 f1=>?_)
 refine kS.pub 3 1 rfl rfl rfl (λb3 f3=>?_)
 refine kS.here ?_
 obtain ⟨S,hS⟩:∃S,S=(st.Aa c [.slice 4 (AQ l) own]).Aa b1 [.slice 4 (AQ l) own]:=⟨_,rfl⟩
 have n0c:c≠b0:=by
  rintro rfl
  have:=fc.2
  simp [St.Co] at this
 have n01:b1≠b0:=by
  rintro rfl
  have:=f1.2
  simp [St.Co,St.Aa] at this
 have n03:b3≠b0:=by
  rintro rfl
  have:=f3.2
  simp [St.Co,St.Aa] at this
 have nc1:b1≠c:=by
  rintro rfl
  have:=f1.1
  rw [St.Aj] at this;cases this
 have n31:b3≠b1:=by
  rintro rfl
  have:=f3.1
  rw [St.Aj] at this;cases this
 have n3c:b3≠c:=by
  rintro rfl
  have:=f3.1
  rw [Ji (Ne.symm n31),St.Aj] at this;cases this
 have fc0:st.box c=none:=fc.1
 have f10:st.box b1=none:=by have:=f1.1;rw [Ji (Ne.symm nc1)] at this;exact this
 have f30:st.box b3=none:=by have:=f3.1;rw [Ji (Ne.symm n31),Ji (Ne.symm n3c)] at this;exact this
 have hSc:S.box c=some [.slice 4 (AQ l) own]:=by rw [hS,Ji nc1,St.Aj]
 have hS1:S.box b1=some [.slice 4 (AQ l) own]:=by rw [hS,St.Aj]
 have hle:∀X,st.le (S.Aa b3 X):=λX=>by
  rw [hS];exact St.Ak (St.Ak (St.Ak (St.le_refl _) fc0 _) f10 _) f30 _
 have hgo:AH.BS (S.Aa b3 [.slice 4 [] (.tok b0)]) (.tok b0):=by
  refine (show (S.Aa b3 _).fresh b0 from ⟨?_,by rw [hS];exact f0.2⟩)
  rw [Ji n03,hS,Ji n01,Ji n0c];exact f0.1
 obtain ⟨J,hJ⟩:∃J:Nat->St->Prop,J=λi st'=>∃o:AH,o.BS (S.Aa b3 [.slice 4 (AQ (Cj none (l.take i))) o])/\st'=o.st (S.Aa b3 [.slice 4 (AQ (Cj none (l.take i))) o]) ((Cj none (l.take i)).length*4):=⟨_,rfl⟩
 refine ⟨⟨rfl,rfl⟩,114,[.ptr c 0],J l.length,⟨rfl,⟨_,Tryz.func114,Do,Do⟩⟩,?_,?_⟩
 .intro D B Im β a wm L df fi hF I w cargs hm hs hargs hl hi
  refine xv (own:=own) hok hn (J:=J) (λi st1 hj=>?_) (λi st1 hlt hj=>?_) ?_ hm hs hargs hl hi
  .rw [hJ] at hj
   obtain ⟨o,_,rfl⟩:=hj
   rw [AH.Pa,Ji n3c,hSc]
  .refine rh Ac hF rfl rfl rfl Do rfl rfl ?_
   rw [hJ] at hj
   obtain ⟨o,hgo,rfl⟩:=hj
   obtain ⟨t,ht⟩:∃t,l[(i:Int).toNat]? =some t:=⟨_,List.getElem?_eq_getElem AC⟩
   have htk:=cA (l:=l) (i:=i) (t:=t) ht
   have hlen2:=LJ (l.take i) none
   have hti:(l.take i).length<=l.length:=NE
   generalize hout:Cj none (l.take i)=out at *
   have hb3:(o.st (S.Aa b3 [.slice 4 (AQ out) o]) (out.length*4)).box b3=some [.slice 4 (AQ out) o]:=by rw [AH.Pa,St.Aj]
   have hb1:(o.st (S.Aa b3 [.slice 4 (AQ out) o]) (out.length*4)).box b1=some [.slice 4 (AQ l) own]:=by rw [AH.Pa,Ji n31,hS1]
   have hlo:out.length+1<=1000000000:=AC
   unfold fO
   by_cases hz:F7 l i=0
   .have hfin:∀o2:AH,o2.BS (S.Aa b3 [.slice 4 (AQ out) o])->J (i+1) ((o2.st (S.Aa b3 [.slice 4 (AQ out) o]) ((out++[t]).length*4)).Aa b3 [.slice 4 (AQ (out++[t])) o2]):=λo2 h2=>by
     rw [hJ]
     refine ⟨o2,?_,?_⟩
     .rw [htk];unfold markT;rw [if_pos hz];exact AH.RQ h2
     .rw [htk];unfold markT;rw [if_pos hz,AH.Xy,St.set_set]
    repeat' ((conv=>whnf);first|exact CH|(refine Br ?_;intros)|(refine CI ?_ ?_ ?_;rotate_left)|(refine Bs ?_ ?_<;>intro _)|refine Gm (λ_=>?_) ?_|refine ⟨⟨rfl,rfl⟩,?_⟩|refine Ah hb3 ?_|refine Ah hb1 ?_|refine M9 (x:=t) hgo hlo (λo2 h2=>?_)|refine Ah Z1 ?_|exact hfin o2 h2|refine Af [(0,true),(1,true),(2,true),(3,true),(4,true),(5,true),(6,true),(7,true),(8,true),(9,true),(10,true),(11,true),(12,true),(13,true),(14,false),(15,false)] [1] GE ?_|refine Af [(0,true),(1,true),(2,true),(3,true),(4,true),(5,true),(6,false),(7,false)] [1] GE ?_|with_reducible refine WF ?_)
   .have hlo2:(out++[yI (F7 l i) t]).length+1<=1000000000:=by rw [List.length_append,List.length_singleton];omega
    have hfin:∀o2 o3:AH,o2.BS (S.Aa b3 [.slice 4 (AQ out) o])->o3.BS ((S.Aa b3 [.slice 4 (AQ out) o]).Aa b3 [.slice 4 (AQ (out++[yI (F7 l i) t])) o2])->
     J (i+1) ((o3.st ((S.Aa b3 [.slice 4 (AQ out) o]).Aa b3 [.slice 4 (AQ (out++[yI (F7 l i) t])) o2]) ((out++[yI (F7 l i) t]++[t]).length*4)).Aa b3 [.slice 4 (AQ (out++[yI (F7 l i) t]++[t])) o3]):=λo2 o3 h2 h3=>by
     rw [hJ]
     refine ⟨o3,?_,?_⟩
     .rw [htk];unfold markT;rw [if_neg hz,St.set_set] at *;exact AH.RQ h3
     .rw [htk];unfold markT;rw [if_neg hz,AH.Xy,St.set_set,St.set_set,List.append_assoc];rfl
    have hb1':∀(o2:AH) n C,((o2.st (S.Aa b3 [.slice 4 (AQ out) o]) n).Aa b3 C).box b1=some [.slice 4 (AQ l) own]:=λo2 n C=>by rw [Ji n31,AH.Pa,Ji n31,hS1]
    repeat' ((conv=>whnf);first|exact CH|(refine Br ?_;intros)|(refine CI ?_ ?_ ?_;rotate_left)|(refine Bs ?_ ?_<;>intro _)|refine Gm (λ_=>?_) ?_|refine ⟨⟨rfl,rfl⟩,?_⟩|refine Ah hb3 ?_|refine Ah hb1 ?_|refine Ah (hb1' _ _ _) ?_|refine Ah (St.Aj ..) ?_|refine M9 (x:=yI (F7 l i) t) hgo hlo (λo2 h2=>?_)|refine rI (x:=t) (AH.Jo h2 (by rw [St.Aj]<;>simp)) hlo2 (λo3 h3=>?_)|refine Ah Z1 ?_|exact hfin o2 o3 h2 h3|refine Af [(0,true),(1,true),(2,true),(3,true),(4,true),(5,true),(6,true),(7,true),(8,true),(9,true),(10,true),(11,true),(12,true),(13,true),(14,false),(15,false)] [1] GE ?_|refine Af [(0,true),(1,true),(2,true),(3,true),(4,true),(5,true),(6,false),(7,false)] [1] GE ?_|with_reducible refine WF ?_)
  .rw [hJ]
   exact ⟨.tok b0,hgo,by rw [hS];rfl⟩
 .intro st' hk
  rw [hJ,List.take_length] at hk
  obtain ⟨o,hgo,rfl⟩:=hk
  have hb3:(o.st (S.Aa b3 [.slice 4 (AQ (Cj none l)) o]) ((Cj none l).length*4)).box b3=some [.slice 4 (AQ (Cj none l)) o]:=Z1
  have hb1:(o.st (S.Aa b3 [.slice 4 (AQ (Cj none l)) o]) ((Cj none l).length*4)).box b1=some [.slice 4 (AQ l) own]:=by rw [AH.Pa,Ji n31,hS1]
  have hlen2:=LJ l none
  have hlo:(Cj none l).length+1<=1000000000:=AC
  refine An Ac ?_
  have hle1:st.le (o.st (S.Aa b3 [.slice 4 (AQ (Cj none l)) o]) ((Cj none l).length*4)):=St.le_trans (hle _) (AH.BZ hgo)
  have hle2:∀(o2:AH) (n:Nat) (C D:List V),o2.BS (S.Aa b3 C)->st.le ((o2.st (S.Aa b3 C) n).Aa b3 D):=λo2 n C D h2=>by
   rw [AH.Xy,St.set_set];exact St.le_trans (hle _) (AH.BZ (AH.RQ h2))
  have U:∀x:List Tk,G8 l=x->K (.ret (.slice 4 (AQ (Cj none l++x)) .any)) st:=λx e=>by
   have:=h;unfold BC at this;rw [e] at this;exact this
  cases hlast:l.getLast? with
  |none=>
   obtain rfl:l=[]:=List.getLast?_eq_none_iff.1 hlast
   have U:=U [⟨16,[],0,0⟩] rfl
   have hz0:(([]:List Tk).length:Int)=0:=rfl
   repeat' ((conv=>whnf);first|exact CH|(refine Br ?_;intros)|(refine CI ?_ ?_ ?_;rotate_left)|(refine Bs ?_ ?_<;>intro _)|refine Gm (λ_=>?_) ?_|refine Ah hb1 ?_|refine Ah hb3 ?_|refine M9 (x:=⟨16,[],0,0⟩) hgo hlo (λo2 h2=>?_)|refine Ah Z1 ?_|refine Ah (St.Aj ..) ?_|with_reducible refine WF ?_)
   all_goals conv=>whnf
   all_goals refine ⟨.inr rfl,?_⟩
   all_goals conv=>whnf
   all_goals exact ⟨_,_,.inr rfl,hle2 o2 _ _ _ h2,U⟩
  |some t=>
   have hpos:0<l.length:=List.length_pos_iff.2 (λe=>by rw [e] at hlast;cases hlast)
   have ht:l[((l.length:Nat) - 1:Int).toNat]? =some t:=by
    rw [List.getLast?_eq_getElem?] at hlast
    rw [<-hlast];congr 1;omega
   have hne:¬(l.length:Int)=0:=AC
   cases ho:OT t with
   |true=>
    have U:=U [⟨16,[],0,0⟩] (by unfold G8;rw [hlast];simp [ho])
    repeat' ((conv=>whnf);first|exact CH|(refine Br ?_;intros)|(refine CI ?_ ?_ ?_;rotate_left)|(refine Bs ?_ ?_<;>intro _)|refine Gm (λ_=>?_) ?_|refine Ah hb1 ?_|refine Ah hb3 ?_|refine gQ (λst K h=>Sh h) ho ?_|refine M9 (x:=⟨16,[],0,0⟩) hgo hlo (λo2 h2=>?_)|refine Ah Z1 ?_|refine Ah (St.Aj ..) ?_|with_reducible refine WF ?_)
    all_goals conv=>whnf
    all_goals refine ⟨.inr rfl,?_⟩
    all_goals conv=>whnf
    all_goals exact ⟨_,_,.inr rfl,hle2 o2 _ _ _ h2,U⟩
   |false=>
    have U:=U [] (by unfold G8;rw [hlast];simp [ho])
    rw [List.append_nil] at U
    repeat' ((conv=>whnf);first|exact CH|(refine Br ?_;intros)|(refine CI ?_ ?_ ?_;rotate_left)|(refine Bs ?_ ?_<;>intro _)|refine Gm (λ_=>?_) ?_|refine Ah hb1 ?_|refine Ah hb3 ?_|refine lJ (λst K h=>Sh h) ho ?_|with_reducible refine WF ?_)
    all_goals conv=>whnf
    all_goals refine ⟨.inr rfl,?_⟩
    all_goals conv=>whnf
    all_goals exact ⟨_,_,.inr rfl,hle1,U⟩
end
end Go.Proofs.Z
namespace Go.Aw
open Go
theorem qw (l:List UInt8):∀q,Dq l=.inl q->q.1<=l.length:=by
 fun_induction Dq l with
 |case1 l h=>intro q U;cases U
 |case2 l h e he=>intro q U;cases U;exact Nat.zero_le _
 |case3 l h p hp q' hq ih=>
  intro q U
  cases U
  have:=Hy hp
  have:=ih _ hq
  rw [List.length_drop] at this
  dsimp only
  omega
 |case4 l h p hp n hn ih=>intro q U;cases U
theorem lT {q:Nat×Int} (h:G1 l=.inl q):q.1<=l.length:=by
 unfold G1 at h
 split at h
 .cases h;exact Nat.zero_le _
 .split at h
  .cases h;exact Nat.zero_le _
  .rename_i p U
   have:=Hy U
   split at h
   .cases h
   .cases h;exact this.2
theorem yb (h:(BD s p).2.2≠0):0<=(BD s p).2.1/\(BD s p).2.1<=s.length:=by
 have key:∀c:Int,0<=c->AE (s.drop p)=c->p<s.length:=λc hc e=>B8 (k:=p) AC
 unfold BD at h |-
 split
 .rename_i U
  have hp:=key 34 Do U
  rw [if_pos U] at h
  split
  .rename_i q hq
   have:=qw _ _ hq
   rw [List.length_drop] at this
   dsimp only;omega
  .rename_i n hn;rw [hn] at h;exact absurd rfl h
 .rename_i U
  rw [if_neg U] at h
  split
  .rename_i h2
   have hp:=key 39 Do h2
   rw [if_pos h2] at h
   split
   .rename_i q hq
    have:=lT hq
    rw [List.length_drop] at this
    dsimp only;omega
   .rename_i n hn;rw [hn] at h;exact absurd rfl h
  .rename_i h2;rw [if_neg h2] at h;exact absurd rfl h
theorem tH (hp:p<=s.length) (h:(BA s p).2.2≠0):0<=(BA s p).2.1/\(BA s p).2.1<=s.length:=by
 unfold BA at h |-
 split
 .rename_i U;rw [if_pos U] at h;exact absurd rfl h
 .rename_i U
  rw [if_neg U] at h
  split
  .rename_i h2
   rw [if_pos h2] at h
   split
   .dsimp only;omega
   .rename_i h3;rw [if_neg h3] at h;exact absurd rfl h
  .rename_i h2;rw [if_neg h2] at h;exact yb h
end Go.Aw
namespace Go.Proofs.Z
open Go Go.Aw
theorem tE {x:Lx} {i e:Int} (h:DA s p x=.inl (i,e)):0<=i/\i<=s.length:=by
 fun_induction DA s p x with
 |case1 p x U h1=>cases h;omega
 |case2 p x U h1 h2 h3 ih=>exact ih h
 |case3 p x U h1 h2 h3=>cases h
 |case4 p x U h1 h2 h3=>cases h;exact tH (Nat.le_of_lt U) h3
 |case5 p x U h1 h2 h3 h4 ih=>exact ih h
 |case6 p x U h1 h2 h3 h4=>cases h
 |case7 p x U=>cases h
theorem tA {i e:Int} (h:Ew s=.inl (i,e)):0<=i/\i<=s.length:=by
 unfold Ew at h
 split at h
 .cases h;omega
 .split at h
  .injection h with h
   have:=K7 Df s
   unfold MC at h
   split at h<;>(cases h;omega)
  .split at h
   .rename_i U
    cases h
    refine ⟨U,?_⟩
    unfold VT
    split<;>omega
   .exact tE h
theorem tG {x y:Lx} (h:∀t ∈ x.Ar,t.text.length<=s.length/\1<=t.line/\t.line<=1+s.length) (e:DA s p x=.inr y):∀t ∈ y.Ar,t.text.length<=s.length/\1<=t.line/\t.line<=1+s.length:=by
 fun_induction DA s p x with
 |case1 p x U h1=>cases e
 |case2 p x U h1 h2 h3 ih=>exact ih h e
 |case3 p x U h1 h2 h3=>injection e with e;subst e;exact h
 |case4 p x U h1 h2 h3=>cases e
 |case5 p x U h1 h2 h3 h4 ih=>
  refine ih (λt ht=>?_) e
  rcases List.mem_append.1 ht with ht|ht
  .exact h t ht
  .rw [List.mem_singleton.1 ht]
   have:=Tt s.length s p (1,1) (Nat.le_refl _) Do
   refine ⟨?_,this.1,this.2.1⟩
   show (AY s p _).length<=_
   unfold AY
   rw [List.length_drop,List.length_take]
   omega
 |case6 p x U h1 h2 h3 h4=>injection e with e;subst e;exact h
 |case7 p x U=>injection e with e;subst e;exact h
theorem YM {y:Lx} (e:Ew s=.inr y):∀t ∈ y.Ar,t.text.length<=s.length/\1<=t.line/\t.line<=1+s.length:=by
 unfold Ew at e
 split at e
 .cases e
 .split at e
  .cases e
  .split at e
   .cases e
   .exact tG (λt U=>by cases U) e
theorem nH {y:Lx} (hl:s.length<=90000000) (e:Ew s=.inr y):lf y.Ar:=λt U=>by have:=YM e t U;omega
theorem Uo (l:List Tk):(BC l).length<=2*l.length+1:=by
 have h:=LJ l none
 have U:(G8 l).length<=1:=by
  unfold G8
  split
  .exact Nat.le_refl _
  .split<;>simp
 unfold BC
 rw [List.length_append]
 omega
def PV (s:Ae):Int×Int:=if s.pos<s.Ar.length then (match s.Ar[s.pos.toNat]? with|some t=>(t.line,t.Ch)|none=>(0,0)) else (0,0)
end Go.Proofs.Z
namespace Go.Aw
open Go
section
variable {P:Program} {T:List (Nat×Ty)}
theorem Vu (hP:TZ P T) (gl:List Nat) {st:St} {R:St->Prop} (hf:P.funcs[g]? =some fn) (hb:fn.body=some c) (hle:Nat.ble args.length fn.ntmps=true)
 (h:AW P c (y8 T fn R) {tmps:=Jg 0 args,boxes:=[],Bw:=0,sz:=fn.ntmps,gl} st):HM P g args none st R:=by
 intro I w cargs u hs hargs hx
 have hx:u=.returning:=hx
 subst hx
 refine callsD_of_wpS hf hb (λc0 cs hu=>?_)
 refine wpS_of_wp (wp_mono (h [] I st w I _ _ w (GN (fn:=fn) gl hs hargs hle)) ?_)
 rintro e a5 w5 ⟨I5,β5,U,st5,ae,r5,x5,k5⟩
 have last:Xf T fn (λ_ st=>R st) U st5->a5.defers=[]/\∃u',c0::cs={c0 with mode:=u'}::cs/\∃v,(results fn a5.tmps).run P w5=.ok v w5/\((∃v',Ending.returned v=.returned v')/\settle u'=.returning/\∃I' st',Fr I st w I' st' w5/\CU I' st' w5/\R st'):=λq=>by
  obtain ⟨v,c,g1,g2,g3⟩:=CT (P:=P) (R:=λ_ st=>R st) hP.t r5 (show Fo T U st5 fn.results.toList _ from q)
  exact ⟨r5.f.defers,.returning,by rw [<-hu],c,g1,⟨_,rfl⟩,rfl,I5,st5,r5.fr,r5.s,g3⟩
 cases ae with
 |normal=>
  cases e with
  |normal=>exact last k5
  |_=>exact x5.elim
 |ret=>
  cases e with
  |ret=>exact last k5
  |_=>exact x5.elim
 |Cd v=>exact k5.elim
 |exit _=>exact k5.elim
 |goto _=>exact k5.elim
end
theorem dF {c:Operand} {x y:Code} {env:Env} {st:St} (b:Bool) (hb:env.eval c=.bool b) (h:if b=true then AW P x Q env st else AW P y Q env st):AW P (.cond c x y) Q env st:=λD I0 st0 w0 I β a w hr=>by
 have U:=hr.f.eval c
 rw [hb] at U
 have U:=JC U
 cases b with
 |true=>exact wp_cond_true U (h D I0 st0 w0 I β a w hr)
 |false=>exact wp_cond_false U (h D I0 st0 w0 I β a w hr)
end Go.Aw
namespace Go.Proofs.Z
open Go Go.Aw
def TR (t:Tk):Tk:=⟨t.kind,t.text,t.line+1,t.Ch⟩
def yK (g:Int) (n:Nt):Nt:=⟨n.text,n.DL+g,n.wh,n.line+1,n.Ch⟩
section
variable {h s:List UInt8} {pre:List Tk} {g:Int} {x y:Lx} {p q:Nat}
theorem Np:(h++s).drop (h.length+p)=s.drop p:=List.drop_length_add_append _
theorem UC:AY (h++s) (h.length+p) (h.length+q)=AY s p q:=by
 rw [SA,SA,Np,show h.length+q - (h.length+p)=q - p by omega]
theorem Vk:Cv (h++s) (h.length+q)=h.length+Cv s q:=by unfold Cv;rw [Np];omega
def TW (h s:List UInt8):Prop:=∀p,CL (h++s) (h.length+p)=((CL s p).1+1,(CL s p).2)
theorem wO (hc:BH (h++s) h.length) (hw:BT (h++s) h.length (1,1)=(2,1)):TW h s:=λp=>by
 unfold CL
 rw [Oo hc,hw,List.drop_left]
 have h1:=Pk s.length s p 2 1 1 1 (Nat.le_refl _)
 have U:=Tu s.length s p 2 1 1 (Nat.le_refl _)
 exact Prod.ext UV U
structure gE (pre:List Tk) (g:Int) (x y:Lx):Prop where
 tk:y.Ar=pre++x.Ar.map TR
 nt:y.notes=x.notes.map (yK g)
 gp:y.DL=x.DL+g
 jn:∀L:Int,1<=L->(y.j&&decide (y.ends=L+1))=(x.j&&decide (x.ends=L))
theorem Vw {a b:Int}:decide (a+1=b+1)=decide (a=b):=decide_eq_decide.2 AC
theorem gE.tok (U:TW h s) (H:gE pre g x y):gE pre g (Ih s p q k x) (Ih (h++s) (h.length+p) (h.length+q) k y):=by
 unfold Ih
 rw [UC,U,U]
 refine ⟨?_,H.nt,?_,λL hL=>?_⟩
 .dsimp only;rw [H.tk,List.map_append,List.append_assoc];rfl
 .dsimp only;rw [H.gp];split<;>omega
 .dsimp only;rw [Vw]
theorem rS (U:TW h s) (H:gE pre g x y):lC (h++s) (h.length+p) (h.length+q) y=lC s p q x:=by
 unfold lC
 rw [U,U]
 dsimp only
 rw [H.jn _ My.1,Vw]
theorem s9 (U:TW h s):TK (h++s) (h.length+p) (h.length+q)=TK s p q:=by
 unfold TK
 rw [Vk,U,U]
 dsimp only
 rw [Vw,List.length_append]
 congr 1
 exact decide_eq_decide.2 AC
theorem gE.note (U:TW h s) (H:gE pre g x y):gE pre g (NQ s p q x) (NQ (h++s) (h.length+p) (h.length+q) y):=by
 unfold NQ
 rw [UC,rS U H,s9 U,U,U]
 refine ⟨H.tk,?_,H.gp,λL hL=>?_⟩
 .dsimp only;rw [H.nt,H.gp,List.map_append];rfl
 .dsimp only;rw [Vw]
theorem NR:(B7 (h++s) (h.length+p)).2=(B7 s p).2/\(0<(B7 s p).1->(B7 (h++s) (h.length+p)).1=h.length+(B7 s p).1)/\(¬0<(B7 s p).1->¬0<(B7 (h++s) (h.length+p)).1):=by
 rw [WT,WT,Np]
 split
 .exact ⟨rfl,λx=>absurd x Do,λx=>x⟩
 .split
  .exact ⟨rfl,λx=>absurd x Do,λx=>x⟩
  .exact ⟨rfl,λx=>by dsimp only;omega,λx=>by dsimp only at x;omega⟩
theorem Ju:BA (h++s) (h.length+p)=((BA s p).1,h.length+(BA s p).2.1,(BA s p).2.2):=by
 rw [V1,V1,Np]
 dsimp only
 congr 2
 omega
theorem nM {x':Lx} (ha:TW h s) (H:gE pre g x y) (e:DA s p x=.inr x'):∃y',DA (h++s) (h.length+p) y=.inr y'/\gE pre g x' y':=by
 fun_induction DA s p x generalizing y with
 |case1 p x hp h1=>cases e
 |case2 p x hp h1 U hq ih=>
  obtain ⟨n1,n2,n3⟩:=NR (h:=h) (s:=s) (p:=p)
  obtain ⟨y',h3,h4⟩:=ih (gE.note ha H) e
  refine ⟨y',?_,h4⟩
  rw [DA,dif_pos M2,if_neg (by rw [n1];exact h1),if_pos (by rw [n2 U];omega),dif_pos (by rw [n2 U];omega)]
  have e1:(B7 (h++s) (h.length+p)).1.toNat=h.length+(B7 s p).1.toNat:=by rw [n2 U];omega
  rw [e1,Vk];exact h3
 |case3 p x hp h1 U hq=>
  obtain ⟨n1,n2,n3⟩:=NR (h:=h) (s:=s) (p:=p)
  cases e
  refine ⟨y,?_,H⟩
  rw [DA,dif_pos M2,if_neg (by rw [n1];exact h1),if_pos (by rw [n2 U];omega),dif_neg (by rw [n2 U];omega)]
 |case4 p x hp h1 U h3=>cases e
 |case5 p x hp h1 U h3 hq ih=>
  obtain ⟨n1,n2,n3⟩:=NR (h:=h) (s:=s) (p:=p)
  obtain ⟨y',h5,h4⟩:=ih (gE.tok ha H) e
  refine ⟨y',?_,h4⟩
  rw [DA,dif_pos M2,if_neg (by rw [n1];exact h1),if_neg (n3 U),if_neg (by rw [Ju];exact h3),dif_pos (by rw [Ju];dsimp only;omega)]
  have e1:(BA (h++s) (h.length+p)).2.1.toNat=h.length+(BA s p).2.1.toNat:=by rw [Ju];dsimp only;omega
  rw [e1,Vk,show (BA (h++s) (h.length+p)).1=(BA s p).1 by rw [Ju]];exact h5
 |case6 p x hp h1 U h3 hq=>
  obtain ⟨n1,n2,n3⟩:=NR (h:=h) (s:=s) (p:=p)
  cases e
  refine ⟨y,?_,H⟩
  rw [DA,dif_pos M2,if_neg (by rw [n1];exact h1),if_neg (n3 U),if_neg (by rw [Ju];exact h3),dif_neg (by rw [Ju];dsimp only;omega)]
 |case7 p x hp=>
  cases e
  exact ⟨y,by rw [DA,dif_neg M2],H⟩
end
def Qa:List UInt8:=[109,111,100,117,108,101,32,77,32,119,104,101,114,101,10]
def VS:List Tk:=[⟨9,[109,111,100,117,108,101],1,1⟩,⟨2,[77],1,8⟩,⟨9,[119,104,101,114,101],1,10⟩]
theorem OY:∀(w r:List UInt8),(w.all λb=>decide (32<=b.toNat)&&decide (b.toNat<127))=true->BH (w++r) w.length/\∀p,BT (w++r) w.length p=(p.1,p.2+w.length)
 |[],r,_=>⟨.zero _,λp=>by rw [List.nil_append,List.length_nil,Ei];exact Prod.ext rfl UV⟩
 |a::w,r,h=>by
  rw [List.all_cons,Bool.and_eq_true,Bool.and_eq_true,decide_eq_true_eq,decide_eq_true_eq] at h
  obtain ⟨⟨h1,h2⟩,h3⟩:=h
  obtain ⟨k1,k2⟩:=OY w r h3
  have hd:AE (a::(w++r))=(a.toNat:Nat):=rfl
  have hn:Hx (a::(w++r))=0:=by unfold Hx;rw [if_neg (by rw [hd];omega),if_neg (by rw [hd];omega)]
  have U:AV (a::(w++r))=1:=by unfold AV;rw [if_neg AC,DJ AC]
  refine ⟨?_,λp=>?_⟩
  .have:=BH.step (l:=a::(w++r)) GT (k:=w.length) (by rw [U];exact k1)
   rw [U,Nat.add_comm] at this;exact this
  .rw [List.cons_append,D8 GT (by rw [U,List.length_cons];omega),U,List.length_cons,Nat.add_sub_cancel]
   show BT (w++r) w.length _=_
   rw [k2]
   unfold EC Fw
   rw [hn,if_neg Do,if_neg Do,hd,if_neg AC]
   exact Prod.ext rfl UV
theorem wY (s:List UInt8):BH (10::s) 1/\∀p,BT (10::s) 1 p=(p.1+1,1):=by
 have hn:Hx (10::s)=1:=by unfold Hx;rw [if_neg (λx=>absurd x.1 (show ¬(10:Int)=13 by decide)),if_pos (.inr (.inl rfl))]
 have U:AV (10::s)=1:=by unfold AV;rw [hn,if_pos Do]
 refine ⟨?_,λp=>?_⟩
 .have:=BH.step (l:=10::s) GT (k:=0) (.zero _)
  rw [U] at this;exact this
 .rw [D8 GT (by rw [U];omega),U,Nat.sub_self,Ei]
  unfold EC Fw
  rw [hn,if_pos Do,if_pos Do]
theorem xn (s:List UInt8):BH (Qa++s) Qa.length/\BT (Qa++s) Qa.length (1,1)=(2,1):=by
 obtain ⟨U,h2⟩:=OY [109,111,100,117,108,101,32,77,32,119,104,101,114,101] (10::s) Do
 obtain ⟨k1,k2⟩:=wY s
 have e:Qa++s=[109,111,100,117,108,101,32,77,32,119,104,101,114,101]++10::s:=rfl
 rw [e]
 refine ⟨U.add (j:=1) k1,?_⟩
 show BT ([109,111,100,117,108,101,32,77,32,119,104,101,114,101]++10::s) ([109,111,100,117,108,101,32,77,32,119,104,101,114,101].length+1) (1,1)=_
 rw [Oo U,h2]
 exact k2 _
theorem OQ {S w:List UInt8} {x:Lx} (hd:S.drop p=w++r) (hr:Ll r) (hv:Vd w) (hb:Bd w w.length) (h0:w≠[]) (U:Jt w=(k,w.length,0)) (hn:CJ w=0):DA S p x=DA S (Cv S (p+w.length)) (Ih S p (p+w.length) k x):=by
 have hw:0<w.length:=List.length_pos_iff.2 h0
 have hp:p<S.length:=by
  have:=congrArg List.length hd
  rw [List.length_drop,List.length_append] at this
  omega
 have e1:Jt (w++r)=(k,w.length,0):=by rw [<-qK,tD hr hv hb hw (Nat.le_refl _) (by rw [U]) (by rw [U];exact Nat.le_refl _) (.inr rfl),U]
 have e2:CJ (w++r)=0:=by rw [<-qK];exact oK hr hv hb hw (Nat.le_refl _) (by rw [U]) (by rw [U];exact Nat.le_refl _) hn
 have e3:B7 S p=(0,0):=by rw [WT,hd,e2];rfl
 have e4:BA S p=(k,((p+w.length:Nat):Int),0):=by rw [V1,hd,e1]
 rw [DA,dif_pos hp,e3,if_neg (λx=>x rfl),if_neg Do,e4,if_neg (λx=>x rfl)]
 dsimp only
 rw [dif_pos AC,Int.toNat_natCast]
theorem dV {S:List UInt8} {q:Nat} (hd:S.drop q=32::r) (U:32<AE r) (h2:AE r<127):Cv S q=q+1:=by
 unfold Cv
 rw [hd,O8 GT (by rw [DJ Do];rfl),DJ Do]
 show q+(1+Bx _ r)=_
 rw [Rb U h2]
theorem wT {S:List UInt8} {q:Nat} (hd:S.drop q=10::r):Cv S q=q+(1+Cv r 0):=by
 unfold Cv
 rw [hd,O8 GT (by rw [DJ Do];rfl),DJ Do]
 show q+(1+Bx _ r)=q+(1+(0+Bx _ (r.drop 0)))
 rw [List.drop_zero,Nat.zero_add]
theorem nG (h:z8 s):Ew s=DA s (Cv s 0) rp:=by
 unfold Ew
 rw [if_neg (by have:=h.1;omega),if_neg,if_neg]
 .unfold VT
  rw [if_neg (λx=>Nat.lt_irrefl _ (Nat.lt_of_lt_of_le x (Nat.le_of_eq (show s.length=BB (λd=> !(Ay (d.1:Nat)==0)) s from h.2.2.symm))))]
  decide
 .unfold MC
  rw [if_neg (by have:BB Df s=s.length:=h.2.1;omega)]
  omega
theorem zf:Vd Qa/\Cl Qa/\(Jt [109,111,100,117,108,101]=(9,6,0)/\CJ [109,111,100,117,108,101]=0)/\(Jt [77]=(2,1,0)/\CJ [77]=0)/\(Jt [119,104,101,114,101]=(9,5,0)/\CJ [119,104,101,114,101]=0):=by
 unfold Vd Cl
 decide +kernel
theorem HN:∀{w:List UInt8},(∀b ∈ w,b.toNat<128)->Vd w/\Bd w w.length
 |[],_=>⟨Vd.nil,.zero _⟩
 |a::w,h=>by
  have ha:=h a List.mem_cons_self
  obtain ⟨U,h2⟩:=HN (w:=w) λb hb=>h b (List.mem_cons_of_mem _ hb)
  have hd:AJ (a::w)=(a.toNat,1):=DJ ha
  refine ⟨?_,?_⟩
  .unfold Vd at *
   rw [Cp GT (by rw [hd];unfold Df;simp;omega),hd]
   show 1+BB Df w=_
   rw [U,List.length_cons];omega
  .have:=Bd.step (l:=a::w) GT (k:=w.length) (by rw [hd];exact h2)
   rw [hd,Nat.add_comm] at this;exact this
theorem tB {x:Lx} (hl:s.length<=16000000) (e:Ew s=.inr x):∃y,Ew (Qa++s)=.inr y/\gE VS 3 x y:=by
 have ho:=eV e
 obtain ⟨v1,v2,⟨l1,n1⟩,⟨l2,n2⟩,l3,n3⟩:=zf
 have ho2:z8 (Qa++s):=⟨by rw [List.length_append];show 15+s.length<=_;omega,v1.app ho.2.1,v2.app v1 ho.2.2⟩
 obtain ⟨c1,c2⟩:=xn s
 have ha:=wO c1 c2
 rw [nG ho] at e
 have U:∀p:Nat,p<=14->CL (Qa++s) p=(1,1+(p:Int)):=λp hp=>by
  have h1:=(OY ([109,111,100,117,108,101,32,77,32,119,104,101,114,101].take p) (([109,111,100,117,108,101,32,77,32,119,104,101,114,101].drop p)++10::s) (by
   rw [List.all_eq_true]
   intro b hb
   exact List.all_eq_true.1 (show ([109,111,100,117,108,101,32,77,32,119,104,101,114,101].all λb:UInt8=>decide (32<=b.toNat)&&decide (b.toNat<127))=true by decide) b (List.mem_of_mem_take hb))).2 (1,1)
  rw [<-List.append_assoc,List.take_append_drop,List.length_take,Nat.min_eq_left (by exact hp)] at h1
  exact h1
 have w1:=OQ (S:=Qa++s) (p:=0) (w:=[109,111,100,117,108,101]) (r:=32::77::32::119::104::101::114::101::10::s) (x:=rp) rfl (.inr (.inl rfl)) (HN Do).1 (HN Do).2 GT l1 n1
 have b1:Cv (Qa++s) 6=7:=dV (r:=77::32::119::104::101::114::101::10::s) rfl (show (32:Int)<77 by decide) (show (77:Int)<127 by decide)
 have w2:=λx=>OQ (S:=Qa++s) (p:=7) (w:=[77]) (r:=32::119::104::101::114::101::10::s) (x:=x) rfl (.inr (.inl rfl)) (HN Do).1 (HN Do).2 GT l2 n2
 have b2:Cv (Qa++s) 8=9:=dV (r:=119::104::101::114::101::10::s) rfl (show (32:Int)<119 by decide) (show (119:Int)<127 by decide)
 have w3:=λx=>OQ (S:=Qa++s) (p:=9) (w:=[119,104,101,114,101]) (r:=10::s) (x:=x) rfl (.inr (.inr rfl)) (HN Do).1 (HN Do).2 GT l3 n3
 have b3:Cv (Qa++s) 14=Qa.length+Cv s 0:=by rw [wT (r:=s) rfl];show 14+(1+Cv s 0)=15+Cv s 0;omega
 have b0:Cv (Qa++s) 0=0:=by
  unfold Cv
  rw [Rb (l:=(Qa++s).drop 0) (show (32:Int)<109 by decide) (show (109:Int)<127 by decide)]
 have H:gE VS 3 rp (Ih (Qa++s) 9 14 9 (Ih (Qa++s) 7 8 2 (Ih (Qa++s) 0 6 9 rp))):=by
  unfold Ih
  rw [U 0 AC,U 6 AC,U 7 AC,U 8 AC,U 9 AC,U 14 AC]
  refine ⟨rfl,rfl,rfl,λL hL=>?_⟩
  dsimp only [rp]
  rw [Bool.true_and,Bool.false_and]
  exact decide_eq_false AC
 obtain ⟨y,h1,h2⟩:=nM ha H e
 refine ⟨y,?_,h2⟩
 rw [nG ho2,b0,w1]
 show DA _ (Cv _ 6) _=_
 rw [b1,w2]
 show DA _ (Cv _ 8) _=_
 rw [b2,w3]
 show DA _ (Cv _ 14) _=_
 rw [b3]
 exact h1
end Go.Proofs.Z
