/-
  Parts of a proof: lemmas that the last text uses.
-/
import Derived.Test.YtpkekfapphbgjaaGreatDoorB7
import Derived.Lib.Join
import Derived.RangeFuncRecord
import Derived.RangeFuncSeq
import Derived.OrdersIn
set_option linter.unusedVariables false
set_option linter.unusedSimpArgs false
set_option maxHeartbeats 16000000
variable {s:List UInt8} {p B b N l k n df id:Nat} {x:Go.Proofs.Z.Lx} {C args:List Go.Aw.V} {i e:Int} {K:Go.Aw.St->Prop} {st' S:Go.Aw.St} {f:Go.FuncId} {c assign body:Go.Code} {α:Type} {w w' wm:Go.World} {ops:Array Go.Oper} {r:Go.Loop} {Im:Go.Aw.Mem} {fn:Go.Func} {all post:List Go.Oper} {oc:Go.Oper}
namespace Go.Aw
open Go
def qy (l:List UInt8):Nat:=BQ (λc=>Ax c==1) l
def tT (l:List UInt8):List UInt8:=l.drop (qy l)
def Cl (l:List UInt8):Prop:=Cd (λd=> !(Ax (d.1:Nat)==0)) l=l.length
theorem lY (l:List UInt8):qy (tT l)=0:=by
 by_cases h:qy l<l.length
 .have:=Rn (λc=>Ax c==1) l h
  exact Xy this
 .have:tT l=[]:=List.drop_eq_nil_iff.2 AC
  rw [this];exact SN _
end Go.Aw
namespace Go.Proofs.Z
open Go Go.Aw
def uI (s:List UInt8):Prop:=s.length<=16777216/\Vd s/\Cl s
theorem nz {y:Lx} (h:F4 s=.inr y):uI s:=by
 unfold F4 at h
 split at h
 .cases h
 .split at h
  .cases h
  .rename_i h1 h2
   split at h
   .cases h
   .rename_i U
    refine ⟨AC,fP AC,?_⟩
    unfold VN at U
    have hle:=ML (λd=> !((λc:Nat=>Ax (c:Nat)==0) d.1)) s
    split at U
    .omega
    .show Cd (λd=> !((λc:Nat=>Ax (c:Nat)==0) d.1)) s=_
     omega
theorem iv (h:¬p<s.length):F5 s p x=.inr x:=by rw [F5,dif_neg h]
theorem iu (h:p<s.length) (U:(Cw s p).2≠0):F5 s p x=.inl ((p:Nat),(Cw s p).2):=by rw [F5,dif_pos h,if_pos U]
theorem dd {q:Nat} (h:p<s.length) (U:(Cw s p).2=0) (h2:(Cw s p).1=(q:Nat)) (h3:p<q):F5 s p x=F5 s (DQ s q) (je s p q x):=by
 rw [F5,dif_pos h,if_neg (λe=>e U),if_pos AC,h2,Int.toNat_natCast,dif_pos h3]
theorem iw (h:p<s.length) (U:(Cw s p).2=0) (h2:¬0<(Cw s p).1) (h3:(Cm s p).2.2≠0):F5 s p x=.inl ((Cm s p).2.1,(Cm s p).2.2):=by
 rw [F5,dif_pos h,if_neg (λe=>e U),if_neg h2,if_pos h3]
theorem iy {q:Nat} (h:p<s.length) (U:(Cw s p).2=0) (h2:¬0<(Cw s p).1) (h3:(Cm s p).2.2=0) (h4:(Cm s p).2.1=(q:Nat)) (h5:p<q):F5 s p x=F5 s (DQ s q) (XH s p q (Cm s p).1 x):=by
 rw [F5,dif_pos h,if_neg (λe=>e U),if_neg h2,if_neg (λe=>e h3),h4,Int.toNat_natCast,dif_pos h5]
structure LW where
 p:Nat
 sp:Nat
 x:Lx
 w1:AA
 w2:AA
 m:St
theorem eC (l:List Tk) (t:Tk):A4 (l++[t])=A4 l++[t.cells]:=by simp [A4]
theorem Y5 (l:List Nt) (t:Nt):GS (l++[t])=GS l++[t.cells]:=by simp [GS]
theorem IP (l:List Nt):(GS l).length=l.length:=by simp [GS]
theorem l5 (s:List UInt8) (p:Nat):DQ s (DQ s p)=DQ s p:=by
 have h:=lY (s.drop p)
 have e:tT (s.drop p)=s.drop (DQ s p):=by unfold tT;rw [List.drop_drop];rfl
 rw [e] at h
 exact Nat.add_eq_left.2 h
section
variable {st:St} {R:At->St->Prop}
attribute [local irreducible] Go.Aw.Ag
theorem VY (c:Nat) (U:c<=1114111):PC 45 [.int .i32 (c:Int)] rB λr _=>r=.ret (.bool (Ax (c:Int)==0)):=by
 refine pB Tryz.func45 ?_
 repeat' ((conv=>whnf);first|  (refine CZ ?_ ?_<;>intro _)|refine J3 ?_)
 all_goals first|exact Au rfl (by simp [*])|(conv=>whnf;simp [*])
theorem pM (h1:∀i e,F4 s=.inl (i,e)->R (.ret (.Bj [.slice 4 [] .full,.slice 5 [] .full,.int .i64 i,.int .i64 e])) st)
 (h1':∀i e st',st.le st'->F4 s=.inl (i,e)->R (.ret (.Bj [.slice 4 [] .full,.slice 5 [] .full,.int .i64 i,.int .i64 e])) st')
 (h2:∀x w1 w2 st',F4 s=.inr x->st.le st'->R (.ret (.Bj [.slice 4 (A4 x.AV) w1,.slice 5 (GS x.notes) w2,.int .i64 0,.int .i64 0])) st'):PC 18 [.str s] st R:=by
 refine AP Ab [30] Tryz.func18 rfl Do rfl ?_
 by_cases hl:16777216<s.length
 .have e:F4 s=.inl (0,3):=by unfold F4;rw [if_pos hl]
  refine Ae Ab ?_
  repeat' ((conv=>whnf);first|exact B1|(refine A1 ?_;intros)|(refine B2 ?_ ?_ ?_;rotate_left)|refine WJ (λ_=>?_)|refine An GE ?_|fail)
  exact fin (h1 _ _ e) rfl
 .by_cases hk:(LP s).2=0
  .by_cases hx:0<=VN (λc=>Ax (c:Nat)==0) s
   .have e:F4 s=.inl (VN (λc=>Ax (c:Nat)==0) s,70):=by unfold F4;rw [if_neg hl,if_neg (λx=>x hk),if_pos hx]
    refine Ae Ab ?_
    repeat' ((conv=>whnf);first|exact B1|(refine A1 ?_;intros)|(refine B2 ?_ ?_ ?_;rotate_left)|refine WJ (λ_=>?_)|refine Ti ?_|refine aB (p:=λc=>Ax (c:Nat)==0) VY ?_|refine An GE ?_|fail)
    exact fin (h1 _ _ e) rfl
   .have e:F4 s=F5 s (DQ s 0) tz:=by unfold F4;rw [if_neg hl,if_neg (λx=>x hk),if_neg hx]
    have hv:=fP hk
    refine Af (Ae Ab ?_)
    repeat' ((conv=>whnf);first|exact B1|(refine A1 ?_;intros)|(refine B2 ?_ ?_ ?_;rotate_left)|refine An GE ?_|fail)
    refine Af (Ae Ab ?_)
    repeat' ((conv=>whnf);first|exact B1|(refine A1 ?_;intros)|(refine B2 ?_ ?_ ?_;rotate_left)|refine WJ (λ_=>?_)|refine An GE ?_|fail)
    refine Af (Ae Ab ?_)
    repeat' ((conv=>whnf);first|exact B1|(refine A1 ?_;intros)|(refine B2 ?_ ?_ ?_;rotate_left)|refine Ti ?_|refine An GE ?_|fail)
    refine Af (Ae Ab ?_)
    repeat' ((conv=>whnf);first|exact B1|(refine A1 ?_;intros)|(refine B2 ?_ ?_ ?_;rotate_left)|refine aB (p:=λc=>Ax (c:Nat)==0) VY ?_|refine An GE ?_|fail)
    refine Af (Ae Ab ?_)
    repeat' ((conv=>whnf);first|exact B1|(refine A1 ?_;intros)|(refine B2 ?_ ?_ ?_;rotate_left)|refine Tg (λb fb=>?_)|refine An GE ?_|fail)
    have hb0:=fb.1
    have hq0:=J1 (s:=s) (p:=0) AC
    refine Ae Ab ?_
    repeat' ((conv=>whnf);first|exact B1|(refine A1 ?_;intros)|(refine B2 ?_ ?_ ?_;rotate_left)|refine LH (p:=0) AC AC (St.AJ _ _ _) ?_|refine An GE ?_|fail)
    refine QA (α:=LW) (λ_=>[]) [0,6] [] (λy=>y.m) (λy=>y.m.box b=some (OX s y.p y.sp (CD s y.sp).1 (CD s y.sp).2 (A4 y.x.AV) (GS y.x.notes) y.w1 y.w2 y.x.D6 y.x.ends y.x.j)/\BU st y.m y.w1 (y.x.AV.length*4) y.w2 (y.x.notes.length*5)/\
     BT s y.sp/\BT s y.p/\y.sp<=y.p/\0<=y.x.D6/\y.x.D6<=y.p/\y.x.AV.length<=y.p/\y.x.notes.length<=y.p/\F5 s (DQ s 0) tz=F5 s y.p y.x)
     (λy=>s.length - y.p) ⟨DQ s 0,0,tz,.full,.full,_⟩ ⟨?_,⟨trivial,trivial,trivial,trivial,trivial,St.Aj (St.Aj (St.le_refl _) hb0 _) hb0 _⟩,.zero s,BT.qx hv (.zero s),by simp only [];omega,Int.le_refl _,by simp only [tz];omega,Nat.zero_le _,Nat.zero_le _,rfl⟩ Yl (St.le_refl _) ?_
    .have e0:CD s 0=(1,1):=FN
     dsimp only
     rw [e0]
     exact St.AJ _ _ _
    rintro ⟨p,sp,x,w1,w2,m⟩ ⟨j1,j2,j3,j4,j5,j6,j7,j8,j9,U⟩
    dsimp only at j1 j2 j3 j4 j5 j6 j7 j8 j9 U |-
    have hp:=j4.le
    by_cases hpl:p<s.length
    .have hns:=λ{R:At->St->Prop}=>nX (st:=m) (R:=R) (s:=s) (pos:=p) AC hpl
     by_cases n2:(Cw s p).2=0
     .rw [n2] at hns
      by_cases n1:0<(Cw s p).1
      .obtain ⟨q,e1,e2,e3,e4⟩:=WQ hv j4 n2 n1
       rw [e1] at hns
       rw [dd hpl n2 e1 e2] at U
       have hq:=J1 e3
       have hnt:=λ{R:At->St->Prop}=>rD (st:=m) (R:=R) (st0:=st) AC hv j3 j4 e4 j5 AC ⟨j6,AC⟩ (by rw [IP];omega) hb0 (by rw [IP];exact j2) j1
       repeat' ((conv=>whnf);first|exact B1|(refine A1 ?_;intros)|(refine B2 ?_ ?_ ?_;rotate_left)|refine hns ?_|refine Am j1 ?_|refine WJ (λ_=>?_)|refine hnt (λv2 st' sp' c' hs' hR hB=>?_)|refine LH (p:=DQ s q) AC AC hB ?_|refine An GE ?_|fail)
       all_goals conv=>whnf
       have eb:=l5 s q
       refine ⟨⟨DQ s q,sp',je s p q x,w1,v2,_⟩,⟨?_,?_,c',e4.qx hv,hs',j6,by show x.D6<=_;simp only [];omega,by show x.AV.length<=_;simp only [];omega,by show (x.notes++[_]).length<=_;rw [List.length_append,List.length_singleton];simp only [];omega,U⟩,by simp only [];omega,Yl,St.le_refl _⟩
       .refine (St.AJ _ _ _).trans ?_
        show _=some (OX s (DQ s q) sp' _ _ (A4 x.AV) (GS (x.notes++[_])) w1 v2 x.D6 (CD s q).1 _)
        rw [Y5]
        exact congrArg (λz=>some (OX s z sp' _ _ _ _ _ _ _ _ _)) eb
       .show BU st _ w1 (x.AV.length*4) v2 ((x.notes++[_]).length*5)
        rw [List.length_append,List.length_singleton]
        rw [IP] at hR
        exact hR.set hb0 _
      .have hlx:=λ{R:At->St->Prop}=>iz (st:=m) (R:=R) AC hpl j1
       by_cases k2:(Cm s p).2.2=0
       .obtain ⟨k1,q,e1,e2,e3,e4⟩:=VZ hv j4 k2
        rw [k2,e1] at hlx
        rw [iy hpl n2 n1 k2 e1 e2] at U
        have hq:=J1 e3
        have htk:=λ{R:At->St->Prop}=>kZ (st:=m) (R:=R) (st0:=st) (k:=(Cm s p).1) (e0:=0) AC hv j3 j4 e4 j5 AC ⟨j6,AC⟩ (by rw [HA];omega) hb0 (by rw [HA];exact j2) j1
        repeat' ((conv=>whnf);first|exact B1|(refine A1 ?_;intros)|(refine B2 ?_ ?_ ?_;rotate_left)|refine hns ?_|refine Am j1 ?_|refine WJ (λ_=>?_)|refine hlx ?_|refine htk (λv1 st' hR hB=>?_)|refine LH (p:=q) AC e3 hB ?_|refine An GE ?_|fail)
        all_goals conv=>whnf
        have hgap:(XH s p q (Cm s p).1 x).D6=x.D6\/(XH s p q (Cm s p).1 x).D6=x.D6+1:=by
         show (if cntF (Cm s p).1 (Bc s p q) then x.D6+1 else x.D6)=_\/(if cntF (Cm s p).1 (Bc s p q) then x.D6+1 else x.D6)=_
         split
         .exact .inr rfl
         .exact .inl rfl
        refine ⟨⟨DQ s q,q,XH s p q (Cm s p).1 x,v1,w2,_⟩,⟨?_,?_,e4,e4.qx hv,hq.1,by simp only [];omega,by simp only [];omega,by show (x.AV++[_]).length<=_;rw [List.length_append,List.length_singleton];simp only [];omega,by show x.notes.length<=_;simp only [];omega,U⟩,by simp only [];omega,Yl,St.le_refl _⟩
        .refine (St.AJ _ _ _).trans ?_
         show _=some (OX s (DQ s q) q _ _ (A4 (x.AV++[_])) (GS x.notes) v1 w2 _ (CD s q).1 true)
         rw [eC]
         rfl
        .show BU st _ v1 ((x.AV++[_]).length*4) w2 (x.notes.length*5)
         rw [List.length_append,List.length_singleton]
         rw [HA] at hR
         exact hR.set hb0 _
       .rw [iw hpl n2 n1 k2] at U
        repeat' ((conv=>whnf);first|exact B1|(refine A1 ?_;intros)|(refine B2 ?_ ?_ ?_;rotate_left)|refine hns ?_|refine Am j1 ?_|refine WJ (λ_=>?_)|refine hlx ?_|refine An GE ?_|fail)
        exact fin (h1' _ _ _ j2.le (e.trans U)) rfl
     .rw [iu hpl n2] at U
      repeat' ((conv=>whnf);first|exact B1|(refine A1 ?_;intros)|(refine B2 ?_ ?_ ?_;rotate_left)|refine hns ?_|refine Am j1 ?_|refine WJ (λ_=>?_)|refine An GE ?_|fail)
      exact fin (h1' _ _ _ j2.le (e.trans U)) rfl
    .rw [iv hpl] at U
     repeat' ((conv=>whnf);first|exact B1|(refine A1 ?_;intros)|(refine B2 ?_ ?_ ?_;rotate_left)|refine Am j1 ?_|refine WJ (λ_=>?_)|refine An GE ?_|fail)
     exact fin (h2 x w1 w2 m (e.trans U) j2.le) rfl
  .have e:F4 s=.inl ((LP s).1,(LP s).2):=by unfold F4;rw [if_neg hl,if_pos hk]
   refine Ae Ab ?_
   repeat' ((conv=>whnf);first|exact B1|(refine A1 ?_;intros)|(refine B2 ?_ ?_ ?_;rotate_left)|refine WJ (λ_=>?_)|refine Ti ?_|refine An GE ?_|fail)
   exact fin (h1 _ _ e) rfl
end
def Tp:Nat->Rd Nd
 |0=>.fail Jg
 |d+1=>Yj (d+1)
def oQ (d:Nat):Rd Nd:=ld (UK d) (lh d) (UR d) (JC d) (Sj d) (Tp (d - 1))
def UP (top:Rd Nd) (l:List Nd):Rd Nd:=.look λs0=>.seq top λn=>if ((n.kind==50)&&l.any λx=> !(x.kind==50))=true then .Ge s0 Hl else .ret n
def UL (top:Rd Nd):Rd Nd:=LI bK (UP top)
def Kv (d:Nat):Rd Nd:=UL (oQ d)
section
variable {s s0 s1:Al} {A:Rd Nd} {l:List Nd}
theorem Yv {A B C D E F:Rd Nd} (U:Rd.A7 E):Rd.A7 (ld A B C D E F):=Rd.A7.look λs v s' h=>by
 split at h
 .rename_i hk
  rw [beq_iff_eq] at hk
  have ht:∀{v:Nd} {s':Al},AO.run s=.inr (v,s')->mu s'<mu s:=λe=>G6 e AC
  (repeat' split at h)<;>first|exact Rd.A7.at (λ_ _ e=>ht e) h|exact U _ _ _ h
 .exact U _ _ _ h
theorem Yu (d:Nat):Rd.A7 (oQ d):=Yv (PK (L0 _) (Tw _)).pH
end
mutual
def Hc:Nd->Nd
 | .mk k f t _ _ ks=>.mk k f t 0 0 (D1 ks)
def D1:List Nd->List Nd
 |[]=>[]
 |n::r=>Hc n::D1 r
end
end Go.Proofs.Z
namespace Go.Aw
open Go
def HP (s:List UInt8):Nat->List (Nat×Nat)->List UInt8
 |U,[]=>s.drop U
 |U,p::r=>(s.take p.1).drop U++[92,32,92]++HP s p.2 r
def Lf (s:List UInt8):Sum Int (List UInt8):=if (Bs s 0).2.2≠0 then .inl (Bs s 0).2.2 else if (Bs s 0).1=0\/(Bs s 0).2.1≠s.length then .inl 50 else .inr (HP s 0 (Lg s 0))
def UY (f:Int) (t:List UInt8):List UInt8:=if f=13\/f=14 then (match Lf t with| .inr u=>u| .inl _=>t) else t
end Go.Aw
namespace Go.Proofs.Z
open Go Go.Aw
mutual
def Av:Nd->Nd
 | .mk k f t _ _ ks=>if k=1 then .mk k f (UY f t) 0 0 ks else .mk k f t 0 0 (Da ks)
def Da:List Nd->List Nd
 |[]=>[]
 |n::r=>Av n::Da r
end
mutual
def Bl:Nd->Nd
 | .mk k f t l c ks=>.mk k (if k=2 then 1 else f) t l c (CK ks)
def CK:List Nd->List Nd
 |[]=>[]
 |n::r=>Bl n::CK r
end
mutual
def CR:Nd->List (List UInt8)
 | .mk k f t l c ks=>if k=1 then [t] else if k=2 then [[123]]++D0 true true ks++[[125]] else D0 false true ks
def D0:Bool->Bool->List Nd->List (List UInt8)
 |_,_,[]=>[]
 |b,first,n::r=>(if b=true/\first=false then [[59]] else [])++CR n++D0 b false r
end
theorem Hx:∀l:List Nd,Da l=l.map Av
 |[]=>rfl
 |n::r=>by rw [Da,Hx r];rfl
theorem KZ:∀l:List Nd,CK l=l.map Bl
 |[]=>rfl
 |n::r=>by rw [CK,KZ r];rfl
def N5 (n:Nd):List UInt8:=Lib.join (CR (Av n)) [32]
mutual
theorem ck:∀n:Nd,Bl (Bl n)=Bl n
 | .mk k f t l c ks=>by rw [Bl,Bl,Jr ks];split<;>rfl
theorem Jr:∀l:List Nd,CK (CK l)=CK l
 |[]=>rfl
 |n::r=>by rw [CK,CK,ck n,Jr r]
end
mutual
theorem Pw:∀n:Nd,Bl (Av (Bl n))=Bl (Av n)
 | .mk k f t l c ks=>by
   rw [Bl,Av,Av]
   by_cases U:k=1
   .subst U
    simp only [Bl,Jr,if_neg (show ¬(1:Int)=2 by decide),if_true]
   .rw [if_neg U,if_neg U,Bl,Bl,LL ks]
    split<;>rfl
theorem LL:∀l:List Nd,CK (Da (CK l))=CK (Da l)
 |[]=>rfl
 |n::r=>by rw [CK,Da,CK,Da,CK,Pw n,LL r]
end
mutual
theorem NW:∀n:Nd,Hc (Av (Hc n))=Hc (Av n)
 | .mk k f t l c ks=>by
   rw [Hc,Av,Av]
   by_cases U:k=1
   .rw [if_pos U,if_pos U,Hc,Hc,NX ks]
   .rw [if_neg U,if_neg U,Hc,Hc,Oz ks]
theorem Oz:∀l:List Nd,D1 (Da (D1 l))=D1 (Da l)
 |[]=>rfl
 |n::r=>by rw [D1,Da,D1,Da,D1,NW n,Oz r]
theorem oZ:∀n:Nd,Hc (Hc n)=Hc n
 | .mk k f t l c ks=>by rw [Hc,Hc,NX ks]
theorem NX:∀l:List Nd,D1 (D1 l)=D1 l
 |[]=>rfl
 |n::r=>by rw [D1,D1,oZ n,NX r]
end
mutual
theorem RE:∀n:Nd,Hc (Bl n)=Bl (Hc n)
 | .mk k f t l c ks=>by rw [Bl,Hc,Hc,Bl,RF ks]
theorem RF:∀l:List Nd,D1 (CK l)=CK (D1 l)
 |[]=>rfl
 |n::r=>by rw [CK,D1,D1,CK,RE n,RF r]
end
mutual
def EV:Nd->Nd->Bool
 | .mk k f t _ _ ks,b=>decide (k=b.kind)&&(decide (f=b.form)&&(t==b.text&&Ca ks b.kids))
def Ca:List Nd->List Nd->Bool
 |[],[]=>true
 |a::l,b::m=>EV a b&&Ca l m
 |[],_::_=>false
 |_::_,[]=>false
end
mutual
theorem JK:∀a b:Nd,EV a b=true↔Hc a=Hc b
 | .mk k f t l c ks,.mk k' f' t' l' c' U=>by
   rw [EV,Hc,Hc]
   show (decide (k=k')&&(decide (f=f')&&(t==t'&&Ca ks U)))=true↔_
   simp only [Bool.and_eq_true,decide_eq_true_eq,beq_iff_eq,SK ks U,Nd.mk.injEq,true_and]
theorem SK:∀l m:List Nd,Ca l m=true↔D1 l=D1 m
 |[],[]=>by simp [Ca]
 |a::l,b::m=>by rw [Ca,D1,D1,Bool.and_eq_true,JK a b,SK l m,List.cons.injEq]
 |[],_::_=>by simp [Ca,D1]
 |_::_,[]=>by simp [Ca,D1]
end
theorem SJ (a:Nd):EV a a=true:=(JK a a).2 rfl
theorem dQ (a b:Nd):EV a b=EV b a:=by
 rw [Bool.eq_iff_iff,JK,JK];exact eq_comm
def Dl (a b:Nd):Bool:=EV (Bl (Av a)) (Bl (Av b))
theorem alike_refl (a:Nd):Dl a a=true:=SJ _
theorem X4 (a:Nd):Dl a (Bl a)=true:=by unfold Dl;rw [Pw];exact SJ _
theorem X6 (a b:Nd):Dl a b=Dl b a:=dQ _ _
theorem X5 {a b:Nd} (h:EV a b=true):Dl a b=true:=by
 unfold Dl
 rw [JK] at h |-
 rw [RE,RE,<-NW a,h,NW b]
end Go.Proofs.Z
namespace Go.Aw
open Go
def RY (N:Nat):Nat->List (Nat×Nat)->Prop
 |a,[]=>a<=N
 |a,p::r=>a<=p.1/\p.1<p.2/\RY N p.2 r
theorem TN {N:Nat}:∀{l:List (Nat×Nat)} {a:Nat},RY N a l->a<=N
 |[],a,h=>h
 |p::r,a,h=>by have:=TN h.2.2;have:=h.1;have:=h.2.1;omega
theorem av {N:Nat}:∀{l:List (Nat×Nat)} {a:Nat},RY N a l->a+l.length<=N
 |[],a,h=>h
 |p::r,a,h=>by have:=av h.2.2;have:=h.1;have:=h.2.1;rw [List.length_cons];omega
theorem VK {l:List (Nat×Nat)} {a:Nat} (h:RY N b l) (k:a<=b):RY N a l:=by
 cases l with
 |nil=>exact Nat.le_trans k h
 |cons p r=>exact ⟨Nat.le_trans k h.1,h.2⟩
theorem Qj (pos:Nat) (l:List UInt8):pos+l.length<=N->RY N pos (Ga pos l):=by
 fun_induction Ga pos l with
 |case1 pos l h=>intro hN;show pos<=N;omega
 |case2 pos l h e U=>intro hN;show pos<=N;omega
 |case3 pos l h p U hg ih=>
  intro hN
  have:=ED U
  exact ⟨Nat.le_refl _,AC,ih IR⟩
 |case4 pos l h p U hg ih=>
  intro hN
  have:=ED U
  exact VK (ih IR) AC
theorem aw:RY s.length 0 (Lg s 0):=by
 unfold Lg
 split
 .rename_i h
  have:s≠[]:=λe=>by subst e;exact absurd h Do
  have:=List.length_pos_iff.2 this
  exact VK (Qj 1 (s.drop 1) IR) AC
 .exact Nat.zero_le _
def Eg (s:List UInt8):Int:=if (Bs s 0).2.2=0 then (if (Bs s 0).1=0\/(Bs s 0).2.1≠s.length then 50 else 0) else (Bs s 0).2.2
theorem QX (h:Eg s≠0):Lf s=.inl (Eg s):=by
 unfold Lf Eg at *
 split
 .rename_i U;first|rfl|rw [if_neg U]
 .rename_i U
  have U:(Bs s 0).2.2=0:=Classical.not_not.1 U
  rw [if_pos U] at h |-
  split
  .rfl
  .rename_i h2;rw [if_neg h2] at h;exact absurd rfl h
theorem MA (h:Eg s=0):Lf s=.inr (HP s 0 (Lg s 0)):=by
 unfold Lf Eg at *
 split at h
 .rename_i U
  rw [if_neg (λx=>x U)]
  split at h
  .cases h
  .rename_i h2;rw [if_neg h2]
 .rename_i U;exact absurd h U
end Go.Aw
namespace Go.Proofs.Z
open Go Go.Aw
section
variable {st:St} {R:At->St->Prop}
attribute [local irreducible] Go.Aw.Ag
theorem W7 (hl:s.length<=100000000) (h:∀b4 (q:Nat) tx o w1 g w2 st',st.le st'->st'.box b4=some (qC s q tx o w1 g w2)->(Eg s=0->g=Lg s 0)->R (.ret (.Bj [.ptr b4 0,.int .i64 (Eg s)])) st'):PC 129 [.str s] st R:=by
 refine pB Tryz.func129 ?_
 repeat' ((conv=>whnf);first|  (refine CZ ?_ ?_<;>intro _)|refine jG (pos:=0) hl (Nat.zero_le _) (λb4 q tx o w1 g w2 st' hst hb hq hg=>?_)|refine Am ‹_› ?_|refine WJ (λ_=>?_))
 all_goals conv=>whnf
 all_goals have hw:Eg s=0->(Bs s 0).1≠0:=λU h1=>by unfold Eg at U;(repeat' split at U)<;>omega
 all_goals refine Bm (r:=.ret (.Bj [.ptr _ 0,.int .i64 (Eg s)])) ?_ (h _ _ _ _ _ _ _ _ hst hb (λU=>hg (hw U)))
 all_goals refine congrArg (λx=>At.ret (V.Bj [V.ptr _ 0,V.int .i64 x])) (?_:Eg s=_)
 all_goals unfold Eg
 all_goals (repeat' split)<;>omega
theorem dC {l:List (Nat×Nat)} {x:Nat×Nat} {K:List V->Prop} (h:l[i.toNat]? =some x) (U:0<=i) (k:K [.int .i64 (x.1:Int),.int .i64 (x.2:Int)]):0<=i/\∃e,(dB l)[i.toNat]? =some e/\K e:=
 ⟨U,_,by simp [dB,h],k⟩
theorem nv {l:List (Nat×Nat)} {K:Nat->Prop} (k:l.length<4611686018427387904->K l.length):∀m,m=(dB l).length->m<C9->K m:=λm U h=>by
 rw [G1] at U;subst U;exact k h
theorem W4 (hl:s.length<=100000000) (h1:∀e,Lf s=.inl e->∀st',st.le st'->R (.ret (.Bj [.str [],.int .i64 e])) st') (h2:∀u,Lf s=.inr u->∀st',st.le st'->R (.ret (.Bj [.str u,.int .i64 0])) st'):PC 87 [.str s] st R:=by
 refine pB Tryz.func87 ?_
 by_cases hz:Eg s=0
 .have hq:=MA hz
  repeat' ((conv=>whnf);first|(refine A1 ?_;intros)|refine W7 hl (λb4 q tx o w1 g w2 st1 hst hb hg=>?_)|refine Am ‹_› ?_|refine nv (λ_=>?_))
  obtain rfl:=hg hz
  have hok:=aw (s:=s)
  generalize hG:Lg s 0=g at hok hq
  have hgl:=av hok
  refine Gg (α:=Nat×List UInt8×Nat) (λy=>[(6,.str y.2.1),(7,.int .i64 (y.2.2:Nat)),(23,.int .i64 (y.1:Nat))]) [0,21,22] (λ_=>[]) [] (λ_=>st1) (λy=>y.1<=g.length/\y.2.1++HP s y.2.2 (g.drop y.1)=HP s 0 g/\RY s.length y.2.2 (g.drop y.1)/\y.2.1.length<=4*y.2.2) (λy=>g.length - y.1) (0,[],0) ⟨Nat.zero_le _,rfl,hok,Nat.le_refl _⟩ Yl (St.le_refl _) ?_
  rintro ⟨k,pre,a⟩ ⟨j1,j2,j3,j4⟩
  dsimp only at j1 j2 j3 j4
  have ha:=TN j3
  by_cases U:k<g.length
  .obtain ⟨x,hx⟩:∃x,g[(k:Int).toNat]? =some x:=⟨_,List.getElem?_eq_getElem U⟩
   have hd:g.drop k=x::g.drop (k+1):=by
    rw [<-List.getElem_cons_drop U]
    congr 1
    have:=(List.getElem?_eq_getElem U).symm.trans (show g[k]? =some x from hx)
    exact Option.some.inj this
   rw [hd] at j2 j3
   obtain ⟨j5,j6,j7⟩:=j3
   have hb:=TN j7
   have hc1:∀{p:Prop},p->((s.take (x.1:Int).toNat).drop (a:Int).toNat).length+[92,32,92].length<C9/\p:=λh=>⟨by rw [List.length_drop,List.length_take];show _+3<4611686018427387904;omega,h⟩
   have hc2:∀{p:Prop},p->pre.length+((s.take (x.1:Int).toNat).drop (a:Int).toNat++[92,32,92]).length<C9/\p:=λh=>⟨by rw [List.length_append,List.length_drop,List.length_take];show _+(_+3)<4611686018427387904;omega,h⟩
   have hsl:∀{K:List UInt8->Prop},K ((s.take (x.1:Int).toNat).drop (a:Int).toNat)->(0<=(a:Int)/\(a:Int)<=(x.1:Int)/\(x.1:Int)<=s.length)/\∀s',s'=(s.take (x.1:Int).toNat).drop (a:Int).toNat->K s':=λk=>WP AC AC AC k
   repeat' ((conv=>whnf);first|(refine A1 ?_;intros)|refine dC hx AC ?_|refine hsl ?_|refine hc1 ?_|refine hc2 ?_|refine Wq (a:=(k:Int)+1) AC AC ?_)
   all_goals conv=>whnf
   all_goals exact ⟨(k+1,pre++((s.take (x.1:Int).toNat).drop (a:Int).toNat++[92,32,92]),x.2),⟨U,by rw [<-j2];simp only [HP,Int.toNat_natCast,List.append_assoc],j7,by dsimp only;rw [List.length_append,List.length_append,List.length_drop,List.length_take];show pre.length+(_+3)<=4*x.2;omega⟩,Nat.sub_lt_sub_left U (Nat.lt_succ_self k),Yl,St.le_refl _⟩
  .rw [List.drop_eq_nil_of_le AC] at j2
   have hc2:∀{p:Prop},p->pre.length+(s.drop (a:Int).toNat).length<C9/\p:=λh=>⟨by rw [List.length_drop];show _<4611686018427387904;omega,h⟩
   have hsl:∀{K:List UInt8->Prop},K (s.drop (a:Int).toNat)->(0<=(a:Int)/\(a:Int)<=(s.length:Int)/\(s.length:Int)<=s.length)/\∀s',s'=(s.take (s.length:Int).toNat).drop (a:Int).toNat->K s':=λk=>WN AC AC k
   have hr:=h2 _ hq _ hst
   rw [<-j2] at hr
   repeat' ((conv=>whnf);first|(refine A1 ?_;intros)|refine hsl ?_|refine hc2 ?_)
   all_goals exact Bm rfl hr
 .have hq:=QX hz
  repeat' ((conv=>whnf);first|(refine A1 ?_;intros)|refine W7 hl (λb4 q tx o w1 g w2 st1 hst hb hg=>?_))
  all_goals exact fin (h1 _ hq _ hst) rfl
end
mutual
def C7:Nd->Nat
 | .mk _ _ t _ _ ks=>t.length+Gr ks
def Gr:List Nd->Nat
 |[]=>0
 |n::r=>C7 n+Gr r
end
theorem JR:∀{l:List Nd} {n:Nd},n ∈ l->C7 n<=Gr l
 |m::r,n,h=>by
  rw [Gr]
  rcases List.mem_cons.1 h with rfl|h
  .omega
  .have:=JR h;omega
theorem Rx.grow {st0 st:St} {rows:List (AA×List Nd)} (h:Rx st0 st rows) (k:st.le st'):Rx st0 st' rows:=⟨St.le_trans h.le k,λr U=>by
 have:=h.ok r U
 obtain ⟨o,l⟩:=r
 cases o with
 |any=>exact this
 |full=>trivial
 |tok t=>exact ⟨this.1,k.2 _ _ this.2⟩,h.ap⟩
theorem Qb {k f l c:Int} {t:List UInt8} {ks:List Nd} {own:AA}:At.ret (enc (.mk k f t l c ks))=(At.ret (.agg [.int .i64 k,.int .i64 f,.str t,.int .i64 l,.int .i64 c,.slice 6 (ks.map AB) own])).wk:=by
 rw [<-BI];rfl
section
variable {st:St} {R:At->St->Prop}
attribute [local irreducible] Go.Aw.Ag
theorem jB (hl:s.length<=100000000) (hq:Lf s=.inl e) (h:∀st',st.le st'->R (.ret (.Bj [.str [],.int .i64 e])) st'):PC 87 [.str s] st R:=
 W4 hl (λe' U st' k=>by rw [hq] at U;cases U;exact h st' k) (λu U=>by rw [hq] at U;cases U)
theorem jC {u:List UInt8} (hl:s.length<=100000000) (hq:Lf s=.inr u) (h:∀st',st.le st'->R (.ret (.Bj [.str u,.int .i64 0])) st'):PC 87 [.str s] st R:=
 W4 hl (λe' U=>by rw [hq] at U;cases U) (λv U st' k=>by rw [hq] at U;cases U;exact h st' k)
theorem kD {n:Nd} (hl:n.text.length<=100000000) (h:∀st',st.le st'->R (.ret (.str (UY n.form n.text))) st'):PC 58 [enc n] st R:=by
 refine pB Tryz.func58 ?_
 by_cases hf:n.form=13\/n.form=14
 .cases hq:Lf n.text with
  |inl e=>
   have he:e≠0:=λe0=>by
    subst e0
    by_cases hz:Eg n.text=0
    .rw [MA hz] at hq;cases hq
    .rw [QX hz] at hq;injection hq with hq;exact hz hq
   have hp:UY n.form n.text=n.text:=by unfold UY;rw [if_pos hf,hq]
   rw [hp] at h
   repeat' ((conv=>whnf);first|(refine A1 ?_;intros)|(refine CZ ?_ ?_<;>intro _)|refine jB hl hq (λst1 U=>?_))
   all_goals first|exact fin (h _ U) rfl|(exfalso;omega)
  |inr u=>
   have hp:UY n.form n.text=u:=by unfold UY;rw [if_pos hf,hq]
   rw [hp] at h
   repeat' ((conv=>whnf);first|(refine A1 ?_;intros)|(refine CZ ?_ ?_<;>intro _)|refine jC hl hq (λst1 U=>?_))
   all_goals first|exact fin (h _ U) rfl|(exfalso;omega)
 .have hp:UY n.form n.text=n.text:=if_neg hf
  rw [hp] at h
  repeat' ((conv=>whnf);first|(refine A1 ?_;intros)|(refine CZ ?_ ?_<;>intro _)|fail)
  all_goals first|exact fin (h _ (St.le_refl _)) rfl|(exfalso;omega)
theorem RC:∀(m:Nat) {n:Nd} {st:St} {R:At->St->Prop},n.size<=m->n.size<=900000000->C7 n<=100000000->(∀st',st.le st'->R (.ret (enc (Av n))) st')->PC 31 [enc n] st R:=by
 intro m
 induction m with
 |zero=>intro n st R hm;cases n;rw [Nd.size] at hm;omega
 |succ m ih=>
  intro n st R hm hz ht h
  cases n with
  |mk k f t l c ks=>
   rw [C7] at ht
   have hks:ks.length<=900000000:=by have:ks.length<_:=EW (.mk k f t l c ks);omega
   refine pB Tryz.func31 ?_
   by_cases hk:k=1
   .rw [Av,if_pos hk] at h
    have hk':(Nd.mk k f t l c ks).kind=1:=hk
    have hs:∀{st:St} {R:At->St->Prop},(∀st',st.le st'->R (.ret (.str (UY f t))) st')->PC 58 [enc (.mk k f t l c ks)] st R:=λh=>kD (n:=.mk k f t l c ks) (by show t.length<=_;omega) h
    repeat' ((conv=>whnf);first|exact B1|(refine A1 ?_;intros)|(refine B2 ?_ ?_ ?_;rotate_left)|refine hs (λst1 hle1=>?_)|refine AM [1,3,5,7,9,13,15,10,17,18] [1] ?_|refine Ad 8 [3,5,7] [2] ?_|fail)
    all_goals first|exact Bm rfl (h _ hle1)|exact absurd hk ‹_›
   .rw [Av,if_neg hk,Hx] at h
    have hk':¬(Nd.mk k f t l c ks).kind=1:=hk
    repeat' ((conv=>whnf);first|exact B1|(refine A1 ?_;intros)|(refine B2 ?_ ?_ ?_;rotate_left)|fail)
    refine Gg (α:=Nat×AA×St) (λy=>[(28,.int .i64 (y.1:Nat))]) [1,2,3,26,27] (λy=>[(2,[.int .i64 k,.int .i64 f,.str t,.int .i64 0,.int .i64 0,.slice 6 (((ks.take y.1).map Av).map AB) y.2.1])]) [0,1] (λy=>y.2.2) (λy=>y.1<=ks.length/\Rx st y.2.2 [(y.2.1,(ks.take y.1).map Av)]) (λy=>ks.length - y.1) (0,.full,st) ⟨Nat.zero_le _,Rx.start.push []⟩ Yl (St.le_refl _) ?_
    rintro ⟨i,w,st1⟩ ⟨j1,j2⟩
    dsimp only at j1 j2
    by_cases hlt:i<ks.length
    .obtain ⟨x,hx⟩:∃x,ks[(i:Int).toNat]? =some x:=⟨_,List.getElem?_eq_getElem hlt⟩
     have U:=List.mem_of_getElem? hx
     have hsz:=Cb (n:=.mk k f t l c ks) U
     have htl:=JR U
     have htk:(ks.take (i+1)).map Av=(ks.take i).map Av++[Av x]:=by rw [List.take_add_one,show ks[i]? =some x from hx,List.map_append];rfl
     have hrec:∀{st:St} {R:At->St->Prop},(∀st',st.le st'->R (.ret (enc (Av x))) st')->PC 31 [enc x] st R:=λh=>ih AC AC AC h
     have hli:(i:Int)<(ks.length:Int):=AC
     repeat' ((conv=>whnf);first|refine Wm hx AC ?_|refine Wv hli ?_|exact B1|(refine A1 ?_;intros)|(refine B2 ?_ ?_ ?_;rotate_left)|refine hrec (λst2 hle2=>?_)|refine Rx.Fo (j2.grow hle2) (by rw [List.length_map,List.length_take]<;>omega) (λown3 st3 hr3=>?_)|refine Wq (a:=(i:Int)+1) AC AC ?_|refine AM [1,3,5,7,9,13,15,10,17,18] [1] ?_|refine Ad 8 [3,5,7] [2] ?_|fail)
     all_goals conv=>whnf
     all_goals exact ⟨(i+1,own3,st3),⟨hlt,by rw [htk];exact hr3⟩,Nat.sub_lt_sub_left hlt (Nat.lt_succ_self i),by dsimp only;rw [htk];exact Yl,St.le_refl _⟩
    .have hi:i=ks.length:=AC
     subst hi
     rw [List.take_length] at j2 |-
     have hli:¬(ks.length:Int)<(ks.length:Int):=AC
     repeat' ((conv=>whnf);first|refine Ww hli ?_|exact B1|(refine A1 ?_;intros)|(refine B2 ?_ ?_ ?_;rotate_left)|fail)
     all_goals exact Bm Qb (h _ j2.le)
end
end Go.Proofs.Z
namespace Go.Aw
open Go
theorem cU {l:List (List UInt8)} {x:List UInt8} (h:l≠[]):Lib.join (l++[x]) [32]=Lib.join l [32]++[32]++x:=by
 cases l with
 |nil=>simp_all
 |cons a r=>
  rw [List.cons_append,Lib.join_cons,Lib.join_cons]
  simp [Lib.joinTail]
theorem ep {l:List α} {x:α} (h:l[k]? =some x):l.take (k+1)=l.take k++[x]:=by
 obtain ⟨U,rfl⟩:=List.getElem?_eq_some_iff.1 h
 simp_all
theorem cV {l:List (List UInt8)} (k:Nat):(Lib.join (l.take k) [32]).length<=(Lib.join l [32]).length:=by
 cases l with
 |nil=>simp
 |cons a r=>
  cases k with
  |zero=>simp [Lib.join_nil]
  |succ k=>
   rw [List.take_succ_cons,Lib.join_cons,Lib.join_cons,List.length_append,List.length_append]
   have:=Lib.joinTail_take_le [32] r k
   omega
end Go.Aw
namespace Go.Proofs.Z
open Go Go.Aw
section
variable {st:St} {R:At->St->Prop}
attribute [local irreducible] Go.Aw.Cg
theorem rh {es:List α} {K:Nat->Prop} (h:es.length=n) (k:K n):∀m,m=es.length->m<C9->K m:=λm U _=>by simp_all
theorem nH {st:St} {U:Nat} {Q:Prop} {K:Nat->Nat->Prop} (h1:(n:Int)*(U:Int)<=140737488355328) (h2:n<1000000000) (k:∀b,st.fresh b->K b n):
 (0<=(n:Int)/\(n:Int)<=n/\(n:Int)*(U:Int)<=140737488355328/\(n:Int)<(C9:Nat))/\(Q\/((n:Int)=n/\∀b k,st.fresh b->k=(n:Int).toNat->K b k)):=
 ⟨⟨AC,AC,h1,by unfold C9;omega⟩,.inr ⟨rfl,λb k' hb hk=>by
   simp_all⟩⟩
end
theorem PQ (x:Nd):(AB x).length=6:=rfl
def JJ (l:List Nd) (n:Nat):List V:=(l.map AB).flatten++(List.replicate (n - l.length) Cz).flatten
theorem Np:∀l:List Nd,(l.map AB).flatten.length=l.length*6
 |[]=>rfl
 |x::r=>by rw [List.map_cons,List.flatten_cons,List.length_append,Np r,PQ,List.length_cons];omega
theorem Xc:∀n:Nat,(List.replicate n Cz).flatten.length=n*6
 |0=>rfl
 |n+1=>by rw [List.replicate_succ,List.flatten_cons,List.length_append,Xc n];show 6+_=_;omega
theorem WI {l:List Nd} (h:l.length<=n):(JJ l n).length=n*6:=by
 unfold JJ
 rw [List.length_append,Np,Xc];omega
theorem nU {l:List Nd} (h:l.length<=n):NA (JJ l n)=true:=by
 have:=WI h
 match JJ l n,this with
 |[],_=>rfl
 |[v],e=>rw [List.length_singleton] at e;omega
 |a::b::r,_=>rfl
theorem rC:(List.replicate n Cz).flatten=JJ [] n:=by
 unfold JJ
 rw [List.map_nil,List.flatten_nil,List.nil_append,List.length_nil,Nat.sub_zero]
theorem ja {l:List Nd} (h:l.length=n):JJ l n=(l.map AB).flatten++[]:=by
 unfold JJ
 rw [h,Nat.sub_self];rfl
theorem jb {l:List Nd} {x:Nd} (h:l.length<n):(JJ l n).take (l.length*6)++AB x++(JJ l n).drop (l.length*6+6)=JJ (l++[x]) n:=by
 unfold JJ
 have e:=Np l
 rw [<-e,List.take_left,show (l.map AB).flatten.length+6=((l.map AB).flatten).length+6 from rfl,List.drop_append,List.length_append,List.length_singleton,List.map_append,List.flatten_append]
 rw [show n - l.length=(n - (l.length+1))+1 by omega,List.replicate_succ,List.flatten_cons]
 rw [List.drop_of_length_le AC,List.nil_append,show (l.map AB).flatten.length+6 - (l.map AB).flatten.length=6 by omega]
 simp [Cz]
theorem kJ {l:List Nd} {x:Nd} {K:List V->Prop} (U:l.length=k) (h:k<n) (kk:K (JJ (l++[x]) n)):Cg (JJ l n) (k*6) (AB x) K:=by
 subst U
 unfold Cg
 refine AL (nU AC) (AL (by rw [Nat.ble_eq,WI AC,PQ];omega) (AL rfl (A5.2 ?_)))
 rw [PQ,jb h]
 exact kk
theorem ig {st m:St} (h:st.le m) (h0:st.box b=none):st.le (m.IC b):=⟨λy c hy=>by
 have U:y≠b:=λe=>by simp_all
 show (if y=b then none else m.box y)=some c
 rw [if_neg U]
 exact h.1 _ _ hy,h.2⟩
section
attribute [local irreducible] Go.Aw.Ag Go.Aw.Cg
theorem LJ:∀(m:Nat) {n:Nd} {st:St} {R:At->St->Prop},n.size<=m->n.size<=900000000->(∀st',st.le st'->R (.ret (enc (Bl n))) st')->PC 27 [enc n] st R:=by
 intro m
 induction m with
 |zero=>intro n st R hm;cases n;rw [Nd.size] at hm;omega
 |succ m ih=>
  intro n st R hm hz h
  cases n with
  |mk k f t l c ks=>
   have hks:ks.length<=900000000:=by have:ks.length<_:=EW (.mk k f t l c ks);omega
   rw [Bl,KZ] at h
   refine AP Ab [] Tryz.func27 rfl Do rfl ?_
   refine Af (Ae Ab ?_)
   repeat' ((conv=>whnf);first|(refine A1 ?_;intros)|unfold Go.Aw.Cg)
   refine Pb (α:=Unit) (λ_=>[]) (λ_=>[(0,[.int .i64 k,.int .i64 (if k=2 then 1 else f),.str t,.int .i64 l,.int .i64 c,.slice 6 (Cj ks) .any])]) [1,2] [1] (λ_=>st) (λ_=>True) (Ae Ab ?_) ?_
   .by_cases hk:k=2
    .have hk':(Nd.mk k f t l c ks).kind=2:=hk
     rw [if_pos hk]
     repeat' ((conv=>whnf);first|(refine A1 ?_;intros)|unfold Go.Aw.Cg)
     all_goals exact ⟨(),trivial,Yl,St.le_refl _⟩
    .have hk':¬(Nd.mk k f t l c ks).kind=2:=hk
     rw [if_neg hk]
     repeat' ((conv=>whnf);first|(refine A1 ?_;intros)|unfold Go.Aw.Cg)
     all_goals exact ⟨(),trivial,Yl,St.le_refl _⟩
   .rintro _ _
    generalize (if k=2 then (1:Int) else f)=g at h |-
    by_cases h0:ks=[]
    .subst h0
     refine Ae Ab ?_
     repeat' ((conv=>whnf);first|refine rh (n:=0) rfl ?_|(refine A1 ?_;intros)|refine ⟨Do,.inl ⟨rfl,λb fb=>?_⟩⟩|unfold Go.Aw.Cg)
     refine T3 17 [1,2,3,15,16] [0,1] 0 (λk=>k=0) rfl Yl ?_
     rintro i rfl
     repeat' ((conv=>whnf);first|(refine A1 ?_;intros)|unfold Go.Aw.Cg)
     all_goals exact Bm rfl (h _ (St.Fb (St.le_refl _) fb.2 _))
    .have hne:ks.length≠0:=λe=>h0 (List.length_eq_zero_iff.1 e)
     refine Af (Ae Ab ?_)
     repeat' ((conv=>whnf);first|(refine A1 ?_;intros)|refine Wl (λ_=>?_)|refine nH AC AC (λb fb=>?_))
     refine Pb (α:=St) (λm=>[(3,.Fp 6 b ks.length ks.length)]) (λ_=>[]) [1,2] [0,1] (λm=>m) (λm=>m.box b=some (JJ (ks.map Bl) ks.length)/\st.le m) ?_ ?_
     .refine Ae Ab ?_
      repeat' ((conv=>whnf);first|(refine A1 ?_;intros)|refine Wl (λ_=>?_))
      refine QA (α:=Nat×St) (λx=>[(17,.int .i64 (x.1:Int))]) [1,2,3,15,16] [0,1] (λx=>x.2) (λx=>x.1<=ks.length/\x.2.box b=some (JJ ((ks.take x.1).map Bl) ks.length)/\st.le x.2) (λx=>ks.length - x.1) (0,_) ⟨Nat.zero_le _,(St.AJ _ _ _).trans (congrArg some rC),St.Aj (St.le_refl _) fb.1 _⟩ Yl (St.le_refl _) ?_
      rintro ⟨i,w⟩ ⟨hi,hb,hle⟩
      dsimp only at hi hb hle |-
      by_cases U:i<ks.length
      .obtain ⟨x,hx⟩:∃x,ks[(i:Int).toNat]? =some x:=⟨_,List.getElem?_eq_getElem U⟩
       have hsz:=Cb (n:=.mk k f t l c ks) (List.mem_of_getElem? hx)
       have htk:(ks.take (i+1)).map Bl=(ks.take i).map Bl++[Bl x]:=by rw [List.take_add_one,show ks[i]? =some x from hx,List.map_append];rfl
       have htl:((ks.take i).map Bl).length=i:=by rw [List.length_map,List.length_take];omega
       have hrec:∀{st:St} {R:At->St->Prop},(∀st',st.le st'->R (.ret (enc (Bl x))) st')->PC 27 [enc x] st R:=λh=>ih AC AC h
       have hli:(i:Int)<(ks.length:Int):=AC
       repeat' ((conv=>whnf);first|refine Wm hx AC ?_|refine Wv hli ?_|(refine A1 ?_;intros)|refine hrec (λst2 hle2=>?_)|refine lS (j:=i) rfl AC ?_|refine Am (hle2.1 _ _ hb) ?_|refine kJ htl U ?_|unfold Go.Aw.Cg|refine Wq (a:=(i:Int)+1) AC AC ?_)
       all_goals conv=>whnf
       all_goals exact ⟨(i+1,st2.Aa b (JJ ((ks.take i).map Bl++[Bl x]) ks.length)),⟨U,by dsimp only;rw [htk];exact St.AJ _ _ _,St.Aj (St.le_trans hle hle2) fb.1 _⟩,Nat.sub_lt_sub_left U (Nat.lt_succ_self i),Yl,St.le_refl _⟩
      .have hi2:i=ks.length:=AC
       have hli:¬(i:Int)<(ks.length:Int):=AC
       repeat' ((conv=>whnf);first|refine Ww hli ?_|(refine A1 ?_;intros)|fail)
       all_goals conv=>whnf
       all_goals refine ⟨w,⟨?_,hle⟩,Yl,St.le_refl _⟩
       all_goals rw [hb,hi2,List.take_length]
     .rintro w ⟨hb,hle⟩
      rw [ja (by rw [List.length_map])] at hb
      refine bN 3 [] rfl (show 3<Tryz.f27.ntmps by decide) hb (λe he=>by obtain ⟨s,_,rfl⟩:=List.mem_map.1 he;rfl) GT ?_
      refine Ae Ab ?_
      repeat' ((conv=>whnf);first|(refine A1 ?_;intros)|unfold Go.Aw.Cg)
      all_goals exact Bm Qb (h _ (ig hle fb.1))
end
theorem ik (a b:List (List UInt8)):Lib.lens (a++b)=Lib.lens a+Lib.lens b:=by simp [Lib.lens]
theorem ix {y:Lx} (hv:Vd s) (hp:BT s p) (h:x.AV.length<=p/\Lib.lens (x.AV.map Tk.text)<=p) (e:F5 s p x=.inr y):y.AV.length<=s.length/\Lib.lens (y.AV.map Tk.text)<=s.length:=by
 have hpl:=hp.le
 fun_induction F5 s p x with
 |case1 p x U h1=>cases e
 |case2 p x U h1 h2 h3 ih=>
  obtain ⟨q,e1,e2,e3,e4⟩:=WQ hv hp AC h2
  have eq:(Cw s p).1.toNat=q:=AC
  rw [eq] at ih e
  have hb:=J1 e3
  exact ih (e4.qx hv) ⟨by show x.AV.length<=_;omega,by show Lib.lens (x.AV.map Tk.text)<=_;omega⟩ e hb.2
 |case3 p x U h1 h2 h3=>injection e with e;subst e;omega
 |case4 p x U h1 h2 h3=>cases e
 |case5 p x U h1 h2 h3 h4 ih=>
  obtain ⟨e0,q,e1,e2,e3,e4⟩:=VZ hv hp AC
  have eq:(Cm s p).2.1.toNat=q:=AC
  rw [eq] at ih e
  have hb:=J1 e3
  have hpc:(Bc s p q).length=q - p:=Ik AC e3
  have l1:(XH s p q (Cm s p).1 x).AV.length=x.AV.length+1:=by simp [XH]
  have l2:Lib.lens ((XH s p q (Cm s p).1 x).AV.map Tk.text)=Lib.lens (x.AV.map Tk.text)+(q - p):=by
   show Lib.lens ((x.AV++[_]).map Tk.text)=_
   rw [List.map_append,ik]
   simp [Lib.lens,hpc]
  exact ih (e4.qx hv) ⟨AC,AC⟩ e hb.2
 |case6 p x U h1 h2 h3 h4=>injection e with e;subst e;omega
 |case7 p x U=>injection e with e;subst e;omega
theorem im {y:Lx} (e:F4 s=.inr y):y.AV.length<=s.length/\Lib.lens (y.AV.map Tk.text)<=s.length:=by
 have ok:=nz e
 unfold F4 at e
 split at e
 .cases e
 .split at e
  .cases e
  .split at e
   .cases e
   .exact ix ok.2.1 (BT.qx ok.2.1 (.zero s)) ⟨Nat.zero_le _,Nat.zero_le _⟩ e
theorem dc (h:F5 s p x=.inl (i,e)):e≠0:=by
 fun_induction F5 s p x with
 |case1 p x U h1=>injection h with h;injection h with h h';omega
 |case2 p x U h1 h2 h3 ih=>exact ih h
 |case3 p x U h1 h2 h3=>cases h
 |case4 p x U h1 h2 h3=>injection h with h;injection h with h h';omega
 |case5 p x U h1 h2 h3 h4 ih=>exact ih h
 |case6 p x U h1 h2 h3 h4=>cases h
 |case7 p x U=>cases h
theorem il (h:F4 s=.inl (i,e)):e≠0:=by
 unfold F4 at h
 split at h
 .injection h with h;injection h with h h';omega
 .split at h
  .rename_i U
   injection h with h
   rw [h] at U;exact U
  .split at h
   .injection h with h;injection h with h h';omega
   .exact dc h
section
variable {st:St} {R:At->St->Prop}
theorem tt (hs:F4 s=.inl (i,e)) (h:∀st',st.le st'->R (.ret (.Bj [.slice 4 [] .full,.slice 5 [] .full,.int .i64 i,.int .i64 e])) st'):PC 18 [.str s] st R:=by
 refine pM (λi' e' U=>?_) (λi' e' st' hle U=>?_) (λx w1 w2 st' U=>?_)
 .rw [hs] at U;injection U with U;injection U with e1 e2;subst e1;subst e2;exact h st (St.le_refl _)
 .rw [hs] at U;injection U with U;injection U with e1 e2;subst e1;subst e2;exact h st' hle
 .rw [hs] at U;cases U
theorem tu (hs:F4 s=.inr x) (h:∀w1 w2 st',st.le st'->R (.ret (.Bj [.slice 4 (A4 x.AV) w1,.slice 5 (GS x.notes) w2,.int .i64 0,.int .i64 0])) st'):PC 18 [.str s] st R:=by
 refine pM (λi' e' U=>?_) (λi' e' st' hle U=>?_) (λx w1 w2 st' U hle=>?_)
 .rw [hs] at U;cases U
 .rw [hs] at U;cases U
 .rw [hs] at U;injection U with U;subst U;exact h w1 w2 st' hle
end
theorem NK:∀{l m:List Nd},Ca l m=true->l.length=m.length
 |[],[],_=>rfl
 |a::l,b::m,h=>by
  rw [Ca,Bool.and_eq_true] at h
  rw [List.length_cons,List.length_cons,NK h.2]
 |[],_::_,h=>by simp [Ca] at h
 |_::_,[],h=>by simp [Ca] at h
theorem Rb {l m:List Nd} {x y:Nd} (hx:l[k]? =some x) (hy:m[k]? =some y):Ca (l.drop k) (m.drop k)=(EV x y&&Ca (l.drop (k+1)) (m.drop (k+1))):=by
 obtain ⟨U,rfl⟩:=List.getElem?_eq_some_iff.1 hx
 obtain ⟨h2,rfl⟩:=List.getElem?_eq_some_iff.1 hy
 rw [List.drop_eq_getElem_cons U,List.drop_eq_getElem_cons h2,Ca]
mutual
theorem DY:∀n:Nd,(Av n).size=n.size
 | .mk k f t l c ks=>by
   rw [Av]
   split
   .rfl
   .rw [Nd.size,Nd.size,Og ks]
theorem Og:∀l:List Nd,Bn (Da l)=Bn l
 |[]=>rfl
 |n::r=>by rw [Da,Bn,Bn,DY n,Og r]
end
mutual
theorem M8:∀n:Nd,(Bl n).size=n.size
 | .mk k f t l c ks=>by rw [Bl,Nd.size,Nd.size,Py ks]
theorem Py:∀l:List Nd,Bn (CK l)=Bn l
 |[]=>rfl
 |n::r=>by rw [CK,Bn,Bn,M8 n,Py r]
end
mutual
theorem Sf:∀n:Nd,C7 (Bl n)=C7 n
 | .mk k f t l c ks=>by rw [Bl,C7,C7,Pz ks]
theorem Pz:∀l:List Nd,Gr (CK l)=Gr l
 |[]=>rfl
 |n::r=>by rw [CK,Gr,Gr,Sf n,Pz r]
end
section
variable {st:St} {R:At->St->Prop}
attribute [local irreducible] Go.Aw.Ag
theorem s8 {l l':List Nd} {o1 o2:AA} (hf:∀(i:Nat) x y (st:St) (R:At->St->Prop),l[i]? =some x->l'[i]? =some y->R (.ret (.bool (EV x y))) st->PC f [enc x,enc y] st R) (h:R (.ret (.bool (Ca l l'))) st):
 PC 42 [.slice 6 (Cj l) o1,.slice 6 (Cj l') o2,.func f [] []] st R:=by
 refine pB Tryz.func42 ?_
 by_cases hl:l.length=l'.length
 .have hli:(l.length:Int)=(l'.length:Int):=AC
  repeat' ((conv=>whnf);first|(refine A1 ?_;intros)|fail)
  refine K9 17 [15,16,1,2] l.length (λk=>k<=l.length/\Ca (l.drop k) (l'.drop k)=Ca l l') ⟨Nat.zero_le _,rfl⟩ Yl ?_
  rintro k ⟨hk,U⟩
  by_cases hlt:k<l.length
  .obtain ⟨x,hx⟩:∃x,l[(k:Int).toNat]? =some x:=⟨_,List.getElem?_eq_getElem hlt⟩
   obtain ⟨y,hy⟩:∃y,l'[(k:Int).toNat]? =some y:=⟨_,List.getElem?_eq_getElem (show k<l'.length by omega)⟩
   rw [Rb (show l[k]? =some x from hx) (show l'[k]? =some y from hy)] at U
   cases hxy:EV x y with
   |true=>
    rw [hxy,Bool.true_and] at U
    have hf2:∀{st:St} {R:At->St->Prop},R (.ret (.bool true)) st->PC f [enc x,enc y] st R:=λh=>hf k x y _ _ hx hy (by rw [hxy];exact h)
    repeat' ((conv=>whnf);first|(refine A1 ?_;intros)|refine hf2 ?_|refine Wq (a:=(k:Int)+1) AC AC ?_)
    all_goals conv=>whnf
    all_goals exact ⟨k+1,⟨hlt,U⟩,Nat.sub_lt_sub_left hlt (Nat.lt_succ_self k),Yl,St.le_refl _⟩
   |false=>
    rw [hxy,Bool.false_and] at U
    rw [<-U] at h
    have hf2:∀{st:St} {R:At->St->Prop},R (.ret (.bool false)) st->PC f [enc x,enc y] st R:=λh=>hf k x y _ _ hx hy (by rw [hxy];exact h)
    repeat' ((conv=>whnf);first|(refine A1 ?_;intros)|refine hf2 ?_)
    all_goals exact fin h rfl
  .rw [List.drop_of_length_le (show l.length<=k by omega),List.drop_of_length_le (show l'.length<=k by omega)] at U
   rw [<-U] at h
   repeat' ((conv=>whnf);first|(refine A1 ?_;intros)|fail)
   all_goals exact fin h rfl
 .have hli:¬(l.length:Int)=(l'.length:Int):=AC
  have U:Ca l l'=false:=Bool.eq_false_iff.2 λe=>hl (NK e)
  rw [U] at h
  repeat' ((conv=>whnf);first|(refine A1 ?_;intros)|fail)
  all_goals exact fin h rfl
theorem Uw:∀(m:Nat) {n n':Nd} {st:St} {R:At->St->Prop},n.size<=m->R (.ret (.bool (EV n n'))) st->PC 17 [enc n,enc n'] st R:=by
 intro m
 induction m with
 |zero=>intro n n' st R hm;cases n;rw [Nd.size] at hm;omega
 |succ m ih=>
  intro n n' st R hm h
  cases n with
  |mk k f t a b l=>
   cases n' with
   |mk k' f' t' a' b' l'=>
    rw [EV] at h
    replace h:R (.ret (.bool (decide (k=k')&&(decide (f=f')&&(t==t'&&Ca l l'))))) st:=h
    have hq:∀{st:St} {R:At->St->Prop},R (.ret (.bool (Ca l l'))) st->PC 42 [.slice 6 (Cj l) .any,.slice 6 (Cj l') .any,.func 17 [] []] st R:=λh=>s8 (λi x y st R hx hy h=>ih (by have:=Cb (n:=.mk k f t a b l) (List.mem_of_getElem? hx);omega) h) h
    refine pB Tryz.func17 ?_
    have h4:(decide (k=k')&&(decide (f=f')&&(t==t'&&Ca l l')))=if k=k' then (if f=f' then (if t=t' then Ca l l' else false) else false) else false:=by
     by_cases h1:k=k'<;>by_cases h2:f=f'<;>by_cases h3:t=t'<;>simp [h1,h2,h3]
    rw [h4] at h
    by_cases h1:k=k'
    .by_cases h2:f=f'
     .by_cases h3:t=t'
      .rw [if_pos h1,if_pos h2,if_pos h3] at h
       have U:(Nd.mk k f t a b l).kind=(Nd.mk k' f' t' a' b' l').kind:=h1
       have h2':(Nd.mk k f t a b l).form=(Nd.mk k' f' t' a' b' l').form:=h2
       have h3':(Nd.mk k f t a b l).text=(Nd.mk k' f' t' a' b' l').text:=h3
       repeat' ((conv=>whnf);first|refine Wt U ?_|refine Wt h2' ?_|refine Wt h3' ?_|(refine CZ ?_ ?_<;>intro _)|refine hq ?_)
       all_goals first|exact fin h rfl|(rename_i e;rw [e] at h;exact fin h rfl)
      .rw [if_pos h1,if_pos h2,if_neg h3] at h
       have U:(Nd.mk k f t a b l).kind=(Nd.mk k' f' t' a' b' l').kind:=h1
       have h2':(Nd.mk k f t a b l).form=(Nd.mk k' f' t' a' b' l').form:=h2
       have h3':¬(Nd.mk k f t a b l).text=(Nd.mk k' f' t' a' b' l').text:=h3
       repeat' ((conv=>whnf);first|refine Wt U ?_|refine Wt h2' ?_|refine Wu h3' ?_|(refine CZ ?_ ?_<;>intro _)|refine hq ?_)
       all_goals exact fin h rfl
     .rw [if_pos h1,if_neg h2] at h
      have U:(Nd.mk k f t a b l).kind=(Nd.mk k' f' t' a' b' l').kind:=h1
      have h2':¬(Nd.mk k f t a b l).form=(Nd.mk k' f' t' a' b' l').form:=h2
      repeat' ((conv=>whnf);first|refine Wt U ?_|refine Wu h2' ?_|(refine CZ ?_ ?_<;>intro _)|refine hq ?_)
      all_goals exact fin h rfl
    .rw [if_neg h1] at h
     have U:¬(Nd.mk k f t a b l).kind=(Nd.mk k' f' t' a' b' l').kind:=h1
     repeat' ((conv=>whnf);first|refine Wu U ?_|(refine CZ ?_ ?_<;>intro _)|refine hq ?_)
     all_goals exact fin h rfl
theorem JZ {a b:Nd} (ha:a.size<=900000000) (hb:b.size<=900000000) (ta:C7 a<=100000000) (tb:C7 b<=100000000) (h:∀st',st.le st'->R (.ret (.bool (Dl a b))) st'):PC 29 [enc a,enc b] st R:=by
 refine pB Tryz.func29 ?_
 have p1:∀{st:St} {R:At->St->Prop},(∀st',st.le st'->R (.ret (enc (Av a))) st')->PC 31 [enc a] st R:=λh=>RC _ (Nat.le_refl _) ha ta h
 have p2:∀{st:St} {R:At->St->Prop},(∀st',st.le st'->R (.ret (enc (Av b))) st')->PC 31 [enc b] st R:=λh=>RC _ (Nat.le_refl _) hb tb h
 have q1:∀{st:St} {R:At->St->Prop},(∀st',st.le st'->R (.ret (enc (Bl (Av a)))) st')->PC 27 [enc (Av a)] st R:=λh=>LJ _ (Nat.le_refl _) (by rw [DY];exact ha) h
 have q2:∀{st:St} {R:At->St->Prop},(∀st',st.le st'->R (.ret (enc (Bl (Av b)))) st')->PC 27 [enc (Av b)] st R:=λh=>LJ _ (Nat.le_refl _) (by rw [DY];exact hb) h
 repeat' ((conv=>whnf);first|exact B1|(refine A1 ?_;intros)|(refine B2 ?_ ?_ ?_;rotate_left)|(refine CZ ?_ ?_<;>intro _)|refine p1 (λst1 U=>?_)|refine q1 (λst2 hle2=>?_)|refine p2 (λst3 hle3=>?_)|refine q2 (λst4 hle4=>?_)|refine Uw _ (Nat.le_refl _) ?_|refine AM [1,7,2,4,8,10,12,15] [] ?_|fail)
 all_goals (rename_i e;have h:=h _ (St.le_trans U (St.le_trans hle2 (St.le_trans hle3 hle4)));unfold Dl at h;rw [e] at h;exact fin h rfl)
end
theorem Rh:∀(l:List Nd) (x:Nd),Bn (l++[x])=Bn l+x.size
 |[],x=>by rw [List.nil_append,Bn,Bn,Bn];omega
 |a::l,x=>by rw [List.cons_append,Bn,Bn,Rh l x];omega
theorem kA {l:List Nd} {x:Nd} (h:l[k]? =some x):Bn (l.take (k+1))=Bn (l.take k)+x.size:=by
 rw [List.take_add_one,h]
 exact Rh _ x
theorem Ri:∀(l:List Nd) (k:Nat),Bn (l.take k)<=Bn l
 |[],k=>by rw [List.take_nil];exact Nat.le_refl _
 |a::l,0=>by rw [List.take_zero,Bn];omega
 |a::l,k+1=>by rw [List.take_succ_cons,Bn,Bn];have:=Ri l k;omega
theorem L2 {a b:Int} {K:Int->Prop} (e:a=b) (U: -9223372036854775808<=b) (h1:b<=9223372036854775807) (k:K b):∃r,r=IntKind.i64.wrap a/\K r:=by
 subst e;exact Wq U h1 k
section
variable {st:St} {R:At->St->Prop}
attribute [local irreducible] Go.Aw.Ag
theorem MH:∀(m:Nat) {n:Nd} {st:St} {R:At->St->Prop},n.size<=m->n.size<=1000000000->R (.ret (.int .i64 (n.size:Nat))) st->PC 22 [enc n] st R:=by
 intro m
 induction m with
 |zero=>intro n st R hm;cases n;rw [Nd.size] at hm;omega
 |succ m ih=>
  intro n st R hm hz h
  have hsz:n.size=1+Bn n.kids:=by cases n;rw [Nd.size];rfl
  have hk:=EW n
  refine pB Tryz.func22 ?_
  repeat' ((conv=>whnf);first|(refine A1 ?_;intros)|fail)
  refine Gg (α:=Nat) (λi=>[(3,.int .i64 ((1+Bn (n.kids.take i):Nat):Int)),(4,.int .i64 (i:Nat))]) [1] (λ_=>[]) [0] (λ_=>st) (λi=>i<=n.kids.length) (λi=>n.kids.length - i) 0 (Nat.zero_le _) Yl (St.le_refl _) ?_
  intro i hi
  by_cases U:i<n.kids.length
  .obtain ⟨x,hx⟩:∃x,n.kids[(i:Int).toNat]? =some x:=⟨_,List.getElem?_eq_getElem U⟩
   have hxs:=Cb (List.mem_of_getElem? hx)
   have ht:=kA (show n.kids[i]? =some x from hx)
   have hle:=Ri n.kids (i+1)
   have hrec:∀{st:St} {R:At->St->Prop},R (.ret (.int .i64 (x.size:Nat))) st->PC 22 [enc x] st R:=λh=>ih AC AC h
   have he:((1+Bn (n.kids.take i):Nat):Int)+(x.size:Int)=((1+Bn (n.kids.take (i+1)):Nat):Int):=AC
   repeat' ((conv=>whnf);first|refine Wm hx AC ?_|refine L2 he AC AC ?_|(refine A1 ?_;intros)|refine hrec ?_|refine Wq (a:=(i:Int)+1) AC AC ?_)
   all_goals conv=>whnf
   all_goals exact ⟨i+1,U,Nat.sub_lt_sub_left U (Nat.lt_succ_self i),Yl,St.le_refl _⟩
  .have hi2:i=n.kids.length:=AC
   subst hi2
   rw [List.take_length,<-hsz]
   repeat' ((conv=>whnf);first|(refine A1 ?_;intros)|fail)
   all_goals exact fin h rfl
end
end Go.Proofs.Z
namespace Go.Aw
open Go
abbrev fw (ro:Option Nat):Fence:={Fence.wide with round:=ro}
section
variable {P:Program} {n:Nat} {ro:Option Nat}
theorem Vh {args:Array Value} {R:Ending->World->Prop} (h:Calls P f args w R):CallsIn (fw ro) n P f args w R:=callsIn_wide.2 h
theorem ov {row:String} {args:Array Value} {R:Value->World->Prop} (h:Rows P row args w R):RowsIn (fw ro) n P row args w R:=λc cs _=>let ⟨v,w',r,s⟩:=h c cs;⟨v,w',r,stepsIn_wide.2 s⟩
theorem pU {o:Oper} {a:Act} {next next':Act->World->Prop} {Q0 Q:Exit->Act->World->Prop} (nd:∀c,o.op≠.defer c) (h:o.wp P a w next Q0) (hn:∀a w,next a w->next' a w) (hq:∀e a w,e≠.normal->Q0 e a w->Q e a w):o.wpIn (fw ro) n P a w next' Q:=by
 refine ⟨λ_ _=>trivial,?_⟩
 rw [Oper.semAt_eq _ _ _ nd]
 unfold Oper.wp at h
 generalize (execOp a.eval o).run P w=r at h
 cases r with
 |ok x w'=>
  cases x<;>simp only [Oper.upon] at h<;>simp only [Oper.uponIn]
  all_goals first
   |exact hn _ _ h
   |exact ⟨λe=>(by cases e),(Vh h).mono λe w'' U=>by cases e<;>first|exact hn _ _ U|exact hq _ _ _ GT U|exact U.imp λa U=>U.imp λw U=>hq _ _ _ GT U⟩
   |exact ⟨λe=>(by cases e),(ov h).mono λv w'' U=>hn _ _ U⟩
 |halt x w'=>cases x<;>simp only [Oper.upon] at h<;>simp only [Oper.uponIn]<;>exact hq _ _ _ GT h
theorem Hu {ops:Array Oper} {Q0 Q:Exit->Act->World->Prop} (hl:¬LetsOut Q0) (hq:∀e a w,e≠.normal->Q0 e a w->Q e a w) {l2:List Oper} (hN:∀a w,Q0 .normal a w->wpListIn (fw ro) n P ops Q l2 a w):
 ∀(l1:List Oper) (a:Act) (w:World),(∀o ∈ l1,∀c,o.op≠.defer c)->wpList P ops Q0 l1 a w->wpListIn (fw ro) n P ops Q (l1++l2) a w
 |[],a,w,_,h=>hN a w h
 |o::r,a,w,nd,h=>by
  have ih:=Hu hl hq hN r
  unfold wpList at h
  rw [List.cons_append]
  unfold wpListIn
  split
  .rename_i hw
   rw [if_pos hw] at h
   rcases h with h|h
   .exact pU (nd o List.mem_cons_self) h (λa w h=>ih a w (λo U=>nd o (List.mem_cons_of_mem _ U)) h) hq
   simp_all
  .rename_i hw
   rw [if_neg hw] at h
   exact ⟨λ_ _=>trivial,ih _ w (λo U=>nd o (List.mem_cons_of_mem _ U)) h⟩
theorem fe {ops:Array Oper} {md:Region.Mode} {Q0:Exit->Act->World->Prop} (hl:¬LetsOut Q0) (nd:∀o ∈ ops.toList,∀c,o.op≠.defer c):∀(fuel:Nat) (listed:Array Bool) (a:Act) (w:World),
 wpAny P md ops Q0 fuel listed a w->wpAnyIn (fw ro) n P md ops Q0 fuel listed a w
 |0,listed,a,w,h=>h
 |fuel+1,listed,a,w,h=>by
  have ih:=fe (md:=md) hl nd fuel
  refine ⟨h.1,λi hi=>?_⟩
  have U:=h.2 i hi
  unfold wpOp at U
  unfold wpOpIn
  split
  .simp_all
  .rename_i o ho
   rw [ho] at U
   dsimp only at U
   split
   .rename_i hw
    rw [if_pos hw] at U
    rcases U with U|U
    .exact pU (nd o (by grind)) U (λa w h=>ih _ a w h) (λ_ _ _ _ h=>h)
    simp_all
   .rename_i hw
    rw [if_neg hw] at U
    exact ⟨λ_ _=>trivial,ih _ _ _ U⟩
theorem F6 {D:List Deferred} {I0:Mem} {st0:St} {w0:World} {Q:AD->Env->St->Prop}:¬LetsOut (Ci D I0 st0 w0 Q):=by
 rintro ⟨a,w,I,β,env,st,U,_,h,_⟩
 cases U<;>exact h
end
def Hw (l:List Oper):Bool:=l.all λo=>match o.op with| .defer _=>false|_=>true
theorem DX {l:List Oper} (h:Hw l=true):∀o ∈ l,∀c,o.op≠.defer c:=λo U c e=>by
 have:=List.all_eq_true.1 h o U
 simp_all
def EE:Code->Bool
 | .skip=>true
 | .region _ ops _=>Hw ops.toList
 | .seq x y=>EE x&&EE y
 | .cond _ x y=>EE x&&EE y
 | .block _ c=>EE c
 |_=>false
section
variable {P:Program} {T:List (Nat×Ty)}
def uH (P:Program) (ro:Option Nat) (c:Code) (Q:AD->Env->St->Prop) (env:Env) (st:St):Prop:=
 ∀n D I0 st0 w0 I β a w,Rel D I0 st0 w0 I β env st a w->c.wpIn (fw ro) n P (Ci D I0 st0 w0 Q) a w
theorem Ix (hP:MZ P T) (ro:Option Nat):∀(c:Code) {Q:AD->Env->St->Prop} {env:Env} {st:St},EE c=true->OM T (A0 P) c Q env st->uH P ro c Q env st
 | .skip,Q,env,st,_,k=>λn D I0 st0 w0 I β a w h=>wpIn_skip ⟨I,β,env,st,.normal,h,trivial,k⟩
 | .region id ops true,Q,env,st,U,k=>λn D I0 st0 w0 I β a w h=>by
   have hC:=A2 P
   have hM:∀f args st (R R':At->St->Prop),(∀r s,R r s->R' r s)->A0 P f args st R->A0 P f args st R':=λ_ _ _ _ _ h k=>k.mono h
   obtain ⟨sched,L,k1,k2⟩:=(show ∃(sched:List (Nat×Bool)) (L:List Nat),Ft sched ops.toList=true/\DC T (A0 P) ops.toList sched L (Ba (L.map some) env.boxes) Q sched env st from k)
   refine wpIn_region_any hP.m (fe F6 (DX U) _ _ _ _ ?_)
   have:=Sv hP.t hC hM k1 k2 h
   omega
 | .region id ops false,Q,env,st,U,k=>λn D I0 st0 w0 I β a w h=>by
   have:=CG hP.t (A2 P) h (show Fu T (A0 P) ops.toList Q ops.toList env st from k)
   have h2:=Hu (ro:=ro) (n:=n) (l2:=[]) F6 (λ_ _ _ _ h=>h) (λa w h=>h) ops.toList a w (DX U) (by simpa using this)
   rw [List.append_nil] at h2
   exact wpIn_region_list h2
 | .seq x y,Q,env,st,U,k=>λn D I0 st0 w0 I β a w h=>by
   simp only [EE,Bool.and_eq_true] at U
   refine wpIn_seq (wpIn_mono (Ix hP ro x U.1 (show OM T (A0 P) x _ env st from k) n D I0 st0 w0 I β a w h) ?_)
   rintro e a w ⟨I,β,env,st,ae,h1,h2,h3⟩
   cases ae with
   |normal=>cases e<;>first|exact Ix hP ro y U.2 h3 n D I0 st0 w0 I β a w h1|exact h2.elim
   |exit i=>cases e<;>first|exact ⟨I,β,env,st,.exit i,h1,h2,h3⟩|exact h2.elim
   |goto i=>cases e<;>first|exact ⟨I,β,env,st,.goto i,h1,h2,h3⟩|exact h2.elim
   |ret=>cases e<;>first|exact ⟨I,β,env,st,.ret,h1,h2,h3⟩|exact h2.elim
   |BK v=>cases e<;>first|exact ⟨I,β,env,st,.BK v,h1,h2,h3⟩|exact h2.elim
 | .cond c x y,Q,env,st,U,k=>λn D I0 st0 w0 I β a w h=>by
   simp only [EE,Bool.and_eq_true] at U
   have hc:=h.f.eval c
   have k:(match env.eval c with
    | .bool t=>lit t (OM T (A0 P) x Q env st) (OM T (A0 P) y Q env st)
    |_=>False):=k
   split at k
   .rename_i t he
    rw [he] at hc
    have hc:=G2 hc
    cases t with
    |true=>exact wpIn_cond_true hc (Ix hP ro x U.1 (show OM T (A0 P) x Q env st from k) n D I0 st0 w0 I β a w h)
    |false=>exact wpIn_cond_false hc (Ix hP ro y U.2 (show OM T (A0 P) y Q env st from k) n D I0 st0 w0 I β a w h)
   simp_all
 | .block id c,Q,env,st,U,k=>λn D I0 st0 w0 I β a w h=>by
   refine wpIn_block (wpIn_mono (Ix hP ro c U (show OM T (A0 P) c _ env st from k) n D I0 st0 w0 I β a w h) ?_)
   rintro e a w ⟨I,β,env,st,ae,h1,h2,h3⟩
   cases ae with
   |normal=>cases e<;>first|exact ⟨I,β,env,st,.normal,h1,trivial,h3⟩|exact h2.elim
   |exit i=>
    cases e<;>try exact h2.elim
    rename_i i'
    have h2:i'=i:=h2
    subst h2
    simp only [KY] at h3
    show (if i'=id then Ci D I0 st0 w0 Q .normal a w else Ci D I0 st0 w0 Q (.exit i') a w)
    by_cases hi:i'=id
    .subst hi
     rw [if_pos rfl]
     simp only [Nat.beq_refl,cond_true] at h3
     exact ⟨I,β,env,st,.normal,h1,trivial,h3⟩
    .rw [if_neg hi]
     have:Nat.beq i' id=false:=by
      cases hb:Nat.beq i' id with
      |false=>rfl
      |true=>simp_all
     rw [this] at h3
     exact ⟨I,β,env,st,.exit i',h1,rfl,h3⟩
   |goto i=>cases e<;>first|exact ⟨I,β,env,st,.goto i,h1,h2,h3⟩|exact h2.elim
   |ret=>cases e<;>first|exact ⟨I,β,env,st,.ret,h1,h2,h3⟩|exact h2.elim
   |BK v=>cases e<;>first|exact ⟨I,β,env,st,.BK v,h1,h2,h3⟩|exact h2.elim
 | .loop _,_,_,_,U,_| .exit _,_,_,_,U,_| .goto _,_,_,_,U,_| .label _,_,_,_,U,_| .ret,_,_,_,U,_| .rangeFunc ..,_,_,_,U,_| .scope _,_,_,_,U,_| .refuse _,_,_,_,U,_=>by cases U
end
section
variable {D:List Deferred} {P:Program} {T:List (Nat×Ty)} {I0 I:Mem} {st0 st:St} {w0 w:World} {β:Nat->Option Nat} {env:Env} {a:Act}
theorem nT {o:Nat} {v:Value} (U:w.heap[l]? =some (.loop r)) (h:w.cell? ⟨b,o,none⟩=some v):b≠l:=by
 rintro rfl
 simp [World.cell?,U] at h
theorem B7.put {r':Loop} (h:B7 I st w) (hl:w.heap[l]? =some (.loop r)):B7 I st (w.putObj l (.loop r')):=by
 have ne:∀{b:Nat} {c:Array Value} {ty:TypeId},w.heap[b]? =some (.cells c ty (0,0))->b≠l:=λe=>by grind
 refine ⟨λb o v e=>?_,λb n e=>?_,λb cs e=>?_,h.HD,λb n e=>?_,h.SP⟩
 .have e:=h.cell b o v e
  rw [Gs (World.putObj_heap_other (nT hl e))];exact e
 .obtain ⟨c,ty,U,h2⟩:=h.shape b n e
  exact ⟨c,ty,by rw [World.putObj_heap_other (ne U)];exact U,h2⟩
 .obtain ⟨vs,ty,U,h2⟩:=h.box b cs e
  exact ⟨vs,ty,by rw [World.putObj_heap_other (ne U)];exact U,h2⟩
 .rw [World.putObj_size];exact h.hw b n e
def Idle (l:Nat) (st:St):Prop:=st.box l=none/\st.hw l=none
theorem Idle.fr {U:Mem} (h:Idle l st) (hl:l<w.heap.size) (hf:Fr I st w U st' w'):Idle l st'/\w'.heap[l]? =w.heap[l]? :=by
 refine ⟨?_,hf.KB l hl h.1 h.2⟩
 have:¬(st'.box l≠none\/st'.hw l≠none):=λe=>by
  rcases hf.J9 l e with e|e|e
  .omega
  .exact e h.1
  .exact e h.2
 exact ⟨Classical.byContradiction λe=>this (.inl e),Classical.byContradiction λe=>this (.inr e)⟩
theorem EB {o:Obj} (h:w.heap[l]? =some o):l<w.heap.size:=(Array.getElem?_eq_some_iff.1 h).1
def YS (P:Program) (l:Nat) (r:Loop) (Im:Mem) (vs:List V) (st:St) (K:St->Prop):Prop:=
 ∀n I w (U:List Value),Im.le I->B7 I st w->Ao I vs U->w.heap[l]? =some (.loop r)->Idle l st->
  YieldAt (fw none) n P l U.toArray w λe w'=>e=.returned (.bool true)/\∃I' st',Fr I st w I' st' w'/\B7 I' st' w'/\K st'
theorem YS.mono {l:Nat} {r:Loop} {Im:Mem} {vs:List V} {K K':St->Prop} (h:YS P l r Im vs st K) (k:∀st,K st->K' st):YS P l r Im vs st K':=λn I w U h1 h2 h3 h4 h5=>by
 obtain ⟨fn,tmps,assign,body,e,hr⟩:=h n I w U h1 h2 h3 h4 h5
 exact ⟨fn,tmps,assign,body,e,hr.mono λe w' ⟨e1,I',st',q1,q2,q3⟩=>⟨e1,I',st',q1,q2,k _ q3⟩⟩
def O3 (P:Program) (T:List (Nat×Ty)) (assign body:Code) (env:Env) (st:St) (K:St->Prop):Prop:=
 OM T (A0 P) assign (BF (λenv st=>(env.boxes=[]/\(env.tmps.all λp=>p.2.plain)=true)/\OM T (A0 P) body (BF (λ_ st=>K st) lE) env st) lE) env st
theorem NH {v:V} {c:Value} (h:AQ I β v c) (U:v.plain=true):AQ I (λ_=>none) v c:=by
 cases v<;>first|exact h|cases U
theorem Rel.bare (h:G9 D w0.heap.size I β env st a w) (hb:env.boxes=[]) (hp:(env.tmps.all λp=>p.2.plain)=true) {U:Mem} (hs:B7 U st' w') (hle:I.le U) {D':List Deferred}:Rel D' U st' w' U (λ_=>none) env st' {a with defers:=D'} w':=by
 refine ⟨Fr.refl,hs,⟨h.size,λt v e=>?_,λid cs e=>?_,(λid b e=>by cases e),(λi j b e=>by cases e),(λid b e=>by cases e),rfl⟩⟩
 .have hv:=List.all_eq_true.1 hp _ (EO e)
  have:=NH (h.tmps t v e) hv
  have e2:v.plain=true:=hv
  cases v<;>first|exact AH.mono hle _ _ this|cases e2
 .rw [hb] at e;cases e
theorem lA (hP:MZ P T) {stm:St} (hF:G9 D B Im β env stm a wm) (hb:env.boxes=[]) (hp:(env.tmps.all λp=>p.2.plain)=true) {fn:FuncId} {p1 p2:Tmp}
 (hr:r={state:=.ready,pending:=none,fn,tmps:=a.tmps,params:=#[p1,p2],assign,body,defers:=df}) (ok:(EE assign&&EE body)=true) (hlt:(Nat.blt p1 env.sz&&Nat.blt p2 env.sz)=true) {v1 v2:V} (hv:(v1.plain&&v2.plain)=true)
 (h:O3 P T assign body {env with tmps:=(p2,v2)::(p1,v1)::env.tmps} st K):YS P l r Im [v1,v2] st K:=by
 intro n I w cargs hle hs hargs hl hid
 simp only [Ao] at hargs
 obtain ⟨c1,r1,rfl,q1,c2,r2,rfl,q2,rfl⟩:=hargs
 simp only [Bool.and_eq_true] at ok hlt hv
 have hl1:p1<env.sz:=by simpa [Nat.blt_eq] using hlt.1
 have hl2:p2<env.sz:=by simpa [Nat.blt_eq] using hlt.2
 have hy:=run_yield (P:=P) (args:=#[c1,c2]) hl kw
 rw [hr] at hy
 have ht:(#[p1,p2].zip #[c1,c2]).foldl (λtmps (x:Nat×Value)=>match x with|(t,a)=>tmps.setIfInBounds t a) a.tmps=(a.tmps.setIfInBounds p1 c1).setIfInBounds p2 c2:=by
  simp [Array.zip]
 dsimp only at hy
 rw [ht] at hy
 refine ⟨fn,_,assign,body,hy,roundIn_of_wpIn trivial ?_⟩
 have hsz:=hF.size
 have r0:Rel [] I st w I (λ_=>none) {env with tmps:=(p2,v2)::(p1,v1)::env.tmps} st {tmps:=(a.tmps.setIfInBounds p1 c1).setIfInBounds p2 c2,defers:=[]} w:=by
  refine ⟨Fr.refl,hs,⟨kw,λt v e=>?_,λid cs e=>?_,λid b e=>(by cases e),λi j b e=>(by cases e),λid b e=>(by cases e),rfl⟩⟩
  .have key:∀{x:V} {c:Value},AH I x c->x.plain=true->AQ I (λ_=>none) x c:=λh _=>AQ.of h
   rw [Bf] at e
   cases hb2:Nat.beq p2 t with
   |true=>
    simp_all
   |false=>
    rw [hb2] at e
    have hn2:p2≠t:=λx=>by simp_all
    simp only [cond_false] at e
    rw [Bf] at e
    cases hb1:Nat.beq p1 t with
    |true=>
     simp_all
    |false=>
     rw [hb1] at e
     have hn1:p1≠t:=λx=>by simp_all
     simp only [cond_false] at e
     have hpl:v.plain=true:=List.all_eq_true.1 hp _ (EO e)
     have h0:=NH (hF.tmps t v e) hpl
     have:((a.tmps.setIfInBounds p1 c1).setIfInBounds p2 c2).getD t undef=a.tmps.getD t undef:=by
      simp [Array.getD_eq_getD_getElem?,Array.getElem?_setIfInBounds_ne hn2,Array.getElem?_setIfInBounds_ne hn1]
     rw [this]
     cases v<;>first|exact AH.mono hle _ _ h0|cases hpl
  .rw [show ({env with tmps:=(p2,v2)::(p1,v1)::env.tmps}:Env).boxes=[] from hb] at e;cases e
 have hltl:=EB hl
 refine wpIn_mono (Ix hP (some l) assign ok.1 h n [] I st w I _ _ w r0) ?_
 rintro e a1 w1 ⟨I1,β1,env1,st1,ae,r1,x1,k1⟩
 cases ae with
 |exit _|goto _|ret|BK _=>exact k1.elim
 |normal=>
 cases e with
 |exit _|goto _|ret|panic _|outgrown=>exact x1.elim
 |normal=>
 obtain ⟨⟨b1,b2⟩,k1⟩:=k1
 obtain ⟨hid1,U⟩:=hid.fr hltl r1.fr
 rw [hl] at U
 have hrdy:r.state=.ready:=by rw [hr]
 refine ⟨_,run_beginRound U hrdy,?_⟩
 have hs2:B7 I1 st1 (w1.putObj l (.loop {r with state:=.busy})):=r1.s.put U
 have r2:=Rel.bare (D':=[]) r1.f b1 b2 hs2 (Mem.le_refl _)
 have hd1:a1={a1 with defers:=[]}:=by
  have:=r1.f.defers
  cases a1;simp_all
 rw [hd1]
 refine wpIn_mono (Ix hP (some l) body ok.2 k1 n [] I1 st1 _ I1 _ _ _ r2) ?_
 rintro e a3 w3 ⟨I3,β3,env3,st3,ae,r3,x3,k3⟩
 cases ae with
 |exit _|goto _|ret|BK _=>exact k3.elim
 |normal=>
 cases e with
 |exit _|goto _|ret|panic _|outgrown=>exact x3.elim
 |normal=>
 have hlt1:l<w1.heap.size:=EB U
 obtain ⟨hid3,hl3⟩:=hid1.fr (w:=w1.putObj l (.loop {r with state:=.busy})) (by rw [World.putObj_size];omega) r3.fr
 rw [World.putObj_heap_same hlt1] at hl3
 refine ⟨_,_,run_endRound none hl3,?_⟩
 have hrr:({({r with state:=.busy}:Loop) with state:=if (none:Option Code).isNone then .ready else .done,pending:=none}:Loop)=r:=by rw [hr];rfl
 rw [hrr]
 refine ⟨rfl,I3,st3,?_,r3.s.put hl3,k3⟩
 have f1:=r1.fr
 have f3:=r3.fr
 have z1:(w1.putObj l (.loop {r with state:=.busy})).heap.size=w1.heap.size:=World.putObj_size
 have z3:(w3.putObj l (.loop r)).heap.size=w3.heap.size:=World.putObj_size
 have f13:Fr I1 st1 w1 I3 st3 (w3.putObj l (.loop r)):=by
  refine ⟨f3.os,f3.tape,f3.output,by rw [z3,<-z1];exact f3.size,λb hb h1 h2=>?_,f3.le,λb o h1 h2=>by rw [<-z1];exact f3.new b o h1 h2,λb h1 h2=>by rw [<-z1];exact f3.JI b h1 h2,λb h1=>by rw [<-z1];exact f3.J9 b h1⟩
  by_cases e:b=l
  .subst e
   rw [World.putObj_heap_same (EB hl3),U]
  .rw [World.putObj_heap_other e,f3.KB b AC h1 h2,World.putObj_heap_other e]
 exact f1.trans f13
theorem eS (hP:MZ P T) {stm:St} (hF:G9 D B Im β env stm a wm) (hb:env.boxes=[]) (hp:(env.tmps.all λp=>p.2.plain)=true) {fn:FuncId} {p1:Tmp}
 (hr:r={state:=.ready,pending:=none,fn,tmps:=a.tmps,params:=#[p1],assign,body,defers:=df}) (ok:(EE assign&&EE body)=true) (hlt:Nat.blt p1 env.sz=true) {v1:V} (hv:v1.plain=true)
 (h:O3 P T assign body {env with tmps:=(p1,v1)::env.tmps} st K):YS P l r Im [v1] st K:=by
 intro n I w cargs hle hs hargs hl hid
 simp only [Ao] at hargs
 obtain ⟨c1,r1,rfl,q1,rfl⟩:=hargs
 simp only [Bool.and_eq_true] at ok
 have hl1:p1<env.sz:=by simpa [Nat.blt_eq] using hlt
 have hy:=run_yield (P:=P) (args:=#[c1]) hl kw
 rw [hr] at hy
 have ht:(#[p1].zip #[c1]).foldl (λtmps (x:Nat×Value)=>match x with|(t,a)=>tmps.setIfInBounds t a) a.tmps=a.tmps.setIfInBounds p1 c1:=by
  simp [Array.zip]
 dsimp only at hy
 rw [ht] at hy
 refine ⟨fn,_,assign,body,hy,roundIn_of_wpIn trivial ?_⟩
 have hsz:=hF.size
 have r0:Rel [] I st w I (λ_=>none) {env with tmps:=(p1,v1)::env.tmps} st {tmps:=a.tmps.setIfInBounds p1 c1,defers:=[]} w:=by
  refine ⟨Fr.refl,hs,⟨kw,λt v e=>?_,λid cs e=>?_,λid b e=>(by cases e),λi j b e=>(by cases e),λid b e=>(by cases e),rfl⟩⟩
  .have key:∀{x:V} {c:Value},AH I x c->x.plain=true->AQ I (λ_=>none) x c:=λh _=>AQ.of h
   rw [Bf] at e
   cases hb1:Nat.beq p1 t with
   |true=>
    simp_all
   |false=>
    rw [hb1] at e
    have hn1:p1≠t:=λx=>by simp_all
    simp only [cond_false] at e
    have hpl:v.plain=true:=List.all_eq_true.1 hp _ (EO e)
    have h0:=NH (hF.tmps t v e) hpl
    have:(a.tmps.setIfInBounds p1 c1).getD t undef=a.tmps.getD t undef:=by
     simp [Array.getD_eq_getD_getElem?,Array.getElem?_setIfInBounds_ne hn1]
    rw [this]
    cases v<;>first|exact AH.mono hle _ _ h0|cases hpl
  .rw [show ({env with tmps:=(p1,v1)::env.tmps}:Env).boxes=[] from hb] at e;cases e
 have hltl:=EB hl
 refine wpIn_mono (Ix hP (some l) assign ok.1 h n [] I st w I _ _ w r0) ?_
 rintro e a1 w1 ⟨I1,β1,env1,st1,ae,r1,x1,k1⟩
 cases ae with
 |exit _|goto _|ret|BK _=>exact k1.elim
 |normal=>
 cases e with
 |exit _|goto _|ret|panic _|outgrown=>exact x1.elim
 |normal=>
 obtain ⟨⟨b1,b2⟩,k1⟩:=k1
 obtain ⟨hid1,U⟩:=hid.fr hltl r1.fr
 rw [hl] at U
 have hrdy:r.state=.ready:=by rw [hr]
 refine ⟨_,run_beginRound U hrdy,?_⟩
 have hs2:B7 I1 st1 (w1.putObj l (.loop {r with state:=.busy})):=r1.s.put U
 have r2:=Rel.bare (D':=[]) r1.f b1 b2 hs2 (Mem.le_refl _)
 have hd1:a1={a1 with defers:=[]}:=by
  have:=r1.f.defers
  cases a1;simp_all
 rw [hd1]
 refine wpIn_mono (Ix hP (some l) body ok.2 k1 n [] I1 st1 _ I1 _ _ _ r2) ?_
 rintro e a3 w3 ⟨I3,β3,env3,st3,ae,r3,x3,k3⟩
 cases ae with
 |exit _|goto _|ret|BK _=>exact k3.elim
 |normal=>
 cases e with
 |exit _|goto _|ret|panic _|outgrown=>exact x3.elim
 |normal=>
 have hlt1:l<w1.heap.size:=EB U
 obtain ⟨hid3,hl3⟩:=hid1.fr (w:=w1.putObj l (.loop {r with state:=.busy})) (by rw [World.putObj_size];omega) r3.fr
 rw [World.putObj_heap_same hlt1] at hl3
 refine ⟨_,_,run_endRound none hl3,?_⟩
 have hrr:({({r with state:=.busy}:Loop) with state:=if (none:Option Code).isNone then .ready else .done,pending:=none}:Loop)=r:=by rw [hr];rfl
 rw [hrr]
 refine ⟨rfl,I3,st3,?_,r3.s.put hl3,k3⟩
 have f1:=r1.fr
 have f3:=r3.fr
 have z1:(w1.putObj l (.loop {r with state:=.busy})).heap.size=w1.heap.size:=World.putObj_size
 have z3:(w3.putObj l (.loop r)).heap.size=w3.heap.size:=World.putObj_size
 have f13:Fr I1 st1 w1 I3 st3 (w3.putObj l (.loop r)):=by
  refine ⟨f3.os,f3.tape,f3.output,by rw [z3,<-z1];exact f3.size,λb hb h1 h2=>?_,f3.le,λb o h1 h2=>by rw [<-z1];exact f3.new b o h1 h2,λb h1 h2=>by rw [<-z1];exact f3.JI b h1 h2,λb h1=>by rw [<-z1];exact f3.J9 b h1⟩
  by_cases e:b=l
  .subst e
   rw [World.putObj_heap_same (EB hl3),U]
  .rw [World.putObj_heap_other e,f3.KB b AC h1 h2,World.putObj_heap_other e]
 exact f1.trans f13
def FO (P:Program) (l:Nat) (r:Loop) (Im:Mem) (c:Code) (Q:AD->Env->St->Prop) (env:Env) (st:St):Prop:=
 ∀D I0 st0 w0 I β a w,Im.le I0->w0.heap[l]? =some (.loop r)->Idle l st0->Rel D I0 st0 w0 I β env st a w->c.wp P (Ci D I0 st0 w0 Q) a w
variable {l:Nat} {r:Loop} {Im:Mem} {Q:AD->Env->St->Prop}
theorem FO.of (h:AW P c Q env st):FO P l r Im c Q env st:=λD I0 st0 w0 I β a w _ _ _ U=>h D I0 st0 w0 I β a w U
theorem Bh {x y:Code} (h:FO P l r Im x (BF (λenv st=>FO P l r Im y Q env st) Q) env st):FO P l r Im (.seq x y) Q env st:=λD I0 st0 w0 I β a w g1 g2 g3 hr=>by
 refine wp_seq (wp_mono (h D I0 st0 w0 I β a w g1 g2 g3 hr) ?_)
 rintro e a w ⟨I,β,env,st,ae,h1,U,h3⟩
 cases ae with
 |normal=>cases e<;>first|exact h3 D I0 st0 w0 I β a w g1 g2 g3 h1|exact U.elim
 |exit i=>cases e<;>first|exact ⟨I,β,env,st,.exit i,h1,U,h3⟩|exact U.elim
 |goto i=>cases e<;>first|exact ⟨I,β,env,st,.goto i,h1,U,h3⟩|exact U.elim
 |ret=>cases e<;>first|exact ⟨I,β,env,st,.ret,h1,U,h3⟩|exact U.elim
 |BK v=>cases e<;>first|exact ⟨I,β,env,st,.BK v,h1,U,h3⟩|exact U.elim
theorem GC (h:FO P l r Im c (KY id Q) env st):FO P l r Im (.block id c) Q env st:=λD I0 st0 w0 I β a w g1 g2 g3 hr=>by
 refine wp_block (wp_mono (h D I0 st0 w0 I β a w g1 g2 g3 hr) ?_)
 rintro e a w ⟨I,β,env,st,ae,h1,U,h3⟩
 cases ae with
 |normal=>cases e<;>first|exact ⟨I,β,env,st,.normal,h1,trivial,h3⟩|exact U.elim
 |exit i=>
  cases e<;>try exact U.elim
  rename_i i'
  have U:i'=i:=U
  subst U
  simp only [KY] at h3
  show (if i'=id then Ci D I0 st0 w0 Q .normal a w else Ci D I0 st0 w0 Q (.exit i') a w)
  by_cases hi:i'=id
  .subst hi
   rw [if_pos rfl]
   simp only [Nat.beq_refl,cond_true] at h3
   exact ⟨I,β,env,st,.normal,h1,trivial,h3⟩
  .rw [if_neg hi]
   have:Nat.beq i' id=false:=by
    cases hb:Nat.beq i' id with
    |false=>rfl
    |true=>simp_all
   rw [this] at h3
   exact ⟨I,β,env,st,.exit i',h1,rfl,h3⟩
 |goto i=>cases e<;>first|exact ⟨I,β,env,st,.goto i,h1,U,h3⟩|exact U.elim
 |ret=>cases e<;>first|exact ⟨I,β,env,st,.ret,h1,U,h3⟩|exact U.elim
 |BK v=>cases e<;>first|exact ⟨I,β,env,st,.BK v,h1,U,h3⟩|exact U.elim
theorem Pc (h:∃(α:Type) (E:α->Env) (S:α->St) (J:α->Prop) (μ:α->Nat) (x0:α),J x0/\(E x0).Ek env/\St.le (S x0) st/\
 ∀x,J x->FO P l r Im c (BF (λenv' st'=>∃y,J y/\μ y<μ x/\(E y).Ek env'/\St.le (S y) st') Q) (E x) (S x)):FO P l r Im (.loop c) Q env st:=λD I0 st0 w0 I β a w g1 g2 g3 hr=>by
 obtain ⟨α,E,S,J,μ,x0,h0,he,hs,round⟩:=h
 refine JW (λn a w=>∃I β x,Rel D I0 st0 w0 I β (E x) (S x) a w/\J x/\n=μ x) (n0:=μ x0) ⟨I,_,x0,(hr.Gw hs).H0 (Env.Ie he),h0,rfl⟩ ?_
 rintro n a w ⟨I,β,x,h,hi,rfl⟩
 refine wp_mono (round x hi D I0 st0 w0 I β a w g1 g2 g3 h) ?_
 rintro e a w ⟨I,β,env,st,ae,h1,U,h3⟩
 cases ae with
 |normal=>
  cases e<;>try exact U.elim
  obtain ⟨y,q1,q2,q3,q4⟩:=h3
  exact ⟨μ y,q2,I,_,y,(h1.Gw q4).H0 (Env.Ie q3),q1,rfl⟩
 |exit i=>cases e<;>first|exact ⟨I,β,env,st,.exit i,h1,U,h3⟩|exact U.elim
 |goto i=>cases e<;>first|exact ⟨I,β,env,st,.goto i,h1,U,h3⟩|exact U.elim
 |ret=>cases e<;>first|exact ⟨I,β,env,st,.ret,h1,U,h3⟩|exact U.elim
 |BK v=>cases e<;>first|exact ⟨I,β,env,st,.BK v,h1,U,h3⟩|exact U.elim
theorem bO (hP:MZ P T) {pre:List Oper} {c:Call} {f:Operand} (hall:all=pre++oc::post) (hnd:Hw all=true) (hc:oc.op=.call c) (hf:c.callee=.value f) (hg:oc.guard=none)
 (h:Fu T (A0 P) all (BF (λenv st=>env.eval f=.XX l/\TB env c.args.toList λvs=>YS P l r Im vs st λst'=>env.go oc.dst (.bool true) λenv=>Fu T (A0 P) all Q post env st') Q) pre env st):
 FO P l r Im (.region id all.toArray false) Q env st:=λD I0 st0 w0 I β a w g1 g2 g3 hr=>by
 have hC:=A2 P
 have nd:=DX hnd
 rw [<-wpIn_wide (n:=1)]
 refine wpIn_region_list (F:=fw none) (n:=1) ?_
 rw [show all.toArray.toList=pre++oc::post by rw [hall]]
 have hpre:∀o ∈ pre,∀c,o.op≠.defer c:=λo ho=>nd o kw
 refine Hu (ro:=none) (n:=1) (Q0:=Ci D I0 st0 w0 (BF (λenv st=>env.eval f=.XX l/\TB env c.args.toList λvs=>YS P l r Im vs st λst'=>env.go oc.dst (.bool true) λenv=>Fu T (A0 P) all Q post env st') Q)) F6 ?_ ?_ pre a w hpre (CG hP.t hC hr h)
 .rintro e a w hne ⟨I,β,env,st,ae,U,h2,h3⟩
  cases ae with
  |normal=>cases e<;>first|exact absurd rfl hne|exact h2.elim
  |exit i=>exact ⟨I,β,env,st,.exit i,U,h2,h3⟩
  |goto i=>exact ⟨I,β,env,st,.goto i,U,h2,h3⟩
  |ret=>exact ⟨I,β,env,st,.ret,U,h2,h3⟩
  |BK v=>exact ⟨I,β,env,st,.BK v,U,h2,h3⟩
 .rintro a1 w1 ⟨I1,β1,env1,st1,ae,U,h2,h3⟩
  cases ae with
  |exit _|goto _|ret|BK _=>exact h2.elim
  |normal=>
  obtain ⟨he,h3⟩:=h3
  have hfv:=U.f.eval f
  rw [he] at hfv
  have hfv':AH I1 (.XX l) (a1.eval f):=hfv
  simp only [AH] at hfv'
  obtain ⟨vs,q1,q2⟩:=ES U.f h3
  obtain ⟨hid,hl⟩:=g3.fr (EB g2) U.fr
  rw [g2] at hl
  obtain ⟨fn,tmps,assign,body,hy,hround⟩:=q2 (1 - 1) I1 w1 _ (Mem.le_trans g1 U.fr.le) U.s q1 hl hid
  have harr:(c.args.toList.map a1.eval).toArray=c.args.map a1.eval:=by apply Array.ext';simp
  rw [harr] at hy
  have hrun:(execOp a1.eval oc).run P w1=.ok (.round l fn tmps assign body) w1:=by
   simp only [execOp,hc,resolve,hf,hfv',Deferred.ofValue,Sem.run_bind,Sem.run_pure,Result.andThen_ok,invoke]
   simpa using hy
  unfold wpListIn
  rw [if_pos (by simp [Region.wanted,hg])]
  refine ⟨λ_ _=>trivial,?_⟩
  rw [Oper.semAt_eq _ _ _ kw,hrun]
  refine ⟨λe=>(by cases e),hround.mono λe w' ⟨e1,I2,st2,f1,f2,k⟩=>?_⟩
  subst e1
  have r2:=U.called f1 f2
  obtain ⟨env3,r3,k3⟩:=BL r2 (c:=.bool true) (AQ.of H1) k
  have hpost:∀o ∈ post,∀c,o.op≠.defer c:=λo ho=>nd o kw
  have:=Hu (ro:=none) (n:=1) (l2:=[]) F6 (λ_ _ _ _ h=>h) (λa w h=>h) post _ w' hpost (CG hP.t hC r3 k3)
  simp_all
end
def bk:Obj->Bool
 | .loop _| .deferred _=>true
 |_=>false
section
variable {D:List Deferred} {P:Program} {T:List (Nat×Ty)} {I0 I:Mem} {st0 st:St} {w0 w:World} {β:Nat->Option Nat} {env:Env} {a:Act}
theorem l4 {o:Nat} {x:Obj} {v:Value} (U:w.heap[l]? =some x) (hx:bk x=true) (h:w.cell? ⟨b,o,none⟩=some v):b≠l:=by
 rintro rfl
 cases x<;>first|(simp [World.cell?,U] at h;done)|cases hx
theorem Pt {x:Obj} {c:Array Value} {ty:TypeId} (U:w.heap[l]? =some x) (hx:bk x=true) (h:w.heap[b]? =some (.cells c ty (0,0))):b≠l:=by
 rintro rfl
 rw [U] at h;cases h;cases hx
theorem B7.dD {x y:Obj} (h:B7 I st w) (hl:w.heap[l]? =some x) (hx:bk x=true):B7 I st (w.putObj l y):=by
 refine ⟨λb o v e=>?_,λb n e=>?_,λb cs e=>?_,h.HD,λb n e=>?_,h.SP⟩
 .have e:=h.cell b o v e
  rw [Gs (World.putObj_heap_other (l4 hl hx e))];exact e
 .obtain ⟨c,ty,U,h2⟩:=h.shape b n e
  exact ⟨c,ty,by rw [World.putObj_heap_other (Pt hl hx U)];exact U,h2⟩
 .obtain ⟨vs,ty,U,h2⟩:=h.box b cs e
  exact ⟨vs,ty,by rw [World.putObj_heap_other (Pt hl hx U)];exact U,h2⟩
 .rw [World.putObj_size];exact h.hw b n e
theorem Fr.dD {y:Obj} (h:Fr I0 st0 w0 I st w) (hl:w0.heap.size<=l):Fr I0 st0 w0 I st (w.putObj l y):=
 ⟨h.os,h.tape,h.output,by rw [World.putObj_size];exact h.size,λb hb U h2=>by rw [World.putObj_heap_other AC];exact h.KB b hb U h2,h.le,h.new,h.JI,h.J9⟩
theorem Rel.dD {l:Nat} {x y:Obj} (h:Rel D I0 st0 w0 I β env st a w) (hl:w.heap[l]? =some x) (hx:bk x=true) (hw:w0.heap.size<=l):Rel D I0 st0 w0 I β env st a (w.putObj l y):=by
 refine ⟨h.fr.dD hw,h.s.dD hl hx,⟨h.f.size,h.f.tmps,λid cs e=>?_,h.f.BG,h.f.inj,λid b e=>?_,h.f.defers⟩⟩
 .obtain ⟨b,h1,U⟩:=h.f.box id cs e
  refine ⟨b,h1,?_⟩
  have hne:b≠l:=by
   rintro rfl
   rcases U with ⟨vs,ty,U,_⟩|⟨s,pos,_,_,U⟩
   .exact Pt hl hx U rfl
   .rw [hl] at U;cases U;cases hx
  rw [World.putObj_heap_other hne];exact U
 .rw [World.putObj_size];exact h.f.sep id b e
theorem B7.idle (h:B7 I st w) (hl:w.heap.size<=l):Idle l st:=by
 refine ⟨?_,?_⟩
 .cases e:st.box l with
  |none=>rfl
  |some cs=>
   obtain ⟨vs,ty,U,_⟩:=h.box l cs e
   simp_all
 .cases e:st.hw l with
  |none=>rfl
  |some n=>have:=(h.hw l n e).1;omega
theorem LN (hP:MZ P T) (hf:P.funcs[f]? =some fn) (hb:fn.body=some c) (hres:fn.results.toList=[]) (hle:Nat.ble args.length fn.ntmps=true)
 (h:FO P l r Im c (λae _ st=>(ae=.normal\/ae=.ret)/\K st) {tmps:=Hg 0 args,boxes:=[],BG:=0,sz:=fn.ntmps,gl:=[]} st) {U:List Value} (hm:Im.le I) (hs:B7 I st w) (hargs:Ao I args U) (hl:w.heap[l]? =some (.loop r)) (hi:Idle l st):
 Calls P f U.toArray w λe w'=>(∃v,e=.returned v)/\∃I' st',Fr I st w I' st' w'/\B7 I' st' w'/\K st':=by
 refine calls_of_wp hf hb (wp_mono (h [] I st w I _ _ w hm hl hi (EX [] hs hargs hle)) ?_)
 rintro e a w' ⟨I1,β1,env1,st1,ae,h1,h2,h3,h4⟩
 have hret:a.defers=[]/\∃v,(results fn a.tmps).run P w'=.ok v w'/\((∃v',Ending.returned v=.returned v')/\∃I' st',Fr I st w I' st' w'/\B7 I' st' w'/\K st'):=by
  obtain ⟨v,c,g1,g2,g3⟩:=B6 (P:=P) (fn:=fn) (R:=λ_ s=>K s) hP.t h1 (by rw [hres];exact h4)
  exact ⟨h1.f.defers,c,g1,⟨_,rfl⟩,I1,st1,h1.fr,h1.s,g3⟩
 rcases h3 with rfl|rfl<;>(cases e<;>first|exact hret|exact h2.elim)
def rS (P:Program) (T:List (Nat×Ty)) (fn:Func) (g:Operand) (ps:Array Tmp) (assign body rest:Code) (R:At->St->Prop) (env:Env) (st:St):Prop:=
 (env.boxes=[]/\(env.tmps.all λp=>p.2.plain)=true)/\∃(gf:FuncId) (caps:List V) (K:St->Prop),(env.eval g=.func gf [] caps/\Plain P gf)/\
   (∀(D:List Deferred) (B:Nat) (Im:Mem) (β:Nat->Option Nat) (a:Act) (wm:World) (l df:Nat) (fi:FuncId),G9 D B Im β env st a wm->
     ∀(I:Mem) (w:World) (U:List Value),Im.le I->B7 I st w->Ao I caps U->w.heap[l]? =some (.loop {state:=.ready,pending:=none,fn:=fi,tmps:=a.tmps,params:=ps,assign,body,defers:=df})->Idle l st->
      Calls P gf (Value.func (.yield l) #[] #[]::U).toArray w λe w'=>(∃v,e=.returned v)/\∃I' st',Fr I st w I' st' w'/\B7 I' st' w'/\K st')/\
   ∀st',K st'->AW P rest (λae env st=>(ae=.normal\/ae=.ret)/\R4 T fn R env st) env st'
theorem Mx (hP:MZ P T) (gl:List Nat) {R:At->St->Prop} (hf:P.funcs[f]? =some fn) {c0 c1 c2 rest:Code} {bid:Nat} {g:Operand} {ps:Array Tmp}
 (hb : fn.body = some (.seq c0 (.seq c1 (.seq (.seq c2 (.block bid (.rangeFunc g ps assign body))) rest)))) (hn : (fn.name == "runtime.NumGoroutine") = false) (hle : Nat.ble args.length fn.ntmps = true)
 (h:AW P c0 (BF (λenv st=>AW P c1 (BF (λenv st=>AW P c2 (BF (lC (rS P T fn g ps assign body rest R)) lE) env st) lE) env st) lE) {tmps:=Hg 0 args,boxes:=[],BG:=0,sz:=fn.ntmps,gl} st):A0 P f args st R:=by
 refine ⟨?_,fn,hf,kw,hn⟩
 intro I w cargs hs hargs
 rw [<-callsIn_wide (n:=3)]
 refine callsIn_of_wp_marks hf hb trivial ?_
 have norm:∀{c:Code} {Q:Env->St->Prop} {n:Nat} {D:List Deferred} {I0:Mem} {st0:St} {w0:World} {X:Act->World->Prop} {Y:Exit->Act->World->Prop} {a:Act} {w:World},c.wp P (Ci D I0 st0 w0 (BF Q lE)) a w->
  (∀I β env st a w,Rel D I0 st0 w0 I β env st a w->Q env st->X a w)->c.wpIn Fence.wide n P (Exit.then X Y) a w:=λh k=>by
  refine wpIn_wide.2 (wp_mono h ?_)
  rintro e a w ⟨I,β,env,st,ae,h1,h2,h3⟩
  cases ae with
  |exit _|goto _|ret|BK _=>exact h3.elim
  |normal=>
  cases e with
  |exit _|goto _|ret|panic _|outgrown=>exact h2.elim
  |normal=>exact k I β env st a w h1 h3
 refine wpIn_seq (norm (h [] I st w I _ _ w (EX gl hs hargs hle)) λI1 β1 env1 st1 a1 w1 r1 k1=>?_)
 refine wpIn_seq (norm (k1 [] I st w I1 β1 a1 w1 r1) λI2 β2 env2 st2 a2 w2 r2 k2=>?_)
 refine wpIn_seq (wpIn_seq (norm (k2 [] I st w I2 β2 a2 w2 r2) λI3 β3 env3 st3 a3 U r3 k3=>?_))
 refine wpIn_block ?_
 obtain ⟨I4,β4,env4,st4,r4,k4⟩:=k3 [] I st w I3 β3 a3 U r3
 obtain ⟨⟨b1,b2⟩,gf,caps,K,⟨hg,fg,q1,q2,q3⟩,hit,hrest⟩:=k4
 have hgv:=r4.f.eval g
 rw [hg] at hgv
 have hgv':AH I4 (.func gf [] caps) (a3.eval g):=hgv
 simp only [AH,Ao] at hgv'
 obtain ⟨az,lb,hge,haz,hlb⟩:=hgv'
 subst haz
 refine wpIn_rangeFunc λfi hfi=>?_
 obtain ⟨rec,hrec⟩:∃rec:Loop,rec={state:=.ready,pending:=none,fn:=fi,tmps:=a3.tmps,params:=ps,assign,body,defers:=U.heap.size}:=⟨_,rfl⟩
 obtain ⟨W1,hW1⟩:∃W1,(U.alloc (.deferred (some []))).alloc (.loop rec)=W1:=⟨_,rfl⟩
 have hL1:W1.heap[U.heap.size+1]? =some (.loop rec):=by
  rw [<-hW1];have:=World.alloc_heap_new (U.alloc (.deferred (some []))) (.loop rec);rwa [World.size_alloc] at this
 have hK1:W1.heap[U.heap.size]? =some (.deferred (some [])):=by
  rw [<-hW1];exact (RowKit.Below.heap_alloc _ _ _ GT).trans (World.alloc_heap_new U _)
 have r5:Rel [] I st w I4 β4 env4 st4 a3 W1:=by rw [<-hW1];exact (r4.IG (HB.alloc _ _)).IG (HB.alloc _ _)
 have hidL:Idle (U.heap.size+1) st4:=r4.s.idle AC
 have hidD:Idle U.heap.size st4:=r4.s.idle (Nat.le_refl _)
 have hsz:w.heap.size<=U.heap.size:=r4.fr.size
 have heg:∀args w,(callFunc gf args).run P w=.ok (.enter gf args) w:=λargs w=>by
  have hb:fg.body.isNone=false:=by cases hb:fg.body<;>simp_all
  simp only [callFunc,Sem.run_bind,Sem.run_pure,Result.andThen_ok,run_program,q1]
  rw [q3]
  simp [hb]
 refine ⟨U.heap.size+1,[{target:=.collected U.heap.size,args:=#[]}],W1,{target:=.fn (.func gf) lb.toArray,args:=#[.func (.yield (U.heap.size+1)) #[] #[]]},W1,gf,#[.func (.yield (U.heap.size+1)) #[] #[]]++lb.toArray,W1,?_,?_,λ_ _=>trivial,?_,λe=>(by cases e),?_⟩
 .rw [<-hW1,hrec];exact run_enterLoop_outer _ _ _ _ _
 .simp only [resolve,hge,Deferred.ofValue,Sem.run_pure]
  simp [Act.eval]
 .simp [invoke,heg]
 .have hcall:=hit [] w.heap.size I4 β4 a3 U (U.heap.size+1) U.heap.size fi r4.f I4 W1 lb (Mem.le_refl _) r5.s hlb kw hidL
  have harr:(Value.func (.yield (U.heap.size+1)) #[] #[]::lb).toArray=#[.func (.yield (U.heap.size+1)) #[] #[]]++lb.toArray:=by apply Array.ext';simp
  rw [harr] at hcall
  refine (callsIn_wide.2 hcall).mono ?_
  rintro e W2 ⟨⟨v,rfl⟩,I6,st6,f6,s6,k6⟩
  have r6:=r5.called f6 s6
  obtain ⟨hidL6,hL6⟩:=hidL.fr (EB hL1) f6
  obtain ⟨hidD6,hD6⟩:=hidD.fr (EB hK1) f6
  rw [hL1] at hL6
  rw [hK1] at hD6
  refine ⟨none,W2.putObj (U.heap.size+1) (.loop {rec with state:=.exhausted}),by have:=run_endLoop (P:=P) hL6 (by grind);grind,?_⟩
  have r7:=r6.dD (y:=.loop {rec with state:=.exhausted}) hL6 rfl AC
  have hD7:(W2.putObj (U.heap.size+1) (.loop {rec with state:=.exhausted})).heap[U.heap.size]? =some (.deferred (some [])):=(World.putObj_heap_other AC).trans hD6
  generalize W2.putObj (U.heap.size+1) (.loop {rec with state:=.exhausted})=W3 at r7 hD7
  show rest.wpIn Fence.wide 3 P _ _ W3
  have r8:=Rel.bare (D':=[{target:=.collected U.heap.size,args:=#[]}]) r7.f b1 b2 r7.s (Mem.le_refl _)
  have hd0:a3.defers=[]:=r7.f.defers
  rw [hd0]
  refine wpIn_wide.2 (wp_mono (hrest st6 k6 _ I6 st6 W3 I6 _ _ W3 r8) ?_)
  rintro e a9 w9 ⟨I9,β9,env9,st9,ae,r9,x9,k9,q9⟩
  have hlast:LeavesInM Fence.wide 3 P fn a9.tmps (λe w'=>∃I' st' r,Fr I st w I' st' w'/\B7 I' st' w'/\dJ I' e r/\R r st') a9.defers .returning w9:=by
   rw [r9.f.defers]
   obtain ⟨_,hD9⟩:=hidD6.fr (EB hD7) r9.fr
   rw [hD7] at hD9
   refine ⟨GT,.inl ⟨_,_,rfl,run_takeDeferred hD9,?_⟩⟩
   have hle9:W3.heap.size<=w9.heap.size:=r9.fr.size
   have hfr:Fr I st w I9 st9 w9:=r7.fr.trans r9.fr
   have r10:Rel [{target:=.collected U.heap.size,args:=#[]}] I st w I9 β9 env9 st9 a9 w9:=⟨hfr,r9.s,⟨r9.f.size,r9.f.tmps,r9.f.box,r9.f.BG,r9.f.inj,λid b e=>by
    obtain ⟨h1,h2⟩:=r9.f.sep id b e
    grind,r9.f.defers⟩⟩
   have r11:=r10.dD (y:=.deferred none) hD9 rfl hsz
   obtain ⟨v,c,g1,g2,g3⟩:=B6 (P:=P) hP.t r11 q9
   exact ⟨c,g1,I9,st9,.ret v,r11.fr,r11.s,g2,g3⟩
  rcases k9 with rfl|rfl
  .cases e<;>first|exact hlast|exact x9.elim
  .cases e<;>first|exact hlast|exact x9.elim
theorem ZM (hP:MZ P T) {Q:AD->Env->St->Prop} (k:Nat) {U:Oper} {c:Call} {f:Operand} (hk:all[k]? =some U) (hnd:Hw all=true) (hc:U.op=.call c) (hf:c.callee=.value f) (hg:U.guard=none)
 (h:Fu T (A0 P) all (BF (λenv st=>env.eval f=.XX l/\TB env c.args.toList λvs=>YS P l r Im vs st λst'=>env.go U.dst (.bool true) λenv=>Fu T (A0 P) all Q (all.drop (k+1)) env st') Q) (all.take k) env st):
 FO P l r Im (.region id all.toArray false) Q env st:=
 bO hP (by
  obtain ⟨h1,h2⟩:=List.getElem?_eq_some_iff.1 hk
  rw [<-h2,<-List.drop_eq_getElem_cons h1,List.take_append_drop]) hnd hc hf hg h
end
section
variable {D:List Deferred} {P:Program} {T:List (Nat×Ty)} {I0 I:Mem} {st0 st:St} {w0 w:World} {β:Nat->Option Nat} {env:Env} {a:Act}
structure XZ (P:Program) (l:Nat) (r:Loop) (Im:Mem) (f:FuncId) (args:List V) (st:St) (R:At->St->Prop):Prop where
 p:Plain P f
 c:∀(I:Mem) (w:World) (cargs:List Value),Im.le I->B7 I st w->Ao I args cargs->w.heap[l]? =some (.loop r)->Idle l st->
  Calls P f cargs.toArray w λe w'=>∃v c,e=.returned c/\∃I' st',Fr I st w I' st' w'/\B7 I' st' w'/\AH I' v c/\R (.ret v) st'
variable {l:Nat} {r:Loop} {Im:Mem} {Q:AD->Env->St->Prop}
def HL (P:Program) (l:Nat) (r:Loop) (Im:Mem) (all ops:List Oper) (Q:AD->Env->St->Prop) (env:Env) (st:St):Prop:=
 ∀D I0 st0 w0 I β a w,Im.le I0->w0.heap[l]? =some (.loop r)->Idle l st0->Rel D I0 st0 w0 I β env st a w->wpListIn (fw none) 1 P all.toArray (Ci D I0 st0 w0 Q) ops a w
theorem EG (h:HL P l r Im all all Q env st):FO P l r Im (.region id all.toArray false) Q env st:=λD I0 st0 w0 I β a w g1 g2 g3 U=>by
 rw [<-wpIn_wide (n:=1)]
 exact wpIn_region_list (F:=fw none) (n:=1) (h D I0 st0 w0 I β a w g1 g2 g3 U)
theorem He (hP:MZ P T) {ops:List Oper} (k:Nat) (hnd:Hw (ops.take k)=true)
 (h:Fu T (A0 P) all (BF (λenv st=>HL P l r Im all (ops.drop k) Q env st) Q) (ops.take k) env st):HL P l r Im all ops Q env st:=λD I0 st0 w0 I β a w g1 g2 g3 hr=>by
 have:=Hu (ro:=none) (n:=1) (l2:=ops.drop k) (Q:=Ci D I0 st0 w0 Q) (Q0:=Ci D I0 st0 w0 (BF (λenv st=>HL P l r Im all (ops.drop k) Q env st) Q)) F6 ?_ ?_ (ops.take k) a w (DX hnd) (CG hP.t (A2 P) hr h)
 .rwa [List.take_append_drop] at this
 .rintro e a w hne ⟨I,β,env,st,ae,h1,U,h3⟩
  cases ae with
  |normal=>cases e<;>first|exact absurd rfl hne|exact U.elim
  |exit i=>exact ⟨I,β,env,st,.exit i,h1,U,h3⟩
  |goto i=>exact ⟨I,β,env,st,.goto i,h1,U,h3⟩
  |ret=>exact ⟨I,β,env,st,.ret,h1,U,h3⟩
  |BK v=>exact ⟨I,β,env,st,.BK v,h1,U,h3⟩
 .rintro a1 w1 ⟨I1,β1,env1,st1,ae,h1,U,h3⟩
  cases ae with
  |exit _|goto _|ret|BK _=>exact U.elim
  |normal=>exact h3 D I0 st0 w0 I1 β1 a1 w1 g1 g2 g3 h1
theorem Iw (hP:MZ P T) {ops:List Oper} (U:Hw ops=true) (h:Fu T (A0 P) all Q ops env st):HL P l r Im all ops Q env st:=λD I0 st0 w0 I β a w g1 g2 g3 hr=>by
 have:=Hu (ro:=none) (n:=1) (l2:=[]) F6 (λ_ _ _ _ h=>h) (λa w h=>h) ops a w (DX U) (CG hP.t (A2 P) hr h)
 simp_all
theorem N8 {o:Oper} {yes no:Prop} (h:Rel D I0 st0 w0 I β env st a w) (k:Bg all o env yes no):
 (Region.wanted o (yielded all.toArray a.tmps)=true/\yes)\/(Region.wanted o (yielded all.toArray a.tmps)=false/\no):=by
 unfold Bg at k
 cases U:o.guard with
 |none=>
  rw [U] at k
  exact .inl ⟨by simp [Region.wanted,U],k⟩
 |some g=>
  obtain ⟨j,want⟩:=g
  rw [U] at k
  simp only at k
  split at k
  .rename_i b hb
   have hy:=Lp h hb
   have hw:Region.wanted o (yielded all.toArray a.tmps)=(b==want):=by
    simp only [Region.wanted,U,hy]
    cases b<;>cases want<;>rfl
   cases want<;>cases b<;>simp only [cond_true,cond_false,lit] at k<;>simp_all
  .rename_i hb
   have hy:=JX h hb
   exact .inr ⟨by simp only [Region.wanted,U,hy];simp_all,k⟩
  simp_all
theorem ph {U:Oper} (h:Rel D I0 st0 w0 I β env st a w) (hw:Region.wanted U (yielded all.toArray a.tmps)=false) (g1:Im.le I0) (g2:w0.heap[l]? =some (.loop r)) (g3:Idle l st0)
 (k:env.go U.dst (.Bj []) λenv=>HL P l r Im all post Q env st):wpListIn (fw none) 1 P all.toArray (Ci D I0 st0 w0 Q) (U::post) a w:=by
 obtain ⟨env',h1,h2⟩:=BL h (c:=undef) (AQ.of (v:=.Bj []) (by simp only [AH];exact ⟨[],rfl,H1⟩)) k
 unfold wpListIn
 rw [if_neg (by simp [hw])]
 exact ⟨λ_ _=>trivial,h2 D I0 st0 w0 I β _ w g1 g2 g3 h1⟩
theorem Lr {c:Call} {f:Operand} (hc:oc.op=.call c) (hf:c.callee=.value f)
 (h:Bg all oc env (env.eval f=.XX l/\TB env c.args.toList λvs=>YS P l r Im vs st λst'=>env.go oc.dst (.bool true) λenv=>HL P l r Im all post Q env st') (env.go oc.dst (.Bj []) λenv=>HL P l r Im all post Q env st)):
 HL P l r Im all (oc::post) Q env st:=λD I0 st0 w0 I β a w g1 g2 g3 h1=>by
 rcases N8 h1 h with ⟨hw,he,h3⟩|⟨hw,h3⟩
 .have hfv:=h1.f.eval f
  rw [he] at hfv
  have hfv':AH I (.XX l) (a.eval f):=hfv
  simp only [AH] at hfv'
  obtain ⟨vs,q1,q2⟩:=ES h1.f h3
  obtain ⟨hid,hl⟩:=g3.fr (EB g2) h1.fr
  rw [g2] at hl
  obtain ⟨fn,tmps,assign,body,hy,U⟩:=q2 (1 - 1) I w _ (Mem.le_trans g1 h1.fr.le) h1.s q1 hl hid
  have harr:(c.args.toList.map a.eval).toArray=c.args.map a.eval:=by apply Array.ext';simp
  rw [harr] at hy
  have hrun:(execOp a.eval oc).run P w=.ok (.round l fn tmps assign body) w:=by
   simp only [execOp,hc,resolve,hf,hfv',Deferred.ofValue,Sem.run_bind,Sem.run_pure,Result.andThen_ok,invoke]
   simpa using hy
  unfold wpListIn
  rw [if_pos hw]
  refine ⟨λ_ _=>trivial,?_⟩
  rw [Oper.semAt_eq _ _ _ kw,hrun]
  refine ⟨λe=>(by cases e),U.mono λe w' ⟨e1,I2,st2,f1,f2,k⟩=>?_⟩
  subst e1
  have r2:=h1.called f1 f2
  obtain ⟨env3,r3,k3⟩:=BL r2 (c:=.bool true) (AQ.of H1) k
  exact k3 D I0 st0 w0 I2 β _ w' g1 g2 g3 r3
 .exact ph h1 hw g1 g2 g3 h3
theorem OK (hP:MZ P T) {c:Call} {g:FuncId} (hc:oc.op=.call c) (hf:c.callee=.value (.func g))
 (h:Bg all oc env (VA T env c.argTypes.toList c.args.toList λvs=>XZ P l r Im g vs st λr' st'=>match r' with
   | .ret v=>env.go oc.dst v λenv=>HL P l r Im all post Q env st'
   | .BK v=>False) (env.go oc.dst (.Bj []) λenv=>HL P l r Im all post Q env st)):
 HL P l r Im all (oc::post) Q env st:=λD I0 st0 w0 I β a w g1 g2 g3 h1=>by
 rcases N8 h1 h with ⟨hw,h3⟩|⟨hw,h3⟩
 .obtain ⟨vs,q1,⟨fn,p1,p2,p3⟩,q2⟩:=K0 hP.t h1.f h3
  obtain ⟨hid,hl⟩:=g3.fr (EB g2) h1.fr
  rw [g2] at hl
  have U:=q2 I w _ (Mem.le_trans g1 h1.fr.le) h1.s q1 hl hid
  have harr:(c.args.toList.map a.eval).toArray=#[]++(c.args.map a.eval)++#[]:=by apply Array.ext';simp
  rw [harr] at U
  have hrun:(execOp a.eval oc).run P w=.ok (.enter g (#[]++(c.args.map a.eval)++#[])) w:=by
   have hb:fn.body.isNone=false:=by cases hb:fn.body<;>simp_all
   simp only [execOp,hc,resolve,hf,Act.eval,Deferred.ofValue,Sem.run_bind,Sem.run_pure,Result.andThen_ok,invoke,callFunc,run_program,p1]
   rw [p3]
   simp [hb]
  unfold wpListIn
  rw [if_pos hw]
  refine ⟨λ_ _=>trivial,?_⟩
  rw [Oper.semAt_eq _ _ _ kw,hrun]
  refine ⟨λe=>(by cases e),(Vh U).mono λe w' ⟨v,cv,e1,I2,st2,f1,f2,f3,k⟩=>?_⟩
  subst e1
  have r2:=h1.called f1 f2
  obtain ⟨env3,r3,k3⟩:=BL r2 (c:=cv) (AQ.of f3) k
  exact k3 D I0 st0 w0 I2 β _ w' g1 g2 g3 r3
 .exact ph h1 hw g1 g2 g3 h3
theorem RZ (hP : MZ P T) (hf : P.funcs[f]? = some fn) (hb : fn.body = some c) (hn : (fn.name == "runtime.NumGoroutine") = false) {R : At -> St -> Prop} (hle : Nat.ble args.length fn.ntmps = true)
 (h:FO P l r Im c (λae env st=>(ae=.normal\/ae=.ret)/\R4 T fn R env st) {tmps:=Hg 0 args,boxes:=[],BG:=0,sz:=fn.ntmps,gl:=[]} st):XZ P l r Im f args st R:=by
 refine ⟨⟨fn,hf,by simp [hb],hn⟩,λI w cargs hm hs U hl hi=>calls_of_wp hf hb (wp_mono (h [] I st w I _ _ w hm hl hi (EX [] hs U hle)) ?_)⟩
 rintro e a w' ⟨I1,β1,env1,st1,ae,h1,h2,h3,h4⟩
 obtain ⟨v,c,g1,g2,g3⟩:=B6 (P:=P) (fn:=fn) (R:=R) hP.t h1 h4
 have hret:a.defers=[]/\∃v,(results fn a.tmps).run P w'=.ok v w'/\∃v' c,Ending.returned v=.returned c/\∃I' st',Fr I st w I' st' w'/\B7 I' st' w'/\AH I' v' c/\R (.ret v') st':=
  ⟨h1.f.defers,c,g1,v,c,rfl,I1,st1,h1.fr,h1.s,g2,g3⟩
 rcases h3 with rfl|rfl<;>(cases e<;>first|exact hret|exact h2.elim)
theorem GL {c:Operand} {x y:Code} {t:Bool} (he:env.eval c=.bool t) (h:FO P l r Im (bif t then x else y) Q env st):FO P l r Im (.cond c x y) Q env st:=λD I0 st0 w0 I β a w g1 g2 g3 hr=>by
 have U:=hr.f.eval c
 rw [he] at U
 have U:=G2 U
 cases t with
 |true=>exact wp_cond_true U (h D I0 st0 w0 I β a w g1 g2 g3 hr)
 |false=>exact wp_cond_false U (h D I0 st0 w0 I β a w g1 g2 g3 hr)
end
end Go.Aw
namespace Go.Proofs.Z
open Go Go.Aw
theorem db {l:List (List UInt8)} {K:Nat->Prop} (k:l.length<4611686018427387904->K l.length):∀m,m=(strs l).length->m<C9->K m:=λm U h=>by
 rw [show (strs l).length=l.length by simp [strs]] at U;subst U;exact k h
theorem YP (s:List UInt8) (U pos:Nat):(Ds s U pos).length<=s.length - pos+1:=by
 fun_induction Ds s U pos with
 |case1 U pos h1 h2 ih=>rw [List.length_cons];omega
 |case2 U pos h1 h2 ih=>omega
 |case3 U pos h1=>rw [List.length_singleton];omega
def QE (t:Tk):Bool:=t.kind==9&&(t.text==[108,101,116]||t.text==[119,104,101,114,101]||t.text==[100,111]||t.text==[111,102])
def YE (t:Tk) (k:Int) (x:List UInt8):Bool:=t.kind==k&&t.text==x
def pE (t:Tk):Int:=t.line+((Ds t.text 0 0).length:Nat) - 1
def V5 (p:Option Tk) (t:Tk):Int:=match p with
 |none=>if (YE t 9 [109,111,100,117,108,101]||YE t 15 [123])=true then 17 else 16
 |some p=>if (QE p&& !YE t 15 [123])=true then 16 else if (!(t.line==p.line)&& !(t.line==pE p))=true then 17 else 0
def markT (m:Int) (t:Tk):List Tk:=if m=0 then [t] else [⟨m,[],t.line,t.Cp⟩,t]
def DN:Option Tk->List Tk->List Tk
 |_,[]=>[]
 |p,t::r=>markT (V5 p t) t++DN (some t) r
def Su (l:List Tk):List Tk:=match l.getLast? with
 |none=>[⟨16,[],0,0⟩]
 |some t=>if QE t=true then [⟨16,[],0,0⟩] else []
def F7 (l:List Tk):List Tk:=DN none l++Su l
def ahead (l:List Tk) (i:Nat):Option Tk:=if i=0 then none else l[i - 1]?
def Fe (l:List Tk) (i:Nat):Int:=match l[i]? with
 |some t=>V5 (ahead l i) t
 |none=>0
section
variable {st:St} {K:At->St->Prop}
theorem QF {t:Tk} (h:K (.ret (.bool (QE t))) st):PC 67 [E7 t] st K:=by
 refine pB Tryz.func67 ?_
 repeat' ((conv=>whnf);first|  (refine CZ ?_ ?_<;>intro _)|fail)
 all_goals conv=>whnf
 all_goals (refine Au h ?_;clear h;simp_all [QE])
theorem pP {t:Tk} {k:Int} {x:List UInt8} (h:K (.ret (.bool (YE t k x))) st):PC 115 [E7 t,.int .i64 k,.str x] st K:=by
 refine pB Tryz.func115 ?_
 repeat' ((conv=>whnf);first|  (refine CZ ?_ ?_<;>intro _)|fail)
 all_goals conv=>whnf
 all_goals (refine Au h ?_;clear h;simp_all [YE])
theorem qI {t:Tk} (U:t.text.length<=100000000) (h2: -1000000000<=t.line) (h3:t.line<=1000000000) (h:K (.ret (.int .i64 (pE t))) st):PC 116 [E7 t] st K:=by
 refine pB Tryz.func116 ?_
 have hb:=YP t.text 0 0
 repeat' ((conv=>whnf);first|exact B1|(refine A1 ?_;intros)|(refine B2 ?_ ?_ ?_;rotate_left)|refine aI U (λown ho=>?_)|refine db (λ_=>?_)|refine Ad 9 [4] [] ?_|fail)
 all_goals conv=>whnf
 all_goals exact ⟨_,_,.inl rfl,AA.Bi ho,h⟩
theorem oI {l:List Tk} {own:AA} (h:∀c,st.fresh c->K (.ret (.func 114 [] [.ptr c 0])) (st.Aa c [.slice 4 (A4 l) own])):PC 66 [.slice 4 (A4 l) own] st K:=by
 refine AP Ab [] Tryz.func66 rfl Do rfl ?_
 refine Af (Ae Ab ?_)
 repeat' ((conv=>whnf);first|  fail)
 refine KR 1 0 rfl rfl rfl (λc U=>?_)
 refine Ae Ab ?_
 repeat' ((conv=>whnf);first|  fail)
 all_goals conv=>whnf
 all_goals exact ⟨_,_,.inl rfl,St.le_refl _,h c U⟩
end
def eX (l:List Tk):Prop:=∀t ∈ l,t.text.length<=100000000/\ -1000000000<=t.line/\t.line<=1000000000
theorem eX.at {l:List Tk} (h:eX l) {i:Nat} {t:Tk} (e:l[i]? =some t):t.text.length<=100000000/\ -1000000000<=t.line/\t.line<=1000000000:=h t (List.mem_of_getElem? e)
theorem qf {L:Nat} {v:V} {m m':Int} {st:St} {U:St->Prop} (h:YS Tryz.prog L r Im [v,.int .i64 m'] st K) (e:m'=m) (k:∀st,K st->U st):YS Tryz.prog L r Im [v,.int .i64 m] st U:=by subst e;exact h.mono k
section
variable {st:St} {l:List Tk} {own:AA} {c L:Nat} {r:Loop} {Im:Mem}
attribute [local irreducible] Go.Aw.Ag
theorem qY (hok:eX l) (hn:l.length<=100000000) {J:Nat->St->Prop} (hJ:∀i st,J i st->st.box c=some [.slice 4 (A4 l) own]) (hY:∀i st,i<l.length->J i st->YS Tryz.prog L r Im [.int .i64 (i:Int),.int .i64 (Fe l i)] st (J (i+1))) (h0:J 0 st)
 {I:Mem} {cargs:List Value} (hm:Im.le I) (hs:B7 I st w) (U:Ao I [.ptr c 0] cargs) (hl:w.heap[L]? =some (.loop r)) (hi:Idle L st):
 Calls Tryz.prog 114 (Value.func (.yield L) #[] #[]::cargs).toArray w λe w'=>(∃v,e=.returned v)/\∃I' st',Fr I st w I' st' w'/\B7 I' st' w'/\J l.length st':=by
 refine LN Ab Tryz.func114 rfl rfl (r:=r) (Im:=Im) (args:=[.XX L,.ptr c 0]) (K:=J l.length) rfl ?_ hm hs (by
  simp only [Ao] at U |-
  exact ⟨_,_,rfl,by simp only [AH],U⟩) hl hi
 have hb:=hJ 0 st h0
 refine Bh (FO.of (Ae Ab ?_))
 repeat' ((conv=>whnf);first|exact B1|(refine A1 ?_;intros)|(refine B2 ?_ ?_ ?_;rotate_left)|(refine CZ ?_ ?_<;>intro _)|refine Ah hb ?_|fail)
 refine GC ?_
 refine Pc ?_
 refine HN (α:=Nat×St) (λx=>[(8,.int .i64 (x.1:Int))]) (λ_=>[]) [0,1,6,7] [] (λx=>x.2) (λx=>x.1<=l.length/\J x.1 x.2) (λx=>l.length - x.1) (0,st) ⟨Nat.zero_le _,h0⟩ Yl (St.le_refl _) ?_
 rintro ⟨i,st1⟩ ⟨hi1,hj⟩
 dsimp only at hi1 hj |-
 have hb1:=hJ i st1 hj
 refine Bh (FO.of (Ae Ab ?_))
 by_cases hlt:i<l.length
 .obtain ⟨t,ht⟩:∃t,l[(i:Int).toNat]? =some t:=⟨_,List.getElem?_eq_getElem AC⟩
  have ht':l[i]? =some t:=ht
  have hlt2:(i:Int)<(l.length:Int):=AC
  repeat' ((conv=>whnf);first|exact B1|(refine A1 ?_;intros)|(refine B2 ?_ ?_ ?_;rotate_left)|(refine CZ ?_ ?_<;>intro _)|fail)
  refine Bh (FO.of (Ae Ab ?_))
  repeat' ((conv=>whnf);first|exact B1|(refine A1 ?_;intros)|(refine B2 ?_ ?_ ?_;rotate_left)|(refine CZ ?_ ?_<;>intro _)|fail)
  refine Bh ?_
  refine GC ?_
  refine Bh (FO.of (Ae Ab ?_))
  repeat' ((conv=>whnf);first|exact B1|(refine A1 ?_;intros)|(refine B2 ?_ ?_ ?_;rotate_left)|(refine CZ ?_ ?_<;>intro _)|fail)
  refine Bh (FO.of (Ae Ab ?_))
  repeat' ((conv=>whnf);first|exact B1|(refine A1 ?_;intros)|(refine B2 ?_ ?_ ?_;rotate_left)|(refine CZ ?_ ?_<;>intro _)|fail)
  have hy:=hY i st1 hlt hj
  refine Bh (FO.of (Ae Ab ?_))
  have ho:=hok.at ht'
  clear hY U hs hm hl hi
  by_cases hz:i=0
  .subst hz
   have hma:Fe l 0=if (YE t 9 [109,111,100,117,108,101]||YE t 15 [123])=true then 17 else 16:=by unfold Fe;rw [ht'];rfl
   repeat' ((conv=>whnf);first|exact B1|(refine A1 ?_;intros)|(refine B2 ?_ ?_ ?_;rotate_left)|(refine CZ ?_ ?_<;>intro _)|refine pP ?_|fail)
   all_goals refine Bh (ZM Ab 3 rfl rfl rfl rfl rfl ?_)
   all_goals (repeat' ((conv=>whnf);first|exact B1|(refine A1 ?_;intros)|(refine B2 ?_ ?_ ?_;rotate_left)|(refine CZ ?_ ?_<;>intro _)|refine ⟨rfl,?_⟩|refine qf hy (by rw [hma]<;>simp [*]) (λst2 hj2=>?_)|fail))
   all_goals refine FO.of (Ae Ab ?_)
   all_goals (repeat' ((conv=>whnf);first|exact B1|(refine A1 ?_;intros)|(refine B2 ?_ ?_ ?_;rotate_left)|(refine CZ ?_ ?_<;>intro _)|fail))
   all_goals refine FO.of (Ae Ab ?_)
   all_goals (repeat' ((conv=>whnf);first|exact B1|(refine A1 ?_;intros)|(refine B2 ?_ ?_ ?_;rotate_left)|(refine CZ ?_ ?_<;>intro _)|fail))
   all_goals conv=>whnf
   all_goals exact ⟨(0+1,st2),⟨hlt,hj2⟩,So,Yl,St.le_refl _⟩
  .obtain ⟨p,hp⟩:∃p,l[((i:Int) - 1).toNat]? =some p:=⟨_,List.getElem?_eq_getElem AC⟩
   have hp':l[i - 1]? =some p:=by rw [<-hp];congr 1;omega
   have hop:=hok.at hp'
   have hma:Fe l i=V5 (some p) t:=by unfold Fe ahead;rw [ht',if_neg hz,hp']
   unfold V5 at hma
   have hz2:¬(i:Int)=0:=AC
   repeat' ((conv=>whnf);first|exact B1|(refine A1 ?_;intros)|(refine B2 ?_ ?_ ?_;rotate_left)|(refine CZ ?_ ?_<;>intro _)|refine Ah hb1 ?_|refine pP ?_|refine QF ?_|refine qI hop.1 hop.2.1 hop.2.2 ?_|refine Ad 21 [17] [] ?_|fail)
   all_goals refine Bh (ZM Ab 3 rfl rfl rfl rfl rfl ?_)
   all_goals (repeat' ((conv=>whnf);first|exact B1|(refine A1 ?_;intros)|(refine B2 ?_ ?_ ?_;rotate_left)|(refine CZ ?_ ?_<;>intro _)|refine ⟨rfl,?_⟩|refine qf hy (by rw [hma]<;>simp [*]) (λst2 hj2=>?_)|fail))
   all_goals refine FO.of (Ae Ab ?_)
   all_goals (repeat' ((conv=>whnf);first|exact B1|(refine A1 ?_;intros)|(refine B2 ?_ ?_ ?_;rotate_left)|(refine CZ ?_ ?_<;>intro _)|fail))
   all_goals refine FO.of (Ae Ab ?_)
   all_goals (repeat' ((conv=>whnf);first|exact B1|(refine A1 ?_;intros)|(refine B2 ?_ ?_ ?_;rotate_left)|(refine CZ ?_ ?_<;>intro _)|fail))
   all_goals conv=>whnf
   all_goals exact ⟨(i+1,st2),⟨hlt,hj2⟩,So,Yl,St.le_refl _⟩
 .have hlt2:¬(i:Int)<(l.length:Int):=AC
  obtain rfl:i=l.length:=AC
  repeat' ((conv=>whnf);first|exact B1|(refine A1 ?_;intros)|(refine B2 ?_ ?_ ?_;rotate_left)|(refine CZ ?_ ?_<;>intro _)|fail)
  refine Bh (FO.of (Ae Ab ?_))
  repeat' ((conv=>whnf);first|exact B1|(refine A1 ?_;intros)|(refine B2 ?_ ?_ ?_;rotate_left)|(refine CZ ?_ ?_<;>intro _)|fail)
  all_goals conv=>whnf
  all_goals exact ⟨.inl rfl,hj⟩
end
end Go.Proofs.Z
namespace Go.Aw
theorem AA.Lk {own:AA}:(own.st S n).box=S.box:=by cases own<;>rfl
theorem AA.Rq {own:AA}:(own.st S n).Aa b C=own.st (S.Aa b C) n:=by cases own<;>rfl
theorem Rp {own:AA}:(own.st (S.Aa b C) n).box b=some C:=by rw [AA.Lk];simp [St.Aa]
theorem AA.H7 {own:AA} (h:own.Bw S) (hb:S.box b≠none):own.Bw (S.Aa b C):=by
 cases own with
 |any=>exact h
 |full=>exact trivial
 |tok t=>
  have h:S.fresh t:=h
  refine (show (S.Aa b C).fresh t from ⟨?_,h.2⟩)
  have:t≠b:=by rintro rfl;exact hb h.1
  simp only [St.Aa]
  rw [if_neg this];exact h.1
theorem AA.Mb {own:AA} {D:List V} (h:own.Bw (S.Aa b C)):own.Bw (S.Aa b D):=by
 cases own with
 |any=>exact h
 |full=>exact trivial
 |tok t=>
  have h:(S.Aa b C).fresh t:=h
  refine (show (S.Aa b D).fresh t from ⟨?_,h.2⟩)
  have U:=h.1
  simp only [St.Aa] at U |-
  split at U
  .cases U
  .rename_i e;rw [if_neg e];exact U
end Go.Aw
namespace Go.Proofs.Z
open Go Go.Aw
theorem FT (l:List Tk):(A4 l).length=l.length:=by unfold A4;rw [List.length_map]
theorem Ly {l:List Tk} {x:Tk} {own:AA} {st:St} {K:V->St->Prop} (h:own.Bw st) (hb:l.length+1<=1000000000)
 (k:∀U:AA,U.Bw st->K (.slice 4 (A4 (l++[x])) U) (U.st st ((l++[x]).length*4))):Ag 4 40 (A4 l) own [x.cells] (own.st st (l.length*4)) K:=by
 have:=E2 (sz:=4) (bytes:=40) (es:=A4 l) (new:=[x.cells]) (K:=K) h (by rw [FT];show (l.length+1)*40<=_;omega) (by rw [FT];show l.length+1<C9;simp only [C9];omega) rfl (λU ho=>by
  have:=k U ho
  rw [FT]
  have e:A4 l++[x.cells].map (·.map V.Jl)=A4 (l++[x]):=by unfold A4;rw [List.map_append];rfl
  rw [e]
  rw [List.length_append] at this
  exact this)
 rw [FT] at this
 exact this
abbrev sE (m:Int) (t:Tk):Tk:=⟨m,[],t.line,t.Cp⟩
theorem cj {st:St} {K:At->St->Prop} {c:Bool} (hf:∀(st:St) (K:At->St->Prop),K (.ret (.bool c)) st->PC f args st K) (e:c=true) (k:K (.ret (.bool true)) st):PC f args st K:=hf st K (by rw [e];exact k)
theorem fC {st:St} {K:At->St->Prop} {c:Bool} (hf:∀(st:St) (K:At->St->Prop),K (.ret (.bool c)) st->PC f args st K) (e:c=false) (k:K (.ret (.bool false)) st):PC f args st K:=hf st K (by rw [e];exact k)
theorem Fs {st:St} {c:Nat} {cs:List V} (h:b≠c):(st.Aa b cs).box c=st.box c:=by simp [St.Aa,Ne.symm h]
theorem lO {l:List Tk} {x:Tk} {own:AA} {K:V->St->Prop} (h:own.Bw (S.Aa b C)) (hb:l.length+1<=1000000000)
 (k:∀U:AA,U.Bw (S.Aa b C)->K (.slice 4 (A4 (l++[x])) U) (U.st (S.Aa b C) ((l++[x]).length*4))):Ag 4 40 (A4 l) own [x.cells] ((own.st S (l.length*4)).Aa b C) K:=by
 rw [AA.Rq];exact Ly h hb k
theorem QD:∀(a:List Tk) (p:Option Tk) (t:Tk),DN p (a++[t])=DN p a++markT (V5 (a.getLast?.or p) t) t
 |[],p,t=>by simp [DN]
 |x::r,p,t=>by
  rw [List.cons_append,DN,QD r (some x) t,DN,List.append_assoc]
  congr 3
  cases r with
  |nil=>rfl
  |cons y r=>rw [List.getLast?_cons_cons];cases h:(y::r).getLast? with
   |none=>simp at h
   |some z=>rfl
theorem Ki:∀(a:List Tk) (p:Option Tk),(DN p a).length<=2*a.length
 |[],p=>Nat.le_refl _
 |x::r,p=>by
  have:=Ki r (some x)
  rw [DN,List.length_append,List.length_cons]
  unfold markT
  split<;>simp only [List.length_cons,List.length_nil]<;>omega
theorem YR {l:List Tk} {i:Nat} {t:Tk} (h:l[i]? =some t):DN none (l.take (i+1))=DN none (l.take i)++markT (Fe l i) t:=by
 have U:=(List.getElem?_eq_some_iff.1 h).1
 have e:l.take (i+1)=l.take i++[t]:=by rw [List.take_add_one,h];rfl
 rw [e,QD]
 congr 3
 unfold Fe ahead
 rw [h]
 dsimp only
 congr 1
 cases i with
 |zero=>rfl
 |succ i=>
  rw [if_neg AC,List.getLast?_take,if_neg AC]
  have:l[i+1 - 1]? =some l[i]:=by rw [Nat.add_sub_cancel];exact List.getElem?_eq_getElem AC
  rw [this];rfl
section
variable {st:St} {l:List Tk} {own:AA} {K:At->St->Prop}
attribute [local irreducible] Go.Aw.Ag
theorem nI (hok:eX l) (hn:l.length<=100000000) (h:K (.ret (.slice 4 (A4 (F7 l)) .any)) st):PC 41 [.slice 4 (A4 l) own] st K:=by
 refine A0.ends (Mx Ab [] Tryz.func41 rfl Do rfl ?_)
 refine Ae Ab ?_
 repeat' ((conv=>whnf);first|exact B1|(refine A1 ?_;intros)|(refine B2 ?_ ?_ ?_;rotate_left)|fail)
 refine Ae Ab ?_
 repeat' ((conv=>whnf);first|exact B1|(refine A1 ?_;intros)|(refine B2 ?_ ?_ ?_;rotate_left)|refine ⟨⟨AC,AC,AC,(by unfold C9<;>omega)⟩,.inl ⟨rfl,λb0 f0=>?_⟩⟩|fail)
 refine Ae Ab ?_
 repeat' ((conv=>whnf);first|exact B1|(refine A1 ?_;intros)|(refine B2 ?_ ?_ ?_;rotate_left)|refine oI (λc fc=>?_)|fail)
 conv=>whnf
 refine lC.uy 1 0 rfl rfl rfl (λb1 f1=>?_)
 refine lC.uy 3 1 rfl rfl rfl (λb3 f3=>?_)
 refine lC.here ?_
 obtain ⟨S,hS⟩:∃S,S=(st.Aa c [.slice 4 (A4 l) own]).Aa b1 [.slice 4 (A4 l) own]:=⟨_,rfl⟩
 have n0c:c≠b0:=by
  rintro rfl
  have:=fc.2
  simp [St.BB] at this
 have n01:b1≠b0:=by
  rintro rfl
  have:=f1.2
  simp [St.BB,St.Aa] at this
 have n03:b3≠b0:=by
  rintro rfl
  have:=f3.2
  simp [St.BB,St.Aa] at this
 have nc1:b1≠c:=by
  rintro rfl
  have:=f1.1
  rw [St.Ai] at this;cases this
 have n31:b3≠b1:=by
  rintro rfl
  have:=f3.1
  rw [St.Ai] at this;cases this
 have n3c:b3≠c:=by
  rintro rfl
  have:=f3.1
  rw [Fs (Ne.symm n31),St.Ai] at this;cases this
 have fc0:st.box c=none:=fc.1
 have f10:st.box b1=none:=by have:=f1.1;rw [Fs (Ne.symm nc1)] at this;exact this
 have f30:st.box b3=none:=by have:=f3.1;rw [Fs (Ne.symm n31),Fs (Ne.symm n3c)] at this;exact this
 have hSc:S.box c=some [.slice 4 (A4 l) own]:=by rw [hS,Fs nc1,St.Ai]
 have hS1:S.box b1=some [.slice 4 (A4 l) own]:=by rw [hS,St.Ai]
 have hle:∀X,st.le (S.Aa b3 X):=λX=>by
  rw [hS];exact St.Aj (St.Aj (St.Aj (St.le_refl _) fc0 _) f10 _) f30 _
 have hgo:AA.Bw (S.Aa b3 [.slice 4 [] (.tok b0)]) (.tok b0):=by
  refine (show (S.Aa b3 _).fresh b0 from ⟨?_,by rw [hS];exact f0.2⟩)
  rw [Fs n03,hS,Fs n01,Fs n0c];exact f0.1
 obtain ⟨J,hJ⟩:∃J:Nat->St->Prop,J=λi st'=>∃o:AA,o.Bw (S.Aa b3 [.slice 4 (A4 (DN none (l.take i))) o])/\st'=o.st (S.Aa b3 [.slice 4 (A4 (DN none (l.take i))) o]) ((DN none (l.take i)).length*4):=⟨_,rfl⟩
 refine ⟨⟨rfl,rfl⟩,114,[.ptr c 0],J l.length,⟨rfl,⟨_,Tryz.func114,Do,Do⟩⟩,?_,?_⟩
 .intro D B Im β a wm L df fi hF I w cargs hm hs hargs hl hi
  refine qY (own:=own) hok hn (J:=J) (λi st1 hj=>?_) (λi st1 hlt hj=>?_) ?_ hm hs hargs hl hi
  .rw [hJ] at hj
   obtain ⟨o,_,rfl⟩:=hj
   rw [AA.Lk,Fs n3c,hSc]
  .refine lA Ab hF rfl rfl rfl Do rfl rfl ?_
   rw [hJ] at hj
   obtain ⟨o,hgo,rfl⟩:=hj
   obtain ⟨t,ht⟩:∃t,l[(i:Int).toNat]? =some t:=⟨_,List.getElem?_eq_getElem AC⟩
   have htk:=YR (l:=l) (i:=i) (t:=t) ht
   have hlen2:=Ki (l.take i) none
   have hti:(l.take i).length<=l.length:=Nm
   generalize hout:DN none (l.take i)=out at *
   have hb3:(o.st (S.Aa b3 [.slice 4 (A4 out) o]) (out.length*4)).box b3=some [.slice 4 (A4 out) o]:=by rw [AA.Lk,St.Ai]
   have hb1:(o.st (S.Aa b3 [.slice 4 (A4 out) o]) (out.length*4)).box b1=some [.slice 4 (A4 l) own]:=by rw [AA.Lk,Fs n31,hS1]
   have hlo:out.length+1<=1000000000:=AC
   unfold O3
   by_cases hz:Fe l i=0
   .have hfin:∀o2:AA,o2.Bw (S.Aa b3 [.slice 4 (A4 out) o])->J (i+1) ((o2.st (S.Aa b3 [.slice 4 (A4 out) o]) ((out++[t]).length*4)).Aa b3 [.slice 4 (A4 (out++[t])) o2]):=λo2 h2=>by
     rw [hJ]
     refine ⟨o2,?_,?_⟩
     .rw [htk];unfold markT;rw [if_pos hz];exact AA.Mb h2
     .rw [htk];unfold markT;rw [if_pos hz,AA.Rq,St.set_set]
    repeat' ((conv=>whnf);first|exact B1|(refine A1 ?_;intros)|(refine B2 ?_ ?_ ?_;rotate_left)|refine ⟨⟨rfl,rfl⟩,?_⟩|refine Ah hb3 ?_|refine Ah hb1 ?_|refine Ly (x:=t) hgo hlo (λo2 h2=>?_)|refine Ah Rp ?_|exact hfin o2 h2|refine Ad 16 [14,15] [1] ?_|refine Ad 8 [6,7] [1] ?_|fail)
   .have hlo2:(out++[sE (Fe l i) t]).length+1<=1000000000:=by rw [List.length_append,List.length_singleton];omega
    have hfin:∀o2 o3:AA,o2.Bw (S.Aa b3 [.slice 4 (A4 out) o])->o3.Bw ((S.Aa b3 [.slice 4 (A4 out) o]).Aa b3 [.slice 4 (A4 (out++[sE (Fe l i) t])) o2])->
     J (i+1) ((o3.st ((S.Aa b3 [.slice 4 (A4 out) o]).Aa b3 [.slice 4 (A4 (out++[sE (Fe l i) t])) o2]) ((out++[sE (Fe l i) t]++[t]).length*4)).Aa b3 [.slice 4 (A4 (out++[sE (Fe l i) t]++[t])) o3]):=λo2 o3 h2 h3=>by
     rw [hJ]
     refine ⟨o3,?_,?_⟩
     .rw [htk];unfold markT;rw [if_neg hz,St.set_set] at *;exact AA.Mb h3
     .rw [htk];unfold markT;rw [if_neg hz,AA.Rq,St.set_set,St.set_set,List.append_assoc];rfl
    have hb1':∀(o2:AA) n C,((o2.st (S.Aa b3 [.slice 4 (A4 out) o]) n).Aa b3 C).box b1=some [.slice 4 (A4 l) own]:=λo2 n C=>by rw [Fs n31,AA.Lk,Fs n31,hS1]
    repeat' ((conv=>whnf);first|exact B1|(refine A1 ?_;intros)|(refine B2 ?_ ?_ ?_;rotate_left)|refine ⟨⟨rfl,rfl⟩,?_⟩|refine Ah hb3 ?_|refine Ah hb1 ?_|refine Ah (hb1' _ _ _) ?_|refine Ah (St.Ai ..) ?_|refine Ly (x:=sE (Fe l i) t) hgo hlo (λo2 h2=>?_)|refine lO (x:=t) (AA.H7 h2 (by rw [St.Ai]<;>simp)) hlo2 (λo3 h3=>?_)|refine Ah Rp ?_|exact hfin o2 o3 h2 h3|refine Ad 16 [14,15] [1] ?_|refine Ad 8 [6,7] [1] ?_|fail)
  .rw [hJ]
   exact ⟨.tok b0,hgo,by rw [hS];rfl⟩
 .intro st' hk
  rw [hJ,List.take_length] at hk
  obtain ⟨o,hgo,rfl⟩:=hk
  have hb3:(o.st (S.Aa b3 [.slice 4 (A4 (DN none l)) o]) ((DN none l).length*4)).box b3=some [.slice 4 (A4 (DN none l)) o]:=Rp
  have hb1:(o.st (S.Aa b3 [.slice 4 (A4 (DN none l)) o]) ((DN none l).length*4)).box b1=some [.slice 4 (A4 l) own]:=by rw [AA.Lk,Fs n31,hS1]
  have hlen2:=Ki l none
  have hlo:(DN none l).length+1<=1000000000:=AC
  refine Ae Ab ?_
  have hle1:st.le (o.st (S.Aa b3 [.slice 4 (A4 (DN none l)) o]) ((DN none l).length*4)):=St.le_trans (hle _) (AA.Bi hgo)
  have hle2:∀(o2:AA) (n:Nat) (C D:List V),o2.Bw (S.Aa b3 C)->st.le ((o2.st (S.Aa b3 C) n).Aa b3 D):=λo2 n C D h2=>by
   rw [AA.Rq,St.set_set];exact St.le_trans (hle _) (AA.Bi (AA.Mb h2))
  have U:∀x:List Tk,Su l=x->K (.ret (.slice 4 (A4 (DN none l++x)) .any)) st:=λx e=>by
   have:=h;unfold F7 at this;rw [e] at this;exact this
  cases hlast:l.getLast? with
  |none=>
   obtain rfl:l=[]:=List.getLast?_eq_none_iff.1 hlast
   have U:=U [⟨16,[],0,0⟩] rfl
   have hz0:(([]:List Tk).length:Int)=0:=rfl
   repeat' ((conv=>whnf);first|exact B1|(refine A1 ?_;intros)|(refine B2 ?_ ?_ ?_;rotate_left)|refine Ah hb1 ?_|refine Ah hb3 ?_|refine Ly (x:=⟨16,[],0,0⟩) hgo hlo (λo2 h2=>?_)|refine Ah Rp ?_|refine Ah (St.Ai ..) ?_|fail)
   all_goals conv=>whnf
   all_goals refine ⟨.inr rfl,?_⟩
   all_goals conv=>whnf
   all_goals exact ⟨_,_,.inr rfl,hle2 o2 _ _ _ h2,U⟩
  |some t=>
   have hpos:0<l.length:=List.length_pos_iff.2 (λe=>by rw [e] at hlast;cases hlast)
   have ht:l[((l.length:Nat) - 1:Int).toNat]? =some t:=by
    rw [List.getLast?_eq_getElem?] at hlast
    rw [<-hlast];congr 1;omega
   have hne:¬(l.length:Int)=0:=AC
   cases ho:QE t with
   |true=>
    have U:=U [⟨16,[],0,0⟩] (by unfold Su;rw [hlast];simp [ho])
    repeat' ((conv=>whnf);first|exact B1|(refine A1 ?_;intros)|(refine B2 ?_ ?_ ?_;rotate_left)|refine Ah hb1 ?_|refine Ah hb3 ?_|refine cj (λst K h=>QF h) ho ?_|refine Ly (x:=⟨16,[],0,0⟩) hgo hlo (λo2 h2=>?_)|refine Ah Rp ?_|refine Ah (St.Ai ..) ?_|fail)
    all_goals conv=>whnf
    all_goals refine ⟨.inr rfl,?_⟩
    all_goals conv=>whnf
    all_goals exact ⟨_,_,.inr rfl,hle2 o2 _ _ _ h2,U⟩
   |false=>
    have U:=U [] (by unfold Su;rw [hlast];simp [ho])
    rw [List.append_nil] at U
    repeat' ((conv=>whnf);first|exact B1|(refine A1 ?_;intros)|(refine B2 ?_ ?_ ?_;rotate_left)|refine Ah hb1 ?_|refine Ah hb3 ?_|refine fC (λst K h=>QF h) ho ?_|fail)
    all_goals conv=>whnf
    all_goals refine ⟨.inr rfl,?_⟩
    all_goals conv=>whnf
    all_goals exact ⟨_,_,.inr rfl,hle1,U⟩
end
end Go.Proofs.Z
