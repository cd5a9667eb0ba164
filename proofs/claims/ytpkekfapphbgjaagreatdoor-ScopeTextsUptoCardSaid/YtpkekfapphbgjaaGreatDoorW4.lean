/-
  Parts of a proof: lemmas that the last text uses.
-/
import Derived.Test.YtpkekfapphbgjaaGreatDoorW3
set_option linter.unusedVariables false
set_option linter.unusedSimpArgs false
set_option maxHeartbeats 16000000
variable {s l x w r op:List UInt8} {i c m pos b n j d t:Nat} {e:UInt8} {p:Int×Int} {k base deep:Int} {ih:(Go.Aw.AP->Go.Aw.Env->Go.Aw.St->Prop)->Go.Aw.Env->Go.Aw.St->Prop} {Q:Go.Aw.AP->Go.Aw.Env->Go.Aw.St->Prop} {env:Go.Aw.Env} {α:Type} {K:Go.Aw.As->Go.Aw.St->Prop} {cs args:List Go.Aw.V} {f g:Go.FuncId} {mk:Nat->List Go.Aw.V} {st0:Go.Aw.St} {rows:List (Go.Aw.AH×List Go.Aw.Nd)} {E:Go.Proofs.Z.Er->Go.Proofs.Z.An->Prop} {P:Prop} {es:List (List Go.Aw.V)} {fn:Go.Func}
namespace Go.Aw
open Go
def I8 (l:List UInt8):Nat:=if AV l=13/\AV (l.drop 1)=10 then 2 else if AV l=13\/AV l=10\/AV l=12 then 1 else 0
def gB (BT:Int):Int:=(BT - 1) / 8*8+9
def A7 (l:List UInt8):Nat:=if 0<I8 l then I8 l else (Ba l).2
def F6 (l:List UInt8) (line:Int):Int:=if 0<I8 l then line+1 else line
def Hq (l:List UInt8) (BT:Int):Int:=if 0<I8 l then 1 else if AV l=9 then gB BT else BT+1
theorem CZ (h:s[i]? =some e):AV (s.drop i)=(e.toNat:Nat):=by rw [drop_at h];rfl
theorem Ey (h:s.length<=i):AV (s.drop i)= -1:=by rw [List.drop_eq_nil_iff.2 h];rfl
theorem cO (l:List UInt8):I8 l<=l.length:=by
 rcases l with _|⟨a,_|⟨b,r⟩⟩
 .decide
 .have e:¬(AV [a]=13/\AV ([a].drop 1)=10):=λh=>absurd (show (-1:Int)=10 from h.2) Do
  unfold I8
  rw [if_neg e,List.length_singleton]
  by_cases h:AV [a]=13\/AV [a]=10\/AV [a]=12
  .rw [if_pos h];omega
  .rw [if_neg h];omega
 .unfold I8
  simp only [List.length_cons]
  by_cases h1:AV (a::b::r)=13/\AV ((a::b::r).drop 1)=10
  .rw [if_pos h1];omega
  .rw [if_neg h1]
   by_cases h:AV (a::b::r)=13\/AV (a::b::r)=10\/AV (a::b::r)=12
   .rw [if_pos h];omega
   .rw [if_neg h];omega
theorem G7 (h:l≠[]):A7 l<=l.length/\1<=A7 l:=by
 unfold A7
 split
 .exact ⟨cO l,FS⟩
 .exact ⟨JQ h,GX l⟩
theorem gz (s:List UInt8) (pos:Nat):¬pos<s.length\/(pos+A7 (s.drop pos)<=s.length/\1<=A7 (s.drop pos)):=by
 by_cases h:pos<s.length
 .have:=G7 (l:=s.drop pos) (λe=>by have:=congrArg List.length e;rw [List.length_drop,List.length_nil] at this;omega)
  rw [List.length_drop] at this
  exact .inr ⟨AC,this.2⟩
 .exact .inl h
end Go.Aw
namespace Go.Proofs.Z
open Go Go.Aw
def spot (pos:Nat) (line BT:Int):V:=.agg [.int .i64 pos,.int .i64 line,.int .i64 BT]
theorem S2 {p:Nat} {p' l l' c U:Int} (e1:(p:Int)=p') (e2:l=l') (e3:c=U):As.ret (spot p l c)=As.ret (.agg [.int .i64 p',.int .i64 l',.int .i64 U]):=by subst e1;subst e2;subst e3;rfl
section
variable {st:St} {R:As->St->Prop}
theorem fu {i:Int} (U:s.length<4611686018427387904) (hx:NM s i=((c:Int),(m:Int))) (h:R (.ret (.Bc [.int .i32 c,.int .i64 m])) st):PC 105 [.str s,.int .i64 i] st R:=oS U (by rw [hx];exact h)
theorem Uu (hl:s.length<4611686018427387904) (hp:pos<s.length) (h:R (.ret (.int .i64 (I8 (s.drop pos):Nat))) st):PC 104 [.str s,.int .i64 pos] st R:=by
 obtain ⟨e,U⟩:∃e,s[pos]? =some e:=⟨s[pos],List.getElem?_eq_getElem hp⟩
 have he':s[(pos:Int).toNat]? =some e:=U
 have h0:=CZ U
 have h1:AV ((s.drop pos).drop 1)=AV (s.drop (pos+1)):=by rw [List.drop_drop]
 refine pB Tryz.func104 ?_
 repeat' ((conv=>whnf);first|(refine B6 ?_;intros)|(refine Cv ?_ ?_<;>intro _)|fail)
 all_goals try have h2:=CZ (show s[pos+1]? =some _ by assumption)
 all_goals try have h3:=Ey (s:=s) (i:=pos+1) AC
 all_goals exact fin h (Bt (by unfold I8;rw [h1];(repeat' split)<;>omega))
theorem yT {BT:Int} (U:1<=BT) (h1:BT<=4000000000000000000) (h:R (.ret (.int .i64 (gB BT))) st):PC 106 [.int .i64 BT] st R:=by
 refine pB Tryz.func106 ?_
 repeat' ((conv=>whnf);first|(refine B6 ?_;intros)|fail)
 exact fin h (Bt (by unfold gB;omega))
theorem fI {line BT:Int} (hl:s.length<4611686018427387904) (hp:pos<s.length) (h0:1<=line) (h1:line<=4000000000000000000) (h2:1<=BT) (h3:BT<=4000000000000000000)
 (h:R (.ret (spot (pos+A7 (s.drop pos)) (F6 (s.drop pos) line) (Hq (s.drop pos) BT))) st):PC 63 [.str s,spot pos line BT] st R:=by
 obtain ⟨e,he⟩:∃e,s[pos]? =some e:=⟨s[pos],List.getElem?_eq_getElem hp⟩
 have he':s[(pos:Int).toNat]? =some e:=he
 have hh:=CZ he
 have hn:=cO (s.drop pos)
 rw [List.length_drop] at hn
 rcases hd:Ba (s.drop pos) with ⟨c,m⟩
 have hr:=rune_le hp hd.symm
 have hx:NM s pos=((c:Int),(m:Int)):=by rw [NO AC AC,Nb hp hd.symm]
 refine pB Tryz.func63 ?_
 repeat' ((conv=>whnf);first|(refine B6 ?_;intros)|(refine Cv ?_ ?_<;>intro _)|refine Uu hl hp ?_|refine fu hl hx ?_|refine yT h2 h3 ?_)
 .have U:0<I8 (s.drop pos):=AC
  exact fin h (S2 (by unfold A7;rw [if_pos U];omega) (by unfold F6;rw [if_pos U]) (by unfold Hq;rw [if_pos U]))
 .have U:¬0<I8 (s.drop pos):=AC
  exact fin h (S2 (by unfold A7;rw [if_neg U,hd];omega) (by unfold F6;rw [if_neg U]) (by unfold Hq;rw [if_neg U,if_pos AC]))
 .have U:¬0<I8 (s.drop pos):=AC
  exact fin h (S2 (by unfold A7;rw [if_neg U,hd];omega) (by unfold F6;rw [if_neg U]) (by unfold Hq;rw [if_neg U,if_neg AC]))
end
end Go.Proofs.Z
namespace Go.Aw
open Go
def Cf (l:List UInt8) (k:Nat) (p:Int×Int):Int×Int:=
 match l with
 |[]=>p
 |a::r=>if k<A7 (a::r) then p else Cf ((a::r).drop (A7 (a::r))) (k - A7 (a::r)) (F6 (a::r) p.1,Hq (a::r) p.2)
termination_by l.length
decreasing_by
 have:=G7 (l:=a::r) GT
 simp only [List.length_drop,List.length_cons]
 omega
theorem GG (k:Nat) (p:Int×Int):Cf [] k p=p:=by rw [Cf]
theorem FB {k:Nat} (h:k<A7 l):Cf l k p=p:=by
 cases l with
 |nil=>exact GG k p
 |cons a r=>rw [Cf,if_pos h]
theorem Fm {k:Nat} (U:l≠[]) (h:¬k<A7 l):Cf l k p=Cf (l.drop (A7 l)) (k - A7 l) (F6 l p.1,Hq l p.2):=by
 cases l with
 |nil=>exact absurd rfl U
 |cons a r=>rw [Cf,if_neg h]
theorem GH:Cf l 0 p=p:=by
 cases l with
 |nil=>exact GG 0 p
 |cons a r=>exact FB (G7 GT).2
theorem Qg (h:pos<s.length):s.drop pos≠[]:=λe=>by
 have:=congrArg List.length e;rw [List.length_drop,List.length_nil] at this;omega
theorem Tl {k:Nat} {line BT:Int} (h:pos<s.length) (U:¬pos+k<pos+A7 (s.drop pos)):
 Cf (s.drop pos) k (line,BT)=Cf (s.drop (pos+A7 (s.drop pos))) (k - A7 (s.drop pos)) (F6 (s.drop pos) line,Hq (s.drop pos) BT):=by
 rw [Fm (Qg h) AC,List.drop_drop]
theorem Xq (l:List UInt8) (line:Int):line<=F6 l line/\F6 l line<=line+1:=by unfold F6;split<;>omega
theorem Xp (l:List UInt8) {BT:Int} (h:1<=BT):1<=Hq l BT/\Hq l BT<=BT+8:=by
 unfold Hq gB
 by_cases h1:0<I8 l
 .rw [if_pos h1];omega
 .rw [if_neg h1]
  by_cases h2:AV l=9
  .rw [if_pos h2];omega
  .rw [if_neg h2];omega
end Go.Aw
namespace Go.Proofs.Z
open Go Go.Aw
section
variable {st:St} {R:As->St->Prop}
theorem zY {k:Nat} (hl:s.length<=100000000) (hk:k<=s.length) (h:R (.ret (.Bc [.int .i64 (Cf s k (1,1)).1,.int .i64 (Cf s k (1,1)).2,.int .i64 0])) st):PC 39 [.str s,.int .i64 k] st R:=by
 refine pB Tryz.func39 ?_
 repeat' ((conv=>whnf);first|exact EG|(refine B6 ?_;intros)|(refine EH ?_ ?_ ?_;rotate_left)|(refine Cv ?_ ?_<;>intro _)|refine Ao GE ?_|fail)
 refine VY (α:=Nat) (β:=Int) (γ:=Int) (λ_ _ _=>[]) (λpos line BT=>[(0,[.int .i64 (pos:Int),.int .i64 line,.int .i64 BT])]) [0,1,7] [] (λ_ _ _=>st)
  (λpos line BT=>pos<=k/\1<=line/\line<=1+(pos:Int)/\1<=BT/\BT<=1+8*(pos:Int)/\Cf s k (1,1)=Cf (s.drop pos) (k - pos) (line,BT)) (λpos _ _=>k - pos) 0 1 1 ⟨AC,AC,AC,AC,AC,rfl⟩ Yl (St.le_refl _) ?_
 rintro pos line BT ⟨h1,h2,h3,h4,h5,U⟩
 have hr:=gz s pos
 have hL:=Xq (s.drop pos) line
 have hC:=Xp (s.drop pos) h4
 repeat' ((conv=>whnf);first|exact EG|(refine B6 ?_;intros)|(refine EH ?_ ?_ ?_;rotate_left)|(refine Cv ?_ ?_<;>intro _)|refine fI AC AC AC AC AC AC ?_|refine Ao GE ?_|fail)
 .exact fin h (by rw [U,FB AC])
 .conv=>whnf
  exact ⟨(pos+A7 (s.drop pos),F6 (s.drop pos) line,Hq (s.drop pos) BT),⟨RL,RL,RL,RL,RL,by dsimp only;rw [U,Tl AC AC,Nat.sub_sub]⟩,RL,Yl,St.le_refl _⟩
 .have hz:k - pos=0:=AC
  exact fin h (by rw [U,hz,GH])
theorem vE {U:Int} (hl:s.length<=100000000) (h0:1<=U) (h1:U<=2147483648) (h:R (.ret (.Bc [.int .i64 (Cf s s.length (1,U)).2,.int .i64 0])) st):PC 121 [.str s,.int .i64 U] st R:=by
 refine pB Tryz.func121 ?_
 repeat' ((conv=>whnf);first|(refine B6 ?_;intros)|(refine Cv ?_ ?_<;>intro _)|fail)
 refine VY (α:=Nat) (β:=Int) (γ:=Int) (λ_ _ _=>[]) (λpos line BT=>[(0,[.int .i64 (pos:Int),.int .i64 line,.int .i64 BT])]) [0,6] [] (λ_ _ _=>st)
  (λpos line BT=>pos<=s.length/\1<=line/\line<=1+(pos:Int)/\1<=BT/\BT<=U+8*(pos:Int)/\Cf s s.length (1,U)=Cf (s.drop pos) (s.length - pos) (line,BT)) (λpos _ _=>s.length - pos) 0 1 U ⟨AC,AC,AC,AC,AC,rfl⟩ Yl (St.le_refl _) ?_
 rintro pos line BT ⟨h1,h2,h3,h4,h5,h6⟩
 have hr:=gz s pos
 have hL:=Xq (s.drop pos) line
 have hC:=Xp (s.drop pos) h4
 repeat' ((conv=>whnf);first|(refine B6 ?_;intros)|(refine Cv ?_ ?_<;>intro _)|refine fI AC AC AC AC AC AC ?_)
 .conv=>whnf
  exact ⟨(pos+A7 (s.drop pos),F6 (s.drop pos) line,Hq (s.drop pos) BT),⟨RL,RL,RL,RL,RL,by dsimp only;rw [h6,Tl AC AC,Nat.sub_sub]⟩,RL,Yl,St.le_refl _⟩
 .have hz:s.length - pos=0:=AC
  exact fin h (by rw [h6,hz,GH])
end
end Go.Proofs.Z
namespace Go.Aw
open Go
theorem yb {st:St} {β γ δ:Type} (f:α->β->γ->δ->List (Nat×V)) (g:α->β->γ->δ->List (Nat×List V)) (keep kb:List Nat) (S:α->β->γ->δ->St) (J:α->β->γ->δ->Prop) (U:α->β->γ->δ->Nat) (x0:α) (y0:β) (z0:γ) (u0:δ) (h0:J x0 y0 z0 u0)
 (he:(env.Mm (f x0 y0 z0 u0) (g x0 y0 z0 u0) keep kb).E3 env) (hs:St.le (S x0 y0 z0 u0) st)
 (hb:∀x y z u,J x y z u->ih (B2 (λenv' st'=>∃p:α×β×γ×δ,J p.1 p.2.1 p.2.2.1 p.2.2.2/\U p.1 p.2.1 p.2.2.1 p.2.2.2<U x y z u/\(env.Mm (f p.1 p.2.1 p.2.2.1 p.2.2.2) (g p.1 p.2.1 p.2.2.1 p.2.2.2) keep kb).E3 env'/\St.le (S p.1 p.2.1 p.2.2.1 p.2.2.2) st') Q) (env.Mm (f x y z u) (g x y z u) keep kb) (S x y z u)):
 ∃(α:Type) (E:α->Env) (S:α->St) (J:α->Prop) (U:α->Nat) (x0:α),J x0/\(E x0).E3 env/\St.le (S x0) st/\
  ∀x,J x->ih (B2 (λenv' st'=>∃y,J y/\U y<U x/\(E y).E3 env'/\St.le (S y) st') Q) (E x) (S x):=
 ⟨α×β×γ×δ,λp=>env.Mm (f p.1 p.2.1 p.2.2.1 p.2.2.2) (g p.1 p.2.1 p.2.2.1 p.2.2.2) keep kb,λp=>S p.1 p.2.1 p.2.2.1 p.2.2.2,λp=>J p.1 p.2.1 p.2.2.1 p.2.2.2,λp=>U p.1 p.2.1 p.2.2.1 p.2.2.2,(x0,y0,z0,u0),h0,he,hs,λp h=>hb p.1 p.2.1 p.2.2.1 p.2.2.2 h⟩
def D4 (s:List UInt8) (U pos:Nat):List (List UInt8):=
 if h:pos<s.length then
  if 0<I8 (s.drop pos) then (s.take pos).drop U::D4 s (pos+I8 (s.drop pos)) (pos+I8 (s.drop pos)) else D4 s U (pos+1)
 else [s.drop U]
termination_by s.length - pos
decreasing_by all_goals omega
theorem zV {a b:Int} {K:Int->Prop} (h:¬a<b) (k:K a):∃r,r=(if a<b then b else a)/\K r:=⟨a,(if_neg h).symm,k⟩
theorem zW {a b:Int} {K:Int->Prop} (h:a<b) (k:K b):∃r,r=(if a<b then b else a)/\K r:=⟨b,(if_pos h).symm,k⟩
theorem lO {l:List (List UInt8)} {own:AH} {st:St} {K:V->St->Prop} (h:own.BM st) (hb:l.length<=999999999)
 (k:∀U:AH,U.BM st->K (.slice 1 (strs (l++[x])) U) (U.st st (l++[x]).length)):Aj 1 16 (strs l) own [[.str x]] (own.st st l.length) K:=
 PK (new:=[x]) h f9 k
theorem jx {U:Nat} (h:pos<s.length) (k:0<I8 (s.drop pos)):D4 s U pos=(s.take pos).drop U::D4 s (pos+I8 (s.drop pos)) (pos+I8 (s.drop pos)):=by
 rw [D4,dif_pos h,if_pos k]
theorem jv {U:Nat} (h:pos<s.length) (k:¬0<I8 (s.drop pos)):D4 s U pos=D4 s U (pos+1):=by
 rw [D4,dif_pos h,if_neg k]
theorem cw {U:Nat} (h:¬pos<s.length):D4 s U pos=[s.drop U]:=by
 rw [D4,dif_neg h]
end Go.Aw
namespace Go.Proofs.Z
open Go Go.Aw
section
variable {st:St} {R:As->St->Prop}
attribute [local irreducible] Go.Aw.Aj
theorem fm (hl:s.length<=100000000) (h:∀own:AH,own.BM st->R (.ret (.slice 1 (strs (D4 s 0 0)) own)) (own.st st (D4 s 0 0).length)):PC 120 [.str s] st R:=by
 refine pB Tryz.func120 ?_
 repeat' ((conv=>whnf);first|(refine B6 ?_;intros)|(refine Cv ?_ ?_<;>intro _)|fail)
 refine yb (α:=Nat) (β:=Nat) (γ:=List (List UInt8)) (δ:=AH) (λpos U l own=>[(5,.int .i64 (pos:Int)),(4,.int .i64 (U:Int)),(3,.slice 1 (strs l) own)]) (λ_ _ _ _=>[]) [0] [] (λ_ _ l own=>own.st st l.length)
  (λpos U l own=>U<=pos/\pos<=s.length/\l.length<=pos/\own.BM st/\D4 s 0 0=l++D4 s U pos) (λpos _ _ _=>s.length - pos) 0 0 [] .full ⟨AC,AC,GT,trivial,rfl⟩ Yl (St.le_refl _) ?_
 rintro pos U l own ⟨h1,h2,h3,h4,h5⟩
 have hn:=cO (s.drop pos)
 rw [List.length_drop] at hn
 repeat' ((conv=>whnf);first|(refine B6 ?_;intros)|(refine Cv ?_ ?_<;>intro _)|refine Uu AC AC ?_|refine zV AC ?_|refine zW AC ?_|refine lO h4 AC (λown' ho=>?_))
 .conv=>whnf
  exact ⟨(pos+I8 (s.drop pos),pos+I8 (s.drop pos),l++[(s.take pos).drop U],own'),⟨Nat.le_refl _,AC,by grind,ho,by dsimp only;rw [h5,jx AC AC,List.append_assoc];rfl⟩,AC,Yl,St.le_refl _⟩
 .conv=>whnf
  exact ⟨(pos+1,U,l,own),⟨by grind,AC,by grind,h4,by dsimp only;rw [h5,jv AC AC]⟩,AC,Yl,St.le_refl _⟩
 .exact fin (by have:=h own' ho;rw [h5,cw AC] at this;grind) rfl
end
end Go.Proofs.Z
namespace Go.Aw
open Go
def yF:List (List UInt8):=[[95],[99,97,115,101],[99,108,97,115,115],[100,97,116,97],[100,101,102,97,117,108,116],[100,101,114,105,118,105,110,103],[100,111],[101,108,115,101],[102,111,114,101,105,103,110],[105,102],[105,109,112,111,114,116],[105,110],[105,110,102,105,120],[105,110,102,105,120,108],[105,110,102,105,120,114],[105,110,115,116,97,110,99,101],[108,101,116],[109,111,100,117,108,101],[110,101,119,116,121,112,101],[111,102],[116,104,101,110],[116,121,112,101],[119,104,101,114,101]]
def fq:List (List UInt8):=[[46,46],[58],[58,58],[61],[92],[124],[60,45],[45,62],[64],[126],[61,62]]
def TM (w:List UInt8):Bool:=yF.contains w
def H6 (w:List UInt8):Int:=if fq.contains w then 10 else if AV w=58 then 6 else 5
def D1 (c:Int):Bool:=AA c==2||AA c==3||AA c==4||c==39
def Cr (l:List UInt8):Nat:=BD D1 l
def B3 (l:List UInt8):Int:=match l with
 |[]=>0
 |a::r=>AA ((Ba (a::r)).1:Nat)
def Ar (l:List UInt8):Int×Nat:=
 if B3 l=6 then (15,1)
 else if B3 l=5 then (H6 (l.take (BD (λc=>AA c==5) l)),BD (λc=>AA c==5) l)
 else if B3 l=3 then (2,Cr l)
 else if B3 l=2 then (if TM (l.take (Cr l)) then 9 else 1,Cr l)
 else (0,0)
def BZ (k:Int):Int:=if k=1 then 3 else if k=2 then 4 else if k=5 then 7 else if k=6 then 8 else 0
theorem Ds (c:UInt8) (l:List UInt8):[c].isPrefixOf l=decide (AV l=(c.toNat:Nat)):=by
 cases l with
 |nil=>exact (decide_eq_false (λe=>by have h:(-1:Int)=(c.toNat:Nat):=e;omega)).symm
 |cons a r=>
  show (c==a&&true)=decide (((a.toNat:Nat):Int)=(c.toNat:Nat))
  rw [Bool.and_true,Bool.eq_iff_iff,beq_iff_eq,decide_eq_true_iff]
  exact ⟨λe=>by rw [e],λe=>UInt8.toNat_inj.1 AC⟩
end Go.Aw
namespace Go.Proofs.Z
open Go Go.Aw
section
variable {st:St} {R:As->St->Prop}
theorem de (h:R (.ret (.bool (TM w))) st):PC 249 [.str w] st R:=by
 refine pB Tryz.func249 ?_
 repeat' ((conv=>whnf);first|  (refine Cv ?_ ?_<;>intro _)|fail)
 all_goals exact fin h (congrArg (λb=>As.ret (V.bool b)) (by first|(subst_vars;decide)|(simp only [TM,yF];simp_all)))
theorem kN (h:R (.ret (.int .i64 (H6 w))) st):PC 247 [.str w] st R:=by
 refine pB Tryz.func247 ?_
 repeat' ((conv=>whnf);first|  (refine Cv ?_ ?_<;>intro _)|refine Jy ?_)
 all_goals try rename_i U
 all_goals try rw [Ds,decide_eq_true_eq] at U
 all_goals try rw [Ds,decide_eq_false_iff_not] at U
 all_goals exact fin h (Bt (by first|(subst_vars;decide)|(have U:AV w=58:=U;simp only [H6,fq];simp_all)|(have U:¬AV w=58:=U;simp only [H6,fq];simp_all)))
theorem rk {c:Int} (h:R (.ret (.bool (D1 c))) st):PC 298 [.int .i32 c] st R:=by
 refine pB Tryz.func298 ?_
 repeat' ((conv=>whnf);first|  (refine Cv ?_ ?_<;>intro _)|refine Ll ?_)
 all_goals exact fin h (congrArg (λb=>As.ret (V.bool b)) (by simp only [D1];simp_all))
theorem Zl (h:R (.ret (.int .i64 (BZ k))) st):PC 203 [.int .i64 k] st R:=by
 refine pB Tryz.func203 ?_
 repeat' ((conv=>whnf);first|  (refine Cv ?_ ?_<;>intro _)|fail)
 all_goals exact fin h (Bt (by unfold BZ;(repeat' split)<;>omega))
end
theorem Pl (s:List UInt8):B3 s=if (NM s 0).2=0 then 0 else AA (NM s 0).1:=by
 cases s with
 |nil=>rw [Uv GT];rfl
 |cons a r=>
  have h1:=GX (a::r)
  rw [NO AC GT,show (0:Int).toNat=0 from rfl,List.drop_zero,ep GT,if_neg RL]
  rfl
section
variable {st:St} {R:As->St->Prop}
theorem yi (hl:s.length<4611686018427387904) (h:R (.ret (.str (s.take (Cr s)))) st):PC 248 [.str s] st R:=by
 refine pB Tryz.func248 ?_
 repeat' ((conv=>whnf);first|(refine B6 ?_;intros)|(refine Cv ?_ ?_<;>intro _)|fail)
 refine Sh (α:=Nat) (λ_=>[]) (λpos=>[(0,[.P1 s pos])]) [0,6] [] (λ_=>st) (λpos=>pos<=s.length/\Cr s=pos+BD D1 (s.drop pos)) (λpos=>s.length - pos) 0 ⟨Nat.zero_le _,by simp [Cr]⟩ Yl (St.le_refl _) ?_
 rintro pos ⟨hp,hi⟩
 repeat' ((conv=>whnf);first|(refine B6 ?_;intros)|(refine Cv ?_ ?_<;>intro _)|refine rk ?_)
 .rename_i U c m hd hk
  have hr:=rune_le U hd
  conv=>whnf
  exact ⟨pos+m,⟨hr.1,LI U hd hk hi⟩,AC,Yl,St.le_refl _⟩
 .rename_i U c m hd hk
  have:=N4 (p:=λd=>D1 (d.1:Nat)) hd hk hi
  exact fin h (by rw [this];rfl)
 .rename_i U
  have:=K8 U hi
  exact fin h (by rw [this,List.take_of_length_le AC])
theorem sT (U:s.length<4611686018427387904) (h:R (.ret (.int .i64 (B3 s))) st):PC 246 [.str s] st R:=by
 refine pB Tryz.func246 ?_
 repeat' ((conv=>whnf);first|  (refine Cv ?_ ?_<;>intro _)|refine oS U ?_|refine Ll ?_)
 .exact fin h (Bt (by rw [Pl,if_pos ‹_›]))
 .exact fin h (Bt (by rw [Pl,if_neg ‹_›]))
end
theorem XaE:qc s 0 k=(BD (λc=>AA c==k) s:Nat):=by
 rw [Ke AC AC];simp
theorem iU (h:¬B3 s=0):0<s.length:=by
 cases s with
 |nil=>exact absurd rfl h
 |cons a r=>simp
section
variable {st:St} {R:As->St->Prop}
theorem wH (U:s.length<4611686018427387904) (h:R (.ret (.int .i64 (BD (λc=>AA c==k) s:Nat))) st):PC 72 [.str s,.int .i64 0,.int .i64 k] st R:=wG U (by rw [XaE];exact h)
theorem fH (U:s.length<4611686018427387904) (h:R (.ret (.Bc [.int .i64 (Ar s).1,.str (s.take (Ar s).2)])) st):PC 202 [.str s] st R:=by
 have hr:=Dz (λc=>AA c==5) s
 have hne:B3 s=0\/0<s.length:=by
  by_cases h0:B3 s=0
  .exact .inl h0
  .exact .inr (iU h0)
 refine pB Tryz.func202 ?_
 repeat' ((conv=>whnf);first|exact EG|(refine B6 ?_;intros)|(refine EH ?_ ?_ ?_;rotate_left)|(refine Cv ?_ ?_<;>intro _)|refine sT U ?_|refine wH U ?_|refine kN ?_|refine yi U ?_|refine de ?_|refine Ao GE ?_|fail)
 .exact fin h (by unfold Ar;rw [if_pos ‹_›];rfl)
 .exact fin h (by unfold Ar;rw [if_neg AC,if_pos AC];rfl)
 .exact fin h (by unfold Ar;rw [if_neg AC,if_neg AC,if_pos AC])
 .exact fin h (by unfold Ar;rw [if_neg AC,if_neg AC,if_neg AC,if_pos AC,if_pos ‹_›])
 .exact fin h (by unfold Ar;rw [if_neg AC,if_neg AC,if_neg AC,if_pos AC,if_neg f9])
 .exact fin h (by unfold Ar;rw [if_neg AC,if_neg AC,if_neg AC,if_neg AC];rfl)
end
end Go.Proofs.Z
namespace Go.Aw
open Go
def Co (s:List UInt8) (n:Nat) (k:Int):Int×Nat:=
 if h:n<s.length then
  if (k=2\/k=4)/\AV (s.drop n)=46/\BZ (Ar (s.drop (n+1))).1≠0 then Co s (n+1+(Ar (s.drop (n+1))).2) (BZ (Ar (s.drop (n+1))).1) else (k,n)
 else (k,n)
termination_by s.length - n
decreasing_by omega
def AO (s:List UInt8):Int×Nat:=Co s (Ar s).2 (Ar s).1
theorem EB (h:¬(n<s.length/\(k=2\/k=4)/\AV (s.drop n)=46/\BZ (Ar (s.drop (n+1))).1≠0)):Co s n k=(k,n):=by
 rw [Co]
 split
 .rw [if_neg (λe=>h ⟨FS,e⟩)]
 .rfl
theorem SP (h:n<s.length) (e:(k=2\/k=4)/\AV (s.drop n)=46/\BZ (Ar (s.drop (n+1))).1≠0):Co s n k=Co s (n+1+(Ar (s.drop (n+1))).2) (BZ (Ar (s.drop (n+1))).1):=by
 rw [Co,dif_pos h,if_pos e]
def JM (s:List UInt8) (n:Nat) (k a:Int):Int:=
 if h:n<s.length/\(k=2\/k=4)/\AV (s.drop n)=46/\BZ (Ar (s.drop (n+1))).1≠0 then JM s (n+1+(Ar (s.drop (n+1))).2) (BZ (Ar (s.drop (n+1))).1) (n+1) else a
termination_by s.length - n
def Ml (s:List UInt8):Int:=JM s (Ar s).2 (Ar s).1 0
theorem Og {a:Int} (h:¬(n<s.length/\(k=2\/k=4)/\AV (s.drop n)=46/\BZ (Ar (s.drop (n+1))).1≠0)):JM s n k a=a:=by rw [JM,dif_neg h]
theorem TV {a:Int} (h:n<s.length) (e:(k=2\/k=4)/\AV (s.drop n)=46/\BZ (Ar (s.drop (n+1))).1≠0):JM s n k a=JM s (n+1+(Ar (s.drop (n+1))).2) (BZ (Ar (s.drop (n+1))).1) (n+1):=by rw [JM,dif_pos ⟨h,e⟩]
theorem LJ (w:List UInt8):H6 w=10\/H6 w=6\/H6 w=5:=by
 unfold H6
 (repeat' split)<;>simp
theorem Pv (s:List UInt8):(Ar s).1≠3/\(Ar s).1≠4/\(Ar s).1≠7/\(Ar s).1≠8:=by
 have h:=LJ (s.take (BD (λc=>AA c==5) s))
 unfold Ar
 (repeat' split)<;>first|omega|(dsimp only;omega)
theorem HK (s:List UInt8):(Ar s).2<=s.length:=by
 have hf:B3 s=0\/0<s.length:=by
  cases s with
  |nil=>exact .inl rfl
  |cons a r=>exact .inr GT
 have h1:=Dz (λc=>AA c==5) s
 have h2:Cr s<=s.length:=Dz _ s
 unfold Ar
 (repeat' split)<;>first|omega|(dsimp only;omega)
end Go.Aw
namespace Go.Proofs.Z
open Go Go.Aw
section
variable {st:St} {R:As->St->Prop}
theorem zy (U:w.length=n) (h:R (.ret (.bool (decide (AV (s.drop n)=46)))) st):PC 73 [.str (s.drop ((w.length:Nat):Int).toNat),.str [46]] st R:=by
 refine Jy ?_
 rw [Ds,U,show ((n:Nat):Int).toNat=n by omega]
 exact h
theorem pt (hl:s.length<=100000000) (U:w.length=n) (h:R (.ret (.Bc [.int .i64 (Ar (s.drop (n+1))).1,.str ((s.drop (n+1)).take (Ar (s.drop (n+1))).2)])) st):PC 202 [.str (s.drop (((w.length:Nat):Int)+1).toNat)] st R:=by
 rw [U,show (((n:Nat):Int)+1).toNat=n+1 by omega]
 exact fH IR h
theorem u6 {v:List UInt8} {K:List UInt8->Prop} (h1:w.length=n) (h2:v.length=m) (h:n+1+m<=s.length) (k:K (s.take (n+1+m))):
 ((0:Int)<=0/\0<=((w.length:Nat):Int)+1+((v.length:Nat):Int)/\((w.length:Nat):Int)+1+((v.length:Nat):Int)<=s.length)/\∀s',s'=(s.take (((w.length:Nat):Int)+1+((v.length:Nat):Int)).toNat).drop (0:Int).toNat->K s':=by
 subst h1;subst h2
 refine WO AC AC ?_
 rw [show (((w.length:Nat):Int)+1+((v.length:Nat):Int)).toNat=w.length+1+v.length by omega]
 exact k
theorem bt (s:List UInt8) (n:Nat):¬AV (s.drop n)=46\/n<s.length:=by
 by_cases h:n<s.length
 .exact .inr h
 .rw [Ey AC];exact .inl Do
theorem aG (hl:s.length<=100000000) (h:∀a:Int,Ml s=a->0<=a->a<=(AO s).2->((AO s).1=3\/(AO s).1=4\/(AO s).1=7\/(AO s).1=8->1<=a)->R (.ret (.Bc [.int .i64 (AO s).1,.str (s.take (AO s).2),.int .i64 a])) st):PC 167 [.str s] st R:=by
 refine pB Tryz.func167 ?_
 repeat' ((conv=>whnf);first|exact EG|(refine B6 ?_;intros)|(refine EH ?_ ?_ ?_;rotate_left)|(refine Cv ?_ ?_<;>intro _)|refine fH AC ?_|refine Ao GE ?_|fail)
 have hk0:=Pv s
 refine VY (α:=Nat) (β:=Int) (γ:=Int) (λn k a=>[(2,.int .i64 k),(3,.str (s.take n)),(4,.int .i64 a)]) (λ_ _ _=>[]) [0] [] (λ_ _ _=>st) (λn k a=>n<=s.length/\AO s=Co s n k/\Ml s=JM s n k a/\0<=a/\a<=n/\(k=3\/k=4\/k=7\/k=8->1<=a)) (λn _ _=>s.length - n) (Ar s).2 (Ar s).1 0 ⟨HK s,rfl,rfl,Int.le_refl _,AC,λe=>by omega⟩ Yl (St.le_refl _) ?_
 rintro n k a ⟨h1,h2,h3,h4,h5,h6⟩
 have U:(s.take n).length=n:=Nm
 have hp:=HK (s.drop (n+1))
 rw [List.length_drop] at hp
 have hdl:=bt s n
 have ht2:((s.drop (n+1)).take (Ar (s.drop (n+1))).2).length=(Ar (s.drop (n+1))).2:=by rw [List.length_take,List.length_drop];omega
 repeat' ((conv=>whnf);first|with_reducible refine u6 U ht2 AC ?_|exact EG|(refine B6 ?_;intros)|(refine EH ?_ ?_ ?_;rotate_left)|(refine Cv ?_ ?_<;>intro _)|refine zy U ?_|refine pt hl U ?_|refine Zl ?_|refine Ao GE ?_|fail)
 all_goals first
  |exact fin (by have h:=h a;rw [h2,h3,EB AC,Og AC] at h;exact h rfl h4 h5 h6) rfl
  |(conv=>whnf
    exact ⟨(n+1+(Ar (s.drop (n+1))).2,BZ (Ar (s.drop (n+1))).1,(((s.take n).length:Nat):Int)+1),⟨RL,by dsimp only;rw [h2,SP AC ⟨AC,AC,AC⟩],by dsimp only;rw [h3,TV AC ⟨AC,AC,AC⟩,U],RL,RL,λ_=>by dsimp only;omega⟩,RL,Yl,St.le_refl _⟩)
theorem vF (U:s.length<=100000000) (h:∀ahead:Int,R (.ret (.Bc [.int .i64 (AO s).1,.str (s.take (AO s).2),.int .i64 ahead])) st):PC 167 [.str s] st R:=aG U λa _ _ _ _=>h a
end
end Go.Proofs.Z
namespace Go.Aw
open Go
def CT (s:List UInt8) (pos:Nat):Int×Int:=if (AO (s.drop pos)).1=0 then (0,0) else ((AO (s.drop pos)).1,(pos+(AO (s.drop pos)).2:Nat))
theorem qf (h:n<=s.length):(Co s n k).2<=s.length:=by
 fun_induction Co s n k with
 |case1 n k hn U ih=>
  have:=HK (s.drop (n+1))
  rw [List.length_drop] at this
  exact ih AC
 |case2 n k hn U=>exact h
 |case3 n k hn=>exact h
theorem Le (s:List UInt8):(AO s).2<=s.length:=qf (HK s)
end Go.Aw
namespace Go.Proofs.Z
open Go Go.Aw
section
variable {st:St} {R:As->St->Prop}
theorem rm (hl:s.length<=100000000) (hp:pos<s.length) (h:R (.ret (.Bc [.int .i64 (CT s pos).1,.int .i64 (CT s pos).2])) st):PC 124 [.str s,.int .i64 pos] st R:=by
 have ht:((s.drop pos).take (AO (s.drop pos)).2).length=(AO (s.drop pos)).2:=by rw [List.length_take];have:=Le (s.drop pos);omega
 have hw:=Le (s.drop pos)
 rw [List.length_drop] at hw
 have U:(s.drop pos).length<=100000000:=IR
 refine pB Tryz.func124 ?_
 repeat' ((conv=>whnf);first|(refine B6 ?_;intros)|(refine Cv ?_ ?_<;>intro _)|refine vF U (λ_=>?_))
 .exact fin h (by unfold CT;rw [if_pos ‹_›];simp_all)
 .exact fin h (by unfold CT;rw [if_neg ‹_›];simp only [];rw [show (pos:Int).toNat=pos by omega] at *;rw [ht];rfl)
end
end Go.Proofs.Z
namespace Go.Aw
open Go
def Bx (base:Int):List UInt8->Nat
 |[]=>0
 |a::r=>if BE ((a.toNat:Nat):Int) base<0 then 0 else Bx base r+1
def D8 (l:List UInt8):Int:=if AV (l.drop 1)=111\/AV (l.drop 1)=79 then 8 else if AV (l.drop 1)=120\/AV (l.drop 1)=88 then 16 else 10
def BV (l:List UInt8):Int×Nat:=if AV l=48/\D8 l≠10/\Bx (D8 l) (l.drop 2)≠0 then (D8 l,2) else (10,0)
def Mc (l:List UInt8):Nat:=if AV l=43\/AV l=45 then 1 else 0
def Jg (l:List UInt8):Nat:=
 if (AV l=101\/AV l=69)/\Bx 10 (l.drop (1+Mc (l.drop 1)))≠0 then 1+Mc (l.drop 1)+Bx 10 (l.drop (1+Mc (l.drop 1))) else 0
def HV (l:List UInt8):Nat:=if AV l=46/\Bx 10 (l.drop 1)≠0 then 1+Bx 10 (l.drop 1) else 0
def DO (l:List UInt8):Int×Nat:=
 if (BV l).1≠10 then (11,2+Bx (BV l).1 (l.drop 2))
 else if Bx 10 l=0 then (0,0)
 else
  (if 0<HV (l.drop (Bx 10 l))\/0<Jg (l.drop (Bx 10 l+HV (l.drop (Bx 10 l)))) then 12 else 11,
    Bx 10 l+HV (l.drop (Bx 10 l))+Jg (l.drop (Bx 10 l+HV (l.drop (Bx 10 l)))))
theorem B4 {k:Nat} (h:0<=AV (l.drop k)):k<l.length:=by
 by_cases U:k<l.length
 .exact U
 .rw [List.drop_eq_nil_iff.2 AC] at h;exact absurd h Do
theorem JR {a:UInt8} (h:a.toNat<128):Ba (a::r)=(a.toNat,1):=by
 unfold Ba;simp_all
theorem Nc {a:UInt8} (h:¬a.toNat<128):128<=(Ba (a::r)).1:=by
 unfold Ba;grind
theorem Jd {c:Int} (h:128<=c):BE c base<0:=by
 have U:(if 48<=c/\c<=57 then c - 48 else if 97<=c/\c<=102 then c - 87 else if 65<=c/\c<=70 then c - 55 else 16)=16:=by
  rw [if_neg AC,if_neg AC,if_neg AC]
 unfold BE;grind
theorem C5 (base:Int) (l:List UInt8):Bx base l<=l.length:=by
 induction l with
 |nil=>exact Nat.le_refl _
 |cons a r ih=>unfold Bx;grind
theorem NY (h:pos<s.length) (U:(c,m)=Ba (s.drop pos)) (k:¬BE (c:Int) base<0):m=1/\Bx base (s.drop pos)=Bx base (s.drop (pos+1))+1:=by
 rw [List.drop_eq_getElem_cons h] at U |-
 by_cases hb:s[pos].toNat<128
 .rw [JR hb] at U
  injection U with h1 h2
  subst h1;subst h2
  exact ⟨rfl,by rw [Bx,if_neg k]⟩
 .have:=Nc (r:=s.drop (pos+1)) hb
  rw [<-U] at this
  exact absurd (Jd (c:=(c:Int)) (base:=base) AC) k
theorem Iz (h:pos<s.length) (U:(c,m)=Ba (s.drop pos)) (k:BE (c:Int) base<0):Bx base (s.drop pos)=0:=by
 rw [List.drop_eq_getElem_cons h] at U |-
 by_cases hb:s[pos].toNat<128
 .rw [JR hb] at U
  injection U with h1 h2
  subst h1
  rw [Bx,if_pos k]
 .rw [Bx,if_pos (Jd AC)]
theorem JA (h:s.length<=pos):Bx base (s.drop pos)=0:=by rw [List.drop_eq_nil_iff.2 h];rfl
theorem QA (h:s[pos]? =some e):Bx base (s.drop pos)=if BE ((e.toNat:Nat):Int) base<0 then 0 else Bx base (s.drop (pos+1))+1:=by
 rw [drop_at h,Bx]
theorem RN (l:List UInt8):HV l<=l.length:=by
 have:=C5 10 (l.drop 1)
 rw [List.length_drop] at this
 unfold HV;grind
theorem Vz (l:List UInt8):Jg l<=l.length:=by
 have:=C5 10 (l.drop (1+Mc (l.drop 1)))
 rw [List.length_drop] at this
 unfold Jg;grind
theorem We (l:List UInt8):(DO l).2<=l.length:=by
 have h1:=C5 10 l
 have h2:=C5 (BV l).1 (l.drop 2)
 have h3:=RN (l.drop (Bx 10 l))
 have h4:=Vz (l.drop (Bx 10 l+HV (l.drop (Bx 10 l))))
 rw [List.length_drop] at h2 h3 h4
 have h5:(BV l).1≠10->2<=l.length:=λe=>by
  unfold BV at e
  split at e
  .rename_i U
   have:=C5 (D8 l) (l.drop 2)
   grind
  omega
 unfold DO
 grind
theorem iS {a:Int} {K:Int->Prop} (h1: -2147483648<=a) (h2:a<=2147483647) (k:K a):∃r,r=IntKind.i32.wrap a/\K r:=⟨a,(IntWalk.i32_in _ ⟨h1,h2⟩).symm,k⟩
end Go.Aw
namespace Go.Proofs.Z
open Go Go.Aw
section
variable {st:St} {R:As->St->Prop}
theorem Ng {c b:Int} (h:R (.ret (.int .i64 (BE c b))) st):PC 242 [.int .i32 c,.int .i64 b] st R:=by
 refine pB Tryz.func242 ?_
 repeat' ((conv=>whnf);first|(refine B6 ?_;intros)|(refine Cv ?_ ?_<;>intro _)|refine iS AC AC ?_)
 all_goals exact fin h (Bt (by unfold BE;dsimp only;(repeat' split)<;>omega))
theorem Zq {c b:Int} (h:R (.ret (.int .i64 (BE c b))) st):PC 217 [.int .i64 c,.int .i64 b] st R:=by
 refine pB Tryz.func217 ?_
 repeat' ((conv=>whnf);first|(refine B6 ?_;intros)|(refine Cv ?_ ?_<;>intro _)|refine wA ?_)
 all_goals exact fin h (Bt (by unfold BE;dsimp only;(repeat' split)<;>omega))
theorem wD {b:Int} (hl:s.length<4611686018427387904) (h:R (.ret (.int .i64 (Bx b s:Nat))) st):PC 198 [.str s,.int .i64 b] st R:=by
 refine pB Tryz.func198 ?_
 repeat' ((conv=>whnf);first|(refine B6 ?_;intros)|(refine Cv ?_ ?_<;>intro _)|fail)
 refine Sh (α:=Nat) (λ_=>[]) (λpos=>[(0,[.P1 s pos])]) [0,1,8] [] (λ_=>st) (λpos=>pos<=s.length/\Bx b s=pos+Bx b (s.drop pos)) (λpos=>s.length - pos) 0 ⟨Nat.zero_le _,GT⟩ Yl (St.le_refl _) ?_
 rintro pos ⟨hp,hi⟩
 repeat' ((conv=>whnf);first|(refine B6 ?_;intros)|(refine Cv ?_ ?_<;>intro _)|refine Ng ?_)
 .rename_i U c m hd hk
  have:=Iz U hd hk
  exact fin h (Bt AC)
 .rename_i U c m hd hk
  obtain ⟨e1,e2⟩:=NY U hd hk
  conv=>whnf
  exact ⟨pos+m,⟨AC,by grind⟩,AC,Yl,St.le_refl _⟩
 .rename_i U hls
  have:=JA (base:=b) (s:=s) (pos:=pos) AC
  exact fin h (Bt AC)
theorem kf {b:Int} (hl:s.length<=4611686018427387903) (h0:i<=4611686018427387905) (h:R (.ret (.int .i64 (i+Bx b (s.drop i):Nat))) st):PC 303 [.str s,.int .i64 i,.int .i64 b] st R:=by
 refine pB Tryz.func303 ?_
 repeat' ((conv=>whnf);first|(refine B6 ?_;intros)|(refine Cv ?_ ?_<;>intro _)|fail)
 refine OG (α:=Nat) (λpos=>[(1,.int .i64 (pos:Int))]) [0,2] [] (λ_=>st) (λpos=>i<=pos/\i+Bx b (s.drop i)=pos+Bx b (s.drop pos)) (λpos=>s.length - pos) i ⟨Nat.le_refl _,rfl⟩ Yl (St.le_refl _) ?_
 rintro pos ⟨hp,hi⟩
 repeat' ((conv=>whnf);first|(refine B6 ?_;intros)|(refine Cv ?_ ?_<;>intro _)|refine T6 ?_|refine Zq ?_)
 .rename_i hlt e U hk
  have U:s[pos]? =some e:=U
  have:=QA (base:=b) U
  rw [if_neg AC] at this
  conv=>whnf
  exact ⟨pos+1,⟨AC,AC⟩,AC,Yl,St.le_refl _⟩
 .rename_i hlt e U hk
  have U:s[pos]? =some e:=U
  have:=QA (base:=b) U
  rw [if_pos AC] at this
  exact fin h (Bt AC)
 .rename_i hlt
  have:=JA (base:=b) (s:=s) (pos:=pos) AC
  exact fin h (Bt AC)
end
end Go.Proofs.Z
namespace Go.Aw
open Go
theorem Qb (h:AV (l.drop 1)=111\/AV (l.drop 1)=79):D8 l=8:=if_pos h
theorem MZ (h:AV (l.drop 1)=120\/AV (l.drop 1)=88):D8 l=16:=by unfold D8;rw [if_neg AC,if_pos h]
theorem XV (h:AV (l.drop 1)≠111/\AV (l.drop 1)≠79/\AV (l.drop 1)≠120/\AV (l.drop 1)≠88):D8 l=10:=by unfold D8;rw [if_neg AC,if_neg AC]
theorem lX (l:List UInt8):D8 l=8\/D8 l=16\/D8 l=10:=by
 unfold D8
 split
 .exact .inl rfl
 .split
  .exact .inr (.inl rfl)
  .exact .inr (.inr rfl)
theorem HL {b:Int} (h:AV l=48) (hb:D8 l=b) (hn:b≠10) (U:Bx b (l.drop 2)≠0):BV l=(b,2):=by
 subst hb
 exact if_pos ⟨h,hn,U⟩
theorem G4 (h:AV l≠48\/D8 l=10\/Bx (D8 l) (l.drop 2)=0):BV l=(10,0):=if_neg AC
theorem H2 (l:List UInt8):BV l=(10,0)\/(BV l=(8,2)/\D8 l=8)\/(BV l=(16,2)/\D8 l=16):=by
 by_cases h:AV l=48/\D8 l≠10/\Bx (D8 l) (l.drop 2)≠0
 .rcases lX l with hb|hb|hb
  .exact .inr (.inl ⟨HL h.1 hb Do (hb ▸ h.2.2),hb⟩)
  .exact .inr (.inr ⟨HL h.1 hb Do (hb ▸ h.2.2),hb⟩)
  .exact absurd hb h.2.1
 .exact .inl (if_neg h)
theorem QG (h:AV l=43\/AV l=45):Mc l=1:=if_pos h
theorem QF (h:¬(AV l=43\/AV l=45)):Mc l=0:=if_neg h
theorem eI (h:¬(AV l=101\/AV l=69)):Jg l=0:=if_neg λe=>h e.1
theorem Vx (h:AV l=101\/AV l=69) (hk:1+Mc (l.drop 1)=j) (U:Bx 10 (l.drop j)=0):Jg l=0:=by
 subst hk
 exact if_neg λe=>e.2 U
theorem Vy (h:AV l=101\/AV l=69) (hk:1+Mc (l.drop 1)=j) (U:Bx 10 (l.drop j)≠0):Jg l=j+Bx 10 (l.drop j):=by
 subst hk
 exact if_pos ⟨h,U⟩
end Go.Aw
namespace Go.Proofs.Z
open Go Go.Aw
section
variable {st:St} {R:As->St->Prop}
theorem pZ {b:Int} (U:s.length<=4611686018427387903) (h:R (.ret (.int .i64 (Bx b (s.drop n):Nat))) st):PC 198 [.str (s.drop (n:Int).toNat),.int .i64 b] st R:=
 wD IR h
theorem da (hl:s.length<=4611686018427387903) (h:R (.ret (.Bc [.int .i64 (BV s).1,.int .i64 (BV s).2])) st):PC 197 [.str s] st R:=by
 refine pB Tryz.func197 ?_
 repeat' ((conv=>whnf);first|(refine B6 ?_;intros)|(refine Cv ?_ ?_<;>intro _)|refine pZ (n:=2) hl ?_)
 all_goals try have U:=CZ (show s[0]? =some _ by assumption)
 all_goals try rw [List.drop_zero] at U
 all_goals try have h1:=CZ (show s[1]? =some _ by assumption)
 all_goals try have h1:=Ey (s:=s) (i:=1) AC
 all_goals first
  |exact fin h (by rw [G4 (.inl AC)];rfl)
  |exact fin h (by rw [G4 (.inr (.inl (XV AC)))];rfl)
  |exact fin h (by rw [G4 (.inr (.inr (by rw [Qb AC];assumption)))];rfl)
  |exact fin h (by rw [G4 (.inr (.inr (by rw [MZ AC];assumption)))];rfl)
  |exact fin h (by rw [HL AC (Qb AC) Do ‹_›];rfl)
  |exact fin h (by rw [HL AC (MZ AC) Do ‹_›];rfl)
theorem bD (hl:s.length<=4611686018427387903) (h:R (.ret (.int .i64 (Jg s:Nat))) st):PC 199 [.str s] st R:=by
 refine pB Tryz.func199 ?_
 by_cases U:s=[]
 .subst U
  repeat' ((conv=>whnf);first|(refine B6 ?_;intros)|(refine Cv ?_ ?_<;>intro _)|fail)
  .exact fin h rfl
  .rename_i hn;exact absurd rfl hn
 have hlen:=List.length_pos_iff.2 U
 have r1:Bx 10 (s.drop 1)<=s.length:=Nat.le_trans (C5 10 _) IR
 have r2:Bx 10 (s.drop 2)<=s.length:=Nat.le_trans (C5 10 _) IR
 repeat' ((conv=>whnf);first|(refine B6 ?_;intros)|(refine Cv ?_ ?_<;>intro _)|refine pZ (n:=1) hl ?_|refine pZ (n:=2) hl ?_)
 all_goals try have h0:=CZ (show s[0]? =some _ by assumption)
 all_goals try rw [List.drop_zero] at h0
 all_goals try have h1:=CZ (show s[1]? =some _ by assumption)
 all_goals try have h1:=Ey (s:=s) (i:=1) AC
 all_goals first
  |(have e:=eI (l:=s) AC;exact fin h (Bt AC))
  |(have e:=Vx (l:=s) (j:=1) AC (by rw [QF AC]) ‹_›;exact fin h (Bt AC))
  |(have e:=Vy (l:=s) (j:=1) AC (by rw [QF AC]) ‹_›;exact fin h (Bt AC))
  |(have e:=Vx (l:=s) (j:=2) AC (by rw [QG AC]) ‹_›;exact fin h (Bt AC))
  |(have e:=Vy (l:=s) (j:=2) AC (by rw [QG AC]) ‹_›;exact fin h (Bt AC))
end
end Go.Proofs.Z
namespace Go.Proofs.Z
open Go Go.Aw
open Rd (ret seq fail Ha look loop)
def GI (base:Int):List UInt8->Int->Int×Int
 |[],v=>(v,0)
 |a::r,v=>if (4611686018427387904 - BE (a.toNat:Nat) base) / base<v then (0,3) else GI base r (v*base+BE (a.toNat:Nat) base)
def CH (s:List UInt8):Int×Int:=if (DO s).1=11/\(DO s).2=s.length then GI (BV s).1 (s.drop (BV s).2) 0 else (0,40)
def Mb (t:Tk):Bool:=t.kind==19||(t.kind==15&&t.text==[59])
def FQ (t:Tk):Bool:=t.kind==1||t.kind==2||t.kind==3||t.kind==4||t.kind==11||t.kind==12||t.kind==13||t.kind==14||
 (t.kind==9&&t.text==[95])||(t.kind==10&&t.text==[126])||(t.kind==15&&(t.text==[40]||t.text==[91]))
abbrev vA:List UInt8:=[108,101,116]
abbrev wIf:List UInt8:=[105,102]
abbrev rf:List UInt8:=[99,97,115,101]
abbrev wDo:List UInt8:=[100,111]
abbrev wIn:List UInt8:=[105,110]
abbrev wOf:List UInt8:=[111,102]
abbrev Xak:List UInt8:=[116,104,101,110]
abbrev Xai:List UInt8:=[101,108,115,101]
abbrev Kk:List UInt8:=[119,104,101,114,101]
def GK (t:Tk):Bool:=(t.kind==9&&(t.text==vA||t.text==wIf||t.text==rf||t.text==wDo))||(t.kind==10&&t.text==[92])||(t.kind==5&&t.text==[45])||FQ t
def Mv (t:Tk):Bool:=t.kind==9&&(t.text==[105,110,102,105,120,108]||t.text==[105,110,102,105,120,114]||t.text==[105,110,102,105,120])
def OX (t:Tk):Bool:=t.kind==5||t.kind==6||t.kind==7||t.kind==8||(t.kind==10&&t.text==[58])
def RX (t:Tk):Bool:=OX t||(t.kind==15&&t.text==[96])
def cR (k:Int) (l:List Nd):Nd:=if l.length=1 then l.headD Hv else At k l
def Kn:Er:=⟨2,Do⟩
def Iq:Er:=⟨120,Do⟩
def lu (n:Nd):Bool:=(n.kind==1||n.kind==3)&&((Hb n).2==0&&(Hb n).1.length==1)
def D0 (m:Rd Nd) (U:Nd->Bool):Rd Nd:=.look λs0=>.seq m λn=>if U n=true then .ret n else .Ha s0 Iq
def Ju:Rd Nd:=.look λs=>if OX (Ae s).1=true then .seq A4 λt=>.ret (At 18 [t])
 else .seq (BG 15 [96]) λo=>.seq (C8 [1,2,3,4]) λn=>.seq (BG 15 [96]) λc=>.ret (At 18 [o,n,c])
def cG (l:List Nd):Rd (Sum (List Nd) (List Nd)):=.look λs=>if BB s 5 [45]=true then .seq A4 λt=>.ret (.inl (l++[At 19 [t]])) else .ret (.inr l)
def cH (l:List Nd):Rd (List Nd):=.loop cG l
def pT (U:Rd Nd) (br:Bool) (l:List Nd):Rd (Sum (List Nd) (List Nd×Bool)):=.seq (cH l) λl=>.seq U λn=>.look λs=>
 if RX (Ae s).1=true then .seq Ju λo=>
  if br=true then .look λs=>if BB s 15 [41]=true then .ret (.inr (l++[n]++[o],true)) else .ret (.inl (l++[n]++[o]))
  else .ret (.inl (l++[n]++[o]))
 else .ret (.inr (l++[n],false))
def Ue (U:Rd Nd) (br:Bool):Rd (List Nd×Bool):=.loop (pT U br) []
def cU (U:Rd Nd):Rd Nd:=.seq (Ue U false) λp=>.ret (cR 17 p.1)
def O4 (full:Rd Nd) (n:Nd):Rd Nd:=.look λs=>if BB s 10 [58,58]=true then .seq A4 λc=>.seq full λt=>.ret (At 22 [n,c,t]) else .ret n
def iT (U full:Rd Nd):Rd Nd:=.seq (cU U) λn=>O4 full n
structure FC where
 atom:Rd Nd
 exp:Rd Nd
 ops:Rd Nd
 decls:Rd Nd
 stmts:Rd Nd
 alts:Rd Nd
 HP:Nd->Rd Nd
 list:Nd->Rd Nd
def OE (L:FC) (lt block:Nd):Rd Nd:=.seq (BG 9 wIn) λi=>.seq L.exp λe=>.ret (At 24 [lt,block,i,e])
def tI (L:FC):Rd Nd:=.seq A4 λt=>.seq L.decls λb=>OE L t b
def Qk (atom:Rd Nd) (l:List Nd):Rd (Sum (List Nd) (List Nd)):=.seq (D0 atom Ma) λn=>.ret (.inl (l++[n]))
def VT (atom:Rd Nd) (l:List Nd):Rd (Sum (List Nd) (List Nd)):=
 if ((l.length:Int)==1)=true then Qk atom l else .look λs=>if FQ (Ae s).1=true then Qk atom l else .ret (.inr l)
def NG (L:FC) (atom:Rd Nd):Rd Nd:=.seq A4 λb=>.seq (.loop (VT atom) [b]) λl=>.seq (BG 10 [45,62]) λa=>.seq L.exp λe=>.ret (At 23 (l++[a]++[e]))
def gn (w:List UInt8):Rd Unit:=.look λs=>if Mb (Ae s).1=true then (if BB (Ae s).2.1 9 w=true then K7 else .ret ()) else .ret ()
def Pu (L:FC) (l:List Nd) (w:List UInt8):Rd (List Nd):=.seq (gn w) λ_=>.seq (BG 9 w) λa=>.seq L.exp λe=>.ret (l++[a]++[e])
def M6 (L:FC):Rd Nd:=.seq A4 λi=>.seq L.exp λc=>.seq (Pu L [i,c] Xak) λl=>.seq (Pu L l Xai) λl=>.ret (At 25 l)
def ef (L:FC):Rd Nd:=.seq A4 λc=>.seq L.exp λe=>.seq (BG 9 wOf) λo=>.seq L.alts λa=>.ret (At 26 ([c,e,o]++[a]))
def JX (b:Nd):Bool:=match b.kids.getLast? with
 |none=>true
 |some x=>x.kind==32||x.kind==33
def S4 (L:FC):Rd Nd:=.seq A4 λd=>.seq L.stmts λb=>if JX b=true then .fail Iq else .ret (At 27 [d,b])
def aV (atom:Rd Nd) (l:List Nd):Rd (Sum (List Nd) (List Nd)):=.look λs=>if FQ (Ae s).1=true then .seq atom λn=>.ret (.inl (l++[n])) else .ret (.inr l)
def Oi (atom:Rd Nd):Rd Nd:=.seq atom λn=>.seq (.loop (aV atom) [n]) λl=>.ret (cR 11 l)
def Jv (L:FC) (atom:Rd Nd):Rd Nd:=.look λs=>
 if ((Ae s).1.kind==10)=true then (if ((Ae s).1.text==[92])=true then NG L atom else Oi atom)
 else if ((Ae s).1.kind==9)=true then
  (if ((Ae s).1.text==vA)=true then tI L
  else if ((Ae s).1.text==wIf)=true then M6 L
  else if ((Ae s).1.text==rf)=true then ef L
  else if ((Ae s).1.text==wDo)=true then S4 L
  else Oi atom)
 else Oi atom
def Vm (l:List Nd):Rd (Sum (List Nd) (List Nd)):=.look λs=>if BB s 15 [44]=true then .seq A4 λc=>.ret (.inl (l++[c])) else .ret (.inr l)
def Yn (o:Nd):Rd Nd:=.seq (.loop Vm [o]) λl=>.seq (BG 15 [41]) λc=>.ret (At 3 (l++[c]))
def SM (L:FC) (o:Nd):Rd Nd:=.look λs=>if RX (Ae s).1=true then
 (if BB s 5 [45]=true then L.HP o else .seq Ju λp=>.seq L.ops λe=>.seq (BG 15 [41]) λc=>.ret (At 10 [o,p,e,c]))
 else L.HP o
def Xd (L:FC) (o:Nd):Rd Nd:=.look λs=>if OX (Ae s).1=true then
 (if BB (Ae s).2.1 15 [41]=true then .seq A4 λp=>.seq A4 λc=>.ret (At 3 [o,p,c]) else SM L o)
 else SM L o
def SN (L:FC):Rd Nd:=.seq A4 λo=>.look λs=>if BB s 15 [41]=true then Yn o else if BB s 15 [44]=true then Yn o else Xd L o
def N6 (L:FC):Rd Nd:=.seq A4 λo=>.look λs=>if BB s 15 [93]=true then .seq A4 λc=>.ret (At 3 [o,c]) else L.list o
def T2 (L:FC):Rd Nd:=.look λs=>if FQ (Ae s).1=true then
 (if ((Ae s).1.kind==15)=true then (if ((Ae s).1.text==[40])=true then SN L else N6 L)
 else if ((Ae s).1.kind==9)=true then .seq A4 λw=>.ret (At 14 [w])
 else if ((Ae s).1.kind==10)=true then .seq A4 λw=>.seq L.atom λa=>.ret (At 16 [w,a])
 else .seq A4 λn=>if ((Ae s).1.kind==1)=true then .look λs=>if BB s 10 [64]=true then .seq A4 λw=>.seq L.atom λa=>.ret (At 15 [n,w,a]) else .ret n
  else .ret n)
 else Q2
def VE (L:FC) (l:List Nd):Rd (Sum (List Nd) (List Nd)):=.seq (C8 [1,3]) λU=>.seq (BG 10 [61]) λq=>.seq L.exp λe=>.look λs=>
 if BB s 15 [44]=true then .seq A4 λc=>.ret (.inl (l++[At 13 [U,q,e]]++[c])) else .ret (.inr (l++[At 13 [U,q,e]]))
def Xa (L:FC) (l:List Nd):Rd (Sum (List Nd) (List Nd)):=.look λs=>if BB s 15 [125]=true then (if 2<(l.length:Int) then VE L l else .ret (.inr l)) else VE L l
def LA (L:FC) (n:Nd):Rd Nd:=.seq A4 λb=>.seq (.loop (Xa L) [n,b]) λl=>.seq (BG 15 [125]) λc=>.ret (At 12 (l++[c]))
def lU (L:FC) (n:Nd):Rd (Sum Nd Nd):=.look λs=>if BB s 15 [123]=true then .seq (LA L n) λn=>.ret (.inl n) else .ret (.inr n)
def MV (L:FC):Rd Nd:=.seq (T2 L) λn=>.loop (lU L) n
def dI (exp:Rd Nd) (p:Int×List Nd):Rd (Sum (Int×List Nd) (Int×List Nd)):=.look λs=>if BB s 15 [44]=true then .seq A4 λc=>.seq exp λe=>.ret (.inl (5,p.2++[c]++[e])) else .ret (.inr p)
def Fw (U full exp:Rd Nd) (o:Nd):Rd Nd:=.seq (Ue U true) λp=>if p.2=true then
 .seq A4 λc=>.ret (At 9 [o,cR 17 (p.1.take (p.1.length - 1)),p.1.getLastD Hv,c])
 else .seq (O4 full (cR 17 p.1)) λe=>.seq (.loop (dI exp) (4,[o,e])) λq=>.seq (BG 15 [41]) λc=>.ret (At q.1 (q.2++[c]))
def ON (stmt:Rd Nd) (l:List Nd):Rd (Sum (List Nd) (List Nd)):=.look λs=>if BB s 15 [44]=true then .seq A4 λc=>.seq stmt λt=>.ret (.inl (l++[c]++[t])) else .ret (.inr l)
def Gu (stmt:Rd Nd) (l:List Nd):Rd (List Nd):=.seq (BG 10 [124]) λb=>.seq stmt λt=>.loop (ON stmt) (l++[b]++[t])
def fo (exp:Rd Nd) (l:List Nd):Rd (Sum (List Nd) (Int×List Nd)):=.look λs=>if BB s 15 [44]=true then .seq A4 λc=>.seq exp λe=>.ret (.inl (l++[c]++[e])) else .ret (.inr (6,l))
def ou (exp:Rd Nd) (l:List Nd):Rd (Sum (List Nd) (Int×List Nd)):=if (l.length:Int)<5 then
 .look λs=>if BB s 10 [46,46]=true then .seq A4 λd=>.look λs=>if BB s 15 [93]=true then .ret (.inr (7,l++[d])) else .seq exp λe=>.ret (.inr (7,l++[d]++[e]))
  else fo exp l
 else fo exp l
def Sg (exp stmt:Rd Nd) (o:Nd):Rd Nd:=.seq exp λe=>.look λs=>if BB s 10 [124]=true then
 .seq (Gu stmt [o,e]) λl=>.seq (BG 15 [93]) λc=>.ret (At 8 (l++[c]))
 else .seq (.loop (ou exp) [o,e]) λq=>.seq (BG 15 [93]) λc=>.ret (At q.1 (q.2++[c]))
def XY (exp:Rd Nd) (n:Nd):Rd Nd:=.look λs=>if BB s 10 [60,45]=true then (if Ma n=true then .seq A4 λa=>.seq exp λe=>.ret (At 32 [n,a,e]) else .fail Iq) else .ret n
def UL (L:FC) (exp:Rd Nd):Rd Nd:=.look λs=>if BB s 9 vA=true then
 .seq A4 λt=>.seq L.decls λb=>.look λs=>if BB s 9 wIn=true then .seq (OE L t b) λn=>XY exp n else .ret (At 33 [t,b])
 else .seq exp λn=>XY exp n
def RQ (exp stmt:Rd Nd) (m:List UInt8) (l:List Nd):Rd (Sum (List Nd) (List Nd)):=.seq (Gu stmt []) λg=>.seq (BG 10 m) λq=>.seq exp λe=>.ret (.inl (l++[At 30 (g++[q]++[e])]))
def VP (exp stmt:Rd Nd) (m:List UInt8) (l:List Nd):Rd (Sum (List Nd) (List Nd)):=if ((l.length:Int)==0)=true then RQ exp stmt m l
 else if ((l.headD Hv).kind==30)=true then .look λs=>if BB s 10 [124]=true then RQ exp stmt m l else .ret (.inr l)
 else .ret (.inr l)
def pM (L:FC) (exp stmt:Rd Nd) (m:List UInt8) (l:List Nd):Rd Nd:=.seq (.loop (VP exp stmt m) l) λl=>.look λs=>if BB s 9 Kk=true then
 .seq A4 λw=>.seq L.decls λb=>.ret (At 29 (l++[At 31 [w,b]]))
 else .ret (At 29 l)
def dg (L:FC) (exp stmt:Rd Nd) (m:List UInt8):Rd Nd:=.look λs=>if BB s 10 m=true then .seq A4 λa=>.seq exp λe=>pM L exp stmt m ([]++[a,e])
 else if BB s 10 [124]=true then pM L exp stmt m [] else Q2
def gY (L:FC) (ops exp stmt:Rd Nd):Rd Nd:=.seq ops λn=>if Ma n=true then .seq (dg L exp stmt [45,62]) λr=>.ret (At 28 [n,r]) else .fail Iq
def Vs (n:Nd):Bool:=(CH n.text).2==0&&decide ((CH n.text).1<=9)
def MD (n:Nd):Bool:=match n.kids[n.kids.length / 2]? with
 |some x=> !(x.form==7||x.form==8||x.form==3||x.form==4)
 |none=>false
def VI (l:List Nd):Rd (Sum (List Nd) (List Nd)):=.look λs=>if BB s 15 [44]=true then .seq A4 λc=>.seq (D0 Ju MD) λo=>.ret (.inl (l++[c]++[o])) else .ret (.inr l)
def Nq (l:List Nd):Rd Nd:=.seq (D0 Ju MD) λo=>.seq (.loop VI (l++[o])) λl=>.ret (At 35 l)
def Nr:Rd Nd:=.seq A4 λf=>.look λs=>if ((Ae s).1.kind==11)=true then .seq (D0 A4 Vs) λd=>Nq ([f]++[d]) else Nq [f]
def yR (atom:Rd Nd) (l:List Nd):Rd (Sum (List Nd) (List Nd)):=.look λs=>if BB s 15 [44]=true then .seq A4 λc=>.seq (D0 atom lu) λo=>.ret (.inl (l++[c]++[o])) else .ret (.inr l)
def kB (atom full:Rd Nd) (n:Nd):Rd Nd:=if lu n=true then .seq (.loop (yR atom) [n]) λl=>.seq (BG 10 [58,58]) λc=>.seq full λt=>.ret (At 34 (l++[c]++[t])) else .fail Iq
def Ua (L:FC) (atom ops exp stmt full:Rd Nd):Rd Nd:=.look λs=>if Mv (Ae s).1=true then Nr
 else .seq ops λn=>.look λs=>if BB s 15 [44]=true then kB atom full n else if BB s 10 [58,58]=true then kB atom full n
  else if ((ot n).2.2==0)=true then .seq (dg L exp stmt [61]) λr=>.ret (At 36 [n,r]) else .fail Iq
def DX (s:An):An×Bool:=if PZ s=true/\¬s.wait=1/\¬Kj s=0 then (FU s,true) else (Fk,false)
theorem Oo {s:An} (h:(DX s).2=true):mu (DX s).1<=mu s:=by
 unfold DX at h |-
 split
 .rename_i U
  have hne:s.Ev≠[]:=λe=>U.2.2 (by unfold Kj;rw [e];rfl)
  have:=JP hne
  simp only [mu,FU] at *
  omega
 .rename_i U;rw [if_neg U] at h;cases h
def On:Rd Unit:=⟨λs=>if (DX s).2=true then .inr ((),(DX s).1) else .inl (⟨Va s,Vb s⟩,s),λs v s' h=>by
 split at h
 .cases h;exact Oo ‹_›
 .cases h⟩
def Xj (_:Unit):Rd (Sum Unit Unit):=.look λs=>if Mb (Ae s).1=true then .seq K7 λ_=>.ret (.inl ()) else .ret (.inr ())
def SS:Rd Unit:=.loop Xj ()
def JU (f:Bool) (U:Bool):Rd Bool:=.look λs=>if (if f then BB s 15 [125] else (Ae s).1.kind==20)=true then .seq K7 λ_=>.ret true
 else if U=true then (if f=true then Q2 else .seq On λ_=>.ret true) else .ret false
def Vc (starts:Tk->Bool) (item:Rd Nd) (f:Bool) (l:List Nd):Rd (Sum (List Nd) (List Nd)):=.seq SS λ_=>.look λs=>.seq (JU f (!starts (Ae s).1)) λe=>
 if e=true then .ret (.inr l) else .seq item λn=>.look λs=>.seq (JU f (!Mb (Ae s).1)) λe=>if e=true then .ret (.inr (l++[n])) else .ret (.inl (l++[n]))
def Dr (f:Bool) (l:List Nd):Nd:=.mk 2 (if f then 1 else 0) [] 0 0 l
def FT (starts:Tk->Bool) (item:Rd Nd):Rd Nd:=.look λs=>if ((Ae s).1.kind==18)=true then .seq K7 λ_=>.seq (.loop (Vc starts item false) []) λl=>.ret (Dr false l)
 else .seq (BG 15 [123]) λ_=>.seq (.loop (Vc starts item true) []) λl=>.ret (Dr true l)
def vO (L:FC):Rd Nd:=MV L
def pf (L:FC):Rd Nd:=Jv L (MV L)
def opsL (L:FC):Rd Nd:=cU (pf L)
def Rt (full:Rd Nd) (L:FC):Rd Nd:=iT (pf L) full
def N7 (full:Rd Nd) (L:FC):Rd Nd:=UL L (Rt full L)
def rL (full:Rd Nd) (L:FC):Rd Nd:=gY L (opsL L) (Rt full L) (N7 full L)
def T9 (full:Rd Nd) (L:FC):Rd Nd:=Ua L (MV L) (opsL L) (Rt full L) (N7 full L) full
def Ot (t:Tk):Bool:=GK t||Mv t
def upL (full:Rd Nd) (L:FC):FC where
 atom:=vO L
 exp:=Rt full L
 ops:=opsL L
 decls:=FT Ot (T9 full L)
 stmts:=FT GK (N7 full L)
 alts:=FT GK (rL full L)
 HP:=λo=>Fw (pf L) full (Rt full L) o
 list:=λo=>Sg (Rt full L) (N7 full L) o
def XaC:FC:=⟨.fail Kn,.fail Kn,.fail Kn,.fail Kn,.fail Kn,.fail Kn,λ_=>.fail Kn,λ_=>.fail Kn⟩
theorem Rw {A:An->Rs} (U:Bn A):Bn (Hj A):=λs n s' h=>by
 unfold Hj at h
 split at h
 .cases h
 .rename_i p h1
  have h2:=FH U _ _ _ h1
  split at h
  .rename_i h3
   have h4:=EY h3 Do Do
   split at h
   .cases h
   .rename_i q h5
    have:=GZ U _ _ _ h5
    cases h
    omega
  .have:=TY h
   omega
def KO (d:Nat):Rd Nd:=H0 (Hj (DS (DV (d - 1)))) λs v s' h=>Nat.le_of_lt (Rw (BQ (BJ _)) _ _ _ h)
def jB:Nat->FC
 |0=>XaC
 |d+1=>upL (KO (d+1)) (jB d)
end Go.Proofs.Z
namespace Go.Proofs.Z
open Go Go.Aw
section
variable {st:St} {R:As->St->Prop}
attribute [local irreducible] Go.Aw.Aj
theorem dJ {A:An->Rs} (h1:¬deep<1->DC 358 (if 100<deep then 100 else deep) A):DB 318 deep A:=by
 intro s hm st R h
 refine pB Tryz.func318 ?_
 repeat' ((conv=>whnf);first|  refine M7 (s:=s) (q:=A s) (λU=>h1 U s hm) ?_)
 all_goals exact AF rfl h
theorem rR {A:An->Rs} (h1:¬deep<1->DC 390 (if 100<deep then 100 else deep) A):DB 412 deep A:=by
 intro s hm st R h
 refine pB Tryz.func412 ?_
 repeat' ((conv=>whnf);first|  refine M7 (s:=s) (q:=A s) (λU=>h1 U s hm) ?_)
 all_goals exact AF rfl h
theorem yI {A:An->Rs} (h1:¬deep<1->DC 357 (if 100<deep then 100 else deep) A):DB 317 deep A:=by
 intro s hm st R h
 refine pB Tryz.func317 ?_
 repeat' ((conv=>whnf);first|  refine M7 (s:=s) (q:=A s) (λU=>h1 U s hm) ?_)
 all_goals exact AF rfl h
theorem sV {A:An->Rs} (h1:¬deep<1->DC 366 (if 100<deep then 100 else deep) A):DB 329 deep A:=by
 intro s hm st R h
 refine pB Tryz.func329 ?_
 repeat' ((conv=>whnf);first|  refine M7 (s:=s) (q:=A s) (λU=>h1 U s hm) ?_)
 all_goals exact AF rfl h
end
def MN (Y:An->Rs) (n:Nd) (s:An):Ls:=match Y s with
 | .inl e=>.inl e
 | .inr q=>C6 Y [n,q.1] q.2
def lH (st:St) (b:Nat) (R:As->St->Prop):Ls->Prop
 | .inr (l,s')=>∀st' U,Ii st st' b s'->U.BM st'->R (.ret (.slice 6 (l.map AK) U)) (U.st st' (l.length*6))
 | .inl (e,s')=>∀st',Ii st st' b s'->R (.B7 (fault e)) st'
theorem lq {Y:An->Rs} {l:List Nd} {s:An} {n:Nd} {s':An} (h:BB s 15 [44]=true) (U:Y (Ae s).2.1=.inr (n,s')) (hm:mu s'<mu s):C6 Y l s=C6 Y (l++[BP (Ae s).1,n]) s':=by
 rw [C6,if_pos h,U]
 dsimp only
 rw [if_pos hm]
section
variable {st:St} {R:As->St->Prop}
attribute [local irreducible] Go.Aw.Aj
theorem vv {Y:An->Rs} (hY:DB 318 d Y) (h0:d=0->∀s,Y s=.inl (2,s)) (hB:E4 Y) (hF:Bn Y) {n1:Nd} {s:An} {x:Int} (hx:x=(d:Int)) (hm:mu s<=100000000) (hs:Has st b s) (h:lH st b R (MN Y n1 s)):
 PC 422 [.ptr b 0,.slice 6 [AK n1] .full,.int .i64 x] st R:=by
 refine pB Tryz.func422 ?_
 unfold MN at h
 have hn1:[n1].length+1<=1000000000:=by show 1+1<=1000000000;decide
 repeat' ((conv=>whnf);first|  (refine Bb ?_ ?_<;>intro _)|refine RZ hx hY h0 hB hm hs (Ee (λn2 s2 U st2 h2=>?_) (λe2 s2 U st2 h2=>?_))|refine Pb (l:=[n1]) (x:=n2) (own:=.full) trivial hn1 (λown1 ho1=>?_))
 .rw [U] at h
  have hd2:=hF _ _ _ U
  dsimp only at h
  refine B5 (α:=List Nd×An×St×AH) (λx=>[(1,.slice 6 (x.1.map AK) x.2.2.2)]) [0,2,6] (λx=>[]) [] (λx=>x.2.2.2.st x.2.2.1 (x.1.length*6))
   (λx=>x.2.2.2.BM x.2.2.1/\Ii st x.2.2.1 b x.2.1/\x.1.length+2*mu x.2.1<=400000000/\mu x.2.1<=mu s/\C6 Y x.1 x.2.1=C6 Y [n1,n2] s2) (λx=>mu x.2.1) ([n1]++[n2],s2,st2,own1)
   ⟨ho1,h2,by show 2+2*mu s2<=_;omega,by show mu s2<=_;omega,rfl⟩ Yl (St.le_refl _) ?_
  rintro ⟨l,s3,st3,own⟩ ⟨j1,j2,j5,j6,j7⟩
  dsimp only at j1 j2 j5 j6 j7
  have hm3:mu s3<=100000000:=AC
  have hb3:=Fz hm3
  have hl3:Has (st3.Aa b (C9 s3)) b s3:=.inl (St.Ai ..)
  have g3:own.BM (st3.Aa b (C9 s3)):=Jm j1 j2.1
  have hn:l.length+2<=1000000000:=AC
  have hm4:BB s3 15 [44]=true->mu (Ae s3).2.1<=100000000:=λe=>by have:=EY e Do Do;omega
  repeat' ((conv=>whnf);first|  (refine Bb ?_ ?_<;>intro _)|refine xN j2.1 hb3 ?_|refine F8 (hl3.hw own _) hb3 (Tb g3 hl3 (Kh ‹_› Do) (λst4 h4 g4=>?_))|refine RZ hx hY h0 hB (hm4 ‹_›) (h4.1.hw own _) (FM g4 h4.1 (GC (λn5 s5 hq5 st5 h5 g5=>?_) (λe5 s5 hq5 st5 h5 g5=>?_)))|refine lN (l:=l) (x:=BP (Ae s3).1) (y:=n5) g5 hn (λown' ho'=>?_))
  all_goals conv=>whnf
  .have hp:BB s3 15 [44]=true:=FS
   have hd:=hF _ _ _ hq5
   have hd3:=EY hp Do Do
   have hd4:mu s5<mu s3:=AC
   have hu:=(A8 (st:=st3) (b:=b) (s:=s3)).trans (h4.trans h5)
   refine ⟨(l++[BP (Ae s3).1,n5],s5,st5,own'),⟨ho',j2.trans hu,?_,by show mu s5<=_;omega,?_⟩,hd4,Yl,St.le_refl _⟩
   .show (l++[BP (Ae s3).1,n5]).length+2*mu s5<=_
    rw [List.length_append]
    show l.length+2+2*mu s5<=_
    omega
   .show C6 Y (l++[BP (Ae s3).1,n5]) s5=_
    rw [<-j7,lq (l:=l) hp hq5 hd4]
  .have hp:BB s3 15 [44]=true:=FS
   have hu:=(A8 (st:=st3) (b:=b) (s:=s3)).trans (h4.trans h5)
   have hr:C6 Y l s3=.inl (e5,s5):=by rw [C6,if_pos hp,hq5]
   rw [<-j7,hr] at h
   exact EK (AH.Bz g5) rfl (h st5 (j2.trans hu))
  .have hr:C6 Y l s3=.inr (l,s3):=by rw [C6,if_neg (Bool.eq_false_iff.1 ‹_›)]
   rw [<-j7,hr] at h
   exact fin (h _ own (j2.trans A8) g3) rfl
 .rw [U] at h
  exact fin (h st2 h2) rfl
end
section
variable {st:St} {R:As->St->Prop}
attribute [local irreducible] Go.Aw.Aj
theorem xO {s:An} (e:BB s k x=true) (U:Has st b s) (hb:s.Ev.length<=500000000) (h:R (.ret (.bool true)) (st.Aa b (C9 s))):PC 149 [.ptr b 0,.int .i64 k,.str x] st R:=bZ U hb f9
theorem jb {s:An} (e:BB s k x=false) (U:Has st b s) (hb:s.Ev.length<=500000000) (h:R (.ret (.bool false)) (st.Aa b (C9 s))):PC 149 [.ptr b 0,.int .i64 k,.str x] st R:=bZ U hb f9
theorem Fg {st:St} {s:An}:Has (st.Aa b (C9 s)) b s:=.inl (St.Ai ..)
theorem iy {l:List Nd} {s:An} (h:BB s 15 [44]=true):DY l s=DY (l++[BP (Ae s).1]) (Ae s).2.1:=by
 rw [DY,if_pos h,if_pos (EY h Do Do)]
theorem bh {l:List Nd} {s:An} (h:BB s 15 [44]=false):DY l s=(l,s):=by
 rw [DY,if_neg f9]
theorem dL {Y:An->Rs} (l:List Nd) (s:An):∀q s',C6 Y l s=.inr (q,s')->q.length+2*mu s'<=l.length+2*mu s:=by
 fun_induction C6 Y l s with
 |case1 l s h1 U h2=>simp_all
 |case2 l s h1 p h2 h3 ih=>
  grind
 |case3 l s h1 p h2 h3=>simp_all
 |case4 l s h1=>simp_all
theorem lr {Y:An->Rs} (U:Bn Y) {n:Nd} {s:An} {l:List Nd} {s':An} (h:MN Y n s=.inr (l,s')):mu s'<=mu s/\l.length<=2+2*mu s:=by
 unfold MN at h
 split at h
 .cases h
 .rename_i h1
  have h2:=U _ _ _ h1
  have h3:=UW _ _ _ _ h
  have h4:=dL _ _ _ _ h
  grind
theorem kW {st:St} {q:Ls} (h:∀l s',q=.inr (l,s')->∀st' U,Ii st st' b s'->U.BM st'->K (.ret (.slice 6 (l.map AK) U)) (U.st st' (l.length*6)))
 (k:∀e s',q=.inl (e,s')->∀st',Ii st st' b s'->K (.B7 (fault e)) st'):lH st b K q:=by
 match q with
 | .inr (l,s')=>exact h l s' rfl
 | .inl (e,s')=>exact k e s' rfl
theorem uL {x:Int} (hx:x=((d+1:Nat):Int)) (hd:d<=1000000) {Y:An->Rs} (hY:DB 318 d Y) (h0:d=0->∀s,Y s=.inl (2,s)) (hB:E4 Y) (hF:Bn Y):DC 410 x (He Y):=by
 intro s hm b st R hs h
 refine pB Tryz.func410 ?_
 have hb:=Fz hm
 unfold He at h
 cases hq1:Dp s with
 |inl q=>
  rw [hq1] at h
  obtain ⟨e,s'⟩:=q
  repeat' ((conv=>whnf);first|(refine AE ?_;intros)|(refine Bb ?_ ?_<;>intro _)|refine F8 hs hb (Xx hq1 (λst1 h1=>?_)))
  all_goals exact fin (h st1 h1) rfl
 |inr q=>
  obtain ⟨n1,s1⟩:=q
  rw [hq1] at h
  have hm1:mu s1<=100000000:=by have:=(QK hq1).1;omega
  have hb1:=Fz hm1
  have hn1:[n1].length+1<=1000000000:=by show 1+1<=1000000000;decide
  dsimp only at h
  cases hA:BB s1 10 [45,62] with
  |true=>
   rw [if_pos hA] at h
   have hb2:(Ae s1).2.1.Ev.length<=500000000:=Fz (by have:=EY hA Do Do;omega)
   have hn2:∀n2:Nd,([n1]++[n2]).length+1<=1000000000:=λ_=>by simp_all
   repeat' ((conv=>whnf);first|(refine AE ?_;intros)|(refine Bb ?_ ?_<;>intro _)|refine F8 hs hb (Hz hq1 (λst1 h1=>?_))|refine xO hA h1.1 hb1 ?_|refine F8 Fg hb1 (Hz (Kh hA Do) (λst2 h2=>?_))|refine Pb (l:=[n1]) (x:=BP (Ae s1).1) (own:=.full) trivial hn1 (λown1 ho1=>?_)|refine Tn (h2.1.hw own1 _) hb2 (FM ho1 h2.1 (GC (λn3 s3 hq3 U h3 hg3=>?_) (λe3 s3 hq3 U h3 hg3=>?_)))|refine Pb (l:=[n1]++[BP (Ae s1).1]) (x:=n3) hg3 (hn2 _) (λown2 ho2=>?_))
   all_goals unfold Jh at h
   all_goals rw [hq3] at h
   .exact EK (AH.Bz ho2) Cb (h U ((h1.trans A8).trans (h2.trans h3)))
   .exact EK (AH.Bz hg3) rfl (h U ((h1.trans A8).trans (h2.trans h3)))
  |false=>
  rw [if_neg f9] at h
  cases hC:BB s1 15 [41] with
  |true=>
   rw [if_pos hC] at h
   repeat' ((conv=>whnf);first|(refine AE ?_;intros)|(refine Bb ?_ ?_<;>intro _)|refine F8 hs hb (Hz hq1 (λst1 h1=>?_))|refine jb hA h1.1 hb1 ?_|refine xO hC Fg hb1 ?_|refine Tn Fg hb1 (Ee (λn3 s3 hq3 U h3=>?_) (λe3 s3 hq3 U h3=>?_))|refine Pb (l:=[n1]) (x:=n3) (own:=.full) trivial hn1 (λown2 ho2=>?_))
   all_goals unfold Jh at h
   all_goals rw [hq3] at h
   .exact EK (AH.Bz ho2) Cb (h U (((h1.trans A8).trans A8).trans h3))
   .exact fin (h U (((h1.trans A8).trans A8).trans h3)) rfl
  |false=>
  rw [if_neg f9] at h
  cases hE:BB s1 15 [44] with
  |true=>
   rw [if_pos hE] at h
   repeat' ((conv=>whnf);first|(refine AE ?_;intros)|(refine Bb ?_ ?_<;>intro _)|refine F8 hs hb (Hz hq1 (λst1 h1=>?_))|refine jb hA h1.1 hb1 ?_|refine jb hC Fg hb1 ?_|refine xO hE Fg hb1 ?_)
   refine B5 (α:=List Nd×An×St×AH) (λx=>[(5,.slice 6 (x.1.map AK) x.2.2.2)]) [0,1,4,6] (λx=>[]) [0] (λx=>x.2.2.2.st x.2.2.1 (x.1.length*6))
    (λx=>x.2.2.2.BM x.2.2.1/\Ii st x.2.2.1 b x.2.1/\x.1.length+mu x.2.1<=200000000/\mu x.2.1<=mu s1/\DY x.1 x.2.1=DY [n1] s1) (λx=>mu x.2.1) ([n1],s1,_,.full)
    ⟨trivial,((h1.trans A8).trans A8).trans A8,by grind,Nat.le_refl _,rfl⟩ Yl (St.le_refl _) ?_
   rintro ⟨l,s3,U,own⟩ ⟨j1,j2,j5,j6,j7⟩
   dsimp only at j1 j2 j5 j6 j7
   have hm3:mu s3<=100000000:=AC
   have hb3:=Fz hm3
   have hl3:Has (U.Aa b (C9 s3)) b s3:=.inl (St.Ai ..)
   have g3:own.BM (U.Aa b (C9 s3)):=Jm j1 j2.1
   have hn:l.length+1<=1000000000:=AC
   repeat' ((conv=>whnf);first|(refine AE ?_;intros)|(refine Bb ?_ ?_<;>intro _)|refine xN j2.1 hb3 ?_|refine F8 (hl3.hw own _) hb3 (Tb g3 hl3 (Kh ‹_› Do) (λst4 h4 g4=>?_))|refine Pb (l:=l) (x:=BP (Ae s3).1) g4 hn (λown' ho'=>?_)|refine Tn (hl3.hw own _) hb3 (FM g3 hl3 (GC (λn5 s5 hq5 st5 h5 g5=>?_) (λe5 s5 hq5 st5 h5 g5=>?_)))|refine Pb (l:=l) (x:=n5) g5 hn (λown' ho'=>?_))
   all_goals conv=>whnf
   .have hp:BB s3 15 [44]=true:=FS
    have hd3:=EY hp Do Do
    refine ⟨(l++[BP (Ae s3).1],(Ae s3).2.1,st4,own'),⟨ho',j2.trans (A8.trans h4),?_,by grind,?_⟩,hd3,Yl,St.le_refl _⟩
    .grind
    .show DY (l++[BP (Ae s3).1]) (Ae s3).2.1=_
     rw [<-j7,iy (l:=l) hp]
   all_goals rw [<-j7,bh ‹_›] at h
   all_goals unfold Jh at h
   all_goals dsimp only at h
   all_goals rw [hq5] at h
   .exact EK (AH.Bz ho') Cb (h st5 (j2.trans (A8.trans h5)))
   .exact EK (AH.Bz g5) rfl (h st5 (j2.trans (A8.trans h5)))
  |false=>
   rw [if_neg f9] at h
   replace h:E5 st b R (match MN Y n1 s1 with
    | .inl e=>(.inl e:Rs)
    | .inr r=>Jh (if 2<r.1.length then 5 else 4) r.1 r.2 [41]):=by
    unfold MN
    cases hy:Y s1 with
    |inl e=>simp_all
    |inr q=>grind
   have hbl:∀{l s2},MN Y n1 s1=.inr (l,s2)->s2.Ev.length<=500000000/\l.length+1<=1000000000:=λe=>by
    have:=lr hF e
    exact ⟨Fz AC,AC⟩
   repeat' ((conv=>whnf);first|(refine AE ?_;intros)|(refine Bb ?_ ?_<;>intro _)|refine F8 hs hb (Hz hq1 (λst1 h1=>?_))|refine jb hA h1.1 hb1 ?_|refine jb hC Fg hb1 ?_|refine jb hE Fg hb1 ?_|refine vv hY h0 hB hF (n1:=n1) AC hm1 Fg (kW (λl s2 hq2 st2 own1 h2 g2=>?_) (λe2 s2 hq2 st2 h2=>?_))|refine Cj (λ_=>?_)|refine Tn (h2.1.hw own1 _) (hbl hq2).1 (FM g2 h2.1 (GC (λn3 s3 hq3 U h3 hg3=>?_) (λe3 s3 hq3 U h3 hg3=>?_)))|refine Pb (l:=l) (x:=n3) hg3 (hbl hq2).2 (λown2 ho2=>?_))
   all_goals rw [hq2] at h
   all_goals dsimp only at h
   all_goals try unfold Jh at h
   all_goals try rw [hq3] at h
   all_goals have hu:=(((h1.trans A8).trans A8).trans A8).trans h2
   .rw [if_pos AC] at h
    exact EK (AH.Bz ho2) Cb (h U (hu.trans h3))
   .exact EK (AH.Bz hg3) rfl (h U (hu.trans h3))
   .rw [if_neg AC] at h
    exact EK (AH.Bz ho2) Cb (h U (hu.trans h3))
   .exact EK (AH.Bz hg3) rfl (h U (hu.trans h3))
   .exact fin (h st2 hu) rfl
end
theorem UU (h:d=0) (s:An):DV d s=.inl (2,s):=by subst h;rfl
theorem XR (U:d+1<=1000000) (h:DB 318 (d:Int) (DV d)):DC 390 ((d+1:Nat):Int) (DS (DV d)):=
 xe (uL rfl AC h (λe s=>UU e s) (FD d) (BJ d)) (qu AC h (λe s=>UU e s) (FD d) (BJ d))
theorem NZ (U:d+1<=1000000) (h:DB 318 (d:Int) (DV d)):DC 357 ((d+1:Nat):Int) (Hg (DS (DV d))):=
 yJ (XR U h) (BQ (BJ d))
theorem O7 (U:d+1<=1000000) (h:DB 318 (d:Int) (DV d)):DC 358 ((d+1:Nat):Int) (EF (DS (DV d))):=
 vD (NZ U h) (XM (NZ U h) (BQ (BJ d))) (BQ (BJ d))
theorem Lc:∀d:Nat,d<=100->DB 318 (d:Int) (DV d)
 |0,_=>dJ λh=>absurd Do h
 |d+1,U=>dJ λ_=>by
  rw [if_neg AC]
  exact O7 AC (Lc d AC)
def DZ (deep:Int):Nat:=(if 100<deep then 100 else deep).toNat
theorem Vr (deep:Int):DZ deep<=100:=by unfold DZ;split<;>omega
theorem Vq (h:¬deep<1):(if 100<deep then 100 else deep)=((DZ deep - 1+1:Nat):Int):=by unfold DZ;split<;>omega
theorem Xag:DB 318 deep (EF (DS (DV (DZ deep - 1)))):=dJ λh=>by
 rw [Vq h]
 have:=Vr deep
 exact O7 AC (Lc _ AC)
theorem zu:DB 412 deep (DS (DV (DZ deep - 1))):=rR λh=>by
 rw [Vq h]
 have:=Vr deep
 exact XR AC (Lc _ AC)
theorem XaD:DB 317 deep (Hg (DS (DV (DZ deep - 1)))):=yI λh=>by
 rw [Vq h]
 have:=Vr deep
 exact NZ AC (Lc _ AC)
section
variable {st:St} {R:As->St->Prop}
attribute [local irreducible] Go.Aw.Aj
theorem xC {d:Int} {A:An->Rs} (hr:DC 357 d (Hg A)) (ha:aK 392 d (Em A)) (hw:DC 358 d (EF A)) (hF:Bn A):DC 366 d (Hj A):=by
 intro s hm b st R hs h
 refine pB Tryz.func366 ?_
 unfold Hj at h
 have hm1:∀{n1 s1},Hg A s=.inr (n1,s1)->mu s1<=100000000:=λe=>by have:=FH hF _ _ _ e;omega
 have hm2:∀{n1 s1},Hg A s=.inr (n1,s1)->BB s1 10 [61,62]=true->mu (Ae s1).2.1<=100000000:=λe i=>by have:=hm1 e;have:=EY i Do Do;omega
 repeat' ((conv=>whnf);first|exact Bi|(refine Bj ?_ ?_ ?_;rotate_left)|(refine Bb ?_ ?_<;>intro _)|refine hr s hm b _ _ hs (Ee (λn1 s1 U st1 h1=>?_) (λe1 s1 U st1 h1=>?_))|refine bZ h1.1 (Fz (hm1 U)) ?_|refine ha n1 s1 (hm1 U) b _ _ Fg (Ee (λn2 s2 hq2 st2 h2=>?_) (λe2 s2 hq2 st2 h2=>?_))|refine Ab [(0,true),(1,true),(3,true),(4,true),(2,false),(5,false),(6,true),(7,true),(8,false)] [0] EQ ?_|refine F8 Fg (Fz (hm1 U)) (Hz (Kh ‹_› Do) (λst2 h2=>?_))|refine hw (Ae s1).2.1 (hm2 U ‹_›) b _ _ h2.1 (Ee (λn3 s3 hq3 st3 h3=>?_) (λe3 s3 hq3 st3 h3=>?_))|fail)
 all_goals rw [U] at h
 all_goals dsimp only at h
 .rw [if_pos ‹_›,hq3] at h
  exact EK (St.le_refl _) (Cb (l:=[n1,BP (Ae s1).1,n3])) (h st3 ((h1.trans A8).trans (h2.trans h3)))
 .rw [if_pos ‹_›,hq3] at h
  intro e'
  exact fin (h st3 ((h1.trans A8).trans (h2.trans h3))) rfl
 .rw [if_neg (Bool.eq_false_iff.1 ‹_›),hq2] at h
  exact AF rfl (h st2 ((h1.trans A8).trans h2))
 .rw [if_neg (Bool.eq_false_iff.1 ‹_›),hq2] at h
  exact fin (h st2 ((h1.trans A8).trans h2)) rfl
 .exact fin (h st1 h1) rfl
theorem nA (U:d+1<=1000000) (h:DB 318 (d:Int) (DV d)):DC 366 ((d+1:Nat):Int) (Hj (DS (DV d))):=
 xC (NZ U h) (XM (NZ U h) (BQ (BJ d))) (O7 U h) (BQ (BJ d))
theorem vW:DB 329 deep (Hj (DS (DV (DZ deep - 1)))):=sV λh=>by
 rw [Vq h]
 have:=Vr deep
 exact nA AC (Lc _ AC)
end
section
variable {st:St} {R:As->St->Prop}
attribute [local irreducible] Go.Aw.Aj
theorem UH:∀(m:Nat) {n:Nd} {st:St} {R:As->St->Prop},n.size<=m->R (.ret (.bool true)) st->PC 26 [enc n,enc n] st R:=by
 intro m
 induction m with
 |zero=>intro n st R hm h;cases n;rw [Nd.size] at hm;omega
 |succ m ih=>
  intro n st R hm h
  refine pB Tryz.func26 ?_
  repeat' ((conv=>whnf);first|(with_reducible first|refine Wt rfl ?_|exact Wa|refine W8 GE ?_ ?_ ?_|refine W0 GE ?_ ?_ ?_|refine Wt H9 ?_|refine Wv AC ?_|refine Ww AC ?_|refine Wi ?_|refine Wj ?_|refine Wl (λ_=>?_)|refine Wm ‹_› AC ?_|refine Wq AC AC ?_)|refine Ab [(0,true),(1,true),(2,true),(3,true),(4,true),(5,true),(6,true),(7,true),(8,true),(9,true),(10,false),(11,true)] [] GE ?_|fail)
  refine VZ 5 [2,3] [0,1] n.kids.length (λk=>k<=n.kids.length) (Nat.zero_le _) Yl ?_
  intro k hk
  by_cases U:k<n.kids.length
  .obtain ⟨x,hx⟩:∃x,n.kids[(k:Int).toNat]? =some x:=⟨_,List.getElem?_eq_getElem U⟩
   have hxm:x ∈ n.kids:=List.mem_of_getElem? hx
   have hxs:=CC hxm
   repeat' ((conv=>whnf);first|(with_reducible first|refine Wt rfl ?_|exact Wa|refine W8 GE ?_ ?_ ?_|refine W0 GE ?_ ?_ ?_|refine Wt H9 ?_|refine Wv AC ?_|refine Ww AC ?_|refine Wi ?_|refine Wj ?_|refine Wl (λ_=>?_)|refine Wm ‹_› AC ?_|refine Wq AC AC ?_)|refine ih (n:=x) AC ?_|refine Ab [(0,true),(1,true),(2,true),(3,true),(4,true),(5,true),(6,true),(7,true),(8,true),(9,true),(10,false),(11,true)] [] GE ?_|fail)
   all_goals conv=>whnf
   all_goals exact ⟨k+1,U,Nat.sub_lt_sub_left U (Nat.lt_succ_self k),Yl,St.le_refl _⟩
  .skip
   repeat' ((conv=>whnf);first|(with_reducible first|refine Wt rfl ?_|exact Wa|refine W8 GE ?_ ?_ ?_|refine W0 GE ?_ ?_ ?_|refine Wt H9 ?_|refine Wv AC ?_|refine Ww AC ?_|refine Wi ?_|refine Wj ?_|refine Wl (λ_=>?_)|refine Wm ‹_› AC ?_|refine Wq AC AC ?_)|refine Ab [(0,true),(1,true),(2,true),(3,true),(4,true),(5,true),(6,true),(7,true),(8,true),(9,true),(10,false),(11,true)] [] GE ?_|fail)
   all_goals exact fin h rfl
end
mutual
def A0:Nd->List Tk
 | .mk k f t l c ks=>if k=1 then [⟨f,t,l,c⟩] else AG ks
def AG:List Nd->List Tk
 |[]=>[]
 |n::r=>A0 n++AG r
end
theorem Cq:∀{a b:List Nd},AG (a++b)=AG a++AG b
 |[],b=>rfl
 |n::r,b=>by rw [List.cons_append,AG,AG,Cq,List.append_assoc]
theorem JY (t:Tk):A0 (BP t)=[t]:=rfl
theorem D2 {l:List Nd} (h:¬k=1):A0 (At k l)=AG l:=by unfold At;rw [A0,if_neg h]
theorem BC {n:Nd}:AG [n]=A0 n:=by rw [AG,AG,List.append_nil]
variable {A:An->Rs}
theorem pV (l:List Nd) (s:An):∀q s',Hf A l s=.inr (q,s')->∃r,q=l++r:=by
 fun_induction Hf A l s with
 |case1 l s h1 U h2=>simp_all
 |case2 l s h1 p h2 h3 ih=>grind
 |case3 l s h1 p h2 h3=>simp_all
 |case4 l s h1=>simp_all
structure Fx where
 op:List UInt8
 side:Int
 prec:Int
def Fx.cells (f:Fx):List V:=[.str f.op,.int .i64 f.side,.int .i64 f.prec]
def Az (l:List Fx):List (List V):=l.map Fx.cells
def IM:List Fx:=[⟨[46],2,9⟩,⟨[33,33],1,9⟩,⟨[94],2,8⟩,⟨[94,94],2,8⟩,⟨[42,42],2,8⟩,⟨[42],1,7⟩,⟨[47],1,7⟩,⟨[113,117,111,116],1,7⟩,⟨[114,101,109],1,7⟩,⟨[100,105,118],1,7⟩,⟨[109,111,100],1,7⟩,⟨[43],1,6⟩,⟨[45],1,6⟩,⟨[58],2,5⟩,⟨[43,43],2,5⟩,⟨[61,61],3,4⟩,⟨[47,61],3,4⟩,⟨[60],3,4⟩,⟨[60,61],3,4⟩,⟨[62,61],3,4⟩,⟨[62],3,4⟩,⟨[101,108,101,109],3,4⟩,⟨[110,111,116,69,108,101,109],3,4⟩,⟨[38,38],2,3⟩,⟨[124,124],2,2⟩,⟨[62,62],1,1⟩,⟨[62,62,61],1,1⟩,⟨[61,60,60],2,1⟩,⟨[36],2,0⟩,⟨[36,33],2,0⟩,⟨[115,101,113],2,0⟩]
def YX (f:Fx):Bool:=decide (0<=f.prec)&&decide (f.prec<=9)&&decide (1<=f.side)&&decide (f.side<=3)
def Ir (op:List UInt8):List Fx->Fx
 |[]=>⟨op,1,9⟩
 |f::r=>if f.op=op then f else Ir op r
def eJ (op:List UInt8):List Fx->Fx
 |[]=>Ir op IM
 |f::r=>if f.op=op/\YX f=true then f else eJ op r
def Hi (env:List Fx) (op:List UInt8):Fx:=eJ op env.reverse
def FA (s:List UInt8):Option (List UInt8):=if s.take (AO s).2=s then
 (if 3<=(AO s).1/\(AO s).1<=4\/7<=(AO s).1/\(AO s).1<=8 then some (s.drop (Ml s).toNat)
 else if 1<=(AO s).1/\(AO s).1<=2\/5<=(AO s).1/\(AO s).1<=6 then some s else none)
 else none
def Hp (n:Nd):Option (List UInt8):=if n.kind=18/\(n.kids.length=1\/n.kids.length=3) then
 (match n.kids[n.kids.length / 2]? with
 |some x=>if x.kind=1 then (match FA x.text with
   |some t=>some t
   |none=>if x.form=10/\x.text=[58] then some x.text else none) else none
 |none=>none)
 else none
def CB:Bool->List Nd->Bool
 |op,[]=> !op
 |true,n::r=>if n.kind=19 then CB true r else if n.kind=18 then false else CB false r
 |false,n::r=>match Hp n with|some _=>CB true r|none=>false
def RJ (env:List Fx) (n:Nd):Fx:=Hi env ((Hp n).getD [])
mutual
def Df (env:List Fx):Nat->Fx->List Nd->Option (Nd×List Nd)
 |0,_,_=>none
 |_+1,_,[]=>none
 |k+1,o,n::r=>if n.kind=19 then
   (if 6<=o.prec then none else match Df env k ⟨[],1,6⟩ r with
     |some p=>Eg env k o (At 21 [n,p.1]) p.2
     |none=>none)
  else Eg env k o n r
def Eg (env:List Fx):Nat->Fx->Nd->List Nd->Option (Nd×List Nd)
 |0,_,_,_=>none
 |_+1,_,n,[]=>some (n,[])
 |k+1,o,n,p::r=>
  if o.prec=(RJ env p).prec/\(o.side≠(RJ env p).side\/o.side=3) then none
  else if (RJ env p).prec<o.prec\/o.prec=(RJ env p).prec/\o.side=1 then some (n,p::r)
  else match Df env k (RJ env p) r with
   |some q=>Eg env k o (At 20 [n,p,q.1]) q.2
   |none=>none
end
def OL (env:List Fx) (n:Nd):Sum Int Nd:=if n.kind=17 then (if CB true n.kids=true then (match Df env (2*n.kids.length+2) ⟨[],3, -1⟩ n.kids with
 |some p=>.inr p.1
 |none=>.inl 160) else .inl 120)
 else .inr n
def EC (n:Nd):Int:=if n.kind=1/\n.form=9 then (if n.text=[105,110,102,105,120,108] then 1 else if n.text=[105,110,102,105,120,114] then 2 else if n.text=[105,110,102,105,120] then 3 else 0) else 0
def K0 (side prec:Int):Bool->List Nd->List Fx->Option (List Fx)
 |_,[],l=>some l
 |false,n::r,l=>match Hp n with|some t=>K0 side prec true r (l++[⟨t,side,prec⟩])|none=>none
 |true,n::r,l=>if n.kind=1/\n.form=15/\n.text=[44] then K0 side prec false r l else none
def L0 (side prec:Int) (l:List Nd):Sum Int (List Fx):=if l.length % 2=0 then .inl 120 else match K0 side prec false l [] with|some l=>.inr l|none=>.inl 120
def Hc (n:Nd):Sum Int (List Fx):=match n.kids with
 |a::b::r=>if n.kind=35/\EC a≠0 then
   (if b.kind=1/\b.form=11 then (if (CH b.text).2=0/\(CH b.text).1<=9 then L0 (EC a) (CH b.text).1 r else .inl 120) else L0 (EC a) 9 (b::r))
  else .inl 120
 |_=>.inl 120
abbrev Ft:=Int×Int×Int
def ZX (n:Nd):Int×Int:=match A0 n with|t::_=>(t.line,t.BT)|[]=>(0,0)
def vM (n:Nd) (e:Int):Ft:=(e,(ZX n).1,(ZX n).2)
def PV (U:Nat):List Fx->List Fx->Option (List Fx)
 |[],env=>some env
 |f::r,env=>if (env.drop U).any (λg=>g.op==f.op)=true then none else PV U r (env++[f])
def DH (U:Nat):List Nd->List Fx->Sum Ft (List Fx)
 |[],env=>.inr env
 |n::r,env=>if n.kind=35 then (match Hc n with
   | .inl e=>.inl (vM n e)
   | .inr l=>match PV U l env with
     |none=>.inl (vM n 161)
     |some env=>DH U r env)
  else DH U r env
def DN (n:Nd) (i:Nat):List Nd:=match n.kids[i]? with|some b=>if b.kind=2 then b.kids else []|none=>[]
def CP (n:Nd):List Nd:=match n.kids.getLast? with|some b=>if b.kind=2 then b.kids else []|none=>[]
def Ib (n:Nd):List Nd:=match n.kids.getLast? with|some w=>if w.kind=31 then CP w else []|none=>[]
def Ex (U:Nat):List Nd->List Fx->Sum Ft (List Fx)
 |[],env=>.inr env
 |c::r,env=>if c.kind=44 then (match DH U (Ib c) env with| .inl e=>.inl e| .inr env=>Ex U r env) else Ex U r env
def Kl:List Nd->List Fx->Sum Ft (List Fx)
 |[],env=>.inr env
 |c::r,env=>if c.kind=33 then (match DH env.length (DN c 1) env with| .inl e=>.inl e| .inr env=>Kl r env) else Kl r env
def HC (env:List Fx) (n:Nd):Sum Ft (List Fx):=
 if n.kind=53 then (match DH env.length (CP n) env with| .inl e=>.inl e| .inr out=>Ex env.length (CP n) out)
 else if n.kind=24 then DH env.length (DN n 1) env
 else if n.kind=29 then DH env.length (Ib n) env
 else if n.kind=8 then Kl (n.kids.drop 2) env
 else .inr env
def MJ (k parent:Int):Bool:=k==30||k==8||(k==2&&parent==27)
def RT (k parent:Int) (i:Nat) (n:Nd) (here:List Fx):Sum Ft (List Fx):=if MJ k parent=true/\n.kind=33/\(k≠8\/2<=i) then DH here.length (DN n 1) here else .inr here
def X9 (env:List Fx) (n:Nd):Sum Ft Nd:=match OL env n with| .inl e=>.inl (vM n e)| .inr t=>.inr t
mutual
def Ig:List Fx->Int->Nd->Sum Ft Nd
 |env,parent,.mk k f t l c ks=>match HC env (.mk k f t l c ks) with
  | .inl e=>.inl e
  | .inr all=>match Gh all k parent 0 (if k=8 then env else all) ks with
    | .inl e=>.inl e
    | .inr ks=>X9 all (.mk k f t l c ks)
def Gh:List Fx->Int->Int->Nat->List Fx->List Nd->Sum Ft (List Nd)
 |_,_,_,_,_,[]=>.inr []
 |all,k,parent,i,here,n::r=>match RT k parent i n here with
  | .inl e=>.inl e
  | .inr here=>match Ig (if k=8/\i<2 then all else here) k n with
    | .inl e=>.inl e
    | .inr m=>match Gh all k parent (i+1) here r with
      | .inl e=>.inl e
      | .inr U=>.inr (m::U)
end
def E1 (n:Nd):Nd×Ft:=match Ig [] 0 n with| .inr t=>(t,0,0,0)| .inl e=>(Hv,e)
def vI (st0 st:St):AH×List Nd->Prop
 |(.any,_)=>False
 |(.full,_)=>True
 |(.tok t,l)=>st0.fresh t/\st.hw t=some (l.length*6)
def zl:AH×List Nd->AH×List Nd->Prop
 |(.tok t,_),(.tok u,_)=>t≠u
 |_,_=>True
structure Rx (st0 st:St) (rows:List (AH×List Nd)):Prop where
 le:st0.le st
 ok:∀r ∈ rows,vI st0 st r
 ap:rows.Pairwise zl
section
variable {st0 st:St} {r q:AH×List Nd} {rows:List (AH×List Nd)}
theorem Rx.start:Rx st st []:=⟨St.le_refl _,λr U=>absurd U List.not_mem_nil,List.Pairwise.nil⟩
theorem Rx.drop (h:Rx st0 st (r::rows)):Rx st0 st rows:=⟨h.le,λq U=>h.ok q (List.mem_cons_of_mem _ U),(List.pairwise_cons.1 h.ap).2⟩
theorem Rx.push (h:Rx st0 st rows) (l:List Nd):Rx st0 st ((.full,l)::rows):=⟨h.le,λq U=>by
 rcases List.mem_cons.1 U with e|e
 .subst e;exact trivial
 .exact h.ok q e,List.pairwise_cons.2 ⟨λq U=>trivial,h.ap⟩⟩
theorem Rx.fresh {t:Nat} (h:Rx st0 st rows) (U:st.fresh t):st0.fresh t:=by
 refine ⟨?_,?_⟩
 .cases e:st0.box t with
  |none=>rfl
  |some c=>
   have:=h.le.1 t c e
   rw [U.1] at this;grind
 .cases e:st0.hw t with
  |none=>rfl
  |some c=>
   have:=h.le.2 t c e
   rw [U.2] at this;grind
theorem Rx.qw (h:Rx st0 st rows) (ht:st.fresh t):∀r ∈ rows,r.1≠.tok t:=λr U e=>by
 have:=h.ok r U
 obtain ⟨o,l⟩:=r
 dsimp only at e
 subst e
 have:=this.2
 rw [ht.2] at this;grind
theorem Rx.app {own:AH} {l new:List Nd} {K:V->St->Prop} (h:Rx st0 st ((own,l)::rows)) (hb:l.length+new.length<=1000000000)
 (k:∀own' st',st'.box=st.box->Rx st0 st' ((own',l++new)::rows)->K (.slice 6 ((l++new).map AK) own') st'):Aj 6 72 (l.map AK) own (new.map AK) st K:=by
 have hw:(new.map AK).map (·.map V.JK)=new.map AK:=by
  rw [List.map_map]
  exact List.map_congr_left λx _=>rfl
 have hsc:((new.map AK).all λv=>v.all V.sc)=true:=by
  rw [List.all_map,List.all_eq_true]
  intro x _;rfl
 have hlen:(l.map AK).length+(new.map AK).length=(l++new).length:=GT
 have hap:=List.pairwise_cons.1 h.ap
 have mk:∀(t:Nat) (m:St),(∀r ∈ rows,vI st0 m r)->st0.fresh t->st0.le m->(∀r ∈ rows,r.1≠.tok t)->m.hw t=some ((l++new).length*6)->Rx st0 m ((.tok t,l++new)::rows):=by
  intro t m h1 h2 h4 h5 h6
  refine ⟨h4,λr U=>?_,List.pairwise_cons.2 ⟨λr U=>?_,hap.2⟩⟩
  .rcases List.mem_cons.1 U with e|e
   .subst e;exact ⟨h2,h6⟩
   simp_all
  .obtain ⟨o,q⟩:=r
   cases o with
   |tok u=>exact λe=>h5 _ U f9
   |any=>exact trivial
   |full=>exact trivial
 refine ⟨by grind,by rw [hlen,List.length_append];unfold DR;omega,AY hsc ?_⟩
 cases own with
 |any=>exact (h.ok _ (List.mem_cons_self ..)).elim
 |full=>
  refine ⟨λe=>?_,λ_=>.inl λt ht=>?_⟩
  .simp_all
  .rw [hw,hlen,<-List.map_append]
   refine k (.tok t) _ rfl (mk t _ (λr U=>?_) (h.fresh ht) (St.Ec h.le (h.fresh ht).2 _) (h.drop.qw ht) (by simp [St.B0]))
   have h1:=h.ok r (List.mem_cons_of_mem _ U)
   have h2:=h.drop.qw ht r U
   obtain ⟨o,q⟩:=r
   cases o with
   |tok u=>
    have:u≠t:=λe=>h2 f9
    exact ⟨h1.1,by simp only [St.B0];rw [if_neg this];exact h1.2⟩
   |any=>exact h1
   |full=>exact h1
 |tok t0=>
  have h0:=h.ok _ (List.mem_cons_self ..)
  refine ⟨by rw [List.length_map];exact h0.2,.inl λt ht=>?_⟩
  rw [hw,hlen,<-List.map_append]
  have hne:∀r ∈ rows,r.1≠.tok t0:=λr U e=>by
   have:=hap.1 r U
   obtain ⟨o,q⟩:=r
   dsimp only at e
   subst e
   exact this rfl
  have hst:∀r ∈ rows,r.1≠.tok t:=λr U=>by
   rcases ht with rfl|ht
   .grind
   .exact h.drop.qw ht r U
  have hf:st0.fresh t:=by
   rcases ht with rfl|ht
   .exact h0.1
   .exact h.fresh ht
  refine k (.tok t) _ rfl (mk t _ (λr U=>?_) hf ⟨h.le.1,λx n hx=>?_⟩ hst (by simp [St.B0]))
  .have h1:=h.ok r (List.mem_cons_of_mem _ U)
   have h2:=hst r U
   have h3:=hne r U
   obtain ⟨o,q⟩:=r
   cases o with
   |tok u=>
    have e1:u≠t:=λe=>h2 f9
    have e2:u≠t0:=λe=>h3 f9
    exact ⟨h1.1,by simp only [St.B0,St.Ek];rw [if_neg e1,if_neg e2];exact h1.2⟩
   |any=>exact h1
   |full=>exact h1
  .simp only [St.B0,St.Ek]
   split
   .rename_i e;subst e
    rw [hf.2] at hx;cases hx
   .split
    .rename_i e;subst e
     rw [h0.1.2] at hx;cases hx
    .exact h.le.2 x n hx
theorem Rx.Aa {b:Nat} {cs cs':List V} (h:Rx (st0.Aa b cs) st rows):Rx (st0.Aa b cs') (st.Aa b cs') rows:=by
 refine ⟨⟨λx c U=>?_,λx n U=>h.le.2 x n U⟩,λr hr=>?_,h.ap⟩
 .by_cases e:x=b
  .subst e;rw [St.Ai] at U |-;exact U
  .rw [St.Ak (Ne.symm e)] at U |-
   exact h.le.1 x c (by rw [St.Ak (Ne.symm e)];exact U)
 .have:=h.ok r hr
  obtain ⟨o,l⟩:=r
  cases o with
  |any=>exact this
  |full=>exact this
  |tok t=>
   have hb:b≠t:=by
    rintro rfl
    have:=this.1.1
    rw [St.Ai] at this;cases this
   exact ⟨⟨by rw [St.Ak hb];have:=this.1.1;rw [St.Ak hb] at this;omega,this.1.2⟩,this.2⟩
end
structure Cx (st0:St) (b:Nat) (s:An) (st:St) (rows:List (AH×List Nd)):Prop where
 has:Has st b s
 rx:∃cs,Rx (st0.Aa b cs) st rows
 mu:mu s<=100000000
structure Cy (st0:St) (b:Nat) (s:An) (st:St) (rows:List (AH×List Nd)):Prop where
 has:Has st b s
 rx:∃cs,Rx (st0.Aa b cs) st rows
section
variable {st0 st st':St} {b:Nat} {s s':An} {r q:AH×List Nd} {rows:List (AH×List Nd)}
theorem Cx.y (h:Cx st0 b s st rows):Cy st0 b s st rows:=⟨h.has,h.rx⟩
theorem Cy.drop (h:Cy st0 b s st (r::rows)):Cy st0 b s st rows:=⟨h.has,h.rx.imp λ_ e=>e.drop⟩
theorem Cx.XaF (h:Cx st0 b s st rows) (hu:Ii st st' b s'):Cy st0 b s' st' rows:=by
 obtain ⟨h1,cs,rfl⟩:=hu
 obtain ⟨c0,U⟩:=h.rx
 exact ⟨h1,⟨cs,U.Aa⟩⟩
theorem Cx.hb (h:Cx st0 b s st rows):s.Ev.length<=500000000:=Fz h.mu
theorem Cx.start (h:Has st b s) (U:Proofs.Z.mu s<=100000000):Cx st b s st []:=
 ⟨h,by
   rcases h with e|⟨_,_,_,_,_,e⟩
   all_goals exact ⟨_,by rw [St.K4 e];exact Rx.start⟩,U⟩
theorem Cx.drop (h:Cx st0 b s st (r::rows)):Cx st0 b s st rows:=⟨h.has,h.rx.imp λ_ e=>e.drop,h.mu⟩
theorem Cx.push (h:Cx st0 b s st rows) (l:List Nd):Cx st0 b s st ((.full,l)::rows):=⟨h.has,h.rx.imp λ_ e=>e.push l,h.mu⟩
theorem Cx.set (h:Cx st0 b s st rows) (hu:Ii st st' b s') (U:Proofs.Z.mu s'<=100000000):Cx st0 b s' st' rows:=by
 obtain ⟨h1,cs,rfl⟩:=hu
 obtain ⟨c0,hr⟩:=h.rx
 exact ⟨h1,⟨cs,hr.Aa⟩,U⟩
theorem Cx.O5 (h:Cx st0 b s st rows) (hu:Ii st st' b s') (U:Proofs.Z.mu s'<=Proofs.Z.mu s):Cx st0 b s' st' rows:=h.set hu (Nat.le_trans U h.mu)
theorem Cx.look (h:Cx st0 b s st rows):Cx st0 b s (st.Aa b (C9 s)) rows:=h.O5 A8 (Nat.le_refl _)
theorem Cx.VL (h:Cx st0 b s st rows) (U:st.fresh t):st0.box t=none/\t≠b:=by
 obtain ⟨c0,hr⟩:=h.rx
 have hb:t≠b:=by
  rintro rfl
  rcases h.has with e|⟨_,_,_,_,_,e⟩<;>(rw [U.1] at e;cases e)
 have:=(hr.fresh U).1
 rw [St.Ak hb.symm] at this
 simp_all
theorem Cx.yB {z:List V} (h:Cx st0 b s st rows) (hf:st.fresh c):Cx (st0.Aa c cs) b s ((st.Aa c z).Aa c cs) rows:=by
 have hb:=(h.VL hf).2
 rw [St.set_set]
 obtain ⟨c0,hr⟩:=h.rx
 refine ⟨?_,⟨c0,⟨λx v U=>?_,λx n U=>hr.le.2 x n U⟩,λr hr'=>?_,hr.ap⟩,h.mu⟩
 .rcases h.has with e|⟨q1,q2,q3,q4,q5,e⟩
  .exact .inl (by rw [St.Ak hb];exact e)
  .exact .inr ⟨q1,q2,q3,q4,q5,by rw [St.Ak hb];exact e⟩
 .by_cases e:x=c
  .subst e
   rw [St.Ak hb.symm,St.Ai] at U
   rw [St.Ai];exact U
  .rw [St.Ak (Ne.symm e)]
   by_cases e2:x=b
   .subst e2
    rw [St.Ai] at U
    exact hr.le.1 x v (by rw [St.Ai];exact U)
   .rw [St.Ak (Ne.symm e2),St.Ak (Ne.symm e)] at U
    exact hr.le.1 x v (by rw [St.Ak (Ne.symm e2)];exact U)
 .have hk:=hr.ok r hr'
  obtain ⟨o,l⟩:=r
  cases o with
  |any=>exact hk
  |full=>exact hk
  |tok t=>
   have htc:t≠c:=by
    rintro rfl
    have:=hk.2
    rw [hf.2] at this;cases this
   have h1:=hk.1.1
   have htb:t≠b:=by
    rintro rfl
    rw [St.Ai] at h1;cases h1
   rw [St.Ak htb.symm] at h1
   exact ⟨⟨by rw [St.Ak htb.symm,St.Ak htc.symm];exact h1,hk.1.2⟩,hk.2⟩
theorem Cx.W7 (h:Cx st0 b s st rows) (hf:st.fresh c):Cx (st0.Aa c cs) b s (st.Aa c cs) rows:=by
 have:=h.yB (z:=cs) (cs:=cs) hf
 rw [St.set_set] at this;omega
theorem Rx.unbox (h:Rx (st0.Aa c cs) st rows) (hf:st0.box c=none):Rx st0 st rows:=by
 refine ⟨⟨λx v hx=>?_,h.le.2⟩,λr hr=>?_,h.ap⟩
 .have:x≠c:=by rintro rfl;rw [hf] at hx;cases hx
  exact h.le.1 x v (by rw [St.Ak this.symm];exact hx)
 .have U:=h.ok r hr
  obtain ⟨o,l⟩:=r
  cases o with
  |any=>exact U
  |full=>exact U
  |tok t=>
   have h1:=U.1.1
   have:t≠c:=by rintro rfl;rw [St.Ai] at h1;cases h1
   rw [St.Ak this.symm] at h1
   exact ⟨⟨h1,U.1.2⟩,U.2⟩
theorem S5 {cs':List V} (h:c≠b):(st0.Aa c cs).Aa b cs'=(st0.Aa b cs').Aa c cs:=by
 simp only [St.Aa,St.mk.injEq,and_true]
 grind
theorem Cx.unbox {c:Nat} {cs:List V} (h:Cx (st0.Aa c cs) b s st rows) (hf:st0.box c=none/\c≠b):Cx st0 b s st rows:=
 ⟨h.has,h.rx.imp λc0 U=>by rw [S5 hf.2] at U;exact U.unbox (by rw [St.Ak hf.2.symm];grind),h.mu⟩
theorem Cy.unbox {c:Nat} {cs:List V} (h:Cy (st0.Aa c cs) b s st rows) (hf:st0.box c=none/\c≠b):Cy st0 b s st rows:=
 ⟨h.has,h.rx.imp λc0 U=>by rw [S5 hf.2] at U;exact U.unbox (by rw [St.Ak hf.2.symm];grind)⟩
theorem Cx.boxed (h:Cx (st0.Aa c cs) b s st rows) (hf:st0.box c=none/\c≠b):st.box c=some cs:=by
 obtain ⟨c0,U⟩:=h.rx
 exact U.le.1 c cs (by rw [St.Ak hf.2.symm,St.Ai])
theorem Has.eq (h:Has st b s) (e:st'.box=st.box):Has st' b s:=by unfold Has at h |-;simp_all
theorem Cx.app {own:AH} {l new:List Nd} {K:V->St->Prop} (h:Cx st0 b s st ((own,l)::rows)) (hb:l.length+new.length<=1000000000)
 (k:∀U st',Cx st0 b s st' ((U,l++new)::rows)->K (.slice 6 ((l++new).map AK) U) st'):Aj 6 72 (l.map AK) own (new.map AK) st K:=by
 obtain ⟨c0,hr⟩:=h.rx
 exact hr.app hb λU st' e hr'=>k U st' ⟨h.has.eq e,⟨c0,hr'⟩,h.mu⟩
theorem Cx.HN {own:AH} {l:List Nd} {x:Nd} {K:V->St->Prop} (h:Cx st0 b s st ((own,l)::rows)) (hb:l.length+1<=1000000000)
 (k:∀U st',Cx st0 b s st' ((U,l++[x])::rows)->K (.slice 6 ((l++[x]).map AK) U) st'):Aj 6 72 (l.map AK) own [AK x] st K:=h.app (new:=[x]) hb k
theorem Cx.w7 {own:AH} {l:List Nd} {x y:Nd} {K:V->St->Prop} (h:Cx st0 b s st ((own,l)::rows)) (hb:l.length+2<=1000000000)
 (k:∀U st',Cx st0 b s st' ((U,l++[x,y])::rows)->K (.slice 6 ((l++[x,y]).map AK) U) st'):Aj 6 72 (l.map AK) own [AK x,AK y] st K:=h.app (new:=[x,y]) hb k
end
structure A9 {α:Type} (en:α->V) (f:FuncId) (mk:Nat->List V) (A:Rd α):Prop where
 ap:∀{st0:St} {b:Nat} {s:An} {st:St} {rows:List (AH×List Nd)} {K:As->St->Prop},Cx st0 b s st rows->
 Rd.wp A s (λv s'=>∀st',Cx st0 b s' st' rows->K (.ret (en v)) st') (λe s'=>∀st',Cy st0 b s' st' rows->K (.B7 (fault e.1)) st')->PC f (mk b) st K
theorem A9.go {U:α->V} {A:Rd α} {s:An} {st:St} {Q:α->An->Prop} (hf:A9 U f mk A) (hc:Cx st0 b s st rows) (h:Rd.wp A s Q E)
 (k:∀v s' st',A.run s=.inr (v,s')->mu s'<=mu s->Cx st0 b s' st' rows->Q v s'->K (.ret (U v)) st') (kb:∀e s' st',Cy st0 b s' st' rows->E e s'->K (.B7 (fault e.1)) st'):PC f (mk b) st K:=
 hf.ap hc (Rd.wp_mono h (λv s' r q st' c=>k v s' st' r (A.le _ _ _ r) c q) (λe s' _ q st' c=>kb e s' st' c q))
theorem A9.vX {U:α->V} {A:Rd α} {s:An} {st:St} {Q:α->An->Prop} (hf:A9 U f mk A) (hF:Rd.Bn A) (hc:Cx st0 b s st rows) (h:Rd.wp A s Q E)
 (k:∀v s' st',A.run s=.inr (v,s')->mu s'<mu s->Cx st0 b s' st' rows->Q v s'->K (.ret (U v)) st') (kb:∀e s' st',Cy st0 b s' st' rows->E e s'->K (.B7 (fault e.1)) st'):PC f (mk b) st K:=
 hf.go hc h (λv s' st' r m c q=>k v s' st' r (hF _ _ _ r) c q) kb
structure ru {α:Type} (en:α->AH->V) (ls:α->List Nd) (f:FuncId) (mk:Nat->List V) (A:Rd α):Prop where
 ap:∀{st0:St} {b:Nat} {s:An} {st:St} {rows:List (AH×List Nd)} {K:As->St->Prop},Cx st0 b s st rows->
 Rd.wp A s (λv s'=>∀own st',Cx st0 b s' st' ((own,ls v)::rows)->K (.ret (en v own)) st') (λe s'=>∀st',Cy st0 b s' st' rows->K (.B7 (fault e.1)) st')->PC f (mk b) st K
theorem ru.go {U:α->AH->V} {ls:α->List Nd} {A:Rd α} {s:An} {st:St} {Q:α->An->Prop} (hf:ru U ls f mk A) (hc:Cx st0 b s st rows) (h:Rd.wp A s Q E)
 (k:∀v own s' st',A.run s=.inr (v,s')->mu s'<=mu s->Cx st0 b s' st' ((own,ls v)::rows)->Q v s'->K (.ret (U v own)) st') (kb:∀e s' st',Cy st0 b s' st' rows->E e s'->K (.B7 (fault e.1)) st'):PC f (mk b) st K:=
 hf.ap hc (Rd.wp_mono h (λv s' r q own st' c=>k v own s' st' r (A.le _ _ _ r) c q) (λe s' _ q st' c=>kb e s' st' c q))
structure vH (f:FuncId) (mk:Nat->V->List V) (A:List Nd->Rd (List Nd)):Prop where
 ap:∀{st0:St} {b:Nat} {s:An} {st:St} {rows:List (AH×List Nd)} {K:As->St->Prop} {own:AH} {l:List Nd},l.length<=90000000->Cx st0 b s st ((own,l)::rows)->
 Rd.wp (A l) s (λl' s'=>∀own' st',Cx st0 b s' st' ((own',l')::rows)->K (.ret (.slice 6 (l'.map AK) own')) st') (λe s'=>∀st',Cy st0 b s' st' rows->K (.B7 (fault e.1)) st')->PC f (mk b (.slice 6 (l.map AK) own)) st K
theorem vH.go {mk:Nat->V->List V} {A:List Nd->Rd (List Nd)} {s:An} {st:St} {Q:List Nd->An->Prop} {own:AH} {l:List Nd} (hf:vH f mk A) (hl:l.length<=90000000) (hc:Cx st0 b s st ((own,l)::rows)) (h:Rd.wp (A l) s Q E)
 (k:∀l' U s' st',(A l).run s=.inr (l',s')->mu s'<=mu s->Cx st0 b s' st' ((U,l')::rows)->Q l' s'->K (.ret (.slice 6 (l'.map AK) U)) st') (kb:∀e s' st',Cy st0 b s' st' rows->E e s'->K (.B7 (fault e.1)) st'):PC f (mk b (.slice 6 (l.map AK) own)) st K:=
 hf.ap hl hc (Rd.wp_mono h (λv s' r q own st' c=>k v own s' st' r ((A l).le _ _ _ r) c q) (λe s' _ q st' c=>kb e s' st' c q))
def Gc {α:Type} (U:α->V) (f:FuncId) (args:List V) (b:Nat) (A:Rd α):Prop:=∀{st0:St} {s:An} {st:St} {rows:List (AH×List Nd)} {K:As->St->Prop},Cx st0 b s st rows->
 Rd.wp A s (λv s'=>∀st',Cx st0 b s' st' rows->K (.ret (U v)) st') (λe s'=>∀st',Cy st0 b s' st' rows->K (.B7 (fault e.1)) st')->PC f args st K
theorem A9.a {U:α->V} {A:Rd α} (h:A9 U f mk A):Gc U f (mk b) b A:=h.ap
theorem A9.q {U:α->V} {A:Rd α} (h:A9 U f mk A:=by assumption) (e:args=mk b:=by rfl):Gc U f args b A:=e ▸ h.a
theorem Gc.go {U:α->V} {A:Rd α} {s:An} {st:St} {Q:α->An->Prop} (hf:Gc U f args b A)
 (k:∀v s' st',A.run s=.inr (v,s')->mu s'<=mu s->Cx st0 b s' st' rows->Q v s'->K (.ret (U v)) st') (kb:∀e s' st',Cy st0 b s' st' rows->E e s'->K (.B7 (fault e.1)) st') (hc:Cx st0 b s st rows:=by assumption) (h:Rd.wp A s Q E:=by assumption):PC f args st K:=
 hf hc (Rd.wp_mono h (λv s' r q st' c=>k v s' st' r (A.le _ _ _ r) c q) (λe s' _ q st' c=>kb e s' st' c q))
theorem vU {s:An} {st:St} {F:AH->List (AH×List Nd)} {r:AH->As} {r':As} {o:AH} (h:∀o st',Cx st0 b s st' (F o)->K (r o) st') (hc:Cx st0 b s st (F o)) (e:r o=r'):∃r2 U,(r2=r'\/r2=r'.wk)/\St.le U st/\K r2 U:=⟨r o,st,.inl e,St.le_refl _,h o st hc⟩
theorem De {s:An} {st:St} {r r':As} (hc:Cx st0 b s st rows) (h:∀st',Cx st0 b s st' rows->K r st') (e:r=r'.wk):∃r2 U,(r2=r'\/r2=r'.wk)/\St.le U st/\K r2 U:=⟨r,st,.inr e,St.le_refl _,h st hc⟩
theorem B1 {s:An} {st:St} {e:Int} (hc:Cy st0 b s st rows) (h:∀st',Cy st0 b s st' rows->K (.B7 (fault e)) st'):∃r2 U,(r2=.B7 (fault e)\/r2=(As.B7 (fault e)).wk)/\St.le U st/\K r2 U:=⟨_,st,.inl rfl,St.le_refl _,h st hc⟩
theorem XW {c:Bool} {Q p q:Prop} (h:if c=true then P else Q) (k1:c=true->P->p) (U:c=false->Q->q):Bw c p q:=Wk (λe=>k1 e f9) (λe=>U e f9)
theorem Gk [BEq α] [LawfulBEq α] {a b:α} {Q p q:Prop} (h:if (a==b)=true then P else Q) (k1:a=b->P->p) (U:¬a=b->Q->q):Bw (a==b) p q:=
 Wg (λe=>k1 e f9) (λe=>U e f9)
theorem ij {c:Prop} [Decidable c] {Q p q:Prop} (h:if c then P else Q) (k1:c->P->p) (U:¬c->Q->q):Bw (decide c) p q:=
 Wh (λe=>k1 e f9) (λe=>U e f9)
theorem xg {b:Bool} {p q:Prop} (h:b=true) (k:p):Bw b p q:=Wk (λ_=>k) (λe=>by simp_all)
theorem lY {b:Bool} {p q:Prop} (h:b=false) (k:q):Bw b p q:=Wk (λe=>by simp_all) (λ_=>k)
structure LS (σ:Type) where
 x:σ
 s:An
 m:St
 o:AH
theorem CJ {σ β:Type} {Q0:AP->Env->St->Prop} {st:St} {s:An} {Q:β->An->Prop} {body:σ->Rd (Sum σ β)} {x0:σ}
 (f:σ->AH->List (Nat×V)) (g:σ->AH->List (Nat×List V)) (keep kb:List Nat) (rw:σ->AH->List (AH×List Nd)) (wt:σ->Nat) (U:AH) (hc:Cx st0 b s st (rw x0 U)) (h:Rd.wp (Rd.loop body x0) s Q E) (hl:wt x0+4*mu s<=500000000)
 (he:(env.Mm (f x0 U) (g x0 U) keep kb).E3 env)
 (hb:∀x s1 st1 own1,Cx st0 b s1 st1 (rw x own1)->Rd.wp (body x) s1 (Rd.again body s1 Q E) E->wt x+4*mu s1<=500000000->mu s1<=mu s->
   ih (B2 (λenv' st'=>∃y:LS σ,(Cx st0 b y.s y.m (rw y.x y.o)/\Rd.wp (Rd.loop body y.x) y.s Q E/\wt y.x+4*mu y.s<=500000000/\mu y.s<=mu s)/\mu y.s<mu s1/\(env.Mm (f y.x y.o) (g y.x y.o) keep kb).E3 env'/\St.le y.m st') Q0)
    (env.Mm (f x own1) (g x own1) keep kb) st1):
 ∃(α:Type) (E:α->Env) (S:α->St) (J:α->Prop) (μ:α->Nat) (x0:α),J x0/\(E x0).E3 env/\St.le (S x0) st/\
  ∀x,J x->ih (B2 (λenv' st'=>∃y,J y/\μ y<μ x/\(E y).E3 env'/\St.le (S y) st') Q0) (E x) (S x):=
 ⟨LS σ,λy=>env.Mm (f y.x y.o) (g y.x y.o) keep kb,λy=>y.m,
   λy=>Cx st0 b y.s y.m (rw y.x y.o)/\Rd.wp (Rd.loop body y.x) y.s Q E/\wt y.x+4*mu y.s<=500000000/\mu y.s<=mu s,λy=>mu y.s,⟨x0,s,st,U⟩,⟨hc,h,hl,Nat.le_refl _⟩,he,St.le_refl _,
   λy ⟨j1,j2,j3,j4⟩=>hb y.x y.s y.m y.o j1 (by rw [<-Rd.wp_loop];exact j2) j3 j4⟩
section
variable {st0 st:St} {b:Nat} {s:An} {rows:List (AH×List Nd)} {K:As->St->Prop}
theorem SF (U:Cx st0 b s st rows) (k:∀st',Cx st0 b s st' rows->K (.ret (FX (Ae s).1)) st'):PC 112 [.ptr b 0] st K:=Hd U.has U.hb (k _ U.look)
theorem tt (U:Cx st0 b s st rows) (kk:∀st',Cx st0 b s st' rows->K (.ret (.bool (BB s k x))) st'):PC 149 [.ptr b 0,.int .i64 k,.str x] st K:=bZ U.has U.hb (kk _ U.look)
theorem ca (U:Cx st0 b s st rows) (e:BB s k x=true) (kk:∀st',Cx st0 b s st' rows->K (.ret (.bool true)) st'):PC 149 [.ptr b 0,.int .i64 k,.str x] st K:=tt U f9
theorem nL (U:Cx st0 b s st rows) (e:BB s k x=false) (kk:∀st',Cx st0 b s st' rows->K (.ret (.bool false)) st'):PC 149 [.ptr b 0,.int .i64 k,.str x] st K:=tt U f9
theorem nK {Q:Prop} (U:Cx st0 b s st rows) (h:if BB s k x=true then P else Q) (k1:∀st',Cx st0 b s st' rows->BB s k x=true->P->K (.ret (.bool true)) st') (k2:∀st',Cx st0 b s st' rows->BB s k x=false->Q->K (.ret (.bool false)) st'):
 PC 149 [.ptr b 0,.int .i64 k,.str x] st K:=by
 cases e:BB s k x with
 |true=>exact ca U e λst' c=>k1 st' c e f9
 |false=>exact nL U e λst' c=>k2 st' c e f9
theorem Hx:A9 enc 150 (λb=>[.ptr b 0]) A4:=by
 refine ⟨λ{st0 b s st rows K} U h=>?_⟩
 refine MK U.has U.hb (λe st' hu=>?_) (λe=>?_)
 .unfold Rd.wp at h;rw [Fl e] at h;exact h st' (U.O5 hu (Eo e).1)
 .unfold Rd.wp at h;rw [N8 e] at h;exact h _ U.look.y
theorem Xu {Q:Nd->An->Prop} (hc:Cx st0 b s st rows) (h:Rd.wp A4 s Q E) (e:BB s k x=true) (hk:k≠0/\k≠21) (kk:∀s' st',(Ae s).2.1=s'->mu s'<mu s->Cx st0 b s' st' rows->Q (BP (Ae s).1) s'->K (.ret (enc (BP (Ae s).1))) st'):
 PC 150 [.ptr b 0] st K:=by
 unfold Rd.wp at h
 rw [qH e hk.1] at h
 have U:=EY e hk.1 hk.2
 exact MK hc.has hc.hb (λ_ st' hu=>kk _ st' rfl U (hc.O5 hu (Nat.le_of_lt U)) h) (λn=>absurd (HX e hk.1) n)
theorem QJ {Q:Nd->An->Prop} (hc:Cx st0 b s st rows) (h:Rd.wp A4 s Q E) (hk:(Ae s).1.kind≠0/\(Ae s).1.kind≠21) (kk:∀s' st',(Ae s).2.1=s'->mu s'<mu s->Cx st0 b s' st' rows->Q (BP (Ae s).1) s'->K (.ret (enc (BP (Ae s).1))) st'):
 PC 150 [.ptr b 0] st K:=by
 have e:=Fq hk.1
 unfold Rd.wp at h
 rw [Fl e] at h
 have U:=(Eo e).2 hk.2
 exact MK hc.has hc.hb (λ_ st' hu=>kk _ st' rfl U (hc.O5 hu (Nat.le_of_lt U)) h) (λn=>absurd e n)
theorem T0 {Q:α->An->Prop} (U:Cx st0 b s st rows) (h:Rd.wp (Q2:Rd α) s Q E) (kb:∀e s' st',Cy st0 b s' st' rows->E e s'->K (.B7 (fault e.1)) st'):PC 113 [.ptr b 0] st K:=
 lW U.has U.hb (kb _ _ _ U.look.y h)
theorem XG:A9 enc 153 (λb=>[.ptr b 0,.int .i64 k,.str x]) (BG k x):=by
 refine ⟨λ{st0 b s st rows K} U h=>?_⟩
 unfold BG at h
 rw [Rd.Ah,Rd.Aq] at h
 refine rj U.has U.hb (λe1 e2 st' hu=>?_) (λe1 e2=>?_) (λe1=>?_)
 .rw [if_pos e1] at h
  unfold Rd.wp at h;rw [Fl e2] at h;exact h st' (U.O5 hu (Eo e2).1)
 .rw [if_pos e1] at h
  unfold Rd.wp at h;rw [N8 e2] at h;exact h _ U.look.y
 .rw [if_neg f9] at h
  exact h _ U.look.y
theorem zI {s':An} (U:Cx st0 b s st rows) (hm:mu s'<=100000000) (k:∀st',Cx st0 b s' st' rows->K (.ret (.Bc [])) st'):PC 154 [.ptr b 0,D9 s'] st K:=s8 U.has λst' hu=>k st' (U.set hu hm)
theorem LG {Q:Unit->An->Prop} (hc:Cx st0 b s st rows) (h:Rd.wp K7 s Q E) (hk:(Ae s).1.kind≠0/\(Ae s).1.kind≠21) (kk:∀s' st',(Ae s).2.1=s'->mu s'<mu s->Cx st0 b s' st' rows->Q () s'->K (.ret (FX (Ae s).1)) st'):
 PC 186 [.ptr b 0] st K:=by
 have e:=Fq hk.1
 unfold K7 at h
 rw [Rd.wp_seq] at h
 unfold Rd.wp at h
 rw [Fl e] at h
 have U:=(Eo e).2 hk.2
 exact Xl hc.has hc.hb (λ_ st' hu=>kk _ st' rfl U (hc.O5 hu (Nat.le_of_lt U)) h) (λn=>absurd e n)
theorem gq {Q:Unit->An->Prop} (hc:Cx st0 b s st rows) (h:if BB (Ae s).2.1 k x=true then Rd.wp K7 s Q E else P) (hk:(Ae s).1.kind≠0/\(Ae s).1.kind≠21)
 (kk:∀s' st',mu s'<mu s->Cx st0 b s' st' rows->(if BB s' k x=true then Q () s' else P)->K (.ret (FX (Ae s).1)) st'):PC 186 [.ptr b 0] st K:=by
 have e:=Fq hk.1
 have U:=(Eo e).2 hk.2
 refine Xl hc.has hc.hb (λ_ st' hu=>kk _ st' U (hc.O5 hu (Nat.le_of_lt U)) ?_) (λn=>absurd e n)
 split
 .rename_i hi
  rw [if_pos hi] at h
  unfold K7 at h
  rw [Rd.wp_seq] at h
  unfold Rd.wp at h
  rw [Fl e] at h
  exact h
 simp_all
theorem GP {s0:An} (U:Cx st0 b s st rows) (hm:mu s0<=100000000) (k:∀st',Cx st0 b s0 st' rows->K (.ret (.Bc [])) st'):PC 154 [.ptr b 0,.agg s0.cells] st K:=zI U hm k
theorem yY (hc:Cx st0 b s st rows) (hk:(Ae s).1.kind≠0/\(Ae s).1.kind≠21) (kk:∀s' st',(Ae s).2.1=s'->mu s'<mu s->Cx st0 b s' st' rows->K (.ret (enc (BP (Ae s).1))) st'):PC 150 [.ptr b 0] st K:=by
 have e:=Fq hk.1
 have U:=(Eo e).2 hk.2
 exact MK hc.has hc.hb (λ_ st' hu=>kk _ st' rfl U (hc.O5 hu (Nat.le_of_lt U))) (λn=>absurd e n)
end
theorem DF (h:P:=by with_reducible first|(show _/\_;first|exact Wa)|(show Bw _ _ _;first|exact Wb|exact Wc)|fail):P:=h
theorem BS {A:Prop} (k:A) (h:A->P:=by intro k;with_reducible first|(show _/\_;first|  exact Wm ‹_› AC k|exact Wn AC AC k|exact Wo AC AC k|exact Wp AC AC AC k|exact Wr Do AC AC k|exact Ws Do k|exact WB ‹_› AC k|exact WC AC AC k|exact WD AC AC k|exact WE AC AC AC k)|(show Bw _ _ _;first|exact Wt H9 k|exact Wu H9 k|exact Wv AC k|exact Ww AC k|exact xg ‹_› k|exact lY ‹_› k|exact Wi k|exact Wj k)|(intro x y z;exact Wl k x y z)|(intro x y z;exact Wz k x y z)|(intro x y z;exact WA k x y z)|(show Exists _;first|exact Wq AC AC k)|fail):P:=h k
theorem DG {B C:V->Prop} (k:V) (l:B k) (m:C k) (h:∀k,B k->C k->P:=by intro k l m;with_reducible first|(show Exists _;first|  exact W8 GE k l m|exact W0 GE k l m|exact W9 k l m)|fail):P:=h k l m
theorem Gg {A B:Prop} (k:A) (l:B) (h:A->B->P:=by intro k l;with_reducible first|(show Bw _ _ _;first|exact Gk ‹_› k l|exact ij ‹_› k l|exact XW ‹_› k l)|fail):P:=h k l
theorem Dk {A B:Prop} (k:A) (l:B) (h:A->B->P:=by intro k l;with_reducible first|(show Bw _ _ _;first|exact Wf Do k l|exact Wg k l|exact Wh k l|exact Wk k l)|fail):P:=h k l
section
variable {st:St} {R:As->St->Prop}
attribute [local irreducible] Go.Aw.Aj
theorem nz {f:Fx} {v:Bool} (U:YX f=v) (h:R (.ret (.bool v)) st):PC 179 [.agg f.cells] st R:=by
 refine pB Tryz.func179 ?_
 repeat' ((conv=>whnf);first|  (refine Bb ?_ ?_<;>intro _)|fail)
 all_goals conv=>whnf
 all_goals refine AB h ?_
 all_goals clear h
 all_goals rw [<-U]
 all_goals unfold YX
 all_goals simp only [Bool.and_eq_true,decide_eq_true_eq,Bool.and_eq_false_iff,decide_eq_false_iff_not]
 all_goals omega
theorem VM {n:Nd} (h:R (.ret (.int .i64 (EC n))) st):PC 211 [enc n] st R:=by
 refine pB Tryz.func211 ?_
 repeat' ((conv=>whnf);first|  (refine Bb ?_ ?_<;>intro _)|fail)
 all_goals conv=>whnf
 all_goals refine fin (r:=.ret (.int .i64 (EC n))) h ?_
 all_goals clear h
 all_goals refine congrArg (λx=>As.ret (V.int .i64 x)) (?_:EC n=_)
 all_goals unfold EC
 all_goals simp [*]
def lF:Prop:=∀(st:St) (R:As->St->Prop),(∀st',st.le st'->R (.ret (.slice 3 (Az IM) .any)) st')->PC 180 [] st R
theorem BK {l:List Fx} {K:Nat->Prop} (k:l.length<4611686018427387904->K l.length):∀m,m=(Az l).length->m<DR->K m:=λm U h=>by
 rw [show (Az l).length=l.length from List.length_map ..] at U;subst U;exact k h
theorem Cz {l:List Fx} {i:Int} {x:Fx} {K:List V->Prop} (h:l[i.toNat]? =some x) (U:0<=i) (k:K x.cells):0<=i/\∃e,(Az l)[i.toNat]? =some e/\K e:=
 ⟨U,x.cells,by simp [Az,h],k⟩
theorem RF (l:List Fx) (x:Fx):Hi (l++[x]) op=if x.op=op/\YX x=true then x else Hi l op:=by
 unfold Hi
 rw [List.reverse_append]
 rfl
theorem sP (hK:lF) {env:List Fx} {w:AH} (hl:env.length<=1000000000) (h:∀st',st.le st'->R (.ret (.agg (Hi env op).cells)) st'):PC 138 [.slice 3 (Az env) w,.str op] st R:=by
 refine pB Tryz.func138 ?_
 repeat' ((conv=>whnf);first|(refine AE ?_;intros)|refine BK (λ_=>?_))
 refine B5 (α:=Nat) (λi=>[(11,.int .i64 (i:Nat))]) [0,1,4,10] (λ_=>[]) [0] (λ_=>st) (λi=>i<=env.length/\Hi env op=Hi (env.take (env.length - i)) op) (λi=>env.length - i) 0 ⟨Nat.zero_le _,by rw [Nat.sub_zero,List.take_length]⟩ Yl (St.le_refl _) ?_
 rintro i ⟨hi,hf⟩
 by_cases U:i<env.length
 .obtain ⟨x,hx⟩:∃x,env[((env.length:Int) - 1 - (i:Int)).toNat]? =some x:=⟨_,List.getElem?_eq_getElem AC⟩
  have ht:env.take (env.length - i)=env.take (env.length - (i+1))++[x]:=by
   rw [show env.length - i=(env.length - (i+1))+1 by omega,List.take_add_one]
   rw [show env[env.length - (i+1)]? =some x by rw [<-hx];congr 1;omega];rfl
  rw [ht,RF] at hf
  by_cases h1:x.op=op
  .cases h2:YX x with
   |true=>
    rw [if_pos ⟨h1,h2⟩] at hf
    rw [hf] at h
    repeat' ((conv=>whnf);first|(refine AE ?_;intros)|refine BK (λ_=>?_)|refine Cz hx AC ?_|refine nz h2 ?_|refine Wq (a:=(env.length:Int) - 1) AC AC ?_|refine Wq (a:=(env.length:Int) - 1 - (i:Int)) AC AC ?_)
    all_goals exact AF rfl (h _ (St.le_refl _))
   |false=>
    rw [if_neg (λe=>by rw [h2] at e;exact absurd e.2 Do)] at hf
    repeat' ((conv=>whnf);first|(refine AE ?_;intros)|refine BK (λ_=>?_)|refine Cz hx AC ?_|refine nz h2 ?_|refine Wq (a:=(env.length:Int) - 1) AC AC ?_|refine Wq (a:=(env.length:Int) - 1 - (i:Int)) AC AC ?_|refine Wq (a:=(i:Int)+1) AC AC ?_)
    all_goals conv=>whnf
    all_goals exact ⟨i+1,⟨U,hf⟩,Nat.sub_lt_sub_left U (Nat.lt_succ_self i),Yl,St.le_refl _⟩
  .rw [if_neg (λe=>h1 e.1)] at hf
   repeat' ((conv=>whnf);first|(refine AE ?_;intros)|refine BK (λ_=>?_)|refine Cz hx AC ?_|refine Wq (a:=(env.length:Int) - 1) AC AC ?_|refine Wq (a:=(env.length:Int) - 1 - (i:Int)) AC AC ?_|refine Wq (a:=(i:Int)+1) AC AC ?_)
   all_goals conv=>whnf
   all_goals exact ⟨i+1,⟨U,hf⟩,Nat.sub_lt_sub_left U (Nat.lt_succ_self i),Yl,St.le_refl _⟩
 .rw [show env.length - i=0 by omega,List.take_zero] at hf
  rw [hf] at h
  have hk:Hi [] op=Ir op IM:=rfl
  rw [hk] at h
  generalize hL:IM=L at h
  have hkn:∀{st:St} {R:As->St->Prop},(∀st',st.le st'->R (.ret (.slice 3 (Az L) .any)) st')->PC 180 [] st R:=λh=>hK _ _ (by rw [hL];exact h)
  have hLl:L.length<=1000:=by rw [<-hL];decide +kernel
  clear hL hk hf
  have hli:¬(i:Int)<(env.length:Int):=AC
  repeat' ((conv=>whnf);first|refine Ww hli ?_|(refine AE ?_;intros)|refine hkn (λst1 hle1=>?_)|refine BK (λ_=>?_))
  refine B5 (α:=Nat) (λj=>[(34,.int .i64 (j:Nat))]) [1,4,32,33] (λ_=>[]) [0] (λ_=>st1) (λj=>j<=L.length/\Ir op L=Ir op (L.drop j)) (λj=>L.length - j) 0 ⟨Nat.zero_le _,rfl⟩ Yl (St.le_refl _) ?_
  rintro j ⟨hj,hf⟩
  by_cases U:j<L.length
  .obtain ⟨x,hx⟩:∃x,L[(j:Int).toNat]? =some x:=⟨_,List.getElem?_eq_getElem U⟩
   have hd:L.drop j=x::L.drop (j+1):=by
    rw [List.drop_eq_getElem_cons U]
    congr 1
    exact Option.some.inj ((List.getElem?_eq_getElem U).symm.trans (show L[j]? =some x from hx))
   rw [hd,Ir] at hf
   by_cases h1:x.op=op
   .rw [if_pos h1] at hf
    rw [hf] at h
    repeat' ((conv=>whnf);first|(refine AE ?_;intros)|refine BK (λ_=>?_)|refine Cz hx AC ?_)
    all_goals exact AF rfl (h _ hle1)
   .rw [if_neg h1] at hf
    repeat' ((conv=>whnf);first|(refine AE ?_;intros)|refine BK (λ_=>?_)|refine Cz hx AC ?_|refine Wq (a:=(j:Int)+1) AC AC ?_)
    all_goals conv=>whnf
    all_goals exact ⟨j+1,⟨U,hf⟩,Nat.sub_lt_sub_left U (Nat.lt_succ_self j),Yl,St.le_refl _⟩
  .rw [List.drop_of_length_le AC,Ir] at hf
   rw [hf] at h
   repeat' ((conv=>whnf);first|(refine AE ?_;intros)|refine BK (λ_=>?_))
   all_goals exact AF rfl (h _ hle1)
end
end Go.Proofs.Z
namespace Go.Proofs.Z
open Go Go.Aw Go.Shelf
theorem kF {I : Mem} {st : St} {w : World} (U : CL I st w) : Lib.TabIs Tryz.prog w "strings.asciiSpace" .u8 Lib.asciiSpaceTab := by
 obtain ⟨c,ty,h1,h2⟩:=U.shape 4 256 U.TQ.qs
 have hg : Tryz.prog.globalNamed "strings.asciiSpace" = some 4 := by kernel_rfl
 unfold Lib.TabIs World.var?
 rw [hg]
 simp only [Option.bind_some,h1,Option.some.injEq]
 have hlen:Lib.asciiSpaceTab.length=256:=GE
 refine Array.ext (by rw [h2];simp [hlen]) λi hi hi'=>?_
 have h3:=U.cell _ _ _ (U.TQ.space i AC)
 simp only [World.cell?,h1,Option.isSome_none,Bool.false_eq_true,if_false] at h3
 rw [Array.getElem?_eq_getElem hi] at h3
 injection h3 with h3
 rw [h3]
 have hi2:i<Lib.asciiSpaceTab.length:=by rw [hlen];omega
 simp [List.getD_eq_getElem?_getD,List.getElem?_eq_getElem hi2]
section
variable {st:St} {R:As->St->Prop}
theorem Yi (hz:s.length<4294967281) (ha:∀b ∈ s,b.toNat<128) (h:R (.ret (.slice 1 (strs (Lib.fields s)) .any)) st) (hl:∀x ∈ Lib.fields s,x.length<DR) (hn:(Lib.fields s).length<DR):PC 214 [.str s] st R:=by
 refine ⟨λI w U hs hc=>?_,⟨_,Tryz.func214,Do,Do⟩⟩
 simp only [Ap,A3] at hc
 obtain ⟨c,r,rfl,⟨rfl,_⟩,rfl⟩:=hc
 refine (Tryz.strings_Fields ⟨s.toArray⟩ w (by show s.toArray.size<_;simpa using hz) (λj b e=>ha b (List.mem_of_getElem? (by simpa using e))) (kF hs)).mono λe w' ⟨he,hw⟩=>?_
 subst hw
 obtain ⟨h1,h2,h3⟩:=hs.row ((Lib.fields s).map λl=>Value.string ⟨l.toArray⟩) 9
 refine ⟨_,_,.ret _,h1,h2,?_,h⟩
 subst he
 exact pL (Lib.fields s) hl hn h3
end
def Yp (p:Nat->Bool) (s:List UInt8):Int:=if Cs (λd=> !(p d.1)) s<s.length then (Cs (λd=> !(p d.1)) s:Nat) else -1
theorem idx_eq (p:Nat->Bool) (s:List UInt8):∀(f pos:Nat),pos<=s.length->s.length - pos<=f->Lib.idxFuncFrom p true ⟨s.toArray⟩ f pos=if Cs (λd=> !(p d.1)) (s.drop pos)<s.length - pos then ((pos+Cs (λd=> !(p d.1)) (s.drop pos):Nat):Int) else -1
 |0,pos,h1,h2=>by
  rw [if_neg AC];rfl
 |f+1,pos,h1,h2=>by
  unfold Lib.idxFuncFrom
  have hz:(⟨s.toArray⟩:ByteArray).size=s.length:=by simp [ByteArray.size]
  rw [hz]
  by_cases U:pos<s.length
  .rw [if_pos U,Vp U]
   rcases hd:Ba (s.drop pos) with ⟨c,m⟩
   have hr:=rune_le U hd.symm
   dsimp only
   by_cases hc:p c=true
   .rw [if_pos hc,N3 (p:=λd=> !(p d.1)) (by rw [hd];simp [hc]),if_pos AC];rfl
   .rw [if_neg hc,idx_eq p s f (pos+m) hr.1 AC]
    have e:=LH (p:=λd=> !(p d.1)) (Qg U) (by rw [hd];simpa using hc)
    rw [hd,List.drop_drop] at e
    dsimp only at e
    rw [e]
    by_cases hk:Cs (λd=> !(p d.1)) (s.drop (pos+m))<s.length - (pos+m)
    .rw [if_pos hk,if_pos AC];congr 1;omega
    .rw [if_neg hk,if_neg AC]
  .rw [if_neg U,if_neg AC]
section
variable {st:St} {R:As->St->Prop}
def yj:St:=⟨λ_=>none,λ_=>none⟩
theorem eR {p:Nat->Bool} (hg:∀c:Nat,c<=1114111->PC g [.int .i32 (c:Int)] yj λr _=>r=.ret (.bool (p c))) (h:R (.ret (.int .i64 (Yp p s))) st):PC 44 [.str s,.func g [] []] st R:=by
 refine Dt ⟨_,Tryz.func44,Do,Do⟩ _ (λI w U hs hc=>?_) h
 simp only [Ap,A3] at hc
 obtain ⟨c1,r1,rfl,⟨rfl,hl⟩,c2,r2,rfl,⟨az,cs,rfl,rfl,rfl⟩,rfl⟩:=hc
 obtain ⟨fn,p1,p2,p3⟩:=(hg 0 Do).b
 have eg:∀args w,(callFunc g args).run Tryz.prog w=.ok (.enter g args) w:=λargs w=>by
  have hb:fn.body.isNone=false:=by cases hb:fn.body<;>simp_all
  simp only [callFunc,Sem.run_bind,Result.andThen_ok,run_program,p1]
  rw [p3]
  simp [hb]
 have hp:PredGrows Tryz.prog g #[] p w:=λW x hx hb=>by
  obtain ⟨_,hW⟩:=hs.below hb
  have hW0:CL I yj W:=⟨hW.cell,hW.shape,λb cs e=>(by cases e),λb e=>absurd rfl e,λb n e=>(by cases e),hW.TQ⟩
  refine ((hg x hx).a I W [.int .i32 x] hW0 (by simp only [Ap,A3];exact ⟨_,_,rfl,rfl,rfl⟩)).mono ?_
  rintro e w' ⟨I',st',r,k1,k2,k3,rfl⟩
  refine ⟨?_,⟨k1.os,k1.tape,k1.output,k1.size,λk hk=>k1.Ie k hk rfl rfl⟩⟩
  cases e with
  |returned c=>
   have k3:A3 I' (.bool (p x)) c:=k3
   simp only [A3] at k3
   rw [k3]
  |panicked _=>exact k3.elim
  |outgrown=>exact k3.elim
 refine (Tryz.strings_IndexFunc_grows g #[] eg p ⟨s.toArray⟩ w hp).mono λe w' ⟨he,hb⟩=>⟨⟨_,he,?_⟩,hb⟩
 simp only [A3]
 unfold Lib.idxFunc Yp
 rw [idx_eq p s _ 0 (Nat.zero_le _) (by simp [ByteArray.size]),List.drop_zero,Nat.sub_zero,Nat.zero_add]
end
end Go.Proofs.Z
namespace Go.Aw
open Go
def St.GN (st:St) (b:Nat):St:={st with box:=λx=>if x=b then none else st.box x}
theorem St.cm {st:St} (h:st.box b=none):st.le ((st.Aa b cs).GN b):=
 ⟨λx c e=>by
   simp only [St.GN,St.Aa]
   grind,λ_ _ e=>e⟩
theorem Cw.of_flat {I:Mem} {sz:Nat}:∀{es:List (List V)} {vs:List Value},(∀e ∈ es,e.length=sz)->Ap I es.flatten vs->Cw I sz es vs
 |[],vs,_,h=>by simpa only [List.flatten_nil,Ap,Cw] using h
 |e::r,vs,U,h=>by
  rw [List.flatten_cons] at h
  have h1:=Ap.take e.length h
  have h2:=Ap.drop e.length h
  rw [List.take_left' rfl] at h1
  rw [List.drop_left' rfl] at h2
  simp only [Cw]
  exact ⟨_,_,(List.take_append_drop e.length vs).symm,U e List.mem_cons_self,h1,Cw.of_flat (λx hx=>U x (List.mem_cons_of_mem _ hx)) h2⟩
section
variable {P:Program} {D:List Deferred} {I0 I:Mem} {st0 st:St} {w0 w:World} {β:Nat->Option Nat} {env:Env} {a:Act}
theorem Rel.freeze (h:Rel D I0 st0 w0 I β env st a w) (hb:st.box b=some cs):
 ∃vs:List Value,Ap I cs vs/\I.le (I.add b 0 vs vs.length)/\Rel D I0 st0 w0 (I.add b 0 vs vs.length) β env (st.GN b) a w:=by
 obtain ⟨vs,ty,hw,hv⟩:=h.s.box b cs hb
 obtain ⟨i1,i2,i3⟩:=h.s.IE b f9
 have hl:I.le (I.add b 0 vs vs.length):=Mem.R7 (λo _=>i1 o) (.inl i3)
 have hd:=h.fr.LY b (.inl f9)
 have nb:∀x,(st.GN b).box x≠none->x≠b/\st.box x≠none:=λx e=>by
  by_cases U:x=b
  .subst U;exact absurd (if_pos rfl) e
  .refine ⟨U,?_⟩
   have e':(if x=b then none else st.box x)≠none:=e
   simp_all
 refine ⟨vs,hv,hl,⟨⟨h.fr.os,h.fr.tape,h.fr.output,h.fr.size,h.fr.Ie,Mem.le_trans h.fr.le hl,?_,?_,λx e=>h.fr.LY x (e.imp (λe=>(nb x e).2) id)⟩,⟨?_,?_,?_,?_,?_,VO hl.1 hl.2 h.s.TQ⟩,IC.mem h.f hl ?_⟩⟩
 .intro x o h1 h2
  by_cases e:x=b
  .simp_all
  .exact h.fr.new x o h1 (by simpa [Mem.add,e] using h2)
 .intro x h1 h2
  by_cases e:x=b
  .simp_all
  .exact h.fr.LZ x h1 (by simpa [Mem.add,e] using h2)
 .intro x o v e
  simp only [Mem.add] at e
  split at e
  .rename_i U
   obtain ⟨rfl,h1,h2⟩:=U
   simp only [World.cell?,hw,Option.isSome_none,Bool.false_eq_true,if_false,List.getElem?_toArray]
   exact e
  .exact h.s.cell x o v e
 .intro x n e
  simp only [Mem.add] at e
  split at e
  .simp_all
  .exact h.s.shape x n e
 .intro x c e
  have U:=(nb x f9).1
  have e':st.box x=some c:=by
   have:(if x=b then none else st.box x)=some c:=e
   rwa [if_neg U] at this
  obtain ⟨us,ty',h1,h2⟩:=h.s.box x c e'
  exact ⟨us,ty',h1,Ap.mono hl _ _ h2⟩
 .intro x e
  obtain ⟨U,e'⟩:=nb x e
  obtain ⟨h1,h2,h3⟩:=h.s.IE x e'
  exact ⟨λo=>by simp [Mem.add,U,h1 o],h2,by simp [Mem.add,U,h3]⟩
 .intro x n e
  have U:x≠b:=λU=>by subst U;rw [show (st.GN x).hw x=st.hw x from rfl,i2] at e;cases e
  exact ⟨(h.s.hw x n e).1,λo ho=>by simp only [Mem.add];rw [if_neg (by simp [U])];exact (h.s.hw x n e).2 o ho⟩
 .intro id x e
  obtain ⟨h1,h2,h3,h4,h5,h6⟩:=h.f.sep id x e
  have U:x≠b:=λU=>by simp_all
  exact ⟨λo=>by simp [Mem.add,U,h3 o],by simp [Mem.add,U,h4],by grind,h6⟩
theorem dc {sz cap:Nat} {rest:List V} {vs:List Value} (hv:Ap I (es.flatten++rest) vs) (hl:I.le (I.add b 0 vs vs.length)) (hz:∀e ∈ es,e.length=sz) (hn:es.length=n) {c:Value} (h:A3 I (.Gf sz b n cap) c):
 A3 (I.add b 0 vs vs.length) (.slice sz es .any) c:=by
 simp only [A3] at h |-
 obtain ⟨rfl,h1,h2,h3⟩:=h
 subst hn
 refine ⟨_,cap,rfl,h1,h2,h3,trivial,.inr rfl,?_⟩
 have U:=Ap.take es.flatten.length hv
 rw [List.take_left' rfl] at U
 refine CD.add es _ 0 (Cw.of_flat hz U) hl λj c e=>?_
 rw [Nat.zero_add]
 have e':vs[j]? =some c:=by
  rw [List.getElem?_take] at e
  split at e
  .exact e
  .cases e
 have:=Mem.Mk (I:=I) (b:=b) (h:=0) (n:=vs.length) e'
 simp_all
theorem dP {c:Code} {env':Env} {st st':St} (h:AW P c Q env' st') (U:env'.E3 env) (hs:St.le st' st):AW P c Q env st:=
 λD I0 st0 w0 I β a w hr=>h D I0 st0 w0 I _ a w ((hr.Jf (Env.Js U)).H5 hs)
theorem dO {c:Code} {st st':St} (e:st'=st) (h:AW P c Q env st'):AW P c Q env st:=e ▸ h
theorem U0 {x y:Code} {st:St} (E:α->Env) (S:α->St) (J:α->Prop) (hy:∀p,J p->AW P y Q (E p) (S p))
 (U:AW P x (B2 (λenv' st'=>∃p,J p/\(E p).E3 env'/\St.le (S p) st') Q) env st):AW P (.seq x y) Q env st:=
 Ad (rG U λe env st h=>by
  cases e with
  |normal=>obtain ⟨p,h1,h2,h3⟩:=h;exact dP (hy p h1) h2 h3
  |exit i=>exact h
  |goto i=>exact h
  |ret=>exact h
  |B7 v=>exact h)
theorem gQ {c:Code} {st:St} (t:Nat) {sz cap:Nat} (rest:List V) (ht:env.get t=.Gf sz b n cap) (hts:t<env.sz) (hb:st.box b=some (es.flatten++rest)) (hz:∀e ∈ es,e.length=sz) (hn:es.length=n)
 (h:AW P c Q {env with tmps:=(t,.slice sz es .any)::env.tmps} (st.GN b)):AW P c Q env st:=λD I0 st0 w0 I β a w hr=>by
 obtain ⟨vs,hv,hl,U⟩:=hr.freeze hb
 have h1:=hr.f.get t
 rw [ht] at h1
 have h2:=dc hv hl hz hn (show A3 I (.Gf sz b n cap) _ from h1)
 refine h D I0 st0 w0 _ β a w ⟨U.fr,U.s,{U.f with tmps:=?_}⟩
 intro t' v e
 rw [Bs] at e
 cases hbq:Nat.beq t t' with
 |true=>
  rw [hbq] at e
  have:=Nat.eq_of_beq_eq_true hbq
  subst this
  simp only [cond_true,Option.some.injEq] at e
  subst e
  exact h2
 |false=>
  rw [hbq] at e
  exact U.f.tmps t' v e
theorem AM {T : List (Nat × Ty)} (hP : TU P T) (gl : List Nat) {R : As -> St -> Prop} (hf : P.funcs[f]? = some fn) {c : Code} (hb : fn.body = some c) (hn : (fn.name == "runtime.NumGoroutine") = false) (hle : Nat.ble args.length fn.ntmps = true)
 (h:AW P c (fW T fn (Ends R)) {tmps:=Ja 0 args,boxes:=[],BU:=0,sz:=fn.ntmps,gl} st):Bo P f args st R:=by
 refine ⟨?_,fn,hf,f9,hn⟩
 intro I w cargs hs hargs
 refine calls_of_wp hf hb ?_
 refine wp_mono (h [] I st w I _ _ w (Gz gl hs hargs hle)) ?_
 rintro e a w' ⟨I1,β1,env1,st1,ae,h1,h2,h3⟩
 have hret:(E9 T env1 st1 fn.results.toList λvs=>match vs with
  |[v]=>Ends R (.ret v) st1
  |vs=>Ends R (.ret (.Bc vs)) st1)->
  a.defers=[]/\∃v,(results fn a.tmps).run P w'=.ok v w'/\∃I' st' r,Fr I st w I' st' w'/\CL I' st' w'/\kq I' (.returned v) r/\R r st':=by
  intro h3
  obtain ⟨v,c,g1,g2,r2,st2,g3,g4,g5⟩:=CK (P:=P) (R:=Ends R) hP.t h1 h3
  have U:=h1.H5 g4
  refine ⟨h1.f.defers,c,g1,I1,st2,r2,U.fr,U.s,?_,g5⟩
  rcases g3 with rfl|rfl
  .exact g2
  .exact g2.wk
 cases ae with
 |normal=>cases e<;>first|exact hret h3|exact h2.elim
 |exit i=>exact h3.elim
 |goto i=>exact h3.elim
 |ret=>cases e<;>first|exact hret h3|exact h2.elim
 |B7 v=>
  cases e<;>try exact h2.elim
  obtain ⟨r2,st2,g3,g4,g5⟩:=h3
  obtain ⟨c',rfl,h2⟩:=h2
  have U:=h1.H5 g4
  refine ⟨h1.f.defers,I1,st2,r2,U.fr,U.s,?_,g5⟩
  rcases g3 with rfl|rfl
  .exact ⟨c',rfl,h2⟩
  .exact ⟨c',rfl,h2.wk⟩
end
section
variable {D:List Deferred} {P:Program} {T:List (Nat×Ty)} {I0 I:Mem} {st0 st:St} {w0 w:World} {β:Nat->Option Nat} {env:Env} {a:Act}
theorem TK (hP:TU P T) (gl:List Nat) {R:As->St->Prop} (hf:P.funcs[f]? =some fn) {c0 c1 c2 rest:Code} {rid:Nat} {mk df:Oper}
 (hb : fn.body = some (.seq c0 (.seq c1 (.seq c2 (.seq (.region rid #[mk, df] false) rest))))) (hn : (fn.name == "runtime.NumGoroutine") = false) {cap : Array Operand} {tf : Nat}
 (h1:mk.op=.makeFunc (.func g) #[] cap) (h2:mk.dst=some tf) (h3:mk.guard=none) (h4:df.op=.defer {callee:=.value (.tmp tf),args:=#[],argTypes:=#[]}) (h5:df.guard=none) (h6:df.dst=none)
 (hg:Plain P g) (hle:Nat.ble args.length fn.ntmps=true)
 (h:AW P c0 (B2 (λenv st=>AW P c1 (B2 (λenv st=>AW P c2 (λae env st=>match ae with
   | .normal=>XJ env cap.toList λvs=>vs.all V.eS=true/\env.go (some tf) (.func g [] vs) λenv=>AW P rest (cn P T g vs fn R) env st
   | .ret=>Xc T fn R env st
   |_=>False) env st) rB) env st) rB) {tmps:=Ja 0 args,boxes:=[],BU:=0,sz:=fn.ntmps,gl} st):Bo P f args st R:=by
 refine ⟨?_,fn,hf,f9,hn⟩
 intro I w cargs hs hargs
 refine calls_of_wp_defers hf hb ?_
 refine wp_seq (wp_mono (h [] I st w I _ _ w (Gz gl hs hargs hle)) ?_)
 rintro e a w1 ⟨I1,β1,env1,st1,ae,r1,x1,k1⟩
 cases ae with
 |exit _|goto _|ret|B7 _=>exact k1.elim
 |normal=>
 cases e with
 |exit _|goto _|ret|panic _|outgrown=>exact x1.elim
 |normal=>
 refine wp_seq (wp_mono (k1 [] I st w I1 _ _ w1 r1) ?_)
 rintro e a w2 ⟨I2,β2,env2,st2,ae,U,x2,k2⟩
 cases ae with
 |exit _|goto _|ret|B7 _=>exact k2.elim
 |normal=>
 cases e with
 |exit _|goto _|ret|panic _|outgrown=>exact x2.elim
 |normal=>
 refine wp_seq (wp_mono (k2 [] I st w I2 _ _ w2 U) ?_)
 clear k2 U x2
 rintro e a w2 ⟨I2,β2,env2,st2,ae,U,x2,k2⟩
 cases ae with
 |exit _|goto _|B7 _=>exact k2.elim
 |ret=>
  cases e with
  |normal|exit _|goto _|panic _|outgrown=>exact x2.elim
  |ret=>
   obtain ⟨v,c,g1,g2,g3⟩:=CK (P:=P) hP.t U k2
   show Leaves P fn a.tmps _ a.defers _ w2
   rw [U.f.defers]
   exact ⟨c,g1,I2,st2,.ret v,U.fr,U.s,g2,g3⟩
 |normal=>
 cases e with
 |exit _|goto _|ret|panic _|outgrown=>exact x2.elim
 |normal=>
 refine wp_seq (wp_region_list ?_)
 show wpList P #[mk,df] _ [mk,df] a w2
 unfold wpList
 rw [if_pos (by simp [Region.wanted,h3])]
 left
 obtain ⟨vs,hv,kp,kg⟩:=Gl U.f (show XJ env2 cap.toList _ from k2)
 have hcv:A3 I2 (.func g [] vs) (.func (.func g) #[] (cap.map a.eval)):=by
  simp only [A3]
  exact ⟨[],cap.toList.map a.eval,by congr 1;grind,H1,hv⟩
 obtain ⟨env3,r3,k3⟩:=CY U (A6.of hcv) kg
 have htf:tf<a.tmps.size:=by
  rw [U.f.size]
  exact (IK kg).1 tf rfl
 unfold Oper.wp
 rw [show (execOp a.eval mk).run P w2=.ok (.value (.func (.func g) #[] (cap.map a.eval))) w2 by simp only [execOp,h1,Array.map_empty];rfl]
 show wpList P #[mk,df] _ [df] (a.put mk.dst _) w2
 rw [h2]
 unfold wpList
 rw [if_pos (by simp [Region.wanted,h5])]
 left
 have hev:(a.put (some tf) (.func (.func g) #[] (cap.map a.eval))).eval (.tmp tf)=.func (.func g) #[] (cap.map a.eval):=by
  simp [Act.put,Act.eval,htf]
 unfold Oper.wp
 rw [show (execOp (a.put (some tf) (.func (.func g) #[] (cap.map a.eval))).eval df).run P w2=.ok (.defer {target:=.fn (.func g) (cap.map a.eval),args:=#[]}) w2 by
  simp only [execOp,h4,resolve,hev,Deferred.ofValue,Array.map_empty,Array.empty_append];rfl]
 rw [Oper.upon_defer]
 rw [h6]
 unfold wpList
 show rest.wp P _ _ _
 have r4:=r3.defer {target:=.fn (.func g) (cap.map a.eval),args:=#[]}
 refine wp_mono (k3 _ I st w I2 _ _ w2 r4) ?_
 rintro e a5 w5 ⟨I5,β5,env5,st5,ae,r5,x5,k5⟩
 have hd:=r5.f.defers
 obtain ⟨fn2,p1,p2,p3⟩:=hg
 have hinv:(invoke (.fn (.func g) (cap.map a.eval)) #[]).run P w5=.ok (.enter g (cap.toList.map a.eval).toArray) w5:=by
  have hb:fn2.body.isNone=false:=by cases hb:fn2.body<;>simp_all
  simp only [invoke,callFunc,Sem.run_bind,Sem.run_pure,Result.andThen_ok,run_program,p1]
  rw [p3]
  simp [hb]
  apply Array.ext';simp
 have last:∀{u:FrameMode} {x:Option V},u≠.run->(match x with|none=>u=.returning|some v=>∃c,u=.panicking [{v:=c,recovered:=false}]/\A3 I5 v c)->HM P g vs x st5 (λst'=>Xc T fn R env5 st')->
  Leaves P fn a5.tmps (λe w'=>∃I' st' r,Fr I st w I' st' w'/\CL I' st' w'/\kq I' e r/\R r st') a5.defers u w5:=by
  intro u x hu hx k
  rw [hd]
  refine leaves_cons hu hinv ((k I5 w5 _ u r5.s (Ap.yw hv kp) hx).mono ?_)
  rintro e u' w6 ⟨⟨v,rfl⟩,hset,I6,st6,q1,q2,q3⟩
  show Leaves P fn a5.tmps _ [] (settle u') w6
  rw [hset]
  have r6:=r5.called q1 q2
  obtain ⟨v,c,g1,g2,g3⟩:=CK (P:=P) hP.t r6 q3
  exact ⟨c,g1,I6,st6,.ret v,r6.fr,r6.s,g2,g3⟩
 cases ae with
 |normal=>
  cases e with
  |normal=>exact last (x:=none) GT rfl k5
  |_=>exact x5.elim
 |ret=>
  cases e with
  |ret=>exact last (x:=none) GT rfl k5
  |_=>exact x5.elim
 |B7 v=>
  cases e with
  |panic chain=>
   obtain ⟨c,rfl,hc⟩:=x5
   exact last (x:=some v) GT ⟨c,rfl,hc⟩ k5
  |_=>exact x5.elim
 |exit _=>exact k5.elim
 |goto _=>exact k5.elim
end
end Go.Aw
