/-
  Parts of a proof: lemmas that the last text uses.
-/
import Derived.Test.YtpkekfapphbgjaaGreatDoorB2
import Derived.Shelf.Strings.Builder1
import Derived.Shelf.Strings.Builder2
import Derived.Shelf.Strings.OnBuilder
import Derived.Shelf.Strings.Trim
import Derived.Shelf.Small.Utf8
import Derived.Shelf.Small.Strs
import Derived.Shelf.Strings.Search1
import Derived.Shelf.Strings.Search2
import Derived.Shelf.Strings.Search3
import Derived.Shelf.LaysM
import Derived.Shelf.Strings.Shaped
import Derived.Shelf.GgClosure.StringsIndexFunc
import Derived.Ground.GgwProg
import Derived.Shelf.GgClosure.StringsIndexFuncTop
import Derived.Shelf.GgClosure.StringsRunes
import Derived.Shelf.Strings.Prefix
import Derived.Shelf.Strings.Fields
import Derived.Shelf.Strings.SplitShaped
import Derived.Shelf.Unicode.Latin
import Derived.Shelf.Unicode.Decode
import Derived.Shelf.Strings.Runes
import Derived.Shelf.Strings.AsciiSet
import Derived.Shelf.Unicode.DecodeSlow
import Derived.Shelf.Unicode.DecodeAny
import Derived.Shelf.Unicode.Is16White
import Derived.Shelf.Unicode.IsSpaceAny
import Derived.Shelf.Unicode.DecodeLast
import Derived.Shelf.Unicode.Is16Any
import Derived.Shelf.Unicode.Is32Any
import Derived.Shelf.Unicode.ExclAny
import Derived.Shelf.Strings.FuncGrows
import Derived.Shelf.Slices.Turned
import Derived.Ground.Names2Prog
import Derived.Shelf.Slices.Clone
import Derived.Ground.SlgnProg
import Derived.Shelf.SlicesE.Clone
import Derived.Test.YtpkekfapphbgjaaGreatDoorProg
import Derived.Below
set_option linter.unusedVariables false
set_option linter.unusedSimpArgs false
set_option maxHeartbeats 16000000
variable {α:Type} {k e deep i:Int} {p:Nat×Nat->Bool} {l:List Go.Aw.Nd} {f:Go.FuncId} {s s':Go.Proofs.Z.Al} {t:Go.Proofs.Z.Tk} {ih:(Go.Aw.AD->Go.Aw.Env->Go.Aw.St->Prop)->Go.Aw.Env->Go.Aw.St->Prop} {Q:Go.Aw.AD->Go.Aw.Env->Go.Aw.St->Prop} {env:Go.Aw.Env} {T:List (Nat×Go.Aw.Ty)} {b d c m pos:Nat} {cs args:List Go.Aw.V} {K R:Go.Aw.At->Go.Aw.St->Prop} {x:List UInt8} {n:Go.Aw.Nd} {I:Go.Aw.Mem} {P:Prop}
namespace Go.Proofs.Z
open Go Go.Aw
theorem ga {l:List α} {k:Nat} {x:α} (h:l[k]? =some x):l.drop k=x::l.drop (k+1):=by
 obtain ⟨U,h2⟩:=List.getElem?_eq_some_iff.1 h
 rw [<-h2,List.drop_eq_getElem_cons U]
section
variable {st:St} {R:At->St->Prop}
attribute [local irreducible] Go.Aw.Ag
def Oa (p:Int->Bool):List Int->Int->Int
 |[],_=> -1
 |y::r,i=>if p y then i else Oa p r (i+1)
theorem VO {p:Int->Bool}:∀{l:List Int} {i:Int},0<=i->(0<=Oa p l i↔l.any p=true)
 |[],i,h=>by simp [Oa]
 |y::r,i,h=>by
  simp only [Oa,List.any_cons]
  split
  .simp_all
  .rename_i e
   rw [VO AC]
   simp [e]
theorem VP {l:List Int} {p:Int->Bool} {own:AA} (hf:∀x (st:St) (R:At->St->Prop),R (.ret (.bool (p x))) st->PC f [.int .i64 x] st R) (h:R (.ret (.int .i64 (Oa p l 0))) st):
 PC 330 [.slice 1 (ints l) own,.func f [] []] st R:=by
 refine pB Tryz.func330 ?_
 repeat' ((conv=>whnf);first|(refine A1 ?_;intros)|(refine CZ ?_ ?_<;>intro _)|fail)
 refine K9 8 [7,0,1] l.length (λk=>k<=l.length/\(Oa p l 0=Oa p (l.drop k) k)) ⟨Nat.zero_le _,rfl⟩ Yl ?_
 rintro k ⟨U,hi⟩
 repeat' ((conv=>whnf);first|(refine A1 ?_;intros)|(refine CZ ?_ ?_<;>intro _)|refine hf _ _ _ ?_)
 all_goals conv=>whnf
 all_goals try (have e:=ga ‹l[Int.toNat k]? =some _›;rw [Int.toNat_natCast] at e;rw [e,Oa] at hi;clear e)
 all_goals first
  |(refine ⟨k+1,⟨AC,?_⟩,AC,Yl,St.le_refl _⟩;clear h;simp_all)
  |(refine fin h ?_;clear h;simp_all;done)
  |(refine fin h ?_;rw [hi,List.drop_eq_nil_of_le AC];rfl)
theorem PF {l:List Int} {p:Int->Bool} {own:AA} (hf:∀x (st:St) (R:At->St->Prop),R (.ret (.bool (p x))) st->PC f [.int .i64 x] st R) (h:R (.ret (.bool (l.any p))) st):
 PC 288 [.slice 1 (ints l) own,.func f [] []] st R:=by
 refine pB Tryz.func288 ?_
 refine VP hf ?_
 have key:=VO (p:=p) (l:=l) (i:=0) AC
 refine Wh (λU=>?_) (λU=>?_)
 .exact Au h (key.1 U)
 .refine Au h ?_
  simp_all
theorem ru (x:Int) (st:St) (R:At->St->Prop) (h:R (.ret (.bool (decide (x<0)))) st):PC 289 [.int .i64 x] st R:=by
 refine pB Tryz.func289 ?_
 repeat' ((conv=>whnf);first|  (refine CZ ?_ ?_<;>intro _)|fail)
 all_goals exact Au h kw
def T7 (s:Al):Bool:=
 decide (0<=s.pos)&&decide (s.pos<=s.AV.length)&&decide (0<=s.wait)&&decide (s.wait<=2)&&
 (decide (s.wait<=0)||(match s.AV[s.pos.toNat]? with|some t=>t.kind==16|none=>false))&& !(s.DS.any λx=>decide (x<0))
theorem V6 (h:R (.ret (.bool (T7 s))) st):PC 235 [Dz s] st R:=by
 refine pB Tryz.func235 ?_
 repeat' ((conv=>whnf);first|(refine A1 ?_;intros)|(refine CZ ?_ ?_<;>intro _)|refine PF (λx st R h=>ru x st R h) ?_)
 all_goals conv=>whnf
 all_goals refine Au h ?_
 all_goals clear h
 all_goals unfold T7
 all_goals first
  |(rw [show decide (0<=s.pos)=false from decide_eq_false AC];simp only [Bool.false_and];done)
  |(rw [show decide (s.pos<=s.AV.length)=false from decide_eq_false AC];simp only [Bool.false_and,Bool.and_false];done)
  |(rw [show decide (0<=s.wait)=false from decide_eq_false AC];simp only [Bool.false_and,Bool.and_false];done)
  |(rw [show decide (s.wait<=2)=false from decide_eq_false AC];simp only [Bool.false_and,Bool.and_false];done)
  |(have hn:s.AV[s.pos.toNat]? =none:=List.getElem?_eq_none AC
    rw [hn,show decide (s.wait<=0)=false from decide_eq_false AC];simp only [Bool.false_and,Bool.and_false,Bool.or_false];done)
  |(rw [show decide (0<=s.pos)=true from decide_eq_true AC,show decide (s.pos<=s.AV.length)=true from decide_eq_true AC,show decide (0<=s.wait)=true from decide_eq_true AC,show decide (s.wait<=2)=true from decide_eq_true AC]
    first
     |(rw [show decide (s.wait<=0)=true from decide_eq_true AC];simp_all;done)
     |(rw [show decide (s.wait<=0)=false from decide_eq_false AC];simp_all;done))
 all_goals trace_state
def Iy (t:Tk) (s:Al):Tk×Al:=
 if s.wait=1 then (ZH 20 t,{s with wait:=2})
 else if Jc s<t.Cp then (ZH 18 t,{Mu s t.Cp with pos:=s.pos+1})
 else (ZH 18 t,{s with wait:=1})
def pD (p:Tk×Al):V:=.Bj [E7 p.1,Dz p.2]
theorem lZ (U:0<=s.pos/\s.pos<=4611686018427387904) (hb:s.DS.length<=500000000) (h:R (.ret (pD (Iy t s))) st):PC 236 [E7 t,Dz s] st R:=by
 refine pB Tryz.func236 ?_
 repeat' ((conv=>whnf);first|exact B1|(refine A1 ?_;intros)|(refine B2 ?_ ?_ ?_;rotate_left)|(refine CZ ?_ ?_<;>intro _)|refine Oy (t:=t) ?_|refine Ox (s:=s) ?_|refine WU (s:=s) hb ?_|refine Wq (a:=s.pos+1) AC AC ?_|refine AM [1,5,2,6,8] [2,3] ?_|refine Ad 6 [3] [] ?_|refine AM [1,5,2,6,8] [2,3] ?_|fail)
 all_goals unfold Iy at h
 .rw [if_pos AC] at h;exact Bm rfl h
 .rw [if_neg AC,if_pos AC] at h;exact Bm rfl h
 .rw [if_neg AC,if_neg AC] at h;exact Bm rfl h
def Fc (t:Tk) (s:Al):Tk×Al:=
 if 0<Jc s/\t.Cp<Jc s then (ZH 20 t,E5 s)
 else if 0<Jc s/\t.Cp=Jc s then (ZH 19 t,{s with pos:=s.pos+1,wait:=0})
 else (kT,{s with pos:=s.pos+1,wait:=0})
theorem SS (h:0<Jc s):s.DS≠[]:=λe=>by simp [Jc,e] at h
theorem ri (U:0<=s.pos/\s.pos<=4611686018427387904) (hb:s.DS.length<=500000000) (h:R (.ret (pD (Fc t s))) st):PC 237 [E7 t,Dz s] st R:=by
 refine pB Tryz.func237 ?_
 repeat' ((conv=>whnf);first|exact B1|(refine A1 ?_;intros)|(refine B2 ?_ ?_ ?_;rotate_left)|(refine CZ ?_ ?_<;>intro _)|refine Oy (t:=t) ?_|refine Ox (s:=s) ?_|refine LQ (s:=s) (SS AC) hb ?_|refine Wq (a:=s.pos+1) AC AC ?_|refine AM [1,5,2,6,8,10] [2,3] ?_|refine AM [1,5,2,6,8] [2,3] ?_|refine Ad 4 [2,3] [2,3] ?_|fail)
 all_goals unfold Fc at h
 all_goals first
  |(rw [if_pos ⟨AC,AC⟩] at h;exact Bm rfl h)
  |(rw [if_neg AC,if_pos ⟨AC,AC⟩] at h;exact Bm rfl h)
  |(rw [if_neg AC,if_neg AC] at h;exact Bm rfl h)
 all_goals trace_state
def GO (t:Tk) (s:Al):Tk×Al×Int:=
 if t.kind=15/\t.text=[123] then (t,{Mu s 0 with pos:=s.pos+1},0)
 else if t.kind=15/\t.text=[125] then
  if s.DS=[]\/Jc s≠0 then (kT,s,90) else (t,{E5 s with pos:=s.pos+1},0)
 else (t,{s with pos:=s.pos+1},0)
def Yn (p:Tk×Al×Int):V:=.Bj [E7 p.1,Dz p.2.1,.int .i64 p.2.2]
theorem Ig {l:List Int} (h:¬l.length=Int.toNat 0):l≠[]:=λe=>h (by grind)
theorem jm {l:List Int} (h:l.length=Int.toNat 0):l=[]:=List.length_eq_zero_iff.1 AC
theorem l9 (U:0<=s.pos/\s.pos<=4611686018427387904) (hb:s.DS.length<=500000000) (h:R (.ret (Yn (GO t s))) st):PC 238 [E7 t,Dz s] st R:=by
 refine pB Tryz.func238 ?_
 repeat' ((conv=>whnf);first|exact B1|(refine A1 ?_;intros)|(refine B2 ?_ ?_ ?_;rotate_left)|(refine CZ ?_ ?_<;>intro _)|refine Ox (s:=s) ?_|refine WU (s:=s) hb ?_|refine LQ (s:=s) (Ig ‹_›) hb ?_|refine Wq (a:=s.pos+1) AC AC ?_|refine Ad 5 [2,3] [2,3] ?_|refine Ad 5 [2,3] [2,3] ?_|fail)
 all_goals unfold GO at h
 all_goals first
  |(rw [if_pos ⟨FS,FS⟩] at h;exact Bm rfl h)
  |(rw [if_neg (λe=>absurd e.2 ‹_›),if_pos ⟨FS,FS⟩,if_pos (.inl (jm ‹_›))] at h;exact Bm rfl h)
  |(rw [if_neg (λe=>absurd e.2 ‹_›),if_pos ⟨FS,FS⟩,if_pos (.inr ‹_›)] at h;exact Bm rfl h)
  |(rw [if_neg (λe=>absurd e.2 ‹_›),if_pos ⟨FS,FS⟩,if_neg (λe=>e.elim (Ig ‹_›) (λe=>e ‹_›))] at h;exact Bm rfl h)
  |(rw [if_neg (λe=>absurd e.1 ‹_›),if_neg (λe=>absurd e.1 ‹_›)] at h;exact Bm rfl h)
  |(rw [if_neg (λe=>absurd e.2 ‹_›),if_neg (λe=>absurd e.2 ‹_›)] at h;exact Bm rfl h)
 all_goals trace_state
def GU (s:Al):Tk×Al×Int:=
 if s.DS=[] then (⟨21,[],0,0⟩,s,0) else if 0<Jc s then (⟨20,[],0,0⟩,E5 s,0) else (kT,s,90)
theorem qH (hb:s.DS.length<=500000000) (h:R (.ret (Yn (GU s))) st):PC 239 [Dz s] st R:=by
 refine pB Tryz.func239 ?_
 repeat' ((conv=>whnf);first|exact B1|(refine A1 ?_;intros)|(refine B2 ?_ ?_ ?_;rotate_left)|(refine CZ ?_ ?_<;>intro _)|refine Ox (s:=s) ?_|refine LQ (s:=s) (Ig ‹_›) hb ?_|refine Ad 5 [2,3] [1,2] ?_|refine Ad 5 [2,3] [1,2] ?_|fail)
 all_goals unfold GU at h
 all_goals first
  |(rw [if_pos (jm ‹_›)] at h;exact Bm rfl h)
  |(rw [if_neg (Ig ‹_›),if_pos ‹_›] at h;exact Bm rfl h)
  |(rw [if_neg (Ig ‹_›),if_neg ‹_›] at h;exact Bm rfl h)
 all_goals trace_state
end
end Go.Proofs.Z
namespace Go.Aw
noncomputable def Env.tS (env:Env) (ch:List (Nat×V)) (keep:List Nat) (U:List (Nat×List V)) (kb:List Nat):Env:=match env with
 |⟨ts,bs,n,sz,gl⟩=>⟨Env.ts ⟨ts,bs,n,sz,gl⟩ ch keep,U++Env.bx ⟨ts,bs,n,sz,gl⟩ kb,n,sz,gl⟩
theorem Gg {st:St} (f:α->List (Nat×V)) (keep:List Nat) (g:α->List (Nat×List V)) (kb:List Nat) (S:α->St) (J:α->Prop) (U:α->Nat) (x0:α) (h0:J x0)
 (he:(env.tS (f x0) keep (g x0) kb).Ek env) (hs:St.le (S x0) st)
 (hb:∀x,J x->ih (BF (λenv' st'=>∃y,J y/\U y<U x/\(env.tS (f y) keep (g y) kb).Ek env'/\St.le (S y) st') Q) (env.tS (f x) keep (g x) kb) (S x)):
 ∃(α:Type) (E:α->Env) (S:α->St) (J:α->Prop) (U:α->Nat) (x0:α),J x0/\(E x0).Ek env/\St.le (S x0) st/\
  ∀x,J x->ih (BF (λenv' st'=>∃y,J y/\U y<U x/\(E y).Ek env'/\St.le (S y) st') Q) (E x) (S x):=
 ⟨α,λk=>env.tS (f k) keep (g k) kb,S,J,U,x0,h0,he,hs,hb⟩
theorem Xn {T:List (Nat×Ty)} {C:FuncId->List V->St->(At->St->Prop)->Prop} {w:CW} {U:Nat->Option CW} {st:St}
 (h:w (aA (λl env' st'=>∃y:Nat,y=l/\False/\env.Ek env'/\St.le st st') Q) env st):O4 w U Q env st:=
 ⟨Nat,λy=>y,λ_=>env,λ_=>st,λ_=>False,λ_=>0,h,λx e=>e.elim⟩
end Go.Aw
namespace Go.Proofs.Z
open Go Go.Aw
def Gp:Nat->Al->Tk×Al×Int
 |0,s=>GU s
 |n+1,s=>match s.AV[s.pos.toNat]? with
  |none=>GU s
  |some t=>if t.kind=16/\s.wait<2 then ((Iy t s).1,(Iy t s).2,0)
   else if t.kind=16\/t.kind=17 then
    if (Fc t s).1.kind=0 then Gp n (Fc t s).2 else ((Fc t s).1,(Fc t s).2,0)
   else GO t s
def IM (s:Al):Tk×Al×Int:=Gp (s.AV.length - s.pos.toNat) s
def Ac (s:Al):Tk×Al×Int:=if T7 s then IM s else (kT,Ex,1)
theorem FB (h:(Fc t s).1.kind=0):(Fc t s).2={s with pos:=s.pos+1,wait:=0}:=by
 unfold Fc at h |-
 split
 .rename_i e;rw [if_pos e] at h;exact absurd h (by simp [ZH])
 grind
theorem du (h:¬s.pos<s.AV.length) (U:0<=s.pos):IM s=GU s:=by
 have:s.AV.length - s.pos.toNat=0:=AC
 rw [IM,this,Gp]
theorem Mr (h:s.AV[s.pos.toNat]? =some t) (h0:0<=s.pos):IM s=if t.kind=16/\s.wait<2 then ((Iy t s).1,(Iy t s).2,0)
 else if t.kind=16\/t.kind=17 then
  if (Fc t s).1.kind=0 then IM (Fc t s).2 else ((Fc t s).1,(Fc t s).2,0)
 else GO t s:=by
 obtain ⟨U,_⟩:=List.getElem?_eq_some_iff.1 h
 obtain ⟨n,hn⟩:∃n,s.AV.length - s.pos.toNat=n+1:=⟨s.AV.length - s.pos.toNat - 1,AC⟩
 rw [IM,hn,Gp,h]
 dsimp only
 split
 .rfl
 .split
  .split
   .rename_i e
    rw [IM,FB e]
    grind
   .rfl
  .rfl
section
variable {st:St} {R:At->St->Prop}
attribute [local irreducible] Go.Aw.Ag
theorem nS (hb:s.DS.length<=500000000) (h:R (.ret (Yn (Ac s))) st):PC 193 [Dz s] st R:=by
 refine pB Tryz.func193 ?_
 conv=>whnf
 refine Xn (T:=sG) (C:=A0 Tryz.prog) ?_
 unfold Ac at h
 repeat' ((conv=>whnf);first|exact B1|(refine A1 ?_;intros)|(refine B2 ?_ ?_ ?_;rotate_left)|(refine CZ ?_ ?_<;>intro _)|refine V6 (s:=s) ?_|refine Ad 5 [2,3] [1,2] ?_|refine Ad 5 [2,3] [1,2] ?_|fail)
 .rename_i e
  rw [e] at h
  have hm:=e
  unfold T7 at hm
  simp only [Bool.and_eq_true,decide_eq_true_eq] at hm
  refine Gg (α:=Al) (λx=>[]) [1,2,3,4] (λx=>[(0,x.cells)]) [1,2] (λ_=>st) (λx=>x.AV=s.AV/\x.DS=s.DS/\0<=x.pos/\x.pos<=x.AV.length/\IM x=IM s) (λx=>x.AV.length - x.pos.toNat) s ⟨rfl,rfl,AC,AC,rfl⟩ Yl (St.le_refl _) ?_
  rintro x ⟨x1,x2,x3,x4,x5⟩
  rw [<-x5] at h
  have U:x.DS.length<=500000000:=by rw [x2];exact hb
  repeat' ((conv=>whnf);first|exact B1|(refine A1 ?_;intros)|(refine B2 ?_ ?_ ?_;rotate_left)|(refine CZ ?_ ?_<;>intro _)|refine lZ (s:=x) ⟨AC,AC⟩ U ?_|refine ri (s:=x) ⟨AC,AC⟩ U ?_|refine l9 (s:=x) ⟨AC,AC⟩ U ?_|refine qH (s:=x) U ?_|refine Ad 5 [2,3] [1,2] ?_|refine Ad 5 [2,3] [1,2] ?_|fail)
  all_goals rw [if_pos rfl] at h
  all_goals first
   |(rw [Mr ‹_› x3,if_pos AC] at h;exact Bm rfl h)
   |(rw [Mr ‹_› x3,if_neg AC,if_pos AC,if_neg AC] at h;exact Bm rfl h)
   |(rw [Mr ‹_› x3,if_neg AC,if_neg AC] at h;exact Bm rfl h)
   |(rw [du AC x3] at h;exact Bm rfl h)
   |(have hz:(Fc ‹Tk› x).1.kind=0:=by assumption
     refine ⟨(Fc ‹Tk› x).2,?_,?_,Yl,St.le_refl _⟩
     .rw [FB hz]
      refine ⟨x1,x2,by show 0<=x.pos+1;omega,by show x.pos+1<=x.AV.length;omega,?_⟩
      rw [<-x5,Mr (s:=x) ‹_› x3,if_neg AC,if_pos AC,if_pos hz,FB hz]
     .rw [FB hz]
      show x.AV.length - (x.pos+1).toNat<_
      omega)
  all_goals trace_state
 .rename_i e
  rw [e] at h
  exact Bm rfl h
end
end Go.Proofs.Z
namespace Go.Aw
theorem St.Ai (st:St) (b:Nat) (cs:List V):(st.Aa b cs).box b=some cs:=by simp [St.Aa]
theorem St.set_set (st:St) (b:Nat) (cs cs':List V):(st.Aa b cs).Aa b cs'=st.Aa b cs':=by
 simp only [St.Aa,St.mk.injEq,and_true]
 simp_all
theorem St.MJ {st:St} (h:st.box b=some cs):st.Aa b cs=st:=by
 cases st with
 |mk box hw=>
  simp only [St.Aa,St.mk.injEq,and_true]
  grind
theorem Ah {st:St} {K:List V->Prop} (h:st.box b=some cs) (k:K cs):∃cs,st.box b=some cs/\K cs:=⟨cs,h,k⟩
end Go.Aw
namespace Go.Proofs.Z
open Go Go.Aw
def CF (s:Al):List V:=[.slice 4 (A4 s.AV) .any,.int .i64 s.pos,.slice 1 (ints s.DS) .any,.int .i64 s.wait,
 .int .i64 (Ac s).1.kind,.str (Ac s).1.text,.int .i64 (Ac s).1.line,.int .i64 (Ac s).1.Cp,
 .slice 4 (A4 (Ac s).2.1.AV) .any,.int .i64 (Ac s).2.1.pos,.slice 1 (ints (Ac s).2.1.DS) .any,.int .i64 (Ac s).2.1.wait,.int .i64 (Ac s).2.2,.bool true]
def VM (s:Al) (t:Tk) (u:Al) (o1 o2:AA) (e:Int):List V:=[.slice 4 (A4 s.AV) .any,.int .i64 s.pos,.slice 1 (ints s.DS) .any,.int .i64 s.wait,
 .int .i64 t.kind,.str t.text,.int .i64 t.line,.int .i64 t.Cp,.slice 4 (A4 u.AV) o1,.int .i64 u.pos,.slice 1 (ints u.DS) o2,.int .i64 u.wait,.int .i64 e,.bool false]
def Has (st:St) (b:Nat) (s:Al):Prop:=st.box b=some (CF s)\/∃t u o1 o2 e,st.box b=some (VM s t u o1 o2 e)
def Hf (st st':St) (b:Nat) (s:Al):Prop:=Has st' b s/\∃cs,st'=st.Aa b cs
theorem Hf.trans {st U st2:St} {s1 s2:Al} (h:Hf st U b s1) (k:Hf U st2 b s2):Hf st st2 b s2:=by
 obtain ⟨_,c1,e1⟩:=h
 obtain ⟨h2,c2,e2⟩:=k
 subst e1
 rw [St.set_set] at e2
 exact ⟨h2,c2,e2⟩
theorem AX {st:St}:Hf st (st.Aa b (CF s)) b s:=⟨.inl (St.Ai ..),_,rfl⟩
def fault (e:Int):V:=.iface 156 (.agg [.int .i64 e])
section
variable {st:St} {R:At->St->Prop}
attribute [local irreducible] Go.Aw.Ag
theorem gN {r r':At} {st':St} (e:r=r'.wk) (es:st'=st) (h:R r st):∃r2 U,(r2=r'\/r2=r'.wk)/\St.le U st'/\R r2 U:=by subst es;exact ⟨r,st',.inr e,St.le_refl _,h⟩
theorem iD (U:Has st b s) (hb:s.DS.length<=500000000) (h:R (.ret (.Bj [])) (st.Aa b (CF s))):PC 157 [.ptr b 0] st R:=by
 refine pB Tryz.func157 ?_
 rcases U with U|⟨t,u,o1,o2,e,U⟩
 .rw [St.MJ U] at h
  repeat' ((conv=>whnf);first|  refine Ah U ?_)
  all_goals exact fin h rfl
 .skip
  repeat' ((conv=>whnf);first|  refine Ah U ?_|refine Ah (St.Ai ..) ?_|refine nS (s:=s) hb ?_)
  all_goals exact gN rfl (by simp only [St.set_set];rfl) h
theorem Gj (U:Has st b s) (hb:s.DS.length<=500000000) (h:R (.ret (E7 (Ac s).1)) (st.Aa b (CF s))):PC 112 [.ptr b 0] st R:=by
 refine pB Tryz.func112 ?_
 repeat' ((conv=>whnf);first|  refine Ah (St.Ai ..) ?_|refine iD U hb ?_)
 all_goals exact Bm rfl h
theorem Cf {v:V} (h:R (.BK (fault e)) st):PC 108 [v,.int .i64 e] st R:=by
 refine pB Tryz.func108 ?_
 repeat' ((conv=>whnf);first|  fail)
 all_goals exact fin h rfl
def Tb (s:Al):Int:=if (Ac s).2.2=0 then 110 else (Ac s).2.2
theorem fo (U:Has st b s) (hb:s.DS.length<=500000000) (h:R (.BK (fault (Tb s))) (st.Aa b (CF s))):PC 113 [.ptr b 0] st R:=by
 refine pB Tryz.func113 ?_
 unfold Tb at h
 repeat' ((conv=>whnf);first|  (refine CZ ?_ ?_<;>intro _)|refine Ah (St.Ai ..) ?_|refine iD U hb ?_|refine Cf ?_)
 all_goals first
  |(rw [if_pos ‹_›] at h;exact fin h rfl)
  |(rw [if_neg ‹_›] at h;exact fin h rfl)
theorem mR (U:st.box b=some (CF s)) (h:∀st',Hf st st' b s'->R (.ret (.Bj [])) st'):PC 154 [.ptr b 0,Dz s'] st R:=by
 refine pB Tryz.func154 ?_
 have h:=h (st.Aa b (VM s' (Ac s).1 (Ac s).2.1 .any .any (Ac s).2.2)) ⟨.inr ⟨_,_,_,_,_,St.Ai ..⟩,_,rfl⟩
 repeat' ((conv=>whnf);first|  refine Ah U ?_|refine Ah (St.Ai ..) ?_)
 all_goals exact gN rfl (by simp only [St.set_set];rfl) h
theorem mQ {u:Al} {o1 o2:AA} (U:st.box b=some (VM s t u o1 o2 e)) (h:∀st',Hf st st' b s'->R (.ret (.Bj [])) st'):PC 154 [.ptr b 0,Dz s'] st R:=by
 refine pB Tryz.func154 ?_
 have h:=h (st.Aa b (VM s' t u o1 o2 e)) ⟨.inr ⟨_,_,_,_,_,St.Ai ..⟩,_,rfl⟩
 repeat' ((conv=>whnf);first|  refine Ah U ?_|refine Ah (St.Ai ..) ?_)
 all_goals exact gN rfl (by simp only [St.set_set];rfl) h
theorem mP (U:Has st b s) (h:∀st',Hf st st' b s'->R (.ret (.Bj [])) st'):PC 154 [.ptr b 0,Dz s'] st R:=by
 rcases U with U|⟨t,u,o1,o2,e,U⟩
 .exact mR U h
 .exact mQ U h
theorem UC (U:Has st b s) (hb:s.DS.length<=500000000) (h:(Ac s).2.2=0->∀st',Hf st st' b (Ac s).2.1->R (.ret (E7 (Ac s).1)) st')
 (k:¬(Ac s).2.2=0->R (.BK (fault (Ac s).2.2)) (st.Aa b (CF s))):PC 186 [.ptr b 0] st R:=by
 refine pB Tryz.func186 ?_
 repeat' ((conv=>whnf);first|  (refine CZ ?_ ?_<;>intro _)|refine Ah (St.Ai ..) ?_|refine Gj U hb ?_|refine Cf ?_|refine mP (s':=(Ac s).2.1) (.inl (St.Ai st b (CF s))) (λst' hu=>?_))
 .exact Bm rfl (h AC st' (AX.trans hu))
 .exact fin (k AC) rfl
def BJ (t:Tk):Nd:=.mk 1 t.kind t.text t.line t.Cp []
theorem re (h:R (.ret (enc (BJ t))) st):PC 185 [E7 t] st R:=by
 refine pB Tryz.func185 ?_
 repeat' ((conv=>whnf);first|  fail)
 all_goals exact Bm rfl h
def Bp (s:Al) (k:Int) (x:List UInt8):Bool:=(Ac s).1.kind==k&&(Ac s).1.text==x
theorem YF (U:Has st b s) (hb:s.DS.length<=500000000) (h:R (.ret (.bool (Bp s k x))) (st.Aa b (CF s))):PC 149 [.ptr b 0,.int .i64 k,.str x] st R:=by
 refine pB Tryz.func149 ?_
 repeat' ((conv=>whnf);first|  (refine CZ ?_ ?_<;>intro _)|refine Gj U hb ?_)
 all_goals (refine Au h ?_;clear h;simp_all [Bp])
theorem Ll (U:Has st b s) (hb:s.DS.length<=500000000) (h:(Ac s).2.2=0->∀st',Hf st st' b (Ac s).2.1->R (.ret (enc (BJ (Ac s).1))) st')
 (k:¬(Ac s).2.2=0->R (.BK (fault (Ac s).2.2)) (st.Aa b (CF s))):PC 150 [.ptr b 0] st R:=by
 refine pB Tryz.func150 ?_
 repeat' ((conv=>whnf);first|  refine UC U hb (λe st' hu=>?_) (λe=>?_)|refine re (t:=(Ac s).1) ?_)
 .exact Bm rfl (h e st' hu)
 .exact fin (k e) rfl
theorem lr (hs:Has st b s) (hb:s.DS.length<=500000000) (h:Bp s k x=true->(Ac s).2.2=0->∀st',Hf st st' b (Ac s).2.1->R (.ret (enc (BJ (Ac s).1))) st')
 (k1:Bp s k x=true->¬(Ac s).2.2=0->R (.BK (fault (Ac s).2.2)) (st.Aa b (CF s))) (k2:Bp s k x=false->R (.BK (fault (Tb s))) (st.Aa b (CF s))):PC 153 [.ptr b 0,.int .i64 k,.str x] st R:=by
 refine pB Tryz.func153 ?_
 have U:Has (st.Aa b (CF s)) b s:=.inl (St.Ai ..)
 repeat' ((conv=>whnf);first|  (refine CZ ?_ ?_<;>intro _)|refine YF hs hb ?_|refine Ll U hb (λe st' hu=>?_) (λe=>?_)|refine fo U hb ?_)
 .exact Bm rfl (h AC e st' (AX.trans hu))
 .exact gN rfl (by rw [St.set_set]) (k1 AC e)
 .exact gN rfl (by rw [St.set_set]) (k2 AC)
def PR (n:Nd) (s:Al) (e:Int):V:=.Bj [enc n,Dz s,.int .i64 e]
theorem Qo {d:Int} (hf:∀(st:St) (R:At->St->Prop),R (.ret (PR n s' e)) st->PC f [Dz s,.int .i64 d] st R) (U:Has st b s)
 (h:e=0->∀st',Hf st st' b s'->R (.ret (enc n)) st') (k:¬e=0->∀st',Hf st st' b s'->R (.BK (fault e)) st'):PC 110 [.ptr b 0,.func f [] [],.int .i64 d] st R:=by
 refine pB Tryz.func110 ?_
 rcases U with U|⟨t,u,o1,o2,e',U⟩
 .skip
  repeat' ((conv=>whnf);first|  (refine CZ ?_ ?_<;>intro _)|refine Ah U ?_|refine hf _ _ ?_|refine Cf ?_|refine mP (s':=s') (.inl U) (λst' hu=>?_))
  .exact Bm rfl (h AC st' hu)
  .exact fin (k AC st' hu) rfl
 .skip
  repeat' ((conv=>whnf);first|  (refine CZ ?_ ?_<;>intro _)|refine Ah U ?_|refine hf _ _ ?_|refine Cf ?_|refine mP (s':=s') (.inr ⟨t,u,o1,o2,e',U⟩) (λst' hu=>?_))
  .exact Bm rfl (h AC st' hu)
  .exact fin (k AC st' hu) rfl
end
end Go.Proofs.Z
namespace Go.Aw
open Go
section
variable {P:Program}
theorem Af {x y:Code} {st:St} (h:AW P x (BF (λenv st=>AW P y Q env st) Q) env st):AW P (.seq x y) Q env st:=λD I0 st0 w0 I β a w hr=>by
 refine wp_seq (wp_mono (h D I0 st0 w0 I β a w hr) ?_)
 rintro e a w ⟨I,β,env,st,ae,h1,U,h3⟩
 cases ae with
 |normal=>cases e<;>first|exact h3 D I0 st0 w0 I β a w h1|exact U.elim
 |exit i=>cases e<;>first|exact ⟨I,β,env,st,.exit i,h1,U,h3⟩|exact U.elim
 |goto i=>cases e<;>first|exact ⟨I,β,env,st,.goto i,h1,U,h3⟩|exact U.elim
 |ret=>cases e<;>first|exact ⟨I,β,env,st,.ret,h1,U,h3⟩|exact U.elim
 |BK v=>cases e<;>first|exact ⟨I,β,env,st,.BK v,h1,U,h3⟩|exact U.elim
theorem Ae (U:MZ P T) {c:Code} {st:St} (h:OM T (A0 P) c Q env st):AW P c Q env st:=
 M6 U (A2 P) (λ_ _ _ _ _ h k=>k.mono h) c h
def Ends (R:At->St->Prop) (r:At) (st:St):Prop:=∃r2 U,(r2=r\/r2=r.wk)/\St.le U st/\R r2 U
theorem A0.ends {st:St} (h:A0 P f args st (Ends R)):A0 P f args st R:=by
 refine ⟨λI w U hs ha=>(h.a I w U hs ha).mono ?_,h.b⟩
 rintro e w' ⟨I',st',r,k1,k2,k3,r2,st2,k4,k5,k6⟩
 have hr:Rel [] I st w I' (λ_=>none) {tmps:=[],boxes:=[],BG:=0,sz:=0,gl:=[]} st' {tmps:=#[],defers:=[]} w':=
  ⟨k1,k2,⟨rfl,λt v e=>(by cases e),λid cs e=>(by cases e),λid b e=>(by cases e),λi j b e=>(by cases e),λid b e=>(by cases e),rfl⟩⟩
 have hr':=hr.Gw k5
 refine ⟨I',st2,r2,hr'.fr,hr'.s,?_,k6⟩
 rcases k4 with rfl|rfl
 .exact k3
 .cases e with
  |returned c=>
   cases r with
   |ret v=>exact AH.wk k3
   |BK v=>exact k3.elim
  |panicked chain=>
   cases r with
   |ret v=>exact k3.elim
   |BK v=>
    obtain ⟨c,h1,h2⟩:=k3
    exact ⟨c,h1,AH.wk h2⟩
  |outgrown=>cases r<;>exact k3.elim
end
end Go.Aw
namespace Go.Proofs.Z
open Go Go.Aw
def OP:List (List Bool×Nat):=rI 8 [0,1,33,37,64,66,98,101,1057,192,195,227,229,1122,448,452,484,485,1251,960,997,1508,2022,4071]
def Z0:List (List Bool×Nat):=rI 10 [0,1,5,33,37,64,66,69,1024,1025,1030,98,101,1057,1062,192,195,197,1088,1090,1094,3072,3073,227,229,1122,1126,3105,448,452,453,1216,1219,1222,3136,3138,484,485,1251,1254,3170,960,965,1472,1476,1478,3264,3267,997,999,1508,1510,3299,1984,1990,3520,3524,2022,2023,5093,5096,3556,4032,4071,6118,6120,13285,8168,14310,16361]
section
variable {st:St} {R:At->St->Prop}
attribute [local irreducible] Go.Aw.Ag
def Kj:Nd:=.mk 0 0 [] 0 0 []
def Cz:List V:=[.int .i64 0,.int .i64 0,.str [],.int .i64 0,.int .i64 0,.slice 6 [] .full]
theorem PD {bp bn ba be:Nat} {U:St->Prop} (h:U st):GM Tryz.prog 107 [.ptr bp 0,.ptr bn 0,.ptr ba 0,.ptr be 0] none st U:=by
 refine E6 Ab [] Tryz.func107 rfl rfl rfl rfl rfl rfl rfl rfl (λenv0 he=>?_)
 subst he
 conv=>whnf
 refine Af (Ae Ab ?_)
 repeat' ((conv=>whnf);first|  fail)
 all_goals exact h
theorem St.Ak {st:St} (h:b≠c):(st.Aa b cs).box c=st.box c:=by simp [St.Aa,Ne.symm h]
noncomputable def fR:List Oper:=match Tryz.f107.body with|some (.seq _ (.seq _ (.seq _ (.seq _ (.region _ ops _)))))=>ops.toList|_=>[]
noncomputable def qB (bs:List Bool) (bp bn ba be U:Nat) (sc:List V) (e:Int):Env:=
 {tmps:=dE [(6,.bool true),(14,.bool true),(13,.agg [.int .i64 e]),(5,.B3 0 0),(4,fault e),(0,.ptr bp 0),(1,.ptr bn 0),(2,.ptr ba 0),(3,.ptr be 0)]
   fR
   [.agg Cz,.ptr U 0,.ptr U 0,.ptr U 0,.agg sc,.B3 0 0,.int .i64 e,.BD,.BD,.BD] bs,boxes:=[(0,[.int .i64 e])],BG:=1,sz:=25,gl:=[]}
def qD (st:St) (U ba be:Nat) (sc:List V) (e:Int) (bs:List Bool):St:=
 match bs[7]?,bs[8]?,bs[9]? with
 |_,_,some true=>((st.Aa U Cz).Aa ba sc).Aa be [.int .i64 e]
 |_,some true,_=>(st.Aa U Cz).Aa ba sc
 |some true,_,_=>st.Aa U Cz
 |_,_,_=>st
theorem Iz {bp bn U be br:Nat} {RS:St->Prop} (hp:st.box bp=some [.ptr br 0]) (hr:Has st br s) {n0:Nd} {s0:Al} {o1 o2 o3:AA} {e0:Int}
 (hn:st.box bn=some [.int .i64 n0.kind,.int .i64 n0.form,.str n0.text,.int .i64 n0.line,.int .i64 n0.Cp,.slice 6 (Cj n0.kids) o1])
 (ha:st.box U=some [.slice 4 (A4 s0.AV) o2,.int .i64 s0.pos,.slice 1 (ints s0.DS) o3,.int .i64 s0.wait]) (he:st.box be=some [.int .i64 e0])
 (d1:bn≠bp) (d2:bn≠br) (d3:bn≠U) (d4:bn≠be) (d5:U≠bp) (d6:U≠br) (d7:U≠be)
 (h:RS (((st.Aa bn Cz).Aa U s.cells).Aa be [.int .i64 e])):GM Tryz.prog 107 [.ptr bp 0,.ptr bn 0,.ptr U 0,.ptr be 0] (some (fault e)) st RS:=by
 refine E6 Ab [] Tryz.func107 rfl rfl rfl rfl rfl rfl rfl rfl (λenv0 he=>?_)
 subst he
 conv=>whnf
 refine Af (Ae Ab ?_)
 repeat' ((conv=>whnf);first|  fail)
 refine Af (Ae Ab ?_)
 repeat' ((conv=>whnf);first|  fail)
 refine Af (Ae Ab ?_)
 repeat' ((conv=>whnf);first|  fail)
 have ha':(st.Aa bn Cz).box U=some [.slice 4 (A4 s0.AV) o2,.int .i64 s0.pos,.slice 1 (ints s0.DS) o3,.int .i64 s0.wait]:=by rw [St.Ak d3];exact ha
 have he':((st.Aa bn Cz).Aa U s.cells).box be=some [.int .i64 e0]:=by rw [St.Ak d7,St.Ak d4];exact he
 refine KW Ab (A2 _) (λbs=>qB bs bp bn U be br s.cells e) (qD st bn U be s.cells e) Z0 GE Yl (St.le_refl _) ?_ h
 unfold Z0
 rcases hr with hr|⟨t,u,q1,q2,q3,hr⟩
 all_goals repeat' (first|refine List.forall_mem_cons.2 ⟨?_,?_⟩|exact λ_ h=>nomatch h)
 repeat' ((conv=>whnf);first|  refine Ah hp ?_|refine Ah hr ?_|refine Ah hn ?_|refine Ah ha' ?_|refine Ah he' ?_|fail)
 all_goals conv=>whnf
 all_goals (refine ⟨Yl,?_⟩)
 all_goals exact St.le_refl _
end
abbrev Rs:=Sum (Int×Al) (Nd×Al)
def Em (st:St) (b:Nat) (R:At->St->Prop):Rs->Prop
 | .inr (n,s')=>∀st',Hf st st' b s'->R (.ret (enc n)) st'
 | .inl (e,s')=>∀st',Hf st st' b s'->R (.BK (fault e)) st'
def Reads (f:FuncId) (s:Al) (d:Int) (q:Rs):Prop:=∀(b:Nat) (st:St) (R:At->St->Prop),Has st b s->Em st b R q->PC f [.ptr b 0,.int .i64 d] st R
def Ce (s:Al) (deep:Int) (q:Rs):Nd×Al×Int:=
 if deep<1 then (Kj,s,2) else match q with
  | .inr (n,s')=>(n,s',0)
  | .inl (e,s')=>(Kj,s',e)
def Jh (p:Nd×Al×Int):V:=PR p.1 p.2.1 p.2.2
section
variable {st:St} {R:At->St->Prop}
attribute [local irreducible] Go.Aw.Ag
theorem A6 {st:St} (h:(st.Aa b cs).fresh c):b≠c/\st.fresh c:=by
 by_cases e:b=c
 .subst e
  have:=h.1
  rw [St.Ai] at this
  cases this
 .refine ⟨e,?_,h.2⟩
  have:=h.1
  rw [St.Ak e] at this
  exact this
theorem IL {st:St} {K:Nat->Prop} (h:∀b,st.fresh b->K b):∀b,st.fresh b->K b:=h
theorem D7 {st:St} (h:st.box b=some cs):St.le st (st.Aa b cs):=by rw [St.MJ h];exact St.le_refl _
noncomputable def fG:List Oper:=match Tryz.f64.body with|some (.seq _ (.seq _ (.seq _ (.seq _ (.seq _ (.seq (.region _ ops _) _))))))=>ops.toList|_=>[]
noncomputable def fF (bs:List Bool) (b1 U b3 b4 b5:Nat) (nc sc:List V):Env:=
 {tmps:=dE [(6,.ptr b1 0),(7,.ptr U 0),(8,.ptr b3 0),(9,.ptr b5 0)] fG [.agg nc,.ptr b4 0,.ptr b4 0,.ptr b4 0,.agg sc,.BD,.BD,.BD] bs,boxes:=[],BG:=1,sz:=28,gl:=[6,7,8,9,12]}
def fH (st:St) (U b3:Nat) (sc:List V) (bs:List Bool):St:=
 match bs[6]?,bs[7]? with
 |_,some true=>(st.Aa U sc).Aa b3 [.int .i64 0]
 |some true,_=>st.Aa U sc
 |_,_=>st
theorem LO {q:Rs} (hq:¬deep<1->Reads f s (if 100<deep then 100 else deep) q) (h:R (.ret (Jh (Ce s deep q))) st):PC 64 [Dz s,.int .i64 deep,.func f [] []] st R:=by
 refine A0.ends (IV Ab [6,7,8,9,12] Tryz.func64 rfl Do rfl rfl rfl rfl rfl rfl ⟨_,Tryz.func107,rfl,Do⟩ rfl ?_)
 repeat' ((conv=>whnf);first|  (refine CZ ?_ ?_<;>intro _)|refine IL (λb5 f5=>?_)|refine Ah (St.Ai ..) ?_|fail)
 rename_i b1 f1 b2 f2 b3 f3 b4 f4
 obtain ⟨n12,f2a⟩:=A6 f2
 obtain ⟨n23,f3a⟩:=A6 f3
 obtain ⟨n13,f3b⟩:=A6 f3a
 obtain ⟨n34,f4a⟩:=A6 f4
 obtain ⟨n24,f4b⟩:=A6 f4a
 obtain ⟨n14,f4c⟩:=A6 f4b
 obtain ⟨n45,f5a⟩:=A6 f5
 obtain ⟨n35,f5b⟩:=A6 f5a
 obtain ⟨n25,f5c⟩:=A6 f5b
 obtain ⟨n15,f5d⟩:=A6 f5c
 conv=>whnf
 refine ⟨rfl,AL rfl ?_⟩
 generalize hst5:St.Aa _ b5 [V.ptr b4 0]=st5
 have k1:st5.box b1=some Cz:=by subst hst5;rw [St.Ak n15.symm,St.Ak n15.symm,St.Ak n14.symm,St.Ak n13.symm,St.Ak n12.symm,St.Ai];rfl
 have k2:st5.box b2=some [.slice 4 (A4 Ex.AV) .full,.int .i64 Ex.pos,.slice 1 (ints Ex.DS) .full,.int .i64 Ex.wait]:=by subst hst5;rw [St.Ak n25.symm,St.Ak n25.symm,St.Ak n24.symm,St.Ak n23.symm,St.Ai];rfl
 have k3:st5.box b3=some [.int .i64 0]:=by subst hst5;rw [St.Ak n35.symm,St.Ak n35.symm,St.Ak n34.symm,St.Ai]
 have k4:Has st5 b4 s:=by subst hst5;refine .inr ⟨kT,Ex,.full,.full,0,?_⟩;rw [St.Ak n45.symm,St.Ak n45.symm,St.Ai];rfl
 have k5:st5.box b5=some [.ptr b4 0]:=by subst hst5;rw [St.Ai]
 have kle:st.le st5:=by
  subst hst5
  exact St.Aj (St.Aj (St.Aj (St.Aj (St.Aj (St.Aj (St.le_refl _) f1.1 _) f2a.1 _) f3b.1 _) f4c.1 _) f5d.1 _) f5d.1 _
 have kpan:∀(U:St) (e:Int) (s':Al),Hf st5 U b4 s'->U.box b5=some [.ptr b4 0]/\U.box b1=some Cz/\U.box b2=some [.slice 4 (A4 Ex.AV) .full,.int .i64 Ex.pos,.slice 1 (ints Ex.DS) .full,.int .i64 Ex.wait]/\U.box b3=some [.int .i64 0]/\st.le U:=by
  rintro U e s' ⟨_,cs,rfl⟩
  exact ⟨by rw [St.Ak n45];exact k5,by rw [St.Ak n14.symm];exact k1,by rw [St.Ak n24.symm];exact k2,by rw [St.Ak n34.symm];exact k3,St.Aj kle f4c.1 _⟩
 clear hst5 f2 f3 f4 f5 f3a f4a f4b f5a f5b f5c
 refine Af (Ae Ab ?_)
 repeat' ((conv=>whnf);first|  (refine CZ ?_ ?_<;>intro _)|refine Ah k5 ?_|refine Cf ?_|fail)
 .refine Iz (n0:=Kj) (s0:=Ex) k5 k4 k1 k2 k3 n15 n14 n12 n13 n25 n24 n23 ?_
  have g1:(((st5.Aa b1 Cz).Aa b2 s.cells).Aa b3 [.int .i64 2]).box b1=some Cz:=by rw [St.Ak n13.symm,St.Ak n12.symm,St.Ai]
  have g2:(((st5.Aa b1 Cz).Aa b2 s.cells).Aa b3 [.int .i64 2]).box b2=some s.cells:=by rw [St.Ak n23.symm,St.Ai]
  have gl:st.le (((st5.Aa b1 Cz).Aa b2 s.cells).Aa b3 [.int .i64 2]):=St.Aj (St.Aj (St.Aj kle f1.1 _) f2a.1 _) f3b.1 _
  unfold Ce at h
  rw [if_pos ‹_›] at h
  repeat' ((conv=>whnf);first|  (refine CZ ?_ ?_<;>intro _)|refine Ah g1 ?_|refine Ah g2 ?_|refine Ah (St.Ai ..) ?_|fail)
  all_goals exact DK gl rfl h
 .rename_i hd
  unfold Ce at h
  rw [if_neg hd] at h
  have hq:=hq hd b4
  refine Af (Ae Ab ?_)
  cases q with
  |inl q=>
   obtain ⟨e,s'⟩:=q
   repeat' ((conv=>whnf);first|  (refine CZ ?_ ?_<;>intro _)|refine Ah k5 ?_|refine ⟨_,rfl,?_⟩|refine hq _ _ k4 (λU hu=>?_)|fail)
   obtain ⟨j5,j1,j2,j3,jle⟩:=kpan U e s' hu
   refine Iz (n0:=Kj) (s0:=Ex) j5 hu.1 j1 j2 j3 n15 n14 n12 n13 n25 n24 n23 ?_
   have g1:(((U.Aa b1 Cz).Aa b2 s'.cells).Aa b3 [.int .i64 e]).box b1=some Cz:=by rw [St.Ak n13.symm,St.Ak n12.symm,St.Ai]
   have g2:(((U.Aa b1 Cz).Aa b2 s'.cells).Aa b3 [.int .i64 e]).box b2=some s'.cells:=by rw [St.Ak n23.symm,St.Ai]
   have gl:st.le (((U.Aa b1 Cz).Aa b2 s'.cells).Aa b3 [.int .i64 e]):=St.Aj (St.Aj (St.Aj jle f1.1 _) f2a.1 _) f3b.1 _
   repeat' ((conv=>whnf);first|  (refine CZ ?_ ?_<;>intro _)|refine Ah g1 ?_|refine Ah g2 ?_|refine Ah (St.Ai ..) ?_|fail)
   all_goals exact DK gl rfl h
  |inr q=>
   obtain ⟨n,s'⟩:=q
   have kret:=λU hu=>kpan U 0 s' hu
   repeat' ((conv=>whnf);first|  (refine CZ ?_ ?_<;>intro _)|refine Ah k5 ?_|refine ⟨_,rfl,?_⟩|refine hq _ _ k4 (λU hu=>?_)|refine Ah (kret U hu).2.1 ?_|fail)
   obtain ⟨j5,j1,j2,j3,jle⟩:=kret U hu
   generalize hst7:U.Aa b1 (AB n)=st7
   have i1:st7.box b1=some (AB n):=by subst hst7;rw [St.Ai]
   have i5:st7.box b5=some [.ptr b4 0]:=by subst hst7;rw [St.Ak n15];exact j5
   have i2:st7.box b2=some [.slice 4 (A4 Ex.AV) .full,.int .i64 Ex.pos,.slice 1 (ints Ex.DS) .full,.int .i64 Ex.wait]:=by subst hst7;rw [St.Ak n12];exact j2
   have i3:(st7.Aa b2 s'.cells).box b3=some [.int .i64 0]:=by subst hst7;rw [St.Ak n23,St.Ak n13];exact j3
   have i4:Has st7 b4 s':=by
    subst hst7
    rcases hu.1 with e|⟨t,u,o1,o2,e',e⟩
    .exact .inl (by rw [St.Ak n14];exact e)
    .exact .inr ⟨t,u,o1,o2,e',by rw [St.Ak n14];exact e⟩
   have ile:st.le st7:=by subst hst7;exact St.Aj jle f1.1 _
   refine Af (KW Ab (A2 _) (λbs=>fF bs b1 b2 b3 b4 b5 (AB n) s'.cells) (fH st7 b2 b3 s'.cells) OP GE Yl (by rw [<-hst7];exact St.le_refl _) ?_ ?_)
   .skip
    unfold OP
    rcases i4 with i4|⟨t,u,q1,q2,q3,i4⟩
    all_goals repeat' (first|refine List.forall_mem_cons.2 ⟨?_,?_⟩|exact λ_ h=>nomatch h)
    repeat' ((conv=>whnf);first|  (refine CZ ?_ ?_<;>intro _)|refine Ah i5 ?_|refine Ah i1 ?_|refine Ah i4 ?_|refine Ah i2 ?_|refine Ah i3 ?_|fail)
    all_goals conv=>whnf
    all_goals (refine ⟨Yl,?_⟩)
    all_goals first|exact St.le_refl _|exact D7 i1
   .refine Ae Ab (PD (bp:=b5) ?_)
    have g1:((st7.Aa b2 s'.cells).Aa b3 [.int .i64 0]).box b1=some (AB n):=by rw [St.Ak n13.symm,St.Ak n12.symm];exact i1
    have g2:((st7.Aa b2 s'.cells).Aa b3 [.int .i64 0]).box b2=some s'.cells:=by rw [St.Ak n23.symm,St.Ai]
    have gl:st.le ((st7.Aa b2 s'.cells).Aa b3 [.int .i64 0]):=St.Aj (St.Aj ile f2a.1 _) f3b.1 _
    repeat' ((conv=>whnf);first|  (refine CZ ?_ ?_<;>intro _)|refine Ah g1 ?_|refine Ah g2 ?_|refine Ah (St.Ai ..) ?_|fail)
    all_goals exact DK gl rfl h
end
def mu (s:Al):Nat:=4*(s.AV.length - s.pos.toNat)+s.DS.length+(2 - s.wait.toNat)
theorem rG (s:Al):s.DS.length<=mu s:=by unfold mu;omega
theorem IA (h:s.DS≠[]):(E5 s).DS.length+1=s.DS.length:=by
 have:0<s.DS.length:=List.length_pos_iff.2 h
 simp only [E5,List.length_dropLast]
 omega
theorem Ya (h:s.AV[s.pos.toNat]? =some t):s.pos.toNat<s.AV.length:=(List.getElem?_eq_some_iff.1 h).1
theorem gz (h:(GU s).2.2=0):mu (GU s).2.1<=mu s/\((GU s).1.kind≠21->mu (GU s).2.1<mu s):=by
 unfold GU at h |-
 split
 .exact ⟨Nat.le_refl _,λe=>absurd rfl e⟩
 .split
  .rename_i U e2
   have:=IA U
   refine ⟨?_,λ_=>?_⟩<;>simp only [mu,E5] at* <;>omega
  .rename_i U e2
   rw [if_neg U,if_neg e2] at h
   cases h
theorem fu (h0:0<=s.pos) (h1:0<=s.wait) (h2:s.wait<2) (U:s.AV[s.pos.toNat]? =some t):mu (Iy t s).2<mu s:=by
 have:=Ya U
 unfold Iy
 split
 .rename_i e;simp only [mu];rw [e,show Int.toNat 2=2 from rfl,show Int.toNat 1=1 from rfl];omega
 .split
  .simp only [mu,Mu,List.length_append,List.length_singleton];omega
  .simp only [mu];omega
theorem nD (h0:0<=s.pos) (h2:s.wait<=2) (U:s.AV[s.pos.toNat]? =some t):mu (Fc t s).2<mu s:=by
 have:=Ya U
 unfold Fc
 split
 .rename_i e
  have:=IA (SS e.1)
  simp only [mu,E5] at *;omega
 .split<;>(simp only [mu];omega)
theorem fD (h0:0<=s.pos) (ht:s.AV[s.pos.toNat]? =some t) (h:(GO t s).2.2=0):mu (GO t s).2.1<mu s:=by
 have:=Ya ht
 unfold GO at h |-
 split
 .simp only [mu,Mu,List.length_append,List.length_singleton];omega
 .rename_i e1
  rw [if_neg e1] at h
  split
  .rename_i e2
   rw [if_pos e2] at h
   split
   .rename_i U;rw [if_pos U] at h;cases h
   .rename_i U
    have:=IA (s:=s) (λe=>U (.inl e))
    simp only [mu,E5] at *;omega
  .simp only [mu];omega
theorem Wd:∀(n:Nat) (s:Al),0<=s.pos->0<=s.wait->s.wait<=2->(Gp n s).2.2=0->mu (Gp n s).2.1<=mu s/\((Gp n s).1.kind≠21->mu (Gp n s).2.1<mu s)
 |0,s,h0,h1,h2,h=>gz h
 |n+1,s,h0,h1,h2,h=>by
  unfold Gp at h |-
  cases U:s.AV[s.pos.toNat]? with
  |none=>rw [U] at h;exact gz h
  |some t=>
   rw [U] at h
   dsimp only at h |-
   split
   .rename_i e
    have:=fu h0 h1 e.2 U
    exact ⟨Nat.le_of_lt this,λ_=>this⟩
   .rename_i e1
    rw [if_neg e1] at h
    have hl:=nD h0 h2 U
    split
    .rename_i e2
     rw [if_pos e2] at h
     split
     .rename_i e3
      rw [if_pos e3] at h
      have hz:=FB e3
      have:=Wd n (Fc t s).2 (by rw [hz];show 0<=s.pos+1;omega) (by rw [hz];exact Int.le_refl _) (by rw [hz];show (0:Int)<=2;decide) h
      exact ⟨AC,λe=>by omega⟩
     .exact ⟨Nat.le_of_lt hl,λ_=>hl⟩
    .rename_i e2
     rw [if_neg e2] at h
     have:=fD h0 U h
     exact ⟨Nat.le_of_lt this,λ_=>this⟩
theorem EC (h:(Ac s).2.2=0):mu (Ac s).2.1<=mu s/\((Ac s).1.kind≠21->mu (Ac s).2.1<mu s):=by
 unfold Ac at h |-
 cases U:T7 s with
 |false=>rw [U] at h;cases h
 |true=>
  rw [U,if_pos rfl] at h
  rw [if_pos rfl]
  unfold T7 at U
  simp only [Bool.and_eq_true,decide_eq_true_eq] at U
  exact Wd _ s AC AC AC h
theorem ah (h:¬(GU s).2.2=0):(GU s).1=kT:=by
 unfold GU at h |-
 split
 .rename_i e;rw [if_pos e] at h;exact absurd rfl h
 .rename_i e;rw [if_neg e] at h
  split
  .rename_i e;rw [if_pos e] at h;exact absurd rfl h
  .rfl
theorem cm (h:¬(GO t s).2.2=0):(GO t s).1=kT:=by
 unfold GO at h |-
 split
 .rename_i e;rw [if_pos e] at h;exact absurd rfl h
 .rename_i e;rw [if_neg e] at h
  split
  .rename_i e;rw [if_pos e] at h
   split
   .rfl
   .rename_i e;rw [if_neg e] at h;exact absurd rfl h
  .rename_i e;rw [if_neg e] at h;exact absurd rfl h
theorem Sz:∀(n:Nat) (s:Al),¬(Gp n s).2.2=0->(Gp n s).1=kT
 |0,s,h=>ah h
 |n+1,s,h=>by
  unfold Gp at h |-
  cases U:s.AV[s.pos.toNat]? with
  |none=>rw [U] at h;exact ah h
  |some t=>
   rw [U] at h
   dsimp only at h |-
   split
   .rename_i e;rw [if_pos e] at h;exact absurd rfl h
   .rename_i e;rw [if_neg e] at h
    split
    .rename_i e;rw [if_pos e] at h
     split
     .rename_i e;rw [if_pos e] at h;exact Sz n _ h
     .rename_i e;rw [if_neg e] at h;exact absurd rfl h
    .rename_i e;rw [if_neg e] at h;exact cm h
theorem We (h:¬(Ac s).2.2=0):(Ac s).1=kT:=by
 unfold Ac at h |-
 cases U:T7 s with
 |false=>rfl
 |true=>rw [U,if_pos rfl] at h;rw [if_pos rfl];exact Sz _ _ h
theorem GX (h:Bp s k x=true) (U:k≠0):(Ac s).2.2=0:=by
 apply Classical.byContradiction
 intro e
 unfold Bp at h
 rw [We e] at h
 simp only [kT,Bool.and_eq_true,beq_iff_eq] at h
 exact U h.1.symm
theorem Eh (h:Bp s k x=true) (hk:k≠0) (U:k≠21):mu (Ac s).2.1<mu s:=by
 refine (EC (GX h hk)).2 λe=>?_
 unfold Bp at h
 simp only [Bool.and_eq_true,beq_iff_eq] at h
 exact U (h.1.symm.trans e)
abbrev Ls:=Sum (Int×Al) (List Nd×Al)
def CQ (s:Al):Rs:=if (Ac s).2.2=0 then .inr (BJ (Ac s).1,(Ac s).2.1) else .inl ((Ac s).2.2,s)
def bX (s:Al):Rs:=.inl (Tb s,s)
def KQ (s:Al) (k:Int) (x:List UInt8):Rs:=if Bp s k x then CQ s else bX s
def DO (t:Tk):Bool:=t.kind==2||t.kind==4||t.kind==1||(t.kind==15&&(t.text==[40]||t.text==[91]))
def Az (k:Int) (l:List Nd):Nd:=.mk k 0 [] 0 0 l
def Gl (A:Al->Rs) (l:List Nd) (s:Al):Ls:=
 if DO (Ac s).1 then match A s with
  | .inl e=>.inl e
  | .inr p=>if mu p.2<mu s then Gl A (l++[p.1]) p.2 else .inl (2,s)
 else .inr (l,s)
termination_by mu s
def Gm (A:Al->Rs) (s:Al):Rs:=
 match A s with
 | .inl e=>.inl e
 | .inr p=>match Gl A [p.1] p.2 with
   | .inl e=>.inl e
   | .inr q=>if q.1.length=1 then .inr (p.1,q.2) else .inr (Az 39 q.1,q.2)
def GN (A:Al->Rs) (l:List Nd) (s:Al):Ls:=
 if Bp s 10 [45,62] then match Gm A (Ac s).2.1 with
  | .inl e=>.inl e
  | .inr p=>if mu p.2<mu s then GN A (l++[BJ (Ac s).1,p.1]) p.2 else .inl (2,s)
 else .inr (l,s)
termination_by mu s
def DL (A:Al->Rs) (n:Nd) (s:Al):Rs:=
 match GN A [n] s with
 | .inl e=>.inl e
 | .inr q=>if q.1.length=1 then .inr (n,q.2) else .inr (Az 37 q.1,q.2)
def D2 (A:Al->Rs) (s:Al):Rs:=
 match Gm A s with
 | .inl e=>.inl e
 | .inr p=>DL A p.1 p.2
def Gn (A:Al->Rs) (s:Al):Rs:=
 match Gm A s with
 | .inl e=>.inl e
 | .inr p=>if Bp p.2 10 [61,62] then match D2 A (Ac p.2).2.1 with
    | .inl e=>.inl e
    | .inr q=>.inr (Az 38 [p.1,BJ (Ac p.2).1,q.1],q.2)
   else DL A p.1 p.2
def CC (Y:Al->Rs) (l:List Nd) (s:Al):Ls:=
 if Bp s 15 [44] then match Y (Ac s).2.1 with
  | .inl e=>.inl e
  | .inr p=>if mu p.2<mu s then CC Y (l++[BJ (Ac s).1,p.1]) p.2 else .inl (2,s)
 else .inr (l,s)
termination_by mu s
def Dn (l:List Nd) (s:Al):List Nd×Al:=
 if Bp s 15 [44] then if mu (Ac s).2.1<mu s then Dn (l++[BJ (Ac s).1]) (Ac s).2.1 else (l,s) else (l,s)
termination_by mu s
def H3 (k:Int) (l:List Nd) (s:Al) (x:List UInt8):Rs:=match KQ s 15 x with
 | .inl e=>.inl e
 | .inr p=>.inr (Az k (l++[p.1]),p.2)
def Gk (Y:Al->Rs) (s:Al):Rs:=
 match CQ s with
 | .inl e=>.inl e
 | .inr p=>
   if Bp p.2 10 [45,62] then H3 3 [p.1,BJ (Ac p.2).1] (Ac p.2).2.1 [41]
   else if Bp p.2 15 [41] then H3 3 [p.1] p.2 [41]
   else if Bp p.2 15 [44] then H3 3 (Dn [p.1] p.2).1 (Dn [p.1] p.2).2 [41]
   else match Y p.2 with
    | .inl e=>.inl e
    | .inr q=>match CC Y [p.1,q.1] q.2 with
      | .inl e=>.inl e
      | .inr r=>H3 (if 2<r.1.length then 5 else 4) r.1 r.2 [41]
def EF (Y:Al->Rs) (s:Al):Rs:=
 match CQ s with
 | .inl e=>.inl e
 | .inr p=>
   if Bp p.2 15 [93] then .inr (Az 3 [p.1,BJ (Ac p.2).1],(Ac p.2).2.1)
   else match Y p.2 with
    | .inl e=>.inl e
    | .inr q=>H3 6 [p.1,q.1] q.2 [93]
def Dj (Y:Al->Rs) (s:Al):Rs:=
 if DO (Ac s).1 then if (Ac s).1.kind=15 then if (Ac s).1.text=[40] then Gk Y s else EF Y s else CQ s else bX s
def Dk:Nat->Al->Rs
 |0,s=>.inl (2,s)
 |d+1,s=>D2 (Dj (Dk d)) s
def El (A:Al->Rs):Prop:=∀s e s',A s=.inl (e,s')->e≠0
def A7 (A:Al->Rs):Prop:=∀s n s',A s=.inr (n,s')->mu s'<mu s
theorem Tc (s:Al):Tb s≠0:=by
 unfold Tb
 omega
theorem HU:El CQ:=λs e s' h=>by
 unfold CQ at h
 grind
theorem U7:El bX:=λs e s' h=>by unfold bX at h;cases h;exact Tc s
theorem bY:El (λs=>KQ s k x):=λs e s' h=>by
 unfold KQ at h
 dsimp only at h
 split at h
 .exact HU _ _ _ h
 .exact U7 _ _ _ h
theorem Jq:El (λs=>H3 k l s x):=λs e s' h=>by
 unfold H3 at h
 dsimp only at h
 split at h
 .rename_i U hw
  cases h
  exact bY _ _ _ hw
 grind
theorem jS {A:Al->Rs} (hA:El A) (l:List Nd) (s:Al):∀e s',Gl A l s=.inl (e,s')->e≠0:=by
 fun_induction Gl A l s with
 |case1 l s U e1 h2=>intro e s' h;cases h;exact hA _ _ _ h2
 |case2 l s U p h2 h3 ih=>exact ih
 |case3 l s U p h2 h3=>simp_all
 |case4 l s U=>simp_all
theorem LC {A:Al->Rs} (hA:El A):El (Gm A):=λs e s' h=>by
 unfold Gm at h
 split at h
 .rename_i U;cases h;exact hA _ _ _ U
 .split at h
  .rename_i U;cases h;exact jS hA _ _ _ _ U
  grind
theorem fj {A:Al->Rs} (hA:El A) (l:List Nd) (s:Al):∀e s',GN A l s=.inl (e,s')->e≠0:=by
 fun_induction GN A l s with
 |case1 l s U e1 h2=>intro e s' h;cases h;exact LC hA _ _ _ h2
 |case2 l s U p h2 h3 ih=>exact ih
 |case3 l s U p h2 h3=>simp_all
 |case4 l s U=>simp_all
theorem N2 {A:Al->Rs} (hA:El A):El (DL A n):=λs e s' h=>by
 unfold DL at h
 split at h
 .rename_i U;cases h;exact fj hA _ _ _ _ U
 grind
theorem KX {A:Al->Rs} (U:El A):El (D2 A):=λs e s' h=>by
 unfold D2 at h
 split at h
 .rename_i h1;cases h;exact LC U _ _ _ h1
 .exact N2 U _ _ _ h
theorem Sc {A:Al->Rs} (hA:El A):El (Gn A):=λs e s' h=>by
 unfold Gn at h
 split at h
 .rename_i U;cases h;exact LC hA _ _ _ U
 .split at h
  .split at h
   .rename_i U;cases h;exact KX hA _ _ _ U
   grind
  .exact N2 hA _ _ _ h
theorem ZF {Y:Al->Rs} (hY:El Y) (l:List Nd) (s:Al):∀e s',CC Y l s=.inl (e,s')->e≠0:=by
 fun_induction CC Y l s with
 |case1 l s U e1 h2=>intro e s' h;cases h;exact hY _ _ _ h2
 |case2 l s U p h2 h3 ih=>exact ih
 |case3 l s U p h2 h3=>simp_all
 |case4 l s U=>simp_all
theorem Yc {Y:Al->Rs} (hY:El Y):El (Gk Y):=λs e s' h=>by
 unfold Gk at h
 split at h
 .rename_i U;cases h;exact HU _ _ _ U
 .split at h
  .exact Jq _ _ _ h
  .split at h
   .exact Jq _ _ _ h
   .split at h
    .exact Jq _ _ _ h
    .split at h
     .rename_i U;cases h;exact hY _ _ _ U
     .split at h
      .rename_i U;cases h;exact ZF hY _ _ _ _ U
      .exact Jq _ _ _ h
theorem U8 {Y:Al->Rs} (hY:El Y):El (EF Y):=λs e s' h=>by
 unfold EF at h
 split at h
 .rename_i U;cases h;exact HU _ _ _ U
 .split at h
  .cases h
  .split at h
   .rename_i U;cases h;exact hY _ _ _ U
   .exact Jq _ _ _ h
theorem GF {Y:Al->Rs} (U:El Y):El (Dj Y):=λs e s' h=>by
 unfold Dj at h
 split at h
 .split at h
  .split at h
   .exact Yc U _ _ _ h
   .exact U8 U _ _ _ h
  .exact HU _ _ _ h
 .exact U7 _ _ _ h
theorem EP:∀d,El (Dk d)
 |0=>λs e s' h=>by cases h;decide
 |d+1=>KX (GF (EP d))
theorem O9 (h:CQ s=.inr (n,s')):mu s'<=mu s/\((Ac s).1.kind≠21->mu s'<mu s):=by
 unfold CQ at h
 split at h
 .rename_i e;cases h;exact EC e
 grind
theorem o9 (hk:k≠0) (U:k≠21) (h:KQ s k x=.inr (n,s')):mu s'<mu s:=by
 unfold KQ at h
 split at h
 .rename_i e
  unfold CQ at h
  rw [if_pos (GX e hk)] at h
  cases h
  exact Eh e hk U
 .cases h
theorem Qd (h:H3 k l s x=.inr (n,s')):mu s'<mu s:=by
 unfold H3 at h
 split at h
 .cases h
 .rename_i U;cases h;exact o9 Do Do U
theorem NO (U:DO (Ac s).1=true) (h:CQ s=.inr (n,s')):mu s'<mu s:=by
 refine (O9 h).2 λe=>?_
 unfold DO at U
 simp_all
theorem ou {A:Al->Rs} (l:List Nd) (s:Al):∀q s',Gl A l s=.inr (q,s')->mu s'<=mu s:=by
 fun_induction Gl A l s with
 |case1 l s U e1 h2=>simp_all
 |case2 l s U p h2 h3 ih=>grind
 |case3 l s U p h2 h3=>simp_all
 |case4 l s U=>simp_all
theorem ET {A:Al->Rs} (hA:A7 A):A7 (Gm A):=λs n s' h=>by
 unfold Gm at h
 split at h
 .cases h
 .rename_i U
  have:=hA _ _ _ U
  split at h
  .cases h
  .rename_i h2
   have:=ou _ _ _ _ h2
   grind
theorem lQ {A:Al->Rs} (l:List Nd) (s:Al):∀q s',GN A l s=.inr (q,s')->mu s'<=mu s:=by
 fun_induction GN A l s with
 |case1 l s U e1 h2=>simp_all
 |case2 l s U p h2 h3 ih=>grind
 |case3 l s U p h2 h3=>simp_all
 |case4 l s U=>simp_all
theorem R9 {A:Al->Rs} {m:Nd} (h:DL A n s=.inr (m,s')):mu s'<=mu s:=by
 unfold DL at h
 split at h
 .cases h
 .rename_i U
  have:=lQ _ _ _ _ U
  grind
theorem FZ {A:Al->Rs} (hA:A7 A):A7 (D2 A):=λs n s' h=>by
 unfold D2 at h
 split at h
 .cases h
 .rename_i U
  have:=ET hA _ _ _ U
  have:=R9 h
  omega
theorem SX {Y:Al->Rs} (l:List Nd) (s:Al):∀q s',CC Y l s=.inr (q,s')->mu s'<=mu s:=by
 fun_induction CC Y l s with
 |case1 l s U e1 h2=>simp_all
 |case2 l s U p h2 h3 ih=>grind
 |case3 l s U p h2 h3=>simp_all
 |case4 l s U=>simp_all
theorem cq (l:List Nd) (s:Al):mu (Dn l s).2<=mu s:=by
 fun_induction Dn l s with
 |case1 l s U h2 ih=>omega
 |case2 l s U h2=>simp_all
 |case3 l s U=>simp_all
theorem jP {Y:Al->Rs} (hY:A7 Y) (hs:DO (Ac s).1=true) (h:Gk Y s=.inr (n,s')):mu s'<mu s:=by
 unfold Gk at h
 split at h
 .cases h
 .rename_i h1
  have:=NO hs h1
  split at h
  .rename_i U
   have:=Eh U Do Do
   have:=Qd h
   omega
  .split at h
   .have:=Qd h;omega
   .split at h
    .have:=Qd h
     have:=cq [‹Nd×Al›.1] ‹Nd×Al›.2
     omega
    .split at h
     .cases h
     .rename_i U
      have:=hY _ _ _ U
      split at h
      .cases h
      .rename_i h3
       have:=SX _ _ _ _ h3
       have:=Qd h
       omega
theorem dZ {Y:Al->Rs} (hY:A7 Y) (hs:DO (Ac s).1=true) (h:EF Y s=.inr (n,s')):mu s'<mu s:=by
 unfold EF at h
 split at h
 .cases h
 .rename_i h1
  have:=NO hs h1
  split at h
  .rename_i U
   have:=Eh U Do Do
   grind
  .split at h
   .cases h
   .rename_i U
    have:=hY _ _ _ U
    have:=Qd h
    omega
theorem BC {Y:Al->Rs} (hY:A7 Y):A7 (Dj Y):=λs n s' h=>by
 unfold Dj at h
 split at h
 .rename_i U
  split at h
  .split at h
   .exact jP hY U h
   .exact dZ hY U h
  .exact NO U h
 .cases h
theorem Bv:∀d,A7 (Dk d)
 |0=>λs n s' h=>by cases h
 |d+1=>FZ (BC (Bv d))
theorem DE {st:St} {q:Rs} (h:∀n s',q=.inr (n,s')->∀st',Hf st st' b s'->K (.ret (enc n)) st') (k:∀e s',q=.inl (e,s')->∀st',Hf st st' b s'->K (.BK (fault e)) st'):Em st b K q:=by
 match q with
 | .inr (n,s')=>exact h n s' rfl
 | .inl (e,s')=>exact k e s' rfl
theorem Has.hw {st:St} (h:Has st b s) (own:AA) (n:Nat):Has (own.st st n) b s:=by
 cases own with
 |any=>exact h
 |full=>exact h
 |tok t=>exact h
theorem bM {own:AA} {st st':St} {n:Nat} (hg:own.Bw st) (hh:Has st b s) (hu:Hf (own.st st n) st' b s'):∃U,st'=own.st U n/\Hf st U b s'/\own.Bw U:=by
 obtain ⟨h1,cs,e⟩:=hu
 cases own with
 |any=>exact hg.elim
 |full=>exact ⟨st',rfl,⟨h1,cs,e⟩,trivial⟩
 |tok t=>
  refine ⟨st.Aa b cs,e,⟨?_,cs,rfl⟩,?_,?_⟩
  .rw [e] at h1;exact h1
  .have:b≠t:=by
    rintro rfl
    have h2:st.box b=none:=hg.1
    rcases hh with k|⟨_,_,_,_,_,k⟩<;>(rw [h2] at k;cases k)
   rw [St.Ak this];exact hg.1
  .exact hg.2
def eW (own:AA) (n:Nat) (st:St) (b:Nat) (R:At->St->Prop):Rs->Prop
 | .inr (x,s')=>∀st',Hf st st' b s'->own.Bw st'->R (.ret (enc x)) (own.st st' n)
 | .inl (e,s')=>∀st',Hf st st' b s'->own.Bw st'->R (.BK (fault e)) (own.st st' n)
theorem EY {own:AA} {n:Nat} {st:St} {q:Rs} (hg:own.Bw st) (hh:Has st b s) (h:eW own n st b R q):Em (own.st st n) b R q:=by
 refine DE (λx s' e st' hu=>?_) (λx s' e st' hu=>?_)
 .obtain ⟨U,rfl,h2,h3⟩:=bM hg hh hu
  subst e
  exact h U h2 h3
 .obtain ⟨U,rfl,h2,h3⟩:=bM hg hh hu
  subst e
  exact h U h2 h3
section
variable {st:St} {R:At->St->Prop}
attribute [local irreducible] Go.Aw.Ag
theorem Xz (h:R (.ret (.bool (DO t))) st):PC 391 [E7 t] st R:=by
 refine pB Tryz.func391 ?_
 repeat' ((conv=>whnf);first|  (refine CZ ?_ ?_<;>intro _)|fail)
 all_goals conv=>whnf
 all_goals (refine Au h ?_;clear h;simp_all [DO])
def C2 (f:FuncId) (d:Int) (A:Al->Rs):Prop:=∀s,mu s<=100000000->Reads f s d (A s)
theorem EK (h:mu s<=100000000):s.DS.length<=500000000:=by have:=rG s;omega
theorem Fk (U:Has st b s) (hb:s.DS.length<=500000000) (h:Em st b R (CQ s)):PC 150 [.ptr b 0] st R:=by
 unfold CQ at h
 refine Ll U hb (λe=>?_) (λe=>?_)
 .rw [if_pos e] at h;exact h
 .rw [if_neg e] at h;exact h _ AX
theorem sQ (U:Has st b s) (hb:s.DS.length<=500000000) (h:∀st',Hf st st' b s->R (.BK (fault (Tb s))) st'):PC 113 [.ptr b 0] st R:=fo U hb (h _ AX)
theorem RI (hs:Has st b s) (hb:s.DS.length<=500000000) (h:Em st b R (KQ s k x)):PC 153 [.ptr b 0,.int .i64 k,.str x] st R:=by
 unfold KQ CQ at h
 refine lr hs hb (λU e2=>?_) (λU e2=>?_) (λU=>?_)
 .rw [if_pos U,if_pos e2] at h;exact h
 .rw [if_pos U,if_neg e2] at h;exact h _ AX
 .rw [if_neg (by rw [U];decide)] at h;exact h _ AX
theorem qu {d:Int} {Y:Al->Rs} (hr:C2 410 d (Gk Y)) (hsq:C2 411 d (EF Y)):C2 390 d (Dj Y):=by
 intro s hm b st R hs h
 refine pB Tryz.func390 ?_
 have hb:=EK hm
 have hl:Has (st.Aa b (CF s)) b s:=.inl (St.Ai ..)
 unfold Dj at h
 repeat' ((conv=>whnf);first|  (refine CZ ?_ ?_<;>intro _)|refine Gj hs hb ?_|refine Xz ?_|refine Fk hl hb (DE (λn s' hq st' U=>?_) (λe s' hq st' U=>?_))|refine sQ hl hb (λst' U=>?_)|refine hr s hm b _ _ hl (DE (λn s' hq st' U=>?_) (λe s' hq st' U=>?_))|refine hsq s hm b _ _ hl (DE (λn s' hq st' U=>?_) (λe s' hq st' U=>?_)))
 all_goals repeat (first|rw [if_pos ‹_›] at h|rw [if_neg ‹_›] at h|rw [if_neg (Bool.eq_false_iff.1 ‹_›)] at h)
 all_goals first
  |exact fin (h st' (AX.trans U)) rfl
  |(rw [hq] at h;exact Bm rfl (h st' (AX.trans U)))
  |(rw [hq] at h;exact fin (h st' (AX.trans U)) rfl)
 all_goals trace_state
end
theorem R8 {new:List Nd} {own:AA} {st:St} {K:V->St->Prop} (h:own.Bw st) (hb:l.length+new.length<=1000000000)
 (k:∀U:AA,U.Bw st->K (.slice 6 (Cj (l++new)) U) (U.st st ((l++new).length*6))):Ag 6 72 (Cj l) own (Cj new) (own.st st (l.length*6)) K:=by
 have hw:(Cj new).map (·.map V.Jl)=Cj new:=by
  rw [BI,List.map_map]
  refine List.map_congr_left λx _=>?_
  rfl
 have hsc:((Cj new).all λv=>v.all V.sc)=true:=by
  rw [BI,List.all_map,List.all_eq_true]
  intro x _
  rfl
 have:=E2 (sz:=6) (bytes:=72) (es:=Cj l) (new:=Cj new) (K:=K) h (by rw [CE,CE];omega) (by rw [CE,CE];simp only [C9];omega) hsc (λU ho=>by
  have:=k U ho
  rw [CE,CE,hw,<-Vr,<-List.length_append]
  omega)
 rw [CE] at this
 omega
theorem M3 {x:Nd} {own:AA} {st:St} {K:V->St->Prop} (h:own.Bw st) (hb:l.length+1<=1000000000)
 (k:∀U:AA,U.Bw st->K (.slice 6 (Cj (l++[x])) U) (U.st st ((l++[x]).length*6))):Ag 6 72 (Cj l) own [AB x] (own.st st (l.length*6)) K:=by
 have:=R8 (l:=l) (new:=[x]) h hb k
 rw [BI [x]] at this
 grind
theorem ZS {x:Nd} {own:AA} {st:St} {K:V->St->Prop} (h:own.Bw st) (hb:l.length+1<=1000000000)
 (k:∀U:AA,U.Bw st->K (.slice 6 (Cj (l++[x])) U) (U.st st ((l++[x]).length*6))):Ag 6 72 (l.map AB) own [AB x] (own.st st (l.length*6)) K:=by
 rw [<-BI]
 exact M3 h hb k
theorem SE {K:Int->Prop} (h:d<=1000000) (k:K (d:Int)):∃r,r=IntKind.i64.wrap (((d+1:Nat):Int) - 1)/\K r:=by
 refine ⟨d,?_,k⟩
 rw [show ((d+1:Nat):Int) - 1=(d:Int) by omega,Ky AC AC]
section
variable {st:St} {R:At->St->Prop}
attribute [local irreducible] Go.Aw.Ag
theorem UN {q:Rs} {x:Int} (e:q=.inl (x,s')) (h:∀st',Hf st st' b s'->K (.BK (fault x)) st'):Em st b K q:=by subst e;exact h
theorem FK {own:AA} {st:St} {q:Rs} (h:∀n s',q=.inr (n,s')->∀st',Hf st st' b s'->own.Bw st'->K (.ret (enc n)) (own.st st' m)) (k:∀e s',q=.inl (e,s')->∀st',Hf st st' b s'->own.Bw st'->K (.BK (fault e)) (own.st st' m)):eW own m st b K q:=by
 match q with
 | .inr (n,s')=>exact h n s' rfl
 | .inl (e,s')=>exact k e s' rfl
theorem GA {q:Rs} {x:Nd} (e:q=.inr (x,s')) (h:∀st',Hf st st' b s'->K (.ret (enc x)) st'):Em st b K q:=by subst e;exact h
def C1 (f:FuncId) (d:Int) (A:Al->Rs):Prop:=∀s,mu s<=100000000->∀(st:St) (R:At->St->Prop),R (.ret (Jh (Ce s d (A s)))) st->PC f [Dz s,.int .i64 d] st R
theorem qU {A:Al->Rs} (hf:C1 f d A) (h0:d=0->∀s,A s=.inl (2,s)) (hA:El A) (hm:mu s<=100000000) (hs:Has st b s) (h:Em st b R (A s)):
 PC 110 [.ptr b 0,.func f [] [],.int .i64 d] st R:=by
 by_cases hd:(d:Int)<1
 .have hz:d=0:=AC
  rw [h0 hz s] at h
  refine Qo (n:=Kj) (s':=s) (e:=2) (λst R k=>hf s hm st R ?_) hs (λe=>by cases e) (λ_=>h)
  unfold Ce;rw [if_pos hd];exact k
 .cases U:A s with
  |inr p=>
   rw [U] at h
   refine Qo (n:=p.1) (s':=p.2) (e:=0) (λst R k=>hf s hm st R ?_) hs (λ_=>h) (λe=>absurd rfl e)
   unfold Ce;rw [if_neg hd,U];exact k
  |inl p=>
   rw [U] at h
   have hne:=hA s p.1 p.2 U
   refine Qo (n:=Kj) (s':=p.2) (e:=p.1) (λst R k=>hf s hm st R ?_) hs (λe=>absurd e hne) (λ_=>h)
   unfold Ce;rw [if_neg hd,U];exact k
theorem Qp {x:Int} {A:Al->Rs} (hx:x=(d:Int)) (hf:C1 f d A) (U:d=0->∀s,A s=.inl (2,s)) (hA:El A) (hm:mu s<=100000000) (hs:Has st b s) (h:Em st b R (A s)):
 PC 110 [.ptr b 0,.func f [] [],.int .i64 x] st R:=by subst hx;exact qU hf U hA hm hs h
theorem kE (hd:d<=1000000) {Y:Al->Rs} (hY:C1 318 d Y) (h0:d=0->∀s,Y s=.inl (2,s)) (hB:El Y) (hF:A7 Y):C2 411 ((d+1:Nat):Int) (EF Y):=by
 intro s hm b st R hs h
 refine pB Tryz.func411 ?_
 have hb:=EK hm
 unfold EF at h
 cases U:CQ s with
 |inl q=>
  rw [U] at h
  obtain ⟨e,s'⟩:=q
  repeat' ((conv=>whnf);first|(refine A1 ?_;intros)|(refine CZ ?_ ?_<;>intro _)|refine Fk hs hb (UN U (λst1 h1=>?_)))
  all_goals exact fin (h st1 h1) rfl
 |inr q=>
  obtain ⟨n1,s1⟩:=q
  rw [U] at h
  have hm1:mu s1<=100000000:=by have:=(O9 U).1;omega
  have hb1:=EK hm1
  repeat' ((conv=>whnf);first|(refine A1 ?_;intros)|(refine CZ ?_ ?_<;>intro _)|refine Fk hs hb (GA U (λst1 h1=>?_))|refine YF h1.1 hb1 ?_)
  .have hp:Bp s1 15 [93]=true:=FS
   have hl1:Has (st1.Aa b (CF s1)) b s1:=.inl (St.Ai ..)
   have hq2:CQ s1=.inr (BJ (Ac s1).1,(Ac s1).2.1):=by unfold CQ;rw [if_pos (GX hp Do)]
   dsimp only at h
   rw [if_pos hp] at h
   have hn1:[n1].length+1<=1000000000:=by show 1+1<=1000000000;decide
   repeat' ((conv=>whnf);first|(refine A1 ?_;intros)|(refine CZ ?_ ?_<;>intro _)|refine Fk hl1 hb1 (GA hq2 (λst2 h2=>?_))|refine ZS (l:=[n1]) (x:=BJ (Ac s1).1) (own:=.full) trivial hn1 (λown1 ho1=>?_))
   all_goals exact DK (AA.Bi ho1) rfl (h st2 (h1.trans (AX.trans h2)))
  .have hp:Bp s1 15 [93]=false:=FS
   have hl1:Has (st1.Aa b (CF s1)) b s1:=.inl (St.Ai ..)
   dsimp only at h
   rw [if_neg kw] at h
   have hn1:[n1].length+1<=1000000000:=by show 1+1<=1000000000;decide
   have hn2:∀n2:Nd,([n1]++[n2]).length+1<=1000000000:=λ_=>by simp_all
   repeat' ((conv=>whnf);first|(refine A1 ?_;intros)|(refine CZ ?_ ?_<;>intro _)|refine Qp AC hY h0 hB hm1 hl1 (DE (λn2 s2 hq2 st2 h2=>?_) (λe2 s2 hq2 st2 h2=>?_))|refine ZS (l:=[n1]) (x:=n2) (own:=.full) trivial hn1 (λown1 ho1=>?_)|refine RI (h2.1.hw own1 _) (EK (Nat.le_trans (Nat.le_of_lt (hF _ _ _ hq2)) hm1)) (EY ho1 h2.1 (FK (λn3 s3 hq3 st3 h3 hg3=>?_) (λe3 s3 hq3 st3 h3 hg3=>?_)))|refine M3 (l:=[n1]++[n2]) (x:=n3) hg3 (hn2 n2) (λown2 ho2=>?_))
   all_goals rw [hq2] at h
   .unfold H3 at h
    dsimp only at h
    rw [hq3] at h
    exact DK (AA.Bi ho2) rfl (h st3 (((h1.trans AX).trans h2).trans h3))
   .unfold H3 at h
    dsimp only at h
    rw [hq3] at h
    exact DK (AA.Bi hg3) rfl (h st3 (((h1.trans AX).trans h2).trans h3))
   .exact fin (h st2 ((h1.trans AX).trans h2)) rfl
end
theorem N1 {x:Nd} {own:AA} {st:St} {K:V->St->Prop} (h:own.Bw st) (hb:l.length+1<=1000000000)
 (k:∀U:AA,U.Bw st->K (.slice 6 ((l++[x]).map AB) U) (U.st st ((l++[x]).length*6))):Ag 6 72 (l.map AB) own [AB x] (own.st st (l.length*6)) K:=by
 rw [<-BI]
 exact M3 h hb (by simpa only [BI] using k)
theorem BV {own:AA}:At.ret (enc (Az k l))=(At.ret (.agg [.int .i64 k,.int .i64 0,.str [],.int .i64 0,.int .i64 0,.slice 6 (l.map AB) own])).wk:=by
 rw [<-BI];rfl
theorem ot {A:Al->Rs} (h:DO (Ac s).1=true) (U:A s=.inr (n,s')) (hm:mu s'<mu s):Gl A l s=Gl A (l++[n]) s':=by
 rw [Gl,if_pos h,U]
 dsimp only
 rw [if_pos hm]
section
variable {st:St} {R:At->St->Prop}
attribute [local irreducible] Go.Aw.Ag
theorem B5 {K:Nat->Prop} (k:l.length<4611686018427387904->K l.length):∀m,m=(l.map AB).length->m<C9->K m:=λm U h=>by
 rw [List.length_map] at U;subst U;exact k h
theorem aU {own:AA} {st:St} {n:Nat}:(own.st st n).Aa b cs=own.st (st.Aa b cs) n:=by cases own<;>rfl
theorem rH {own:AA} {n:Nat} (hg:own.Bw st) (U:Has st b s) (hb:s.DS.length<=500000000) (h:R (.ret (E7 (Ac s).1)) (own.st (st.Aa b (CF s)) n)):PC 112 [.ptr b 0] (own.st st n) R:=
 Gj (U.hw own n) hb (by rw [aU];exact h)
theorem H7 {own:AA} (U:own.Bw st) (hs:Has st b s):own.Bw (st.Aa b cs):=by
 cases own with
 |any=>exact U
 |full=>trivial
 |tok t=>
  have:b≠t:=by
   rintro rfl
   have h2:st.box b=none:=U.1
   rcases hs with k|⟨_,_,_,_,_,k⟩<;>(rw [h2] at k;cases k)
  exact ⟨by rw [St.Ak this];exact U.1,U.2⟩
theorem rF {n1:Nd} {K:List V->Prop} (h:l.length=Int.toNat 1) (j:l.length=1->l=[n1]) (k:K (AB n1)):(0:Int)<=0/\∃e,(l.map AB)[Int.toNat 0]? =some e/\K e:=
 ⟨Int.le_refl _,AB n1,by rw [j h];rfl,k⟩
theorem sd {d:Int} {A:Al->Rs} (ha:C2 390 d A) (hF:A7 A):C2 357 d (Gm A):=by
 intro s hm b st R hs h
 refine pB Tryz.func357 ?_
 unfold Gm at h
 cases U:A s with
 |inl q=>
  obtain ⟨e,s1⟩:=q
  rw [U] at h
  repeat' ((conv=>whnf);first|  (refine CZ ?_ ?_<;>intro _)|refine ha s hm b _ _ hs (UN U (λst1 h1=>?_)))
  all_goals exact fin (h st1 h1) rfl
 |inr q=>
  obtain ⟨n1,s1⟩:=q
  rw [U] at h
  have hf1:=hF _ _ _ U
  dsimp only at h
  repeat' ((conv=>whnf);first|  (refine CZ ?_ ?_<;>intro _)|refine ha s hm b _ _ hs (GA U (λst1 h1=>?_)))
  refine Gg (α:=List Nd×Al×St×AA) (λx=>[(5,.slice 6 (x.1.map AB) x.2.2.2)]) [0,1,4] (λx=>[]) [0] (λx=>x.2.2.2.st x.2.2.1 (x.1.length*6))
   (λx=>x.2.2.2.Bw x.2.2.1/\Hf st x.2.2.1 b x.2.1/\x.1≠[]/\x.1.length+mu x.2.1<=200000000/\mu x.2.1<=mu s1/\Gl A x.1 x.2.1=Gl A [n1] s1/\(x.1.length=1->x.1=[n1])) (λx=>mu x.2.1) ([n1],s1,st1,.full)
   ⟨trivial,h1,GT,by show 1+mu s1<=_;omega,Nat.le_refl _,rfl,λ_=>rfl⟩ Yl (St.le_refl _) ?_
  rintro ⟨l,s2,st2,own⟩ ⟨j1,j2,j3,j4,j5,j6,j7⟩
  dsimp only at j1 j2 j3 j4 j5 j6 j7
  have hm2:mu s2<=100000000:=AC
  have hb2:=EK hm2
  have hl3:Has (st2.Aa b (CF s2)) b s2:=.inl (St.Ai ..)
  have g3:own.Bw (st2.Aa b (CF s2)):=H7 j1 j2.1
  have u3:Hf st (st2.Aa b (CF s2)) b s2:=j2.trans AX
  have hn:l.length+1<=1000000000:=AC
  repeat' ((conv=>whnf);first|  (refine CZ ?_ ?_<;>intro _)|refine rH j1 j2.1 hb2 ?_|refine Xz ?_|refine ha s2 hm2 b _ _ (hl3.hw own _) (EY g3 hl3 (FK (λn2 s4 hq2 st4 h4 g4=>?_) (λe2 s4 hq2 st4 h4 g4=>?_)))|refine N1 (l:=l) g4 hn (λown' ho'=>?_)|refine B5 (λ_=>?_)|refine rF ‹_› j7 ?_)
  .have hd:=hF _ _ _ hq2
   refine ⟨(l++[n2],s4,st4,own'),⟨ho',u3.trans h4,GT,by show (l++[n2]).length+mu s4<=_;rw [List.length_append,List.length_singleton];omega,by show mu s4<=_;omega,?_,?_⟩,hd,Yl,St.le_refl _⟩
   .show Gl A (l++[n2]) s4=_
    rw [<-j6,ot (l:=l) ‹_› hq2 hd]
   .intro e
    have:=List.length_pos_iff.2 j3
    have e:(l++[n2]).length=1:=e
    rw [List.length_append,List.length_singleton] at e
    omega
  .have hr:Gl A l s2=.inl (e2,s4):=by rw [Gl,if_pos ‹_›,hq2]
   rw [<-j6,hr] at h
   exact DK (AA.Bi g4) rfl (h st4 (u3.trans h4))
  .have hr:Gl A l s2=.inr (l,s2):=by rw [Gl,if_neg (Bool.eq_false_iff.1 ‹_›)]
   rw [<-j6,hr] at h
   dsimp only at h
   rw [if_pos ‹_›] at h
   exact DK (AA.Bi g3) rfl (h _ u3)
  .have hr:Gl A l s2=.inr (l,s2):=by rw [Gl,if_neg (Bool.eq_false_iff.1 ‹_›)]
   rw [<-j6,hr] at h
   dsimp only at h
   rw [if_neg ‹_›] at h
   exact DK (AA.Bi g3) BV (h _ u3)
end
theorem ff {x y:Nd} {own:AA} {st:St} {K:V->St->Prop} (h:own.Bw st) (hb:l.length+2<=1000000000)
 (k:∀U:AA,U.Bw st->K (.slice 6 ((l++[x,y]).map AB) U) (U.st st ((l++[x,y]).length*6))):Ag 6 72 (l.map AB) own [AB x,AB y] (own.st st (l.length*6)) K:=by
 rw [<-BI]
 have:=R8 (l:=l) (new:=[x,y]) h hb (by simpa only [BI] using k)
 rw [BI [x,y]] at this
 grind
theorem lP {A:Al->Rs} (h:Bp s 10 [45,62]=true) (U:Gm A (Ac s).2.1=.inr (n,s')) (hm:mu s'<mu s):GN A l s=GN A (l++[BJ (Ac s).1,n]) s':=by
 rw [GN,if_pos h,U]
 simp_all
theorem Jb (h:Bp s k x=true) (U:k≠0):CQ s=.inr (BJ (Ac s).1,(Ac s).2.1):=by unfold CQ;rw [if_pos (GX h U)]
section
variable {st:St} {R:At->St->Prop}
attribute [local irreducible] Go.Aw.Ag
theorem qW {own:AA} {n:Nat} (U:Has st b s) (hb:s.DS.length<=500000000) (h:R (.ret (.bool (Bp s k x))) (own.st (st.Aa b (CF s)) n)):PC 149 [.ptr b 0,.int .i64 k,.str x] (own.st st n) R:=
 YF (U.hw own n) hb (by rw [aU];exact h)
theorem Rw {own:AA} {n:Nat} {st:St} {q:Rs} {x:Nd} (U:own.Bw st) (hh:Has st b s) (e:q=.inr (x,s')) (h:∀st',Hf st st' b s'->own.Bw st'->R (.ret (enc x)) (own.st st' n)):Em (own.st st n) b R q:=
 EY U hh (by subst e;exact h)
def X1 (f:FuncId) (d:Int) (A:Nd->Al->Rs):Prop:=∀n s,mu s<=100000000->∀(b:Nat) (st:St) (R:At->St->Prop),Has st b s->Em st b R (A n s)->PC f [.ptr b 0,enc n,.int .i64 d] st R
theorem U4 {d:Int} {A:Al->Rs} (hr:C2 357 d (Gm A)) (hF:A7 A):X1 392 d (DL A):=by
 intro n1 s1 hm b st R hs h
 refine pB Tryz.func392 ?_
 unfold DL at h
 repeat' ((conv=>whnf);first|  (refine CZ ?_ ?_<;>intro _)|fail)
 refine Gg (α:=List Nd×Al×St×AA) (λx=>[(7,.slice 6 (x.1.map AB) x.2.2.2)]) [0,2,4,6] (λx=>[]) [0,1] (λx=>x.2.2.2.st x.2.2.1 (x.1.length*6))
  (λx=>x.2.2.2.Bw x.2.2.1/\Has x.2.2.1 b x.2.1/\(∃s0,Hf st x.2.2.1 b s0\/x.2.2.1=st)/\x.1≠[]/\x.1.length+2*mu x.2.1<=400000000/\mu x.2.1<=mu s1/\GN A x.1 x.2.1=GN A [n1] s1) (λx=>mu x.2.1) ([n1],s1,st,.full)
  ⟨trivial,hs,⟨s1,.inr rfl⟩,GT,by grind,Nat.le_refl _,rfl⟩ Yl (St.le_refl _) ?_
 rintro ⟨l,s2,U,own⟩ ⟨j1,j2,j3,j4,j5,j6,j7⟩
 dsimp only at j1 j2 j3 j4 j5 j6 j7
 have hm2:mu s2<=100000000:=AC
 have hb2:=EK hm2
 have hl3:Has (U.Aa b (CF s2)) b s2:=.inl (St.Ai ..)
 have g3:own.Bw (U.Aa b (CF s2)):=H7 j1 j2
 have up:∀{st4 s4},Hf U st4 b s4->Hf st st4 b s4:=λ{st4 s4} hu=>by
  obtain ⟨s0,h3|h3⟩:=j3
  .exact h3.trans hu
  simp_all
 have hn:l.length+2<=1000000000:=AC
 have hm4:Bp s2 10 [45,62]=true->mu (Ac s2).2.1<=100000000:=λe=>by have:=Eh e Do Do;omega
 repeat' ((conv=>whnf);first|  (refine CZ ?_ ?_<;>intro _)|refine qW j2 hb2 ?_|refine Fk (hl3.hw own _) hb2 (Rw g3 hl3 (Jb ‹_› Do) (λst4 h4 g4=>?_))|refine hr _ (hm4 ‹_›) b _ _ (h4.1.hw own _) (EY g4 h4.1 (FK (λn2 s5 hq2 st5 h5 g5=>?_) (λe2 s5 hq2 st5 h5 g5=>?_)))|refine ff (l:=l) (x:=BJ (Ac s2).1) (y:=n2) g5 hn (λown' ho'=>?_)|refine B5 (λ_=>?_))
 .have hp:Bp s2 10 [45,62]=true:=FS
  have hd:=ET hF _ _ _ hq2
  have hd2:=Eh hp Do Do
  have hd3:mu s5<mu s2:=AC
  have hu:=(AX (st:=U) (b:=b) (s:=s2)).trans (h4.trans h5)
  refine ⟨(l++[BJ (Ac s2).1,n2],s5,st5,own'),⟨ho',h5.1,⟨s5,.inl (up hu)⟩,GT,?_,by grind,?_⟩,hd3,Yl,St.le_refl _⟩
  .grind
  .show GN A (l++[BJ (Ac s2).1,n2]) s5=_
   rw [<-j7,lP (l:=l) hp hq2 hd3]
 .have hp:Bp s2 10 [45,62]=true:=FS
  have hu:=(AX (st:=U) (b:=b) (s:=s2)).trans (h4.trans h5)
  have hr:GN A l s2=.inl (e2,s5):=by rw [GN,if_pos hp,hq2]
  rw [<-j7,hr] at h
  exact DK (AA.Bi g5) rfl (h st5 (up hu))
 .have hr:GN A l s2=.inr (l,s2):=by rw [GN,if_neg (Bool.eq_false_iff.1 AC)]
  rw [<-j7,hr] at h
  dsimp only at h
  rw [if_pos (by grind)] at h
  exact DK (AA.Bi g3) rfl (h _ (up AX))
 .have hr:GN A l s2=.inr (l,s2):=by rw [GN,if_neg (Bool.eq_false_iff.1 AC)]
  rw [<-j7,hr] at h
  dsimp only at h
  rw [if_neg (by grind)] at h
  exact DK (AA.Bi g3) BV (h _ (up AX))
theorem pb {d:Int} {A:Al->Rs} (hr:C2 357 d (Gm A)) (ha:X1 392 d (DL A)) (hF:A7 A):C2 358 d (D2 A):=by
 intro s hm b st R hs h
 refine pB Tryz.func358 ?_
 unfold D2 at h
 have hm1:∀{n1 s1},Gm A s=.inr (n1,s1)->mu s1<=100000000:=λe=>by have:=ET hF _ _ _ e;omega
 repeat' ((conv=>whnf);first|  refine hr s hm b _ _ hs (DE (λn1 s1 U st1 h1=>?_) (λe1 s1 U st1 h1=>?_))|refine ha n1 s1 (hm1 U) b _ _ h1.1 (DE (λn2 s2 hq2 st2 h2=>?_) (λe2 s2 hq2 st2 h2=>?_)))
 all_goals rw [U] at h
 all_goals dsimp only at h
 .rw [hq2] at h;exact Bm rfl (h st2 (h1.trans h2))
 .rw [hq2] at h;exact fin (h st2 (h1.trans h2)) rfl
 .exact fin (h st1 h1) rfl
end
section
variable {st:St} {R:At->St->Prop}
attribute [local irreducible] Go.Aw.Ag
theorem ZE {A:Al->Rs} (U:¬deep<1->C2 358 (if 100<deep then 100 else deep) A):C1 318 deep A:=by
 intro s hm st R h
 refine pB Tryz.func318 ?_
 repeat' ((conv=>whnf);first|  refine LO (s:=s) (q:=A s) (λhd=>U hd s hm) ?_)
 all_goals exact Bm rfl h
theorem lT {A:Al->Rs} (U:¬deep<1->C2 390 (if 100<deep then 100 else deep) A):C1 412 deep A:=by
 intro s hm st R h
 refine pB Tryz.func412 ?_
 repeat' ((conv=>whnf);first|  refine LO (s:=s) (q:=A s) (λhd=>U hd s hm) ?_)
 all_goals exact Bm rfl h
theorem rZ {A:Al->Rs} (U:¬deep<1->C2 357 (if 100<deep then 100 else deep) A):C1 317 deep A:=by
 intro s hm st R h
 refine pB Tryz.func317 ?_
 repeat' ((conv=>whnf);first|  refine LO (s:=s) (q:=A s) (λhd=>U hd s hm) ?_)
 all_goals exact Bm rfl h
theorem mK {A:Al->Rs} (U:¬deep<1->C2 366 (if 100<deep then 100 else deep) A):C1 329 deep A:=by
 intro s hm st R h
 refine pB Tryz.func329 ?_
 repeat' ((conv=>whnf);first|  refine LO (s:=s) (q:=A s) (λhd=>U hd s hm) ?_)
 all_goals exact Bm rfl h
end
def Lm (Y:Al->Rs) (n:Nd) (s:Al):Ls:=match Y s with
 | .inl e=>.inl e
 | .inr q=>CC Y [n,q.1] q.2
def eV (st:St) (b:Nat) (R:At->St->Prop):Ls->Prop
 | .inr (l,s')=>∀st' U,Hf st st' b s'->U.Bw st'->R (.ret (.slice 6 (l.map AB) U)) (U.st st' (l.length*6))
 | .inl (e,s')=>∀st',Hf st st' b s'->R (.BK (fault e)) st'
theorem eH {Y:Al->Rs} (h:Bp s 15 [44]=true) (U:Y (Ac s).2.1=.inr (n,s')) (hm:mu s'<mu s):CC Y l s=CC Y (l++[BJ (Ac s).1,n]) s':=by
 rw [CC,if_pos h,U]
 dsimp only
 rw [if_pos hm]
section
variable {st:St} {R:At->St->Prop}
attribute [local irreducible] Go.Aw.Ag
theorem oY {Y:Al->Rs} (hY:C1 318 d Y) (h0:d=0->∀s,Y s=.inl (2,s)) (hB:El Y) (hF:A7 Y) {n1:Nd} {x:Int} (hx:x=(d:Int)) (hm:mu s<=100000000) (hs:Has st b s) (h:eV st b R (Lm Y n1 s)):
 PC 422 [.ptr b 0,.slice 6 [AB n1] .full,.int .i64 x] st R:=by
 refine pB Tryz.func422 ?_
 unfold Lm at h
 have hn1:[n1].length+1<=1000000000:=by show 1+1<=1000000000;decide
 repeat' ((conv=>whnf);first|  (refine CZ ?_ ?_<;>intro _)|refine Qp hx hY h0 hB hm hs (DE (λn2 s2 U st2 h2=>?_) (λe2 s2 U st2 h2=>?_))|refine N1 (l:=[n1]) (x:=n2) (own:=.full) trivial hn1 (λown1 ho1=>?_))
 .rw [U] at h
  have hd2:=hF _ _ _ U
  dsimp only at h
  refine Gg (α:=List Nd×Al×St×AA) (λx=>[(1,.slice 6 (x.1.map AB) x.2.2.2)]) [0,2,6] (λx=>[]) [] (λx=>x.2.2.2.st x.2.2.1 (x.1.length*6))
   (λx=>x.2.2.2.Bw x.2.2.1/\Hf st x.2.2.1 b x.2.1/\x.1.length+2*mu x.2.1<=400000000/\mu x.2.1<=mu s/\CC Y x.1 x.2.1=CC Y [n1,n2] s2) (λx=>mu x.2.1) ([n1]++[n2],s2,st2,own1)
   ⟨ho1,h2,by show 2+2*mu s2<=_;omega,by show mu s2<=_;omega,rfl⟩ Yl (St.le_refl _) ?_
  rintro ⟨l,s3,st3,own⟩ ⟨j1,j2,j5,j6,j7⟩
  dsimp only at j1 j2 j5 j6 j7
  have hm3:mu s3<=100000000:=AC
  have hb3:=EK hm3
  have hl3:Has (st3.Aa b (CF s3)) b s3:=.inl (St.Ai ..)
  have g3:own.Bw (st3.Aa b (CF s3)):=H7 j1 j2.1
  have hn:l.length+2<=1000000000:=AC
  have hm4:Bp s3 15 [44]=true->mu (Ac s3).2.1<=100000000:=λe=>by have:=Eh e Do Do;omega
  repeat' ((conv=>whnf);first|  (refine CZ ?_ ?_<;>intro _)|refine qW j2.1 hb3 ?_|refine Fk (hl3.hw own _) hb3 (Rw g3 hl3 (Jb ‹_› Do) (λst4 h4 g4=>?_))|refine Qp hx hY h0 hB (hm4 ‹_›) (h4.1.hw own _) (EY g4 h4.1 (FK (λn5 s5 hq5 st5 h5 g5=>?_) (λe5 s5 hq5 st5 h5 g5=>?_)))|refine ff (l:=l) (x:=BJ (Ac s3).1) (y:=n5) g5 hn (λown' ho'=>?_))
  all_goals conv=>whnf
  .have hp:Bp s3 15 [44]=true:=FS
   have hd:=hF _ _ _ hq5
   have hd3:=Eh hp Do Do
   have hd4:mu s5<mu s3:=AC
   have hu:=(AX (st:=st3) (b:=b) (s:=s3)).trans (h4.trans h5)
   refine ⟨(l++[BJ (Ac s3).1,n5],s5,st5,own'),⟨ho',j2.trans hu,?_,by show mu s5<=_;omega,?_⟩,hd4,Yl,St.le_refl _⟩
   .show (l++[BJ (Ac s3).1,n5]).length+2*mu s5<=_
    rw [List.length_append]
    show l.length+2+2*mu s5<=_
    omega
   .show CC Y (l++[BJ (Ac s3).1,n5]) s5=_
    rw [<-j7,eH (l:=l) hp hq5 hd4]
  .have hp:Bp s3 15 [44]=true:=FS
   have hu:=(AX (st:=st3) (b:=b) (s:=s3)).trans (h4.trans h5)
   have hr:CC Y l s3=.inl (e5,s5):=by rw [CC,if_pos hp,hq5]
   rw [<-j7,hr] at h
   exact DK (AA.Bi g5) rfl (h st5 (j2.trans hu))
  .have hr:CC Y l s3=.inr (l,s3):=by rw [CC,if_neg (Bool.eq_false_iff.1 ‹_›)]
   rw [<-j7,hr] at h
   exact fin (h _ own (j2.trans AX) g3) rfl
 .rw [U] at h
  exact fin (h st2 h2) rfl
end
section
variable {st:St} {R:At->St->Prop}
attribute [local irreducible] Go.Aw.Ag
theorem qX (e:Bp s k x=true) (U:Has st b s) (hb:s.DS.length<=500000000) (h:R (.ret (.bool true)) (st.Aa b (CF s))):PC 149 [.ptr b 0,.int .i64 k,.str x] st R:=YF U hb kw
theorem cS (e:Bp s k x=false) (U:Has st b s) (hb:s.DS.length<=500000000) (h:R (.ret (.bool false)) (st.Aa b (CF s))):PC 149 [.ptr b 0,.int .i64 k,.str x] st R:=YF U hb kw
theorem Eu {st:St}:Has (st.Aa b (CF s)) b s:=.inl (St.Ai ..)
theorem cp (h:Bp s 15 [44]=true):Dn l s=Dn (l++[BJ (Ac s).1]) (Ac s).2.1:=by
 rw [Dn,if_pos h,if_pos (Eh h Do Do)]
theorem Yg (h:Bp s 15 [44]=false):Dn l s=(l,s):=by
 rw [Dn,if_neg kw]
theorem ZG {Y:Al->Rs} (l:List Nd) (s:Al):∀q s',CC Y l s=.inr (q,s')->q.length+2*mu s'<=l.length+2*mu s:=by
 fun_induction CC Y l s with
 |case1 l s U e1 h2=>simp_all
 |case2 l s U p h2 h3 ih=>
  grind
 |case3 l s U p h2 h3=>simp_all
 |case4 l s U=>simp_all
theorem eI {Y:Al->Rs} (hF:A7 Y) (h:Lm Y n s=.inr (l,s')):mu s'<=mu s/\l.length<=2+2*mu s:=by
 unfold Lm at h
 split at h
 .cases h
 .rename_i U
  have h2:=hF _ _ _ U
  have h3:=SX _ _ _ _ h
  have h4:=ZG _ _ _ _ h
  grind
theorem eu {st:St} {q:Ls} (h:∀l s',q=.inr (l,s')->∀st' U,Hf st st' b s'->U.Bw st'->K (.ret (.slice 6 (l.map AB) U)) (U.st st' (l.length*6)))
 (k:∀e s',q=.inl (e,s')->∀st',Hf st st' b s'->K (.BK (fault e)) st'):eV st b K q:=by
 match q with
 | .inr (l,s')=>exact h l s' rfl
 | .inl (e,s')=>exact k e s' rfl
theorem oq {x:Int} (hx:x=((d+1:Nat):Int)) (hd:d<=1000000) {Y:Al->Rs} (hY:C1 318 d Y) (h0:d=0->∀s,Y s=.inl (2,s)) (hB:El Y) (hF:A7 Y):C2 410 x (Gk Y):=by
 intro s hm b st R hs h
 refine pB Tryz.func410 ?_
 have hb:=EK hm
 unfold Gk at h
 cases hq1:CQ s with
 |inl q=>
  rw [hq1] at h
  obtain ⟨e,s'⟩:=q
  repeat' ((conv=>whnf);first|(refine A1 ?_;intros)|(refine CZ ?_ ?_<;>intro _)|refine Fk hs hb (UN hq1 (λst1 h1=>?_)))
  all_goals exact fin (h st1 h1) rfl
 |inr q=>
  obtain ⟨n1,s1⟩:=q
  rw [hq1] at h
  have hm1:mu s1<=100000000:=by have:=(O9 hq1).1;omega
  have hb1:=EK hm1
  have hn1:[n1].length+1<=1000000000:=by show 1+1<=1000000000;decide
  dsimp only at h
  cases hA:Bp s1 10 [45,62] with
  |true=>
   rw [if_pos hA] at h
   have hb2:(Ac s1).2.1.DS.length<=500000000:=EK (by have:=Eh hA Do Do;omega)
   have hn2:∀n2:Nd,([n1]++[n2]).length+1<=1000000000:=λ_=>by simp_all
   repeat' ((conv=>whnf);first|(refine A1 ?_;intros)|(refine CZ ?_ ?_<;>intro _)|refine Fk hs hb (GA hq1 (λst1 h1=>?_))|refine qX hA h1.1 hb1 ?_|refine Fk Eu hb1 (GA (Jb hA Do) (λst2 h2=>?_))|refine N1 (l:=[n1]) (x:=BJ (Ac s1).1) (own:=.full) trivial hn1 (λown1 ho1=>?_)|refine RI (h2.1.hw own1 _) hb2 (EY ho1 h2.1 (FK (λn3 s3 hq3 U h3 hg3=>?_) (λe3 s3 hq3 U h3 hg3=>?_)))|refine N1 (l:=[n1]++[BJ (Ac s1).1]) (x:=n3) hg3 (hn2 _) (λown2 ho2=>?_))
   all_goals unfold H3 at h
   all_goals rw [hq3] at h
   .exact DK (AA.Bi ho2) BV (h U ((h1.trans AX).trans (h2.trans h3)))
   .exact DK (AA.Bi hg3) rfl (h U ((h1.trans AX).trans (h2.trans h3)))
  |false=>
  rw [if_neg kw] at h
  cases hC:Bp s1 15 [41] with
  |true=>
   rw [if_pos hC] at h
   repeat' ((conv=>whnf);first|(refine A1 ?_;intros)|(refine CZ ?_ ?_<;>intro _)|refine Fk hs hb (GA hq1 (λst1 h1=>?_))|refine cS hA h1.1 hb1 ?_|refine qX hC Eu hb1 ?_|refine RI Eu hb1 (DE (λn3 s3 hq3 U h3=>?_) (λe3 s3 hq3 U h3=>?_))|refine N1 (l:=[n1]) (x:=n3) (own:=.full) trivial hn1 (λown2 ho2=>?_))
   all_goals unfold H3 at h
   all_goals rw [hq3] at h
   .exact DK (AA.Bi ho2) BV (h U (((h1.trans AX).trans AX).trans h3))
   .exact fin (h U (((h1.trans AX).trans AX).trans h3)) rfl
  |false=>
  rw [if_neg kw] at h
  cases hE:Bp s1 15 [44] with
  |true=>
   rw [if_pos hE] at h
   repeat' ((conv=>whnf);first|(refine A1 ?_;intros)|(refine CZ ?_ ?_<;>intro _)|refine Fk hs hb (GA hq1 (λst1 h1=>?_))|refine cS hA h1.1 hb1 ?_|refine cS hC Eu hb1 ?_|refine qX hE Eu hb1 ?_)
   refine Gg (α:=List Nd×Al×St×AA) (λx=>[(5,.slice 6 (x.1.map AB) x.2.2.2)]) [0,1,4,6] (λx=>[]) [0] (λx=>x.2.2.2.st x.2.2.1 (x.1.length*6))
    (λx=>x.2.2.2.Bw x.2.2.1/\Hf st x.2.2.1 b x.2.1/\x.1.length+mu x.2.1<=200000000/\mu x.2.1<=mu s1/\Dn x.1 x.2.1=Dn [n1] s1) (λx=>mu x.2.1) ([n1],s1,_,.full)
    ⟨trivial,((h1.trans AX).trans AX).trans AX,by grind,Nat.le_refl _,rfl⟩ Yl (St.le_refl _) ?_
   rintro ⟨l,s3,U,own⟩ ⟨j1,j2,j5,j6,j7⟩
   dsimp only at j1 j2 j5 j6 j7
   have hm3:mu s3<=100000000:=AC
   have hb3:=EK hm3
   have hl3:Has (U.Aa b (CF s3)) b s3:=.inl (St.Ai ..)
   have g3:own.Bw (U.Aa b (CF s3)):=H7 j1 j2.1
   have hn:l.length+1<=1000000000:=AC
   repeat' ((conv=>whnf);first|(refine A1 ?_;intros)|(refine CZ ?_ ?_<;>intro _)|refine qW j2.1 hb3 ?_|refine Fk (hl3.hw own _) hb3 (Rw g3 hl3 (Jb ‹_› Do) (λst4 h4 g4=>?_))|refine N1 (l:=l) (x:=BJ (Ac s3).1) g4 hn (λown' ho'=>?_)|refine RI (hl3.hw own _) hb3 (EY g3 hl3 (FK (λn5 s5 hq5 st5 h5 g5=>?_) (λe5 s5 hq5 st5 h5 g5=>?_)))|refine N1 (l:=l) (x:=n5) g5 hn (λown' ho'=>?_))
   all_goals conv=>whnf
   .have hp:Bp s3 15 [44]=true:=FS
    have hd3:=Eh hp Do Do
    refine ⟨(l++[BJ (Ac s3).1],(Ac s3).2.1,st4,own'),⟨ho',j2.trans (AX.trans h4),?_,by grind,?_⟩,hd3,Yl,St.le_refl _⟩
    .grind
    .show Dn (l++[BJ (Ac s3).1]) (Ac s3).2.1=_
     rw [<-j7,cp (l:=l) hp]
   all_goals rw [<-j7,Yg ‹_›] at h
   all_goals unfold H3 at h
   all_goals dsimp only at h
   all_goals rw [hq5] at h
   .exact DK (AA.Bi ho') BV (h st5 (j2.trans (AX.trans h5)))
   .exact DK (AA.Bi g5) rfl (h st5 (j2.trans (AX.trans h5)))
  |false=>
   rw [if_neg kw] at h
   replace h:Em st b R (match Lm Y n1 s1 with
    | .inl e=>(.inl e:Rs)
    | .inr r=>H3 (if 2<r.1.length then 5 else 4) r.1 r.2 [41]):=by
    unfold Lm
    cases hy:Y s1 with
    |inl e=>simp_all
    |inr q=>grind
   have hbl:∀{l s2},Lm Y n1 s1=.inr (l,s2)->s2.DS.length<=500000000/\l.length+1<=1000000000:=λe=>by
    have:=eI hF e
    exact ⟨EK AC,AC⟩
   repeat' ((conv=>whnf);first|(refine A1 ?_;intros)|(refine CZ ?_ ?_<;>intro _)|refine Fk hs hb (GA hq1 (λst1 h1=>?_))|refine cS hA h1.1 hb1 ?_|refine cS hC Eu hb1 ?_|refine cS hE Eu hb1 ?_|refine oY hY h0 hB hF (n1:=n1) AC hm1 Eu (eu (λl s2 hq2 st2 own1 h2 g2=>?_) (λe2 s2 hq2 st2 h2=>?_))|refine B5 (λ_=>?_)|refine RI (h2.1.hw own1 _) (hbl hq2).1 (EY g2 h2.1 (FK (λn3 s3 hq3 U h3 hg3=>?_) (λe3 s3 hq3 U h3 hg3=>?_)))|refine N1 (l:=l) (x:=n3) hg3 (hbl hq2).2 (λown2 ho2=>?_))
   all_goals rw [hq2] at h
   all_goals dsimp only at h
   all_goals try unfold H3 at h
   all_goals try rw [hq3] at h
   all_goals have hu:=(((h1.trans AX).trans AX).trans AX).trans h2
   .rw [if_pos AC] at h
    exact DK (AA.Bi ho2) BV (h U (hu.trans h3))
   .exact DK (AA.Bi hg3) rfl (h U (hu.trans h3))
   .rw [if_neg AC] at h
    exact DK (AA.Bi ho2) BV (h U (hu.trans h3))
   .exact DK (AA.Bi hg3) rfl (h U (hu.trans h3))
   .exact fin (h st2 hu) rfl
end
theorem SW (h:d=0) (s:Al):Dk d s=.inl (2,s):=by subst h;rfl
theorem U5 (U:d+1<=1000000) (h:C1 318 (d:Int) (Dk d)):C2 390 ((d+1:Nat):Int) (Dj (Dk d)):=
 qu (oq rfl AC h (λe s=>SW e s) (EP d) (Bv d)) (kE AC h (λe s=>SW e s) (EP d) (Bv d))
theorem MG (U:d+1<=1000000) (h:C1 318 (d:Int) (Dk d)):C2 357 ((d+1:Nat):Int) (Gm (Dj (Dk d))):=
 sd (U5 U h) (BC (Bv d))
theorem NY (U:d+1<=1000000) (h:C1 318 (d:Int) (Dk d)):C2 358 ((d+1:Nat):Int) (D2 (Dj (Dk d))):=
 pb (MG U h) (U4 (MG U h) (BC (Bv d))) (BC (Bv d))
theorem JT:∀d:Nat,d<=100->C1 318 (d:Int) (Dk d)
 |0,_=>ZE λh=>absurd Do h
 |d+1,U=>ZE λ_=>by
  rw [if_neg AC]
  exact NY AC (JT d AC)
def Dp (deep:Int):Nat:=(if 100<deep then 100 else deep).toNat
theorem Tr (deep:Int):Dp deep<=100:=by unfold Dp;split<;>omega
theorem Tq (h:¬deep<1):(if 100<deep then 100 else deep)=((Dp deep - 1+1:Nat):Int):=by unfold Dp;split<;>omega
theorem tM:C1 318 deep (D2 (Dj (Dk (Dp deep - 1)))):=ZE λh=>by
 rw [Tq h]
 have:=Tr deep
 exact NY AC (JT _ AC)
theorem sP:C1 412 deep (Dj (Dk (Dp deep - 1))):=lT λh=>by
 rw [Tq h]
 have:=Tr deep
 exact U5 AC (JT _ AC)
theorem uc:C1 317 deep (Gm (Dj (Dk (Dp deep - 1)))):=rZ λh=>by
 rw [Tq h]
 have:=Tr deep
 exact MG AC (JT _ AC)
section
variable {st:St} {R:At->St->Prop}
attribute [local irreducible] Go.Aw.Ag
theorem qO {d:Int} {A:Al->Rs} (hr:C2 357 d (Gm A)) (ha:X1 392 d (DL A)) (hw:C2 358 d (D2 A)) (hF:A7 A):C2 366 d (Gn A):=by
 intro s hm b st R hs h
 refine pB Tryz.func366 ?_
 unfold Gn at h
 have hm1:∀{n1 s1},Gm A s=.inr (n1,s1)->mu s1<=100000000:=λe=>by have:=ET hF _ _ _ e;omega
 have hm2:∀{n1 s1},Gm A s=.inr (n1,s1)->Bp s1 10 [61,62]=true->mu (Ac s1).2.1<=100000000:=λe i=>by have:=hm1 e;have:=Eh i Do Do;omega
 repeat' ((conv=>whnf);first|exact B1|(refine B2 ?_ ?_ ?_;rotate_left)|(refine CZ ?_ ?_<;>intro _)|refine hr s hm b _ _ hs (DE (λn1 s1 U st1 h1=>?_) (λe1 s1 U st1 h1=>?_))|refine YF h1.1 (EK (hm1 U)) ?_|refine ha n1 s1 (hm1 U) b _ _ Eu (DE (λn2 s2 hq2 st2 h2=>?_) (λe2 s2 hq2 st2 h2=>?_))|refine AM [1,3,7,9,4,10,13,15,16] [0] ?_|refine Fk Eu (EK (hm1 U)) (GA (Jb ‹_› Do) (λst2 h2=>?_))|refine hw (Ac s1).2.1 (hm2 U ‹_›) b _ _ h2.1 (DE (λn3 s3 hq3 st3 h3=>?_) (λe3 s3 hq3 st3 h3=>?_))|fail)
 all_goals rw [U] at h
 all_goals dsimp only at h
 .rw [if_pos ‹_›,hq3] at h
  exact DK (St.le_refl _) (BV (l:=[n1,BJ (Ac s1).1,n3])) (h st3 ((h1.trans AX).trans (h2.trans h3)))
 .rw [if_pos ‹_›,hq3] at h
  intro e'
  exact fin (h st3 ((h1.trans AX).trans (h2.trans h3))) rfl
 .rw [if_neg (Bool.eq_false_iff.1 ‹_›),hq2] at h
  exact Bm rfl (h st2 ((h1.trans AX).trans h2))
 .rw [if_neg (Bool.eq_false_iff.1 ‹_›),hq2] at h
  exact fin (h st2 ((h1.trans AX).trans h2)) rfl
 .exact fin (h st1 h1) rfl
theorem gO (U:d+1<=1000000) (h:C1 318 (d:Int) (Dk d)):C2 366 ((d+1:Nat):Int) (Gn (Dj (Dk d))):=
 qO (MG U h) (U4 (MG U h) (BC (Bv d))) (NY U h) (BC (Bv d))
theorem pJ:C1 329 deep (Gn (Dj (Dk (Dp deep - 1)))):=mK λh=>by
 rw [Tq h]
 have:=Tr deep
 exact gO AC (JT _ AC)
end
section
variable {st:St} {R:At->St->Prop}
attribute [local irreducible] Go.Aw.Ag
theorem dR:∀(m:Nat) {n:Nd} {st:St} {R:At->St->Prop},n.size<=m->R (.ret (.bool true)) st->PC 26 [enc n,enc n] st R:=by
 intro m
 induction m with
 |zero=>intro n st R hm h;cases n;rw [Nd.size] at hm;omega
 |succ m ih=>
  intro n st R hm h
  refine pB Tryz.func26 ?_
  repeat' ((conv=>whnf);first|(with_reducible first|refine Wt rfl ?_|exact Wa|refine W8 GE ?_ ?_ ?_|refine W0 GE ?_ ?_ ?_|refine Wt H9 ?_|refine Wv AC ?_|refine Ww AC ?_|refine Wi ?_|refine Wj ?_|refine Wl (λ_=>?_)|refine Wm ‹_› AC ?_|refine Wq AC AC ?_)|refine Ad 12 [10] [] ?_|fail)
  refine T3 5 [2,3] [0,1] n.kids.length (λk=>k<=n.kids.length) (Nat.zero_le _) Yl ?_
  intro k hk
  by_cases U:k<n.kids.length
  .obtain ⟨x,hx⟩:∃x,n.kids[(k:Int).toNat]? =some x:=⟨_,List.getElem?_eq_getElem U⟩
   have hxm:x ∈ n.kids:=List.mem_of_getElem? hx
   have hxs:=Cb hxm
   repeat' ((conv=>whnf);first|(with_reducible first|refine Wt rfl ?_|exact Wa|refine W8 GE ?_ ?_ ?_|refine W0 GE ?_ ?_ ?_|refine Wt H9 ?_|refine Wv AC ?_|refine Ww AC ?_|refine Wi ?_|refine Wj ?_|refine Wl (λ_=>?_)|refine Wm ‹_› AC ?_|refine Wq AC AC ?_)|refine ih (n:=x) AC ?_|refine Ad 12 [10] [] ?_|fail)
   all_goals conv=>whnf
   all_goals exact ⟨k+1,U,Nat.sub_lt_sub_left U (Nat.lt_succ_self k),Yl,St.le_refl _⟩
  .skip
   repeat' ((conv=>whnf);first|(with_reducible first|refine Wt rfl ?_|exact Wa|refine W8 GE ?_ ?_ ?_|refine W0 GE ?_ ?_ ?_|refine Wt H9 ?_|refine Wv AC ?_|refine Ww AC ?_|refine Wi ?_|refine Wj ?_|refine Wl (λ_=>?_)|refine Wm ‹_› AC ?_|refine Wq AC AC ?_)|refine Ad 12 [10] [] ?_|fail)
   all_goals exact fin h rfl
end
variable {A:Al->Rs}
theorem jT (l:List Nd) (s:Al):∀q s',Gl A l s=.inr (q,s')->∃r,q=l++r:=by
 fun_induction Gl A l s with
 |case1 l s U e1 h2=>simp_all
 |case2 l s U p h2 h3 ih=>grind
 |case3 l s U p h2 h3=>simp_all
 |case4 l s U=>simp_all
section
variable {st:St} {R:At->St->Prop}
attribute [local irreducible] Go.Aw.Ag
theorem UB {a b:List Nd}:Bn (a++b)=Bn a+Bn b:=by
 induction a with
 |nil=>simp [Bn]
 |cons x r ih=>rw [List.cons_append,Bn,Bn,ih];omega
end
abbrev Er:={e:Int // e≠0}
abbrev Rv (α:Type):=Sum (Er×Al) (α×Al)
structure Rd (α:Type) where
 run:Al->Rv α
 le:∀s v s',run s=.inr (v,s')->mu s'<=mu s
namespace Rd
variable {α β γ σ:Type}
def ret (v:α):Rd α:=⟨λs=>.inr (v,s),λs U s' h=>by simp_all⟩
def seq (m:Rd α) (k:α->Rd β):Rd β:=⟨λs=>match m.run s with
 | .inl e=>.inl e
 | .inr p=>(k p.1).run p.2,λs v s' h=>by
 cases U:m.run s with
 |inl e=>simp_all
 |inr p=>rw [U] at h;exact Nat.le_trans ((k p.1).le _ _ _ h) (m.le _ _ _ U)⟩
def fail (e:Er):Rd α:=⟨λs=>.inl (e,s),λs v s' h=>by cases h⟩
def Ge (t:Al) (e:Er):Rd α:=⟨λ_=>.inl (e,t),λs v s' h=>by cases h⟩
def look (f:Al->Rd α):Rd α:=⟨λs=>(f s).run s,λs v s' h=>(f s).le _ _ _ h⟩
def iter (body:σ->Rd (Sum σ β)) (x:σ) (s:Al):Rv β:=
 match (body x).run s with
 | .inl e=>.inl e
 | .inr (.inr y,s')=>.inr (y,s')
 | .inr (.inl U,s')=>if mu s'<mu s then iter body U s' else .inl (⟨2,Do⟩,s)
termination_by mu s
theorem mZ (body:σ->Rd (Sum σ β)) (x:σ) (s:Al):∀v s',iter body x s=.inr (v,s')->mu s'<=mu s:=by
 fun_induction iter body x s with
 |case1 x s e h=>simp_all
 |case2 x s y s1 h=>intro v s' h';cases h';exact (body x).le _ _ _ h
 |case3 x s x' s1 h U ih=>grind
 |case4 x s x' s1 h U=>simp_all
def loop (body:σ->Rd (Sum σ β)) (x:σ):Rd β:=⟨iter body x,mZ body x⟩
theorem iE {body:σ->Rd (Sum σ β)} {w:σ->Nat} {w':β->Nat} (h1:∀x s U s',(body x).run s=.inr (.inl U,s')->w U<=w x+4) (h2:∀x s y s',(body x).run s=.inr (.inr y,s')->w' y<=w x+c) (x:σ) (s:Al):
 ∀y s',(loop body x).run s=.inr (y,s')->w' y+4*mu s'<=w x+c+4*mu s:=by
 show ∀y s',iter body x s=.inr (y,s')->_
 fun_induction iter body x s with
 |case1 x s e h=>simp_all
 |case2 x s y s1 h=>intro y s' h';cases h';have:=h2 _ _ _ _ h;have:=(body x).le _ _ _ h;omega
 |case3 x s U s1 h hlt ih=>grind
 |case4 x s U s1 h hlt=>simp_all
def wp (m:Rd α) (s:Al) (Q:α->Al->Prop) (E:Er->Al->Prop):Prop:=match m.run s with
 | .inl p=>E p.1 p.2
 | .inr p=>Q p.1 p.2
theorem wp_ret {v:α} {Q:α->Al->Prop} {E:Er->Al->Prop}:wp (ret v) s Q E=Q v s:=rfl
theorem wp_seq {m:Rd α} {k:α->Rd β} {Q:β->Al->Prop} {E:Er->Al->Prop}:wp (seq m k) s Q E=wp m s (λv s'=>wp (k v) s' Q E) E:=by
 unfold wp seq
 grind
theorem DP {e:Er} {Q:α->Al->Prop} {E:Er->Al->Prop}:wp (fail e) s Q E=E e s:=rfl
theorem GK {e:Er} {t:Al} {Q:α->Al->Prop} {E:Er->Al->Prop}:wp (Ge t e) s Q E=E e t:=rfl
theorem Ap {f:Al->Rd α} {Q:α->Al->Prop} {E:Er->Al->Prop}:wp (look f) s Q E=wp (f s) s Q E:=rfl
theorem AF {c:Prop} [Decidable c] {a b:Rd α} {Q:α->Al->Prop} {E:Er->Al->Prop}:wp (if c then a else b) s Q E=if c then wp a s Q E else wp b s Q E:=by grind
def again (body:σ->Rd (Sum σ β)) (s:Al) (Q:β->Al->Prop) (E:Er->Al->Prop):Sum σ β->Al->Prop
 | .inr y,s'=>Q y s'
 | .inl x,s'=>if mu s'<mu s then wp (loop body x) s' Q E else E ⟨2,Do⟩ s
theorem wp_loop {body:σ->Rd (Sum σ β)} {x:σ} {Q:β->Al->Prop} {E:Er->Al->Prop}:wp (loop body x) s Q E=wp (body x) s (again body s Q E) E:=by
 have e:(loop body x).run s=match (body x).run s with
  | .inl e=>.inl e
  | .inr (.inr y,s')=>.inr (y,s')
  | .inr (.inl x',s')=>if mu s'<mu s then (loop body x').run s' else .inl (⟨2,Do⟩,s):=by
  show iter body x s=_
  rw [iter]
  rfl
 unfold wp
 rw [e]
 cases hb:(body x).run s with
 |inl p=>rfl
 |inr p=>
  obtain ⟨r,s'⟩:=p
  cases r with
  |inr y=>rfl
  |inl x'=>
   dsimp only [again]
   by_cases U:mu s'<mu s
   .rw [if_pos U,if_pos U];rfl
   grind
theorem Bu {body:σ->Rd (Sum σ β)} {Q:β->Al->Prop} {E:Er->Al->Prop} {y:β}:again body s Q E (.inr y) s'=Q y s':=rfl
theorem En {body:σ->Rd (Sum σ β)} {Q:β->Al->Prop} {E:Er->Al->Prop} {x:σ} (h:again body s Q E (.inl x) s') (U:mu s'<mu s):wp (loop body x) s' Q E:=by
 have h:if mu s'<mu s then wp (loop body x) s' Q E else E ⟨2,Do⟩ s:=h
 simp_all
theorem wp_mono {m:Rd α} {Q Q':α->Al->Prop} {E E':Er->Al->Prop} (h:wp m s Q E) (hq:∀v s',m.run s=.inr (v,s')->Q v s'->Q' v s') (U:∀e s',m.run s=.inl (e,s')->E e s'->E' e s'):wp m s Q' E':=by
 unfold wp at h |-
 grind
theorem XV {m:Rd α} {Q:α->Al->Prop} {E:Er->Al->Prop} (hq:∀v s',m.run s=.inr (v,s')->Q v s') (U:∀e s',m.run s=.inl (e,s')->E e s'):wp m s Q E:=by
 unfold wp
 grind
def A7 (m:Rd α):Prop:=∀s v s',m.run s=.inr (v,s')->mu s'<mu s
theorem A7.seq {m:Rd α} {k:α->Rd β} (h:A7 m):A7 (seq m k):=λs v s' e=>by
 unfold Rd.seq at e
 dsimp only at e
 split at e
 .cases e
 .exact Nat.lt_of_le_of_lt ((k _).le _ _ _ e) (h _ _ _ ‹_›)
theorem A7.at {m:Rd α} {k:α->Rd β} {s s':Al} {v:β} (h:∀v s',m.run s=.inr (v,s')->mu s'<mu s) (e:(Rd.seq m k).run s=.inr (v,s')):mu s'<mu s:=by
 unfold Rd.seq at e
 dsimp only at e
 split at e
 .cases e
 .exact Nat.lt_of_le_of_lt ((k _).le _ _ _ e) (h _ _ ‹_›)
theorem A7.look {f:Al->Rd α} (h:∀s v s',(f s).run s=.inr (v,s')->mu s'<mu s):A7 (look f):=λs v s' e=>h s v s' e
end Rd
def IQ (A:Al->Rs) (hle:∀s v s',A s=.inr (v,s')->mu s'<=mu s):Rd Nd:=⟨λs=>match A s with
 | .inl p=>if h:p.1=0 then .inl (⟨2,Do⟩,p.2) else .inl (⟨p.1,h⟩,p.2)
 | .inr p=>.inr p,λs v s' h=>by
 grind⟩
theorem WS {A:Al->Rs} {hle:∀s v s',A s=.inr (v,s')->mu s'<=mu s} (U:El A) (h:A s=.inl (e,s')):(IQ A hle).run s=.inl (⟨e,U _ _ _ h⟩,s'):=by
 unfold IQ
 grind
theorem Ug {A:Al->Rs} {hle:∀s v s',A s=.inr (v,s')->mu s'<=mu s} {p:Nd×Al} (h:A s=.inr p):(IQ A hle).run s=.inr p:=by
 unfold IQ
 simp_all
def AO:Rd Nd:=IQ CQ λs v s' h=>(O9 h).1
def RR {α:Type}:Rd α:=⟨λs=>.inl (⟨Tb s,Tc s⟩,s),λs v s' h=>by cases h⟩
def BA (k:Int) (x:List UInt8):Rd Nd:=.look λs=>if Bp s k x=true then AO else RR
def Df (ks:List Int):Rd Nd:=.look λs=>if ks.contains (Ac s).1.kind=true then AO else RR
def JM:Rd Unit:=.seq AO λ_=>.ret ()
theorem kK (h:Bp s k x=true) (U:k≠0):AO.run s=.inr (BJ (Ac s).1,(Ac s).2.1):=Ug (Jb h U)
theorem Ey (h:(Ac s).2.2=0):AO.run s=.inr (BJ (Ac s).1,(Ac s).2.1):=Ug (by unfold CQ;simp_all)
theorem MT (h:¬(Ac s).2.2=0):AO.run s=.inl (⟨(Ac s).2.2,h⟩,s):=by
 have e:CQ s=.inl ((Ac s).2.2,s):=by unfold CQ;rw [if_neg h]
 exact WS HU e
theorem G6 {v:Nd} (h:AO.run s=.inr (v,s')) (U:(Ac s).1.kind≠21):mu s'<mu s:=by
 by_cases e:(Ac s).2.2=0
 .rw [Ey e] at h;cases h;exact (EC e).2 U
 .rw [MT e] at h;cases h
theorem Ht (h:(Ac s).1.kind≠0):(Ac s).2.2=0:=by
 apply Classical.byContradiction
 intro e
 rw [We e] at h
 exact h rfl
theorem K1 (U:k≠21):Rd.A7 (BA k x):=Rd.A7.look λs v s' h=>by
 split at h
 .rename_i hi
  refine G6 h λe=>U ?_
  unfold Bp at hi
  simp_all
 .cases h
theorem Yr {ks:List Int} (U:ks.contains 21=false):Rd.A7 (Df ks):=Rd.A7.look λs v s' h=>by
 split at h
 .rename_i hi
  exact G6 h λe=>by simp_all
 .cases h
end Go.Proofs.Z
namespace Go.Proofs
open Go.Shelf
def Tryz.Oc:Go.Shelf.Ren:=⟨λ|156=>54|165=>83|166=>84|169=>85|240=>126|241=>127|276=>169|277=>170|n=>n,λ|31=>79|9=>9|3=>3|4=>4|0=>0|20=>20|72=>117|76=>118|70=>114|37=>115|75=>86|127=>168|164=>130|5=>5|80=>120|n=>n,λ|n=>n⟩
theorem Tryz.aH:Go.Proofs.Lays.n156 Tryz.prog Tryz.Oc:={
 mixed:=EQ
 f156:=Tryz.func54.trans (congrArg some EQ)
 f165:=Tryz.func83.trans (congrArg some EQ)
 f166:=Tryz.func84.trans (congrArg some EQ)
 f169:=Tryz.func85.trans (congrArg some EQ)
 f240:=Tryz.func126.trans (congrArg some EQ)
 f241:=Tryz.func127.trans (congrArg some EQ)
 f276:=Tryz.func169.trans (congrArg some EQ)
 f277:=Tryz.func170.trans (congrArg some EQ)
 t0:=Tryz.underlying0
 a0:=Tryz.isAgg0
 z0:=Tryz.sizeOf0
 v0:=Tryz.zeroValue0
 t3:=Tryz.underlying3
 a3:=Tryz.isAgg3
 z3:=Tryz.sizeOf3
 v3:=Tryz.zeroValue3
 t4:=Tryz.underlying4
 a4:=Tryz.isAgg4
 z4:=Tryz.sizeOf4
 v4:=Tryz.zeroValue4
 t9:=Tryz.underlying9
 a9:=Tryz.isAgg9
 z9:=Tryz.sizeOf9
 v9:=Tryz.zeroValue9
 t20:=Tryz.underlying20
 a20:=Tryz.isAgg20
 z20:=Tryz.sizeOf20
 v20:=Tryz.zeroValue20
 t31:=Tryz.underlying79
 a31:=Tryz.isAgg79
 z31:=Tryz.sizeOf79
 v31:=Tryz.zeroValue79
 t37:=Tryz.underlying115
 a37:=Tryz.isAgg115
 z37:=Tryz.sizeOf115
 v37:=Tryz.zeroValue115
 t70:=Tryz.underlying114
 a70:=Tryz.isAgg114
 z70:=Tryz.sizeOf114
 v70:=Tryz.zeroValue114
 t72:=Tryz.underlying117
 a72:=Tryz.isAgg117
 z72:=Tryz.sizeOf117
 v72:=Tryz.zeroValue117
 t75:=Tryz.underlying86
 a75:=Tryz.isAgg86
 z75:=Tryz.sizeOf86
 v75:=Tryz.zeroValue86
 t76:=Tryz.underlying118
 a76:=Tryz.isAgg118
 z76:=Tryz.sizeOf118
 v76:=Tryz.zeroValue118
 t127:=Tryz.underlying168
 a127:=Tryz.isAgg168
 z127:=Tryz.sizeOf168
 v127:=Tryz.zeroValue168
 t164:=Tryz.underlying130
 a164:=Tryz.isAgg130
 z164:=Tryz.sizeOf130
 v164:=Tryz.zeroValue130}
theorem Tryz.Hd:Builder.Extra Tryz.prog Tryz.Oc:={
 sizeBuilder:=EQ
 liesBuilder:=EQ
 t5:=Tryz.underlying5
 a5:=Tryz.isAgg5
 z5:=Tryz.sizeOf5
 v5:=Tryz.zeroValue5
 infoByte:=EQ
 cellsByte:=EQ
 sizeByte:=EQ
 neB5:=by decide}
open Go.RowKit in
theorem Tryz.strings_Join_none (a:Option Addr) (c:Nat) (sep:ByteArray) (w:World):
 Calls Tryz.prog 54 #[.slice a 0 c,.string sep] w λe w'=>e=.returned (.string ⟨#[]⟩)/\w'=w:=Any.strings_Join_none Tryz.aH Tryz.Hd a c sep w
open Go.RowKit in
theorem Tryz.strings_Join (bk o c:Nat) (xs:List ByteArray) (sep:ByteArray) (w:World) (U:∀(j:Nat) x,xs[j]? =some x->w.cell? ⟨bk,o+j,none⟩=some (.string x)) (hbk:bk<w.heap.size) (hN:xs.length<=140737488355328) (hcap:xs.length<=c) (hlen:(Lib.join (xs.map (·.data.toList)) sep.data.toList).length<=140737488355328):
 Calls Tryz.prog 54 #[.slice (some ⟨bk,o,none⟩) xs.length c,.string sep] w λe w'=>e=.returned (.string ⟨(Lib.join (xs.map (·.data.toList)) sep.data.toList).toArray⟩)/\Below w.heap.size w w':=Any.strings_Join Tryz.aH Tryz.Hd bk o c xs sep w U hbk hN hcap hlen
def Tryz.VW:Go.Shelf.Ren:=⟨λ|160=>119|232=>159|231=>158|227=>160|234=>162|233=>161|236=>164|235=>163|228=>194|271=>196|151=>195|197=>68|120=>241|152=>240|260=>117|137=>294|119=>295|224=>252|225=>251|217=>250|266=>299|n=>n,λ|9=>9|4=>4|3=>3|5=>5|117=>226|116=>225|0=>0|124=>229|21=>21|105=>105|46=>219|119=>218|139=>222|138=>221|n=>n,λ|3=>1|4=>2|n=>n⟩
theorem Tryz.nt:Go.Proofs.Lays.n160 Tryz.prog Tryz.VW:={
 mixed:=EQ
 f119:=Tryz.func295.trans (congrArg some EQ)
 f120:=Tryz.func241.trans (congrArg some EQ)
 f137:=Tryz.func294.trans (congrArg some EQ)
 f151:=Tryz.func195.trans (congrArg some EQ)
 f152:=Tryz.func240.trans (congrArg some EQ)
 f160:=Tryz.func119.trans (congrArg some EQ)
 f197:=Tryz.func68.trans (congrArg some EQ)
 f217:=Tryz.func250.trans (congrArg some EQ)
 f224:=Tryz.func252.trans (congrArg some EQ)
 f225:=Tryz.func251.trans (congrArg some EQ)
 f227:=Tryz.func160.trans (congrArg some EQ)
 f228:=Tryz.func194.trans (congrArg some EQ)
 f231:=Tryz.func158.trans (congrArg some EQ)
 f232:=Tryz.func159.trans (congrArg some EQ)
 f233:=Tryz.func161.trans (congrArg some EQ)
 f234:=Tryz.func162.trans (congrArg some EQ)
 f235:=Tryz.func163.trans (congrArg some EQ)
 f236:=Tryz.func164.trans (congrArg some EQ)
 f260:=Tryz.func117.trans (congrArg some EQ)
 f266:=Tryz.func299.trans (congrArg some EQ)
 f271:=Tryz.func196.trans (congrArg some EQ)
 t0:=Tryz.underlying0
 a0:=Tryz.isAgg0
 z0:=Tryz.sizeOf0
 v0:=Tryz.zeroValue0
 t3:=Tryz.underlying3
 a3:=Tryz.isAgg3
 z3:=Tryz.sizeOf3
 v3:=Tryz.zeroValue3
 t4:=Tryz.underlying4
 a4:=Tryz.isAgg4
 z4:=Tryz.sizeOf4
 v4:=Tryz.zeroValue4
 t5:=Tryz.underlying5
 a5:=Tryz.isAgg5
 z5:=Tryz.sizeOf5
 v5:=Tryz.zeroValue5
 t9:=Tryz.underlying9
 a9:=Tryz.isAgg9
 z9:=Tryz.sizeOf9
 v9:=Tryz.zeroValue9
 t21:=Tryz.underlying21
 a21:=Tryz.isAgg21
 z21:=Tryz.sizeOf21
 v21:=Tryz.zeroValue21
 t46:=Tryz.underlying219
 a46:=Tryz.isAgg219
 z46:=Tryz.sizeOf219
 v46:=Tryz.zeroValue219
 t105:=Tryz.underlying105
 a105:=Tryz.isAgg105
 z105:=Tryz.sizeOf105
 v105:=Tryz.zeroValue105
 t116:=Tryz.underlying225
 a116:=Tryz.isAgg225
 z116:=Tryz.sizeOf225
 t117:=Tryz.underlying226
 a117:=Tryz.isAgg226
 z117:=Tryz.sizeOf226
 v117:=Tryz.zeroValue226
 t119:=Tryz.underlying218
 a119:=Tryz.isAgg218
 z119:=Tryz.sizeOf218
 t124:=Tryz.underlying229
 a124:=Tryz.isAgg229
 z124:=Tryz.sizeOf229
 v124:=Tryz.zeroValue229
 t138:=Tryz.underlying221
 a138:=Tryz.isAgg221
 z138:=Tryz.sizeOf221
 v138:=Tryz.zeroValue221
 t139:=Tryz.underlying222
 a139:=Tryz.isAgg222
 z139:=Tryz.sizeOf222
 v139:=Tryz.zeroValue222
 g3:=EQ
 g4:=by kernel_rfl}
open Go.RowKit in
theorem Tryz.strings_Trim_one (s:ByteArray) (c:UInt8) (U:c.toNat<128) (w:World) (hs:s.size<=9223372036854775807):
 Calls Tryz.prog 119 #[.string s,.string ⟨#[c]⟩] w λe w'=>e=.returned (.string ⟨(Lib.trimB s.data.toList c).toArray⟩)/\(w'=w\/w'=w.drew):=Any.strings_Trim_one Tryz.nt s c U w hs
def Tryz.VT:Go.Shelf.Ren:=⟨λ|137=>294|217=>250|266=>299|n=>n,λ|9=>9|5=>5|3=>3|n=>n,λ|n=>n⟩
theorem Tryz.np:Go.Proofs.Lays.n137 Tryz.prog Tryz.VT:={
 mixed:=EQ
 f137:=Tryz.func294.trans (congrArg some EQ)
 f217:=Tryz.func250.trans (congrArg some EQ)
 f266:=Tryz.func299.trans (congrArg some EQ)
 t3:=Tryz.underlying3
 a3:=Tryz.isAgg3
 z3:=Tryz.sizeOf3
 v3:=Tryz.zeroValue3
 t5:=Tryz.underlying5
 a5:=Tryz.isAgg5
 z5:=Tryz.sizeOf5
 v5:=Tryz.zeroValue5
 t9:=Tryz.underlying9
 a9:=Tryz.isAgg9
 z9:=Tryz.sizeOf9
 v9:=Tryz.zeroValue9}
open Go.RowKit in
theorem Tryz.strings_IndexByte (s:ByteArray) (c:Int) (w:World):
 Calls Tryz.prog 294 #[.string s,.int .u8 c] w λe w'=>e=.returned (.int .i64 (Lib.indexByte s.data.toList c.toNat.toUInt8))/\w'=w:=Any.strings_IndexByte Tryz.np s c w
def Tryz.VU:Go.Shelf.Ren:=⟨λ|144=>125|143=>168|219=>204|217=>250|225=>251|224=>252|267=>253|266=>299|314=>300|n=>n,λ|9=>9|4=>4|3=>3|5=>5|46=>219|146=>307|51=>306|n=>n,λ|1=>3|n=>n⟩
theorem Tryz.nq:Go.Proofs.Lays.n144 Tryz.prog Tryz.VU:={
 mixed:=EQ
 f143:=Tryz.func168.trans (congrArg some EQ)
 f144:=Tryz.func125.trans (congrArg some EQ)
 f217:=Tryz.func250.trans (congrArg some EQ)
 f219:=Tryz.func204.trans (congrArg some EQ)
 f224:=Tryz.func252.trans (congrArg some EQ)
 f225:=Tryz.func251.trans (congrArg some EQ)
 f266:=Tryz.func299.trans (congrArg some EQ)
 f267:=Tryz.func253.trans (congrArg some EQ)
 f314:=Tryz.func300.trans (congrArg some EQ)
 t3:=Tryz.underlying3
 a3:=Tryz.isAgg3
 z3:=Tryz.sizeOf3
 v3:=Tryz.zeroValue3
 t4:=Tryz.underlying4
 a4:=Tryz.isAgg4
 z4:=Tryz.sizeOf4
 v4:=Tryz.zeroValue4
 t5:=Tryz.underlying5
 a5:=Tryz.isAgg5
 z5:=Tryz.sizeOf5
 v5:=Tryz.zeroValue5
 t9:=Tryz.underlying9
 a9:=Tryz.isAgg9
 z9:=Tryz.sizeOf9
 v9:=Tryz.zeroValue9
 t46:=Tryz.underlying219
 a46:=Tryz.isAgg219
 z46:=Tryz.sizeOf219
 v46:=Tryz.zeroValue219
 t51:=Tryz.underlying306
 a51:=Tryz.isAgg306
 z51:=Tryz.sizeOf306
 v51:=Tryz.zeroValue306
 t146:=Tryz.underlying307
 a146:=Tryz.isAgg307
 z146:=Tryz.sizeOf307
 v146:=Tryz.zeroValue307
 g1:=by kernel_rfl}
open Go.RowKit Go.Lib in
theorem Tryz.strings_Contains (s sub:ByteArray) (m:Int) (w:World) (hs:s.size<4294967281) (U:w.cell? ⟨3,0,none⟩=some (.int .i64 m)):
 Calls Tryz.prog 125 #[.string s,.string sub] w λe w'=>e=.returned (.bool (Lib.contains s.data.toList sub.data.toList))/\w'=w:=Any.strings_Contains Tryz.nq s sub m w hs U
def Tryz.T1:Go.Shelf.Ren:=⟨λ|15=>44|20=>69|n=>n,λ|9=>9|23=>64|3=>3|4=>4|0=>0|21=>21|n=>n,λ|n=>n⟩
theorem Tryz.ie:Go.Proofs.LaysGw.n15 Tryz.prog Tryz.T1:={
 mixed:=EQ
 f15:=Tryz.func44.trans (congrArg some EQ)
 f20:=Tryz.func69.trans (congrArg some EQ)
 t0:=Tryz.underlying0
 a0:=Tryz.isAgg0
 z0:=Tryz.sizeOf0
 v0:=Tryz.zeroValue0
 i0:=EQ
 t3:=Tryz.underlying3
 a3:=Tryz.isAgg3
 z3:=Tryz.sizeOf3
 v3:=Tryz.zeroValue3
 i3:=EQ
 t4:=Tryz.underlying4
 a4:=Tryz.isAgg4
 z4:=Tryz.sizeOf4
 v4:=Tryz.zeroValue4
 i4:=EQ
 t9:=Tryz.underlying9
 a9:=Tryz.isAgg9
 z9:=Tryz.sizeOf9
 v9:=Tryz.zeroValue9
 i9:=EQ
 t21:=Tryz.underlying21
 a21:=Tryz.isAgg21
 z21:=Tryz.sizeOf21
 v21:=Tryz.zeroValue21
 i21:=EQ
 t23:=Tryz.underlying64
 a23:=Tryz.isAgg64
 z23:=Tryz.sizeOf64
 v23:=Tryz.zeroValue64
 i23:=by kernel_rfl}
def Tryz.YK:Go.Shelf.Ren:=⟨λ|99=>73|206=>118|n=>n,λ|9=>9|4=>4|3=>3|n=>n,λ|n=>n⟩
theorem Tryz.rb:Go.Proofs.Lays.n99 Tryz.prog Tryz.YK:={
 mixed:=EQ
 f99:=Tryz.func73.trans (congrArg some EQ)
 f206:=Tryz.func118.trans (congrArg some EQ)
 t3:=Tryz.underlying3
 a3:=Tryz.isAgg3
 z3:=Tryz.sizeOf3
 v3:=Tryz.zeroValue3
 t4:=Tryz.underlying4
 a4:=Tryz.isAgg4
 z4:=Tryz.sizeOf4
 v4:=Tryz.zeroValue4
 t9:=Tryz.underlying9
 a9:=Tryz.isAgg9
 z9:=Tryz.sizeOf9
 v9:=Tryz.zeroValue9}
open Go.RowKit Go.Lib in
theorem Tryz.strings_HasPrefix (s p:ByteArray) (w:World):
 Calls Tryz.prog 73 #[.string s,.string p] w λe w'=>e=.returned (.bool (Lib.hasPrefix s.data.toList p.data.toList))/\w'=w:=Any.strings_HasPrefix Tryz.rb s p w
def Tryz.VV:Go.Shelf.Ren:=⟨λ|157=>214|229=>258|199=>259|261=>302|311=>335|312=>336|n=>n,λ|9=>9|31=>79|3=>3|5=>5|4=>4|119=>218|0=>0|40=>64|152=>309|21=>21|154=>311|51=>306|141=>313|196=>330|193=>327|198=>333|49=>331|194=>328|201=>336|226=>347|46=>219|227=>348|n=>n,λ|0=>4|6=>5|n=>n⟩
theorem Tryz.ns:Go.Proofs.Lays.n157 Tryz.prog Tryz.VV:={
 mixed:=EQ
 f157:=Tryz.func214.trans (congrArg some EQ)
 f199:=Tryz.func259.trans (congrArg some EQ)
 f229:=Tryz.func258.trans (congrArg some EQ)
 f261:=Tryz.func302.trans (congrArg some EQ)
 f311:=Tryz.func335.trans (congrArg some EQ)
 f312:=Tryz.func336.trans (congrArg some EQ)
 t0:=Tryz.underlying0
 a0:=Tryz.isAgg0
 z0:=Tryz.sizeOf0
 v0:=Tryz.zeroValue0
 t3:=Tryz.underlying3
 a3:=Tryz.isAgg3
 z3:=Tryz.sizeOf3
 v3:=Tryz.zeroValue3
 t4:=Tryz.underlying4
 a4:=Tryz.isAgg4
 z4:=Tryz.sizeOf4
 v4:=Tryz.zeroValue4
 t5:=Tryz.underlying5
 a5:=Tryz.isAgg5
 z5:=Tryz.sizeOf5
 v5:=Tryz.zeroValue5
 t9:=Tryz.underlying9
 a9:=Tryz.isAgg9
 z9:=Tryz.sizeOf9
 v9:=Tryz.zeroValue9
 t21:=Tryz.underlying21
 a21:=Tryz.isAgg21
 z21:=Tryz.sizeOf21
 v21:=Tryz.zeroValue21
 t31:=Tryz.underlying79
 a31:=Tryz.isAgg79
 z31:=Tryz.sizeOf79
 v31:=Tryz.zeroValue79
 t40:=Tryz.underlying64
 a40:=Tryz.isAgg64
 z40:=Tryz.sizeOf64
 v40:=Tryz.zeroValue64
 t46:=Tryz.underlying219
 a46:=Tryz.isAgg219
 z46:=Tryz.sizeOf219
 v46:=Tryz.zeroValue219
 t49:=Tryz.underlying331
 a49:=Tryz.isAgg331
 z49:=Tryz.sizeOf331
 v49:=Tryz.zeroValue331
 t51:=Tryz.underlying306
 a51:=Tryz.isAgg306
 z51:=Tryz.sizeOf306
 v51:=Tryz.zeroValue306
 t119:=Tryz.underlying218
 a119:=Tryz.isAgg218
 z119:=Tryz.sizeOf218
 t141:=Tryz.underlying313
 a141:=Tryz.isAgg313
 z141:=Tryz.sizeOf313
 v141:=Tryz.zeroValue313
 t152:=Tryz.underlying309
 a152:=Tryz.isAgg309
 z152:=Tryz.sizeOf309
 v152:=Tryz.zeroValue309
 t154:=Tryz.underlying311
 a154:=Tryz.isAgg311
 z154:=Tryz.sizeOf311
 v154:=Tryz.zeroValue311
 t193:=Tryz.underlying327
 a193:=Tryz.isAgg327
 z193:=Tryz.sizeOf327
 v193:=Tryz.zeroValue327
 t194:=Tryz.underlying328
 a194:=Tryz.isAgg328
 z194:=Tryz.sizeOf328
 v194:=Tryz.zeroValue328
 t196:=Tryz.underlying330
 a196:=Tryz.isAgg330
 z196:=Tryz.sizeOf330
 v196:=Tryz.zeroValue330
 t198:=Tryz.underlying333
 a198:=Tryz.isAgg333
 z198:=Tryz.sizeOf333
 v198:=Tryz.zeroValue333
 t201:=Tryz.underlying336
 a201:=Tryz.isAgg336
 z201:=Tryz.sizeOf336
 v201:=Tryz.zeroValue336
 t226:=Tryz.underlying347
 a226:=Tryz.isAgg347
 z226:=Tryz.sizeOf347
 v226:=Tryz.zeroValue347
 t227:=Tryz.underlying348
 a227:=Tryz.isAgg348
 z227:=Tryz.sizeOf348
 v227:=Tryz.zeroValue348
 g0:=EQ
 g6:=by kernel_rfl}
open Go.RowKit Go.Lib in
theorem Tryz.strings_Fields (s : ByteArray) (w : World) (hs : s.size < 4294967281) (U : ∀ (j : Nat) b, s.data.toList[j]? = some b -> b.toNat < 128) (htab : Lib.TabIs Tryz.prog w "strings.asciiSpace" .u8 Lib.asciiSpaceTab) :
 Calls Tryz.prog 214 #[.string s] w λe w'=>
  e=.returned (.slice (some ⟨w.heap.size,0,none⟩) (Lib.fields s.data.toList).length (Lib.fields s.data.toList).length)/\w'=w.alloc (.cells ((Lib.fields s.data.toList).map λl=>Value.string ⟨l.toArray⟩).toArray 9):=Any.strings_Fields Tryz.ns EQ EQ s w hs U htab
def Tryz.VX:Go.Shelf.Ren:=⟨λ|197=>68|260=>117|n=>n,λ|9=>9|21=>21|3=>3|4=>4|5=>5|105=>105|119=>218|0=>0|46=>219|139=>222|138=>221|n=>n,λ|3=>1|4=>2|n=>n⟩
theorem Tryz.nu:Go.Proofs.Lays.n197 Tryz.prog Tryz.VX:={
 mixed:=EQ
 f197:=Tryz.func68.trans (congrArg some EQ)
 f260:=Tryz.func117.trans (congrArg some EQ)
 t0:=Tryz.underlying0
 a0:=Tryz.isAgg0
 z0:=Tryz.sizeOf0
 v0:=Tryz.zeroValue0
 t3:=Tryz.underlying3
 a3:=Tryz.isAgg3
 z3:=Tryz.sizeOf3
 v3:=Tryz.zeroValue3
 t4:=Tryz.underlying4
 a4:=Tryz.isAgg4
 z4:=Tryz.sizeOf4
 v4:=Tryz.zeroValue4
 t5:=Tryz.underlying5
 a5:=Tryz.isAgg5
 z5:=Tryz.sizeOf5
 v5:=Tryz.zeroValue5
 t9:=Tryz.underlying9
 a9:=Tryz.isAgg9
 z9:=Tryz.sizeOf9
 v9:=Tryz.zeroValue9
 t21:=Tryz.underlying21
 a21:=Tryz.isAgg21
 z21:=Tryz.sizeOf21
 v21:=Tryz.zeroValue21
 t46:=Tryz.underlying219
 a46:=Tryz.isAgg219
 z46:=Tryz.sizeOf219
 v46:=Tryz.zeroValue219
 t105:=Tryz.underlying105
 a105:=Tryz.isAgg105
 z105:=Tryz.sizeOf105
 v105:=Tryz.zeroValue105
 t119:=Tryz.underlying218
 a119:=Tryz.isAgg218
 z119:=Tryz.sizeOf218
 t138:=Tryz.underlying221
 a138:=Tryz.isAgg221
 z138:=Tryz.sizeOf221
 v138:=Tryz.zeroValue221
 t139:=Tryz.underlying222
 a139:=Tryz.isAgg222
 z139:=Tryz.sizeOf222
 v139:=Tryz.zeroValue222
 g3:=EQ
 g4:=by kernel_rfl}
open Go.RowKit Go.Lib in
theorem Tryz.utf8_DecodeRuneInString (s:ByteArray) (w:World) (U:Lib.Utf8Tabs 1 2 w):
 Calls Tryz.prog 68 #[.string s] w λe w'=>e=.returned (.tuple #[.int .i32 (Lib.decodeGo s).1,.int .i64 (Lib.decodeGo s).2])/\Below w.heap.size w w':=Any.utf8_DecodeRuneInString Tryz.nu s w U
open Go.RowKit Go.Lib in
theorem Tryz.strings_IndexFunc_grows (g:Nat) (U:Array Value) (eg:∀args w,(callFunc g args).run Tryz.prog w=.ok (.enter g args) w) (p:Nat->Bool) (s:ByteArray) (w:World) (hp:PredGrows Tryz.prog g U p w):
 Calls Tryz.prog 44 #[.string s,.func (.func g) #[] U] w λe w'=>e=.returned (.int .i64 (Lib.idxFunc p true s))/\Below w.heap.size w w':=Any.strings_IndexFunc_grows Tryz.ie g U eg p s w hp
end Go.Proofs
namespace Go.Aw
open Go
theorem B7.below {st:St} {w w':World} (h:B7 I st w) (b:RowKit.Below w.heap.size w w'):Fr I st w I st w'/\B7 I st w':=by
 refine ⟨⟨b.os,b.tape,b.output,b.size,λx hx _ _=>b.block x hx,Mem.le_refl _,λ_ _ h k=>absurd h k,λ_ h k=>absurd h k,λ_ h=>.inr h⟩,?_,?_,?_,h.HD,?_,h.SP⟩
 .intro x o v e
  have e:=h.cell x o v e
  rw [Gs (b.block x (IJ e))];exact e
 .intro x n e
  obtain ⟨c,ty,U,h2⟩:=h.shape x n e
  exact ⟨c,ty,by rw [b.block x (GY U)];exact U,h2⟩
 .intro x cs e
  obtain ⟨vs,ty,U,h2⟩:=h.box x cs e
  exact ⟨vs,ty,by rw [b.block x (GY U)];exact U,h2⟩
 .intro x n e
  exact ⟨Nat.lt_of_lt_of_le (h.hw x n e).1 b.size,(h.hw x n e).2⟩
theorem Cv {P:Program} {st:St} (hf:Plain P f) (v:V)
 (h:∀(I:Mem) (w:World) (U:List Value),B7 I st w->Ao I args U->Calls P f U.toArray w λe w'=>(∃c,e=.returned c/\AH I v c)/\RowKit.Below w.heap.size w w')
 (k:R (.ret v) st):A0 P f args st R:=
 ⟨λI w U hs ha=>(h I w U hs ha).mono λe w' ⟨⟨c,he,hc⟩,hb⟩=>⟨I,st,.ret v,(hs.below hb).1,(hs.below hb).2,by subst he;exact hc,k⟩,hf⟩
theorem B7.row {st:St} {w:World} (h:B7 I st w) (vs:List Value) (ty:TypeId):
 Fr I st w (I.add w.heap.size 0 vs vs.length) st (w.alloc (.cells vs.toArray ty))/\B7 (I.add w.heap.size 0 vs vs.length) st (w.alloc (.cells vs.toArray ty))/\I.le (I.add w.heap.size 0 vs vs.length):=by
 have hr:Rel [] I st w I (λ_=>none) {tmps:=[],boxes:=[],BG:=0,sz:=0,gl:=[]} st {tmps:=#[],defers:=[]} w:=
  QM h rfl (λt v e=>by cases e) rfl rfl
 have h1:=hr.newRow vs [] ty
 rw [List.append_nil,List.length_nil,Nat.add_zero] at h1
 have U:=h1.Gw (St.Fb (St.le_refl st) (CU h).2 vs.length)
 exact ⟨U.fr,U.s,U.fr.le⟩
theorem jJ {n:Nat} (l:List (List UInt8)) (hl:∀x ∈ l,x.length<C9) (hn:l.length<C9)
 (hle:I.le (I.add b 0 (l.map λx=>Value.string ⟨x.toArray⟩) n)):
 AH (I.add b 0 (l.map λx=>Value.string ⟨x.toArray⟩) n) (.slice 1 (l.map λx=>[.str x]) .any) (.slice (some ⟨b,0,none⟩) l.length l.length):=by
 simp only [AH]
 refine ⟨some ⟨b,0,none⟩,l.length,GT,GT,kw,Do,trivial,.inr rfl,?_⟩
 refine B8.add _ (l.map λx=>Value.string ⟨x.toArray⟩) 0 ?_ hle (λj c U=>Mem.M1 U)
 clear hle hn
 induction l with
 |nil=>rfl
 |cons a r ih=>
  simp only [List.map_cons,BN]
  refine ⟨[Value.string ⟨a.toArray⟩],r.map λx=>Value.string ⟨x.toArray⟩,rfl,rfl,?_,ih λx hx=>hl x (List.mem_cons_of_mem _ hx)⟩
  simp only [Ao,AH]
  simp_all
end Go.Aw
namespace Go.Proofs.Z
open Go Go.Aw
def Tn (s:List UInt8):Int×Int:=match s with
 |[]=>(65533,0)
 |a::r=>(((AR (a::r)).1:Nat),((AR (a::r)).2:Nat))
theorem N4 (s:List UInt8):(((Lib.decodeGo ⟨s.toArray⟩).1:Nat):Int)=(Tn s).1/\(((Lib.decodeGo ⟨s.toArray⟩).2:Nat):Int)=(Tn s).2:=by
 cases s with
 |nil=>exact ⟨rfl,rfl⟩
 |cons a r=>
  have U:¬(⟨(a::r).toArray⟩:ByteArray).size=0:=by show ¬(a::r).toArray.size=0;simp
  unfold Lib.decodeGo
  rw [if_neg U,To GT,List.drop_zero]
  exact ⟨rfl,rfl⟩
section
variable {st:St} {R:At->St->Prop}
theorem pC {s:List UInt8} (h:R (.ret (.Bj [.int .i32 (Tn s).1,.int .i64 (Tn s).2])) st):PC 68 [.str s] st R:=by
 refine Cv ⟨_,Tryz.func68,Do,Do⟩ _ (λI w cargs U ha=>?_) h
 simp only [Ao,AH] at ha
 obtain ⟨c,r,rfl,⟨rfl,hl⟩,rfl⟩:=ha
 refine (Tryz.utf8_DecodeRuneInString ⟨s.toArray⟩ w ⟨λi hi=>U.cell _ _ _ (U.SP.first i hi),λi hi=>⟨U.cell _ _ _ (U.SP.accept i hi).1,U.cell _ _ _ (U.SP.accept i hi).2⟩⟩).mono λe w' ⟨he,hb⟩=>⟨⟨_,he,?_⟩,hb⟩
 rw [(N4 s).1,(N4 s).2]
 simp only [AH,Ao]
 exact ⟨_,rfl,_,_,rfl,rfl,_,_,rfl,rfl,rfl⟩
theorem Il {s p:List UInt8} (h:R (.ret (.bool (p.isPrefixOf s))) st):PC 73 [.str s,.str p] st R:=by
 refine Cv ⟨_,Tryz.func73,Do,Do⟩ _ (λI w U hs ha=>?_) h
 simp only [Ao,AH] at ha
 obtain ⟨c,r,rfl,⟨rfl,hl⟩,c2,r2,rfl,⟨rfl,hl2⟩,rfl⟩:=ha
 refine (Tryz.strings_HasPrefix ⟨s.toArray⟩ ⟨p.toArray⟩ w).mono λe w' ⟨he,hw⟩=>⟨⟨_,he,?_⟩,hw ▸ RowKit.Below.refl _ _⟩
 simp only [AH]
 rfl
theorem sx {s:List UInt8} {c:UInt8} (hc:c.toNat<128) (h:R (.ret (.str (Lib.trimB s c))) st):PC 119 [.str s,.str [c]] st R:=by
 refine Cv ⟨_,Tryz.func119,Do,Do⟩ _ (λI w U hs ha=>?_) h
 simp only [Ao,AH] at ha
 obtain ⟨c1,r,rfl,⟨rfl,hl⟩,c2,r2,rfl,⟨rfl,hl2⟩,rfl⟩:=ha
 have hsz:(⟨s.toArray⟩:ByteArray).size<=9223372036854775807:=by show s.toArray.size<=_;unfold C9 at hl;simp;omega
 refine (Tryz.strings_Trim_one ⟨s.toArray⟩ c hc w hsz).mono λe w' ⟨he,hw⟩=>⟨⟨_,he,?_⟩,?_⟩
 .simp only [AH]
  refine ⟨trivial,?_⟩
  have:(Lib.trimB s c).length<=s.length:=by
   unfold Lib.trimB Lib.trimLeftB Lib.trimRightB
   refine Nat.le_trans (List.dropWhile_sublist _).length_le ?_
   rw [List.length_reverse]
   refine Nat.le_trans (List.dropWhile_sublist _).length_le ?_
   simp
  unfold C9 at hl |-;omega
 .rcases hw with rfl|rfl
  .exact RowKit.Below.refl _ _
  .exact (RowKit.Below.refl _ _).drew
theorem qA {s:List UInt8} {c:UInt8} (h:R (.ret (.int .i64 (Lib.indexByte s c))) st):PC 294 [.str s,.int .u8 c.toNat] st R:=by
 refine Cv ⟨_,Tryz.func294,Do,Do⟩ _ (λI w U hs ha=>?_) h
 simp only [Ao,AH] at ha
 obtain ⟨c1,r,rfl,⟨rfl,hl⟩,c2,r2,rfl,rfl,rfl⟩:=ha
 refine (Tryz.strings_IndexByte ⟨s.toArray⟩ c.toNat w).mono λe w' ⟨he,hw⟩=>⟨⟨_,he,?_⟩,hw ▸ RowKit.Below.refl _ _⟩
 simp [AH]
theorem Yh {s t:List UInt8} (hz:s.length<4294967281) (h:R (.ret (.bool (Lib.contains s t))) st):PC 125 [.str s,.str t] st R:=by
 refine Cv ⟨_,Tryz.func125,Do,Do⟩ _ (λI w U hs ha=>?_) h
 simp only [Ao,AH] at ha
 obtain ⟨c1,r,rfl,⟨rfl,hl⟩,c2,r2,rfl,⟨rfl,hl2⟩,rfl⟩:=ha
 obtain ⟨m,hm⟩:=hs.SP.maxLen
 refine (Tryz.strings_Contains ⟨s.toArray⟩ ⟨t.toArray⟩ m w (by show s.toArray.size<_;simpa using hz) (hs.cell _ _ _ hm)).mono λe w' ⟨he,hw⟩=>⟨⟨_,he,?_⟩,hw ▸ RowKit.Below.refl _ _⟩
 simp [AH]
end
end Go.Proofs.Z
namespace Go.Aw
open Go
noncomputable def Env.KV (env:Env) (U:List (Nat×V)) (bx:List (Nat×List V)) (keep kb:List Nat):Env:=match env with
 |⟨ts,bs,n,sz,gl⟩=>⟨Env.ts ⟨ts,bs,n,sz,gl⟩ U keep,List.rec (motive:=λ_=>List (Nat×List V)) (Env.bx ⟨ts,bs,n,sz,gl⟩ kb) (λp _ ih=>p::ih) bx,n,sz,gl⟩
theorem HN {st:St} (f:α->List (Nat×V)) (g:α->List (Nat×List V)) (keep kb:List Nat) (S:α->St) (J:α->Prop) (U:α->Nat) (x0:α) (h0:J x0)
 (he:(env.KV (f x0) (g x0) keep kb).Ek env) (hs:St.le (S x0) st)
 (hb:∀x,J x->ih (BF (λenv' st'=>∃y,J y/\U y<U x/\(env.KV (f y) (g y) keep kb).Ek env'/\St.le (S y) st') Q) (env.KV (f x) (g x) keep kb) (S x)):
 ∃(α:Type) (E:α->Env) (S:α->St) (J:α->Prop) (U:α->Nat) (x0:α),J x0/\(E x0).Ek env/\St.le (S x0) st/\
  ∀x,J x->ih (BF (λenv' st'=>∃y,J y/\U y<U x/\(E y).Ek env'/\St.le (S y) st') Q) (E x) (S x):=
 ⟨α,λk=>env.KV (f k) (g k) keep kb,S,J,U,x0,h0,he,hs,hb⟩
theorem K7 {st:St} {β:Type} (f:α->β->List (Nat×V)) (g:α->β->List (Nat×List V)) (keep kb:List Nat) (S:α->β->St) (J:α->β->Prop) (U:α->β->Nat) (x0:α) (y0:β) (h0:J x0 y0)
 (he:(env.KV (f x0 y0) (g x0 y0) keep kb).Ek env) (hs:St.le (S x0 y0) st)
 (hb:∀x y,J x y->ih (BF (λenv' st'=>∃p:α×β,J p.1 p.2/\U p.1 p.2<U x y/\(env.KV (f p.1 p.2) (g p.1 p.2) keep kb).Ek env'/\St.le (S p.1 p.2) st') Q) (env.KV (f x y) (g x y) keep kb) (S x y)):
 ∃(α:Type) (E:α->Env) (S:α->St) (J:α->Prop) (U:α->Nat) (x0:α),J x0/\(E x0).Ek env/\St.le (S x0) st/\
  ∀x,J x->ih (BF (λenv' st'=>∃y,J y/\U y<U x/\(E y).Ek env'/\St.le (S y) st') Q) (E x) (S x):=
 ⟨α×β,λp=>env.KV (f p.1 p.2) (g p.1 p.2) keep kb,λp=>S p.1 p.2,λp=>J p.1 p.2,λp=>U p.1 p.2,(x0,y0),h0,he,hs,λp h=>hb p.1 p.2 h⟩
theorem K8 {st:St} {β γ:Type} (f:α->β->γ->List (Nat×V)) (g:α->β->γ->List (Nat×List V)) (keep kb:List Nat) (S:α->β->γ->St) (J:α->β->γ->Prop) (U:α->β->γ->Nat) (x0:α) (y0:β) (z0:γ) (h0:J x0 y0 z0)
 (he:(env.KV (f x0 y0 z0) (g x0 y0 z0) keep kb).Ek env) (hs:St.le (S x0 y0 z0) st)
 (hb:∀x y z,J x y z->ih (BF (λenv' st'=>∃p:α×β×γ,J p.1 p.2.1 p.2.2/\U p.1 p.2.1 p.2.2<U x y z/\(env.KV (f p.1 p.2.1 p.2.2) (g p.1 p.2.1 p.2.2) keep kb).Ek env'/\St.le (S p.1 p.2.1 p.2.2) st') Q) (env.KV (f x y z) (g x y z) keep kb) (S x y z)):
 ∃(α:Type) (E:α->Env) (S:α->St) (J:α->Prop) (U:α->Nat) (x0:α),J x0/\(E x0).Ek env/\St.le (S x0) st/\
  ∀x,J x->ih (BF (λenv' st'=>∃y,J y/\U y<U x/\(E y).Ek env'/\St.le (S y) st') Q) (E x) (S x):=
 ⟨α×β×γ,λp=>env.KV (f p.1 p.2.1 p.2.2) (g p.1 p.2.1 p.2.2) keep kb,λp=>S p.1 p.2.1 p.2.2,λp=>J p.1 p.2.1 p.2.2,λp=>U p.1 p.2.1 p.2.2,(x0,y0,z0),h0,he,hs,λp h=>hb p.1 p.2.1 p.2.2 h⟩
theorem Bq {k:IntKind} {a b:Int} (e:a=b):At.ret (.int k a)=At.ret (.int k b):=by rw [e]
theorem Fa {k U:IntKind} {a b c d:Int} (e:a=b) (f:c=d):At.ret (.Bj [.int k a,.int U c])=At.ret (.Bj [.int k b,.int U d]):=by rw [e,f]
theorem WJ {n:Nat} {p:Prop} (k:n<4611686018427387904->p):n<C9->p:=k
theorem WK {l:List UInt8} {K:Nat->Nat->Prop} (k:∀c m,(c,m)=AR l->K c m):∀c m,(c,m)=AR l->K c m:=k
theorem WN {s:List UInt8} {a:Int} {K:List UInt8->Prop} (U:0<=a) (h1:a<=s.length) (k:K (s.drop a.toNat)):
 (0<=a/\a<=(s.length:Int)/\(s.length:Int)<=s.length)/\∀s',s'=(s.take (s.length:Int).toNat).drop a.toNat->K s':=
 ⟨⟨U,h1,Int.le_refl _⟩,λs' e=>by
   simp_all⟩
theorem WO {s:List UInt8} {b:Int} {K:List UInt8->Prop} (U:0<=b) (h1:b<=s.length) (k:K (s.take b.toNat)):
 ((0:Int)<=0/\0<=b/\b<=s.length)/\∀s',s'=(s.take b.toNat).drop (0:Int).toNat->K s':=
 ⟨⟨Int.le_refl _,U,h1⟩,λs' e=>by
   simp_all⟩
theorem WP {s:List UInt8} {a b:Int} {K:List UInt8->Prop} (U:0<=a) (h1:a<=b) (h2:b<=s.length) (k:K ((s.take b.toNat).drop a.toNat)):
 (0<=a/\a<=b/\b<=s.length)/\∀s',s'=(s.take b.toNat).drop a.toNat->K s':=⟨⟨U,h1,h2⟩,λs' e=>e ▸ k⟩
theorem WM {s:List UInt8} {K:UInt8->Prop} (U:0<=i) (h1:i<s.length) (k:∀e,s[i.toNat]? =some e->K e):0<=i/\∃e,s[i.toNat]? =some e/\K e:=kw
theorem WL {s:List UInt8} {e:UInt8} {K:UInt8->Prop} (h:s[i.toNat]? =some e) (U:0<=i) (k:K e):0<=i/\∃e,s[i.toNat]? =some e/\K e:=⟨U,e,h,k⟩
theorem Du (h:P:=by with_reducible first|(show _/\_;first|exact Wa)|(show Bk _ _ _;first|exact Wb|exact Wc)|fail):P:=h
theorem Br {A:Prop} (k:A) (h:A->P:=by intro k;with_reducible first|(show _/\_;first|  exact Wm ‹_› AC k|exact Wn AC AC k|exact Wo AC AC k|exact Wp AC AC AC k|exact Wr Do AC AC k|exact Ws Do k|exact WB ‹_› AC k|exact WC AC AC k|exact WD AC AC k|exact WE AC AC AC k|exact WL ‹_› AC k|exact WM AC AC k|exact WN AC AC k|exact WO AC AC k|exact WP AC AC AC k)|(show Bk _ _ _;first|exact Wt H9 k|exact Wu H9 k|exact Wv AC k|exact Ww AC k|exact Wi k|exact Wj k)|(intro x y z;exact Wl k x y z)|(intro x y z;exact Wz k x y z)|(intro x y z;exact WA k x y z)|(intro x;exact WJ k x)|(intro x y z;exact WK k x y z)|(show Exists _;first|exact Wq AC AC k)|fail):P:=h k
theorem Dw {B C:V->Prop} (k:V) (l:B k) (m:C k) (h:∀k,B k->C k->P:=by intro k l m;with_reducible first|(show Exists _;first|  exact W8 GE k l m|exact W0 GE k l m|exact W9 k l m)|fail):P:=h k l m
theorem BR {A B:Prop} (k:A) (l:B) (h:A->B->P:=by intro k l;with_reducible first|(show Bk _ _ _;first|exact Wf Do k l|exact Wg k l|exact Wh k l|exact Wk k l)|fail):P:=h k l
def F7 (c:Int):Int:=
 if c=40\/c=41\/c=44\/c=59\/c=91\/c=93\/c=96\/c=123\/c=125 then 6
 else if c=34\/c=39 then 7
 else if 32<c/\c<127 then 5
 else 0
def J0 (c:Int):Int:=
 if c=215\/c=247 then 5
 else if 223<=c/\c<=255\/945<=c/\c<=969 then 2
 else if 192<=c/\c<=222\/913<=c/\c<=937/\c≠930 then 3
 else if c<160\/c=173\/55296<=c/\c<=57343\/1114111<c then 0
 else if 160<c/\c<=191\/8592<=c/\c<=8959 then 5
 else 8
def Ax (c:Int):Int:=
 if c=32\/9<=c/\c<=13 then 1
 else if 48<=c/\c<=57 then 4
 else if 97<=c/\c<=122\/c=95 then 2
 else if 65<=c/\c<=90 then 3
 else if c<128 then F7 c else J0 c
def Bo (c base:Int):Int:=
 let v:=if 48<=c/\c<=57 then c - 48 else if 97<=c/\c<=102 then c - 87 else if 65<=c/\c<=70 then c - 55 else 16
 if base<2\/16<base\/base<=v then -1 else v
theorem FX (l:List UInt8):1<=(AR l).2:=by
 unfold AR
 grind
theorem Hj {l:List UInt8} (h:l≠[]):(AR l).2<=l.length:=by
 cases l with
 |nil=>simp_all
 |cons a l=>
  have U:∀k:Nat,(match l[k]? with|some b=>b.toNat / 64==2|none=>false)=true->k+2<=(a::l).length:=λk e=>by grind
  unfold AR
  grind
def Cd (p:Nat×Nat->Bool) (l:List UInt8):Nat:=
 match l with
 |[]=>0
 |a::r=>if p (AR (a::r)) then (AR (a::r)).2+Cd p ((a::r).drop (AR (a::r)).2) else 0
termination_by l.length
decreasing_by
 have:=FX (a::r)
 grind
theorem NN (p:Nat×Nat->Bool):Cd p []=0:=by rw [Cd]
theorem Ku {l:List UInt8} (h:l≠[]) (U:p (AR l)=true):Cd p l=(AR l).2+Cd p (l.drop (AR l).2):=by
 cases l with
 |nil=>simp_all
 |cons a r=>rw [Cd,if_pos U]
theorem MM {l:List UInt8} (U:p (AR l)=false):Cd p l=0:=by
 cases l with
 |nil=>exact NN p
 |cons a r=>rw [Cd,if_neg kw]
theorem ML (p:Nat×Nat->Bool) (l:List UInt8):Cd p l<=l.length:=by
 fun_induction Cd p l with
 |case1=>omega
 |case2 a r h ih=>
  have:=Hj (l:=a::r) GT
  grind
 |case3 a r h=>omega
theorem Zx (p:Nat×Nat->Bool) (l:List UInt8) (h:Cd p l<l.length):p (AR (l.drop (Cd p l)))=false:=by
 fun_induction Cd p l with
 |case1=>simp at h
 |case2 a r U ih=>
  rw [List.length_drop] at ih
  have:=Hj (l:=a::r) GT
  rw [<-List.drop_drop]
  grind
 |case3 a r U=>simp_all
def BQ (p:Int->Bool) (l:List UInt8):Nat:=Cd (λd=>p (d.1:Nat)) l
theorem SN (p:Int->Bool):BQ p []=0:=NN _
theorem dX {p:Int->Bool} {l:List UInt8} (h:l≠[]) (U:p ((AR l).1:Nat)=true):BQ p l=(AR l).2+BQ p (l.drop (AR l).2):=Ku h U
theorem Xy {p:Int->Bool} {l:List UInt8} (U:p ((AR l).1:Nat)=false):BQ p l=0:=MM U
theorem Ew (p:Int->Bool) (l:List UInt8):BQ p l<=l.length:=ML _ l
theorem Rn (p:Int->Bool) (l:List UInt8) (h:BQ p l<l.length):p ((AR (l.drop (BQ p l))).1:Nat)=false:=Zx _ l h
theorem rune_le {t:List UInt8} (h:pos<t.length) (hd:(c,m)=AR (t.drop pos)):pos+m<=t.length/\1<=m:=by
 have U:=FX (t.drop pos)
 have h2:=Hj (l:=t.drop pos) (λe=>by have:=congrArg List.length e;grind)
 grind
theorem oA {t:List UInt8} (U:(c,m)=AR (t.drop pos)):¬pos<t.length\/(pos+m<=t.length/\1<=m):=by
 by_cases h:pos<t.length
 .exact .inr (rune_le h U)
 omega
theorem MO {t:List UInt8} {n:Nat} (h:pos<t.length) (U:(c,m)=AR (t.drop pos)) (hp:p (c,m)=true) (hi:n=pos+Cd p (t.drop pos)):n=pos+m+Cd p (t.drop (pos+m)):=by
 rw [hi,Ku (λe=>by have:=congrArg List.length e;grind) kw,<-U,List.drop_drop]
 grind
theorem O7 {t:List UInt8} {n:Nat} (U:(c,m)=AR (t.drop pos)) (hp:p (c,m)=false) (hi:n=pos+Cd p (t.drop pos)):n=pos:=by
 rw [hi,MM kw];rfl
theorem MN {t:List UInt8} {n:Nat} (h:¬pos<t.length) (hi:n=pos+Cd p (t.drop pos)):n=pos:=by
 rw [hi,List.drop_eq_nil_iff.2 AC,NN];rfl
def DV (d:Nat×Nat):Bool:= !(d.1==65533&&d.2==1)
end Go.Aw
