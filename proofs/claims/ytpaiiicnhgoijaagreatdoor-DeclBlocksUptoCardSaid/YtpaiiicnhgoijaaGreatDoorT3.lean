/-
  Parts of a proof: lemmas that the last text uses.
-/
import Derived.Test.YtpaiiicnhgoijaaGreatDoorT2
import Derived.Shelf.Strings.Trim
import Derived.Shelf.Small.Utf8
import Derived.Shelf.Small.Strs
import Derived.Shelf.Strings.Search1
import Derived.Shelf.Strings.Search2
import Derived.Shelf.Strings.Search3
import Derived.Shelf.LaysM
import Derived.Shelf.Strings.Shaped
import Derived.Shelf.GgClosure.StringsIndexFunc
import Derived.Ground.GgwProg
import Derived.Shelf.GgClosure.StringsIndexFuncTop
import Derived.Shelf.GgClosure.StringsRunes
import Derived.Shelf.Strings.Prefix
import Derived.Shelf.Strings.Fields
import Derived.Shelf.Strings.SplitShaped
import Derived.Shelf.Unicode.Latin
import Derived.Shelf.Unicode.Decode
import Derived.Shelf.Strings.Runes
import Derived.Shelf.Strings.AsciiSet
import Derived.Shelf.Unicode.DecodeSlow
import Derived.Shelf.Unicode.DecodeAny
import Derived.Shelf.Unicode.Is16White
import Derived.Shelf.Unicode.IsSpaceAny
import Derived.Shelf.Unicode.DecodeLast
import Derived.Shelf.Unicode.Is16Any
import Derived.Shelf.Unicode.Is32Any
import Derived.Shelf.Unicode.ExclAny
import Derived.Shelf.Strings.FuncGrows
import Derived.Shelf.Slices.Turned
import Derived.Ground.Names2Prog
import Derived.Shelf.Slices.Clone
import Derived.Ground.SlgnProg
import Derived.Shelf.SlicesE.Clone
import Derived.Test.YtpaiiicnhgoijaaGreatDoorProg
import Derived.Below
import Derived.IntWalk
set_option linter.unusedVariables false
set_option linter.unusedSimpArgs false
set_option maxHeartbeats 16000000
variable {b:Nat} {cs args:List Go.Aw.V} {s s':Go.Proofs.Z.Af} {e d i:Int} {K R:Go.Aw.AD->Go.Aw.St->Prop} {f:Go.FuncId} {x o:List UInt8} {l new:List Go.Aw.Nd} {n:Go.Aw.Nd} {p:Go.Aw.Nd->Bool} {I:Go.Aw.Mem} {P A:Prop} {ih:(Go.Aw.AG->Go.Aw.Env->Go.Aw.St->Prop)->Go.Aw.Env->Go.Aw.St->Prop} {Q:Go.Aw.AG->Go.Aw.Env->Go.Aw.St->Prop} {env:Go.Aw.Env} {α β:Type} {st0:Go.Aw.St} {rows:List (Go.Aw.Ay×List Go.Aw.Nd)} {kinds:List Int}
namespace Go.Proofs.Z
open Go Go.Aw
def QC:List (List Bool×Nat):=yK 8 [0,1,33,37,64,66,98,101,1057,192,195,227,229,1122,448,452,484,485,1251,960,997,1508,2022,4071]
def dx:List (List Bool×Nat):=yK 10 [0,1,5,33,37,64,66,69,1024,1025,1030,98,101,1057,1062,192,195,197,1088,1090,1094,3072,3073,227,229,1122,1126,3105,448,452,453,1216,1219,1222,3136,3138,484,485,1251,1254,3170,960,965,1472,1476,1478,3264,3267,997,999,1508,1510,3299,1984,1990,3520,3524,2022,2023,5093,5096,3556,4032,4071,6118,6120,13285,8168,14310,16361]
section
variable {st:St} {R:AD->St->Prop}
attribute [local irreducible] Go.Aw.Ai
def BC:Nd:=.mk 0 0 [] 0 0 []
def Eh:List V:=[.int .i64 0,.int .i64 0,.str [],.int .i64 0,.int .i64 0,.slice 6 [] .full]
theorem RB {bp bn ba be:Nat} {RS:St->Prop} (h:RS st):Kf Tryz.prog 138 [.ptr bp 0,.ptr bn 0,.ptr ba 0,.ptr be 0] none st RS:=by
 refine Gg Ac [] Tryz.func138 rfl rfl rfl rfl rfl rfl rfl rfl (λU he=>?_)
 subst he
 conv=>whnf
 refine Ah (Aj Ac ?_)
 repeat' ((conv=>whnf);first|  fail)
 all_goals exact h
theorem St.AH {st:St} {c:Nat} (h:b≠c):(st.Ab b cs).box c=st.box c:=by simp [St.Ab,Ne.symm h]
noncomputable def k8:List Oper:=match Tryz.f138.body with|some (.seq _ (.seq _ (.seq _ (.seq _ (.region _ ops _)))))=>ops.toList|_=>[]
noncomputable def u9 (bs:List Bool) (bp bn ba be U:Nat) (sc:List V) (e:Int):Env:=
 {tmps:=nt [(6,.bool true),(14,.bool true),(13,.agg [.int .i64 e]),(5,.Cd 0 0),(4,fault e),(0,.ptr bp 0),(1,.ptr bn 0),(2,.ptr ba 0),(3,.ptr be 0)]
   k8
   [.agg Eh,.ptr U 0,.ptr U 0,.ptr U 0,.agg sc,.Cd 0 0,.int .i64 e,.Cc,.Cc,.Cc] bs,boxes:=[(0,[.int .i64 e])],BS:=1,sz:=25,gl:=[]}
def va (st:St) (U ba be:Nat) (sc:List V) (e:Int) (bs:List Bool):St:=
 match bs[7]?,bs[8]?,bs[9]? with
 |_,_,some true=>((st.Ab U Eh).Ab ba sc).Ab be [.int .i64 e]
 |_,some true,_=>(st.Ab U Eh).Ab ba sc
 |some true,_,_=>st.Ab U Eh
 |_,_,_=>st
theorem Kn {bp bn U be br:Nat} {RS:St->Prop} (hp:st.box bp=some [.ptr br 0]) (hr:Has st br s) {n0:Nd} {s0:Af} {o1 o2 o3:Ay} {e0:Int}
 (hn:st.box bn=some [.int .i64 n0.kind,.int .i64 n0.form,.str n0.text,.int .i64 n0.line,.int .i64 n0.Da,.slice 6 (Co n0.kids) o1])
 (ha:st.box U=some [.slice 4 (Bb s0.AR) o2,.int .i64 s0.pos,.slice 1 (ints s0.Cf) o3,.int .i64 s0.wait]) (he:st.box be=some [.int .i64 e0])
 (d1:bn≠bp) (d2:bn≠br) (d3:bn≠U) (d4:bn≠be) (d5:U≠bp) (d6:U≠br) (d7:U≠be)
 (h:RS (((st.Ab bn Eh).Ab U s.cells).Ab be [.int .i64 e])):Kf Tryz.prog 138 [.ptr bp 0,.ptr bn 0,.ptr U 0,.ptr be 0] (some (fault e)) st RS:=by
 refine Gg Ac [] Tryz.func138 rfl rfl rfl rfl rfl rfl rfl rfl (λenv0 he=>?_)
 subst he
 conv=>whnf
 refine Ah (Aj Ac ?_)
 repeat' ((conv=>whnf);first|  fail)
 refine Ah (Aj Ac ?_)
 repeat' ((conv=>whnf);first|  fail)
 refine Ah (Aj Ac ?_)
 repeat' ((conv=>whnf);first|  fail)
 have ha':(st.Ab bn Eh).box U=some [.slice 4 (Bb s0.AR) o2,.int .i64 s0.pos,.slice 1 (ints s0.Cf) o3,.int .i64 s0.wait]:=by rw [St.AH d3];exact ha
 have he':((st.Ab bn Eh).Ab U s.cells).box be=some [.int .i64 e0]:=by rw [St.AH d7,St.AH d4];exact he
 refine U4 Ac (BX _) (λbs=>u9 bs bp bn U be br s.cells e) (va st bn U be s.cells e) dx NE Yl (St.le_refl _) ?_ h
 unfold dx
 rcases hr with hr|⟨t,u,q1,q2,q3,hr⟩
 all_goals repeat' (first|refine List.forall_mem_cons.2 ⟨?_,?_⟩|exact λ_ h=>nomatch h)
 repeat' ((conv=>whnf);first|  refine AK hp ?_|refine AK hr ?_|refine AK hn ?_|refine AK ha' ?_|refine AK he' ?_|fail)
 all_goals conv=>whnf
 all_goals (refine ⟨Yl,?_⟩)
 all_goals exact St.le_refl _
end
abbrev Rs:=Sum (Int×Af) (Nd×Af)
def Fv (st:St) (b:Nat) (R:AD->St->Prop):Rs->Prop
 | .inr (n,s')=>∀st',II st st' b s'->R (.ret (enc n)) st'
 | .inl (e,s')=>∀st',II st st' b s'->R (.Ci (fault e)) st'
def Reads (f:FuncId) (s:Af) (d:Int) (q:Rs):Prop:=∀(b:Nat) (st:St) (R:AD->St->Prop),Has st b s->Fv st b R q->PC f [.ptr b 0,.int .i64 d] st R
def C5 (s:Af) (deep:Int) (q:Rs):Nd×Af×Int:=
 if deep<1 then (BC,s,2) else match q with
  | .inr (n,s')=>(n,s',0)
  | .inl (e,s')=>(BC,s',e)
def ME (p:Nd×Af×Int):V:=XR p.1 p.2.1 p.2.2
section
variable {st:St} {R:AD->St->Prop}
attribute [local irreducible] Go.Aw.Ai
theorem Ct {st:St} {c:Nat} (h:(st.Ab b cs).fresh c):b≠c/\st.fresh c:=by
 by_cases e:b=c
 .subst e
  have:=h.1
  rw [St.As] at this
  cases this
 .refine ⟨e,?_,h.2⟩
  have:=h.1
  rw [St.AH e] at this
  exact this
theorem er {st:St} {K:Nat->Prop} (h:∀b,st.fresh b->K b):∀b,st.fresh b->K b:=h
theorem dZ {st:St} (h:st.box b=some cs):St.le st (st.Ab b cs):=by rw [St.SY h];exact St.le_refl _
noncomputable def kQ:List Oper:=match Tryz.f67.body with|some (.seq _ (.seq _ (.seq _ (.seq _ (.seq _ (.seq (.region _ ops _) _))))))=>ops.toList|_=>[]
noncomputable def kP (bs:List Bool) (b1 b2 b3 U b5:Nat) (nc sc:List V):Env:=
 {tmps:=nt [(6,.ptr b1 0),(7,.ptr b2 0),(8,.ptr b3 0),(9,.ptr b5 0)] kQ [.agg nc,.ptr U 0,.ptr U 0,.ptr U 0,.agg sc,.Cc,.Cc,.Cc] bs,boxes:=[],BS:=1,sz:=28,gl:=[6,7,8,9,12]}
def kR (st:St) (U b3:Nat) (sc:List V) (bs:List Bool):St:=
 match bs[6]?,bs[7]? with
 |_,some true=>(st.Ab U sc).Ab b3 [.int .i64 0]
 |some true,_=>st.Ab U sc
 |_,_=>st
theorem QD {deep:Int} {q:Rs} (hq:¬deep<1->Reads f s (if 100<deep then 100 else deep) q) (h:R (.ret (ME (C5 s deep q))) st):PC 67 [Am s,.int .i64 deep,.func f [] []] st R:=by
 refine Bp.ends (Oe Ac [6,7,8,9,12] Tryz.func67 rfl IR rfl rfl rfl rfl rfl rfl ⟨_,Tryz.func138,rfl,IR⟩ rfl ?_)
 repeat' ((conv=>whnf);first|  (refine CD ?_ ?_<;>intro _)|refine er (λb5 f5=>?_)|refine AK (St.As ..) ?_|fail)
 rename_i b1 f1 b2 f2 b3 f3 b4 f4
 obtain ⟨n12,f2a⟩:=Ct f2
 obtain ⟨n23,f3a⟩:=Ct f3
 obtain ⟨n13,f3b⟩:=Ct f3a
 obtain ⟨n34,f4a⟩:=Ct f4
 obtain ⟨n24,f4b⟩:=Ct f4a
 obtain ⟨n14,f4c⟩:=Ct f4b
 obtain ⟨n45,f5a⟩:=Ct f5
 obtain ⟨n35,f5b⟩:=Ct f5a
 obtain ⟨n25,f5c⟩:=Ct f5b
 obtain ⟨n15,f5d⟩:=Ct f5c
 conv=>whnf
 refine ⟨rfl,A7 rfl ?_⟩
 generalize hst5:St.Ab _ b5 [V.ptr b4 0]=st5
 have k1:st5.box b1=some Eh:=by subst hst5;rw [St.AH n15.symm,St.AH n15.symm,St.AH n14.symm,St.AH n13.symm,St.AH n12.symm,St.As];rfl
 have k2:st5.box b2=some [.slice 4 (Bb FH.AR) .full,.int .i64 FH.pos,.slice 1 (ints FH.Cf) .full,.int .i64 FH.wait]:=by subst hst5;rw [St.AH n25.symm,St.AH n25.symm,St.AH n24.symm,St.AH n23.symm,St.As];rfl
 have k3:st5.box b3=some [.int .i64 0]:=by subst hst5;rw [St.AH n35.symm,St.AH n35.symm,St.AH n34.symm,St.As]
 have k4:Has st5 b4 s:=by subst hst5;refine .inr ⟨oW,FH,.full,.full,0,?_⟩;rw [St.AH n45.symm,St.AH n45.symm,St.As];rfl
 have k5:st5.box b5=some [.ptr b4 0]:=by subst hst5;rw [St.As]
 have kle:st.le st5:=by
  subst hst5
  exact St.Av (St.Av (St.Av (St.Av (St.Av (St.Av (St.le_refl _) f1.1 _) f2a.1 _) f3b.1 _) f4c.1 _) f5d.1 _) f5d.1 _
 have kpan:∀(U:St) (e:Int) (s':Af),II st5 U b4 s'->U.box b5=some [.ptr b4 0]/\U.box b1=some Eh/\U.box b2=some [.slice 4 (Bb FH.AR) .full,.int .i64 FH.pos,.slice 1 (ints FH.Cf) .full,.int .i64 FH.wait]/\U.box b3=some [.int .i64 0]/\st.le U:=by
  rintro U e s' ⟨_,cs,rfl⟩
  exact ⟨by rw [St.AH n45];exact k5,by rw [St.AH n14.symm];exact k1,by rw [St.AH n24.symm];exact k2,by rw [St.AH n34.symm];exact k3,St.Av kle f4c.1 _⟩
 clear hst5 f2 f3 f4 f5 f3a f4a f4b f5a f5b f5c
 refine Ah (Aj Ac ?_)
 repeat' ((conv=>whnf);first|  (refine CD ?_ ?_<;>intro _)|refine AK k5 ?_|refine CL ?_|fail)
 .refine Kn (n0:=BC) (s0:=FH) k5 k4 k1 k2 k3 n15 n14 n12 n13 n25 n24 n23 ?_
  have g1:(((st5.Ab b1 Eh).Ab b2 s.cells).Ab b3 [.int .i64 2]).box b1=some Eh:=by rw [St.AH n13.symm,St.AH n12.symm,St.As]
  have g2:(((st5.Ab b1 Eh).Ab b2 s.cells).Ab b3 [.int .i64 2]).box b2=some s.cells:=by rw [St.AH n23.symm,St.As]
  have gl:st.le (((st5.Ab b1 Eh).Ab b2 s.cells).Ab b3 [.int .i64 2]):=St.Av (St.Av (St.Av kle f1.1 _) f2a.1 _) f3b.1 _
  unfold C5 at h
  rw [if_pos ‹_›] at h
  repeat' ((conv=>whnf);first|  (refine CD ?_ ?_<;>intro _)|refine AK g1 ?_|refine AK g2 ?_|refine AK (St.As ..) ?_|fail)
  all_goals exact CS gl rfl h
 .rename_i hd
  unfold C5 at h
  rw [if_neg hd] at h
  have hq:=hq hd b4
  refine Ah (Aj Ac ?_)
  cases q with
  |inl q=>
   obtain ⟨e,s'⟩:=q
   repeat' ((conv=>whnf);first|  (refine CD ?_ ?_<;>intro _)|refine AK k5 ?_|refine ⟨_,rfl,?_⟩|refine hq _ _ k4 (λU hu=>?_)|fail)
   obtain ⟨j5,j1,j2,j3,jle⟩:=kpan U e s' hu
   refine Kn (n0:=BC) (s0:=FH) j5 hu.1 j1 j2 j3 n15 n14 n12 n13 n25 n24 n23 ?_
   have g1:(((U.Ab b1 Eh).Ab b2 s'.cells).Ab b3 [.int .i64 e]).box b1=some Eh:=by rw [St.AH n13.symm,St.AH n12.symm,St.As]
   have g2:(((U.Ab b1 Eh).Ab b2 s'.cells).Ab b3 [.int .i64 e]).box b2=some s'.cells:=by rw [St.AH n23.symm,St.As]
   have gl:st.le (((U.Ab b1 Eh).Ab b2 s'.cells).Ab b3 [.int .i64 e]):=St.Av (St.Av (St.Av jle f1.1 _) f2a.1 _) f3b.1 _
   repeat' ((conv=>whnf);first|  (refine CD ?_ ?_<;>intro _)|refine AK g1 ?_|refine AK g2 ?_|refine AK (St.As ..) ?_|fail)
   all_goals exact CS gl rfl h
  |inr q=>
   obtain ⟨n,s'⟩:=q
   have kret:=λU hu=>kpan U 0 s' hu
   repeat' ((conv=>whnf);first|  (refine CD ?_ ?_<;>intro _)|refine AK k5 ?_|refine ⟨_,rfl,?_⟩|refine hq _ _ k4 (λU hu=>?_)|refine AK (kret U hu).2.1 ?_|fail)
   obtain ⟨j5,j1,j2,j3,jle⟩:=kret U hu
   generalize hst7:U.Ab b1 (Ap n)=st7
   have i1:st7.box b1=some (Ap n):=by subst hst7;rw [St.As]
   have i5:st7.box b5=some [.ptr b4 0]:=by subst hst7;rw [St.AH n15];exact j5
   have i2:st7.box b2=some [.slice 4 (Bb FH.AR) .full,.int .i64 FH.pos,.slice 1 (ints FH.Cf) .full,.int .i64 FH.wait]:=by subst hst7;rw [St.AH n12];exact j2
   have i3:(st7.Ab b2 s'.cells).box b3=some [.int .i64 0]:=by subst hst7;rw [St.AH n23,St.AH n13];exact j3
   have i4:Has st7 b4 s':=by
    subst hst7
    rcases hu.1 with e|⟨t,u,o1,o2,e',e⟩
    .exact .inl (by rw [St.AH n14];exact e)
    .exact .inr ⟨t,u,o1,o2,e',by rw [St.AH n14];exact e⟩
   have ile:st.le st7:=by subst hst7;exact St.Av jle f1.1 _
   refine Ah (U4 Ac (BX _) (λbs=>kP bs b1 b2 b3 b4 b5 (Ap n) s'.cells) (kR st7 b2 b3 s'.cells) QC NE Yl (by rw [<-hst7];exact St.le_refl _) ?_ ?_)
   .skip
    unfold QC
    rcases i4 with i4|⟨t,u,q1,q2,q3,i4⟩
    all_goals repeat' (first|refine List.forall_mem_cons.2 ⟨?_,?_⟩|exact λ_ h=>nomatch h)
    repeat' ((conv=>whnf);first|  (refine CD ?_ ?_<;>intro _)|refine AK i5 ?_|refine AK i1 ?_|refine AK i4 ?_|refine AK i2 ?_|refine AK i3 ?_|fail)
    all_goals conv=>whnf
    all_goals (refine ⟨Yl,?_⟩)
    all_goals first|exact St.le_refl _|exact dZ i1
   .refine Aj Ac (RB (bp:=b5) ?_)
    have g1:((st7.Ab b2 s'.cells).Ab b3 [.int .i64 0]).box b1=some (Ap n):=by rw [St.AH n13.symm,St.AH n12.symm];exact i1
    have g2:((st7.Ab b2 s'.cells).Ab b3 [.int .i64 0]).box b2=some s'.cells:=by rw [St.AH n23.symm,St.As]
    have gl:st.le ((st7.Ab b2 s'.cells).Ab b3 [.int .i64 0]):=St.Av (St.Av ile f2a.1 _) f3b.1 _
    repeat' ((conv=>whnf);first|  (refine CD ?_ ?_<;>intro _)|refine AK g1 ?_|refine AK g2 ?_|refine AK (St.As ..) ?_|fail)
    all_goals exact CS gl rfl h
end
def mu (s:Af):Nat:=4*(s.AR.length - s.pos.toNat)+s.Cf.length+(2 - s.wait.toNat)
theorem v8 (s:Af):s.Cf.length<=mu s:=by unfold mu;omega
theorem Ko (h:s.Cf≠[]):(E5 s).Cf.length+1=s.Cf.length:=by
 have:0<s.Cf.length:=List.length_pos_iff.2 h
 simp only [E5,List.length_dropLast]
 omega
theorem aJ {t:Tk} (h:s.AR[s.pos.toNat]? =some t):s.pos.toNat<s.AR.length:=(List.getElem?_eq_some_iff.1 h).1
theorem lE (h:(IM s).2.2=0):mu (IM s).2.1<=mu s/\((IM s).1.kind≠21->mu (IM s).2.1<mu s):=by
 unfold IM at h |-
 split
 .exact ⟨Nat.le_refl _,λe=>absurd rfl e⟩
 .split
  .rename_i U e2
   have:=Ko U
   refine ⟨?_,λ_=>?_⟩<;>simp only [mu,E5] at* <;>omega
  .rename_i U e2
   rw [if_neg U,if_neg e2] at h
   cases h
theorem kE {t:Tk} (h0:0<=s.pos) (h1:0<=s.wait) (h2:s.wait<2) (U:s.AR[s.pos.toNat]? =some t):mu (Kj t s).2<mu s:=by
 have:=aJ U
 unfold Kj
 split
 .rename_i e;simp only [mu];rw [e,show Int.toNat 2=2 from rfl,show Int.toNat 1=1 from rfl];omega
 .split
  .simp only [mu,Mc,List.length_append,List.length_singleton];omega
  .simp only [mu];omega
theorem rF {t:Tk} (h0:0<=s.pos) (h2:s.wait<=2) (U:s.AR[s.pos.toNat]? =some t):mu (EK t s).2<mu s:=by
 have:=aJ U
 unfold EK
 split
 .rename_i e
  have:=Ko (Px e.1)
  simp only [mu,E5] at *;omega
 .split<;>(simp only [mu];omega)
theorem kL {t:Tk} (h0:0<=s.pos) (ht:s.AR[s.pos.toNat]? =some t) (h:(H4 t s).2.2=0):mu (H4 t s).2.1<mu s:=by
 have:=aJ ht
 unfold H4 at h |-
 split
 .simp only [mu,Mc,List.length_append,List.length_singleton];omega
 .rename_i e1
  rw [if_neg e1] at h
  split
  .rename_i e2
   rw [if_pos e2] at h
   split
   .rename_i U;rw [if_pos U] at h;cases h
   .rename_i U
    have:=Ko (s:=s) (λe=>U (.inl e))
    simp only [mu,E5] at *;omega
  .simp only [mu];omega
theorem YD:∀(n:Nat) (s:Af),0<=s.pos->0<=s.wait->s.wait<=2->(KX n s).2.2=0->mu (KX n s).2.1<=mu s/\((KX n s).1.kind≠21->mu (KX n s).2.1<mu s)
 |0,s,h0,h1,h2,h=>lE h
 |n+1,s,h0,h1,h2,h=>by
  unfold KX at h |-
  cases U:s.AR[s.pos.toNat]? with
  |none=>rw [U] at h;exact lE h
  |some t=>
   rw [U] at h
   dsimp only at h |-
   split
   .rename_i e
    have:=kE h0 h1 e.2 U
    exact ⟨Nat.le_of_lt this,λ_=>this⟩
   .rename_i e1
    rw [if_neg e1] at h
    have hl:=rF h0 h2 U
    split
    .rename_i e2
     rw [if_pos e2] at h
     split
     .rename_i e3
      rw [if_pos e3] at h
      have hz:=GW e3
      have:=YD n (EK t s).2 (by rw [hz];show 0<=s.pos+1;omega) (by rw [hz];exact Int.le_refl _) (by rw [hz];show (0:Int)<=2;decide) h
      exact ⟨H1,λe=>by omega⟩
     .exact ⟨Nat.le_of_lt hl,λ_=>hl⟩
    .rename_i e2
     rw [if_neg e2] at h
     have:=kL h0 U h
     exact ⟨Nat.le_of_lt this,λ_=>this⟩
theorem De (h:(Aa s).2.2=0):mu (Aa s).2.1<=mu s/\((Aa s).1.kind≠21->mu (Aa s).2.1<mu s):=by
 unfold Aa at h |-
 cases U:Mx s with
 |false=>rw [U] at h;cases h
 |true=>
  rw [U,if_pos rfl] at h
  rw [if_pos rfl]
  unfold Mx at U
  simp only [Bool.and_eq_true,decide_eq_true_eq] at U
  exact YD _ s H1 H1 H1 h
theorem dK (h:¬(IM s).2.2=0):(IM s).1=oW:=by
 unfold IM at h |-
 split
 .rename_i e;rw [if_pos e] at h;exact absurd rfl h
 .rename_i e;rw [if_neg e] at h
  split
  .rename_i e;rw [if_pos e] at h;exact absurd rfl h
  .rfl
theorem gi {t:Tk} (h:¬(H4 t s).2.2=0):(H4 t s).1=oW:=by
 unfold H4 at h |-
 split
 .rename_i e;rw [if_pos e] at h;exact absurd rfl h
 .rename_i e;rw [if_neg e] at h
  split
  .rename_i e;rw [if_pos e] at h
   split
   .rfl
   .rename_i e;rw [if_neg e] at h;exact absurd rfl h
  .rename_i e;rw [if_neg e] at h;exact absurd rfl h
theorem Uf:∀(n:Nat) (s:Af),¬(KX n s).2.2=0->(KX n s).1=oW
 |0,s,h=>dK h
 |n+1,s,h=>by
  unfold KX at h |-
  cases U:s.AR[s.pos.toNat]? with
  |none=>rw [U] at h;exact dK h
  |some t=>
   rw [U] at h
   dsimp only at h |-
   split
   .rename_i e;rw [if_pos e] at h;exact absurd rfl h
   .rename_i e;rw [if_neg e] at h
    split
    .rename_i e;rw [if_pos e] at h
     split
     .rename_i e;rw [if_pos e] at h;exact Uf n _ h
     .rename_i e;rw [if_neg e] at h;exact absurd rfl h
    .rename_i e;rw [if_neg e] at h;exact gi h
theorem SA (h:¬(Aa s).2.2=0):(Aa s).1=oW:=by
 unfold Aa at h |-
 cases U:Mx s with
 |false=>rfl
 |true=>rw [U,if_pos rfl] at h;rw [if_pos rfl];exact Uf _ _ h
theorem Fp {k:Int} (h:AP s k x=true) (U:k≠0):(Aa s).2.2=0:=by
 apply Classical.byContradiction
 intro e
 unfold AP at h
 rw [SA e] at h
 simp only [oW,Bool.and_eq_true,beq_iff_eq] at h
 exact U h.1.symm
theorem C6 {k:Int} (h:AP s k x=true) (hk:k≠0) (U:k≠21):mu (Aa s).2.1<mu s:=by
 refine (De (Fp h hk)).2 λe=>?_
 unfold AP at h
 simp only [Bool.and_eq_true,beq_iff_eq] at h
 exact U (h.1.symm.trans e)
abbrev Ls:=Sum (Int×Af) (List Nd×Af)
def CP (s:Af):Rs:=if (Aa s).2.2=0 then .inr (AJ (Aa s).1,(Aa s).2.1) else .inl ((Aa s).2.2,s)
def Ql (s:Af):Rs:=.inl (OO s,s)
def DB (s:Af) (k:Int) (x:List UInt8):Rs:=if AP s k x then CP s else Ql s
def Ca (t:Tk):Bool:=t.kind==2||t.kind==4||t.kind==1||(t.kind==15&&(t.text==[40]||t.text==[91]))
def Al (k:Int) (l:List Nd):Nd:=.mk k 0 [] 0 0 l
def GL (A:Af->Rs) (l:List Nd) (s:Af):Ls:=
 if Ca (Aa s).1 then match A s with
  | .inl e=>.inl e
  | .inr p=>if mu p.2<mu s then GL A (l++[p.1]) p.2 else .inl (2,s)
 else .inr (l,s)
termination_by mu s
def A8 (A:Af->Rs) (s:Af):Rs:=
 match A s with
 | .inl e=>.inl e
 | .inr p=>match GL A [p.1] p.2 with
   | .inl e=>.inl e
   | .inr q=>if q.1.length=1 then .inr (p.1,q.2) else .inr (Al 39 q.1,q.2)
def Ga (A:Af->Rs) (l:List Nd) (s:Af):Ls:=
 if AP s 10 [45,62] then match A8 A (Aa s).2.1 with
  | .inl e=>.inl e
  | .inr p=>if mu p.2<mu s then Ga A (l++[AJ (Aa s).1,p.1]) p.2 else .inl (2,s)
 else .inr (l,s)
termination_by mu s
def CB (A:Af->Rs) (n:Nd) (s:Af):Rs:=
 match Ga A [n] s with
 | .inl e=>.inl e
 | .inr q=>if q.1.length=1 then .inr (n,q.2) else .inr (Al 37 q.1,q.2)
def C9 (A:Af->Rs) (s:Af):Rs:=
 match A8 A s with
 | .inl e=>.inl e
 | .inr p=>CB A p.1 p.2
def EJ (A:Af->Rs) (s:Af):Rs:=
 match A8 A s with
 | .inl e=>.inl e
 | .inr p=>if AP p.2 10 [61,62] then match C9 A (Aa p.2).2.1 with
    | .inl e=>.inl e
    | .inr q=>.inr (Al 38 [p.1,AJ (Aa p.2).1,q.1],q.2)
   else CB A p.1 p.2
def CU (Y:Af->Rs) (l:List Nd) (s:Af):Ls:=
 if AP s 15 [44] then match Y (Aa s).2.1 with
  | .inl e=>.inl e
  | .inr p=>if mu p.2<mu s then CU Y (l++[AJ (Aa s).1,p.1]) p.2 else .inl (2,s)
 else .inr (l,s)
termination_by mu s
def CK (l:List Nd) (s:Af):List Nd×Af:=
 if AP s 15 [44] then if mu (Aa s).2.1<mu s then CK (l++[AJ (Aa s).1]) (Aa s).2.1 else (l,s) else (l,s)
termination_by mu s
def Ek (k:Int) (l:List Nd) (s:Af) (x:List UInt8):Rs:=match DB s 15 x with
 | .inl e=>.inl e
 | .inr p=>.inr (Al k (l++[p.1]),p.2)
def G1 (Y:Af->Rs) (s:Af):Rs:=
 match CP s with
 | .inl e=>.inl e
 | .inr p=>
   if AP p.2 10 [45,62] then Ek 3 [p.1,AJ (Aa p.2).1] (Aa p.2).2.1 [41]
   else if AP p.2 15 [41] then Ek 3 [p.1] p.2 [41]
   else if AP p.2 15 [44] then Ek 3 (CK [p.1] p.2).1 (CK [p.1] p.2).2 [41]
   else match Y p.2 with
    | .inl e=>.inl e
    | .inr q=>match CU Y [p.1,q.1] q.2 with
      | .inl e=>.inl e
      | .inr r=>Ek (if 2<r.1.length then 5 else 4) r.1 r.2 [41]
def Ff (Y:Af->Rs) (s:Af):Rs:=
 match CP s with
 | .inl e=>.inl e
 | .inr p=>
   if AP p.2 15 [93] then .inr (Al 3 [p.1,AJ (Aa p.2).1],(Aa p.2).2.1)
   else match Y p.2 with
    | .inl e=>.inl e
    | .inr q=>Ek 6 [p.1,q.1] q.2 [93]
def BN (Y:Af->Rs) (s:Af):Rs:=
 if Ca (Aa s).1 then if (Aa s).1.kind=15 then if (Aa s).1.text=[40] then G1 Y s else Ff Y s else CP s else Ql s
def B8:Nat->Af->Rs
 |0,s=>.inl (2,s)
 |d+1,s=>C9 (BN (B8 d)) s
def C4 (A:Af->Rs):Prop:=∀s e s',A s=.inl (e,s')->e≠0
def AZ (A:Af->Rs):Prop:=∀s n s',A s=.inr (n,s')->mu s'<mu s
theorem Kh (s:Af):OO s≠0:=by
 unfold OO
 omega
theorem Jz:C4 CP:=λs e s' h=>by
 unfold CP at h
 grind
theorem Xz:C4 Ql:=λs e s' h=>by unfold Ql at h;cases h;exact Kh s
theorem LR {k:Int}:C4 (λs=>DB s k x):=λs e s' h=>by
 unfold DB at h
 dsimp only at h
 split at h
 .exact Jz _ _ _ h
 .exact Xz _ _ _ h
theorem Ld {k:Int}:C4 (λs=>Ek k l s x):=λs e s' h=>by
 unfold Ek at h
 dsimp only at h
 split at h
 .rename_i U hw
  cases h
  exact LR _ _ _ hw
 grind
theorem nS {A:Af->Rs} (hA:C4 A) (l:List Nd) (s:Af):∀e s',GL A l s=.inl (e,s')->e≠0:=by
 fun_induction GL A l s with
 |case1 l s U e1 h2=>intro e s' h;cases h;exact hA _ _ _ h2
 |case2 l s U p h2 h3 ih=>exact ih
 |case3 l s U p h2 h3=>simp_all
 |case4 l s U=>simp_all
theorem DF {A:Af->Rs} (hA:C4 A):C4 (A8 A):=λs e s' h=>by
 unfold A8 at h
 split at h
 .rename_i U;cases h;exact hA _ _ _ U
 .split at h
  .rename_i U;cases h;exact nS hA _ _ _ _ U
  grind
theorem kr {A:Af->Rs} (hA:C4 A) (l:List Nd) (s:Af):∀e s',Ga A l s=.inl (e,s')->e≠0:=by
 fun_induction Ga A l s with
 |case1 l s U e1 h2=>intro e s' h;cases h;exact DF hA _ _ _ h2
 |case2 l s U p h2 h3 ih=>exact ih
 |case3 l s U p h2 h3=>simp_all
 |case4 l s U=>simp_all
theorem Lc {A:Af->Rs} (hA:C4 A):C4 (CB A n):=λs e s' h=>by
 unfold CB at h
 split at h
 .rename_i U;cases h;exact kr hA _ _ _ _ U
 grind
theorem Ki {A:Af->Rs} (U:C4 A):C4 (C9 A):=λs e s' h=>by
 unfold C9 at h
 split at h
 .rename_i h1;cases h;exact DF U _ _ _ h1
 .exact Lc U _ _ _ h
theorem OP {A:Af->Rs} (hA:C4 A):C4 (EJ A):=λs e s' h=>by
 unfold EJ at h
 split at h
 .rename_i U;cases h;exact DF hA _ _ _ U
 .split at h
  .split at h
   .rename_i U;cases h;exact Ki hA _ _ _ U
   grind
  .exact Lc hA _ _ _ h
theorem cX {Y:Af->Rs} (hY:C4 Y) (l:List Nd) (s:Af):∀e s',CU Y l s=.inl (e,s')->e≠0:=by
 fun_induction CU Y l s with
 |case1 l s U e1 h2=>intro e s' h;cases h;exact hY _ _ _ h2
 |case2 l s U p h2 h3 ih=>exact ih
 |case3 l s U p h2 h3=>simp_all
 |case4 l s U=>simp_all
theorem aK {Y:Af->Rs} (hY:C4 Y):C4 (G1 Y):=λs e s' h=>by
 unfold G1 at h
 split at h
 .rename_i U;cases h;exact Jz _ _ _ U
 .split at h
  .exact Ld _ _ _ h
  .split at h
   .exact Ld _ _ _ h
   .split at h
    .exact Ld _ _ _ h
    .split at h
     .rename_i U;cases h;exact hY _ _ _ U
     .split at h
      .rename_i U;cases h;exact cX hY _ _ _ _ U
      .exact Ld _ _ _ h
theorem XA {Y:Af->Rs} (hY:C4 Y):C4 (Ff Y):=λs e s' h=>by
 unfold Ff at h
 split at h
 .rename_i U;cases h;exact Jz _ _ _ U
 .split at h
  .cases h
  .split at h
   .rename_i U;cases h;exact hY _ _ _ U
   .exact Ld _ _ _ h
theorem Cr {Y:Af->Rs} (U:C4 Y):C4 (BN Y):=λs e s' h=>by
 unfold BN at h
 split at h
 .split at h
  .split at h
   .exact aK U _ _ _ h
   .exact XA U _ _ _ h
  .exact Jz _ _ _ h
 .exact Xz _ _ _ h
theorem B3:∀d,C4 (B8 d)
 |0=>λs e s' h=>by cases h;decide
 |d+1=>Ki (Cr (B3 d))
theorem Q7 (h:CP s=.inr (n,s')):mu s'<=mu s/\((Aa s).1.kind≠21->mu s'<mu s):=by
 unfold CP at h
 split at h
 .rename_i e;cases h;exact De e
 grind
theorem tr {k:Int} (hk:k≠0) (U:k≠21) (h:DB s k x=.inr (n,s')):mu s'<mu s:=by
 unfold DB at h
 split at h
 .rename_i e
  unfold CP at h
  rw [if_pos (Fp e hk)] at h
  cases h
  exact C6 e hk U
 .cases h
theorem Sc {k:Int} (h:Ek k l s x=.inr (n,s')):mu s'<mu s:=by
 unfold Ek at h
 split at h
 .cases h
 .rename_i U;cases h;exact tr IR IR U
theorem Pv (U:Ca (Aa s).1=true) (h:CP s=.inr (n,s')):mu s'<mu s:=by
 refine (Q7 h).2 λe=>?_
 unfold Ca at U
 simp_all
theorem sy {A:Af->Rs} (l:List Nd) (s:Af):∀q s',GL A l s=.inr (q,s')->mu s'<=mu s:=by
 fun_induction GL A l s with
 |case1 l s U e1 h2=>simp_all
 |case2 l s U p h2 h3 ih=>grind
 |case3 l s U p h2 h3=>simp_all
 |case4 l s U=>simp_all
theorem DN {A:Af->Rs} (hA:AZ A):AZ (A8 A):=λs n s' h=>by
 unfold A8 at h
 split at h
 .cases h
 .rename_i U
  have:=hA _ _ _ U
  split at h
  .cases h
  .rename_i h2
   have:=sy _ _ _ _ h2
   grind
theorem qa {A:Af->Rs} (l:List Nd) (s:Af):∀q s',Ga A l s=.inr (q,s')->mu s'<=mu s:=by
 fun_induction Ga A l s with
 |case1 l s U e1 h2=>simp_all
 |case2 l s U p h2 h3 ih=>grind
 |case3 l s U p h2 h3=>simp_all
 |case4 l s U=>simp_all
theorem TN {A:Af->Rs} {m:Nd} (h:CB A n s=.inr (m,s')):mu s'<=mu s:=by
 unfold CB at h
 split at h
 .cases h
 .rename_i U
  have:=qa _ _ _ _ U
  grind
theorem IP {A:Af->Rs} (hA:AZ A):AZ (C9 A):=λs n s' h=>by
 unfold C9 at h
 split at h
 .cases h
 .rename_i U
  have:=DN hA _ _ _ U
  have:=TN h
  omega
theorem UK {Y:Af->Rs} (l:List Nd) (s:Af):∀q s',CU Y l s=.inr (q,s')->mu s'<=mu s:=by
 fun_induction CU Y l s with
 |case1 l s U e1 h2=>simp_all
 |case2 l s U p h2 h3 ih=>grind
 |case3 l s U p h2 h3=>simp_all
 |case4 l s U=>simp_all
theorem gn (l:List Nd) (s:Af):mu (CK l s).2<=mu s:=by
 fun_induction CK l s with
 |case1 l s U h2 ih=>omega
 |case2 l s U h2=>simp_all
 |case3 l s U=>simp_all
theorem nQ {Y:Af->Rs} (hY:AZ Y) (hs:Ca (Aa s).1=true) (h:G1 Y s=.inr (n,s')):mu s'<mu s:=by
 unfold G1 at h
 split at h
 .cases h
 .rename_i h1
  have:=Pv hs h1
  split at h
  .rename_i U
   have:=C6 U IR IR
   have:=Sc h
   omega
  .split at h
   .have:=Sc h;omega
   .split at h
    .have:=Sc h
     have:=gn [‹Nd×Af›.1] ‹Nd×Af›.2
     omega
    .split at h
     .cases h
     .rename_i U
      have:=hY _ _ _ U
      split at h
      .cases h
      .rename_i h3
       have:=UK _ _ _ _ h3
       have:=Sc h
       omega
theorem ja {Y:Af->Rs} (hY:AZ Y) (hs:Ca (Aa s).1=true) (h:Ff Y s=.inr (n,s')):mu s'<mu s:=by
 unfold Ff at h
 split at h
 .cases h
 .rename_i h1
  have:=Pv hs h1
  split at h
  .rename_i U
   have:=C6 U IR IR
   grind
  .split at h
   .cases h
   .rename_i U
    have:=hY _ _ _ U
    have:=Sc h
    omega
theorem BL {Y:Af->Rs} (hY:AZ Y):AZ (BN Y):=λs n s' h=>by
 unfold BN at h
 split at h
 .rename_i U
  split at h
  .split at h
   .exact nQ hY U h
   .exact ja hY U h
  .exact Pv U h
 .cases h
theorem Bv:∀d,AZ (B8 d)
 |0=>λs n s' h=>by cases h
 |d+1=>IP (BL (Bv d))
theorem EC {st:St} {q:Rs} (h:∀n s',q=.inr (n,s')->∀st',II st st' b s'->K (.ret (enc n)) st') (k:∀e s',q=.inl (e,s')->∀st',II st st' b s'->K (.Ci (fault e)) st'):Fv st b K q:=by
 match q with
 | .inr (n,s')=>exact h n s' rfl
 | .inl (e,s')=>exact k e s' rfl
theorem Has.hw {st:St} (h:Has st b s) (own:Ay) (n:Nat):Has (own.st st n) b s:=by
 cases own with
 |any=>exact h
 |full=>exact h
 |tok t=>exact h
theorem fE {own:Ay} {st st':St} {n:Nat} (hg:own.B5 st) (hh:Has st b s) (hu:II (own.st st n) st' b s'):∃U,st'=own.st U n/\II st U b s'/\own.B5 U:=by
 obtain ⟨h1,cs,e⟩:=hu
 cases own with
 |any=>exact hg.elim
 |full=>exact ⟨st',rfl,⟨h1,cs,e⟩,trivial⟩
 |tok t=>
  refine ⟨st.Ab b cs,e,⟨?_,cs,rfl⟩,?_,?_⟩
  .rw [e] at h1;exact h1
  .have:b≠t:=by
    rintro rfl
    have h2:st.box b=none:=hg.1
    rcases hh with k|⟨_,_,_,_,_,k⟩<;>(rw [h2] at k;cases k)
   rw [St.AH this];exact hg.1
  .exact hg.2
def jZ (own:Ay) (n:Nat) (st:St) (b:Nat) (R:AD->St->Prop):Rs->Prop
 | .inr (x,s')=>∀st',II st st' b s'->own.B5 st'->R (.ret (enc x)) (own.st st' n)
 | .inl (e,s')=>∀st',II st st' b s'->own.B5 st'->R (.Ci (fault e)) (own.st st' n)
theorem F8 {own:Ay} {n:Nat} {st:St} {q:Rs} (hg:own.B5 st) (hh:Has st b s) (h:jZ own n st b R q):Fv (own.st st n) b R q:=by
 refine EC (λx s' e st' hu=>?_) (λx s' e st' hu=>?_)
 .obtain ⟨U,rfl,h2,h3⟩:=fE hg hh hu
  subst e
  exact h U h2 h3
 .obtain ⟨U,rfl,h2,h3⟩:=fE hg hh hu
  subst e
  exact h U h2 h3
section
variable {st:St} {R:AD->St->Prop}
attribute [local irreducible] Go.Aw.Ai
theorem ZF {t:Tk} (h:R (.ret (.bool (Ca t))) st):PC 363 [DP t] st R:=by
 refine pB Tryz.func363 ?_
 repeat' ((conv=>whnf);first|  (refine CD ?_ ?_<;>intro _)|fail)
 all_goals conv=>whnf
 all_goals (refine An h ?_;clear h;simp_all [Ca])
def DW (f:FuncId) (d:Int) (A:Af->Rs):Prop:=∀s,mu s<=100000000->Reads f s d (A s)
theorem BT (h:mu s<=100000000):s.Cf.length<=500000000:=by have:=v8 s;omega
theorem GD (U:Has st b s) (hb:s.Cf.length<=500000000) (h:Fv st b R (CP s)):PC 121 [.ptr b 0] st R:=by
 unfold CP at h
 refine Nu U hb (λe=>?_) (λe=>?_)
 .rw [if_pos e] at h;exact h
 .rw [if_neg e] at h;exact h _ Bf
theorem xz (U:Has st b s) (hb:s.Cf.length<=500000000) (h:∀st',II st st' b s->R (.Ci (fault (OO s))) st'):PC 171 [.ptr b 0] st R:=kA U hb (h _ Bf)
theorem Tm {k:Int} (hs:Has st b s) (hb:s.Cf.length<=500000000) (h:Fv st b R (DB s k x)):PC 118 [.ptr b 0,.int .i64 k,.str x] st R:=by
 unfold DB CP at h
 refine pz hs hb (λU e2=>?_) (λU e2=>?_) (λU=>?_)
 .rw [if_pos U,if_pos e2] at h;exact h
 .rw [if_pos U,if_neg e2] at h;exact h _ Bf
 .rw [if_neg (by rw [U];decide)] at h;exact h _ Bf
theorem uW {Y:Af->Rs} (hr:DW 404 d (G1 Y)) (hsq:DW 405 d (Ff Y)):DW 362 d (BN Y):=by
 intro s hm b st R hs h
 refine pB Tryz.func362 ?_
 have hb:=BT hm
 have hl:Has (st.Ab b (Dy s)) b s:=.inl (St.As ..)
 unfold BN at h
 repeat' ((conv=>whnf);first|  (refine CD ?_ ?_<;>intro _)|refine HB hs hb ?_|refine ZF ?_|refine GD hl hb (EC (λn s' hq st' U=>?_) (λe s' hq st' U=>?_))|refine xz hl hb (λst' U=>?_)|refine hr s hm b _ _ hl (EC (λn s' hq st' U=>?_) (λe s' hq st' U=>?_))|refine hsq s hm b _ _ hl (EC (λn s' hq st' U=>?_) (λe s' hq st' U=>?_)))
 all_goals repeat (first|rw [if_pos ‹_›] at h|rw [if_neg ‹_›] at h|rw [if_neg (Bool.eq_false_iff.1 ‹_›)] at h)
 all_goals first
  |exact fin (h st' (Bf.trans U)) rfl
  |(rw [hq] at h;exact AU rfl (h st' (Bf.trans U)))
  |(rw [hq] at h;exact fin (h st' (Bf.trans U)) rfl)
 all_goals trace_state
end
theorem TM {own:Ay} {st:St} {K:V->St->Prop} (h:own.B5 st) (hb:l.length+new.length<=1000000000)
 (k:∀U:Ay,U.B5 st->K (.slice 6 (Co (l++new)) U) (U.st st ((l++new).length*6))):Ai 6 72 (Co l) own (Co new) (own.st st (l.length*6)) K:=by
 have hw:(Co new).map (·.map V.K8)=Co new:=by
  rw [BV,List.map_map]
  refine List.map_congr_left λx _=>?_
  rfl
 have hsc:((Co new).all λv=>v.all V.sc)=true:=by
  rw [BV,List.all_map,List.all_eq_true]
  intro x _
  rfl
 have:=HH (sz:=6) (bytes:=72) (es:=Co l) (new:=Co new) (K:=K) h (by rw [Dw,Dw];omega) (by rw [Dw,Dw];simp only [Fk];omega) hsc (λU ho=>by
  have:=k U ho
  rw [Dw,Dw,hw,<-XS,<-List.length_append]
  omega)
 rw [Dw] at this
 omega
theorem OK {x:Nd} {own:Ay} {st:St} {K:V->St->Prop} (h:own.B5 st) (hb:l.length+1<=1000000000)
 (k:∀U:Ay,U.B5 st->K (.slice 6 (Co (l++[x])) U) (U.st st ((l++[x]).length*6))):Ai 6 72 (Co l) own [Ap x] (own.st st (l.length*6)) K:=by
 have:=TM (l:=l) (new:=[x]) h hb k
 rw [BV [x]] at this
 grind
theorem dn {x:Nd} {own:Ay} {st:St} {K:V->St->Prop} (h:own.B5 st) (hb:l.length+1<=1000000000)
 (k:∀U:Ay,U.B5 st->K (.slice 6 (Co (l++[x])) U) (U.st st ((l++[x]).length*6))):Ai 6 72 (l.map Ap) own [Ap x] (own.st st (l.length*6)) K:=by
 rw [<-BV]
 exact OK h hb k
theorem BI {d:Nat} {K:Int->Prop} (h:d<=1000000) (k:K (d:Int)):∃r,r=IntKind.i64.wrap (((d+1:Nat):Int) - 1)/\K r:=by
 refine ⟨d,?_,k⟩
 rw [show ((d+1:Nat):Int) - 1=(d:Int) by omega,Mr H1 H1]
section
variable {st:St} {R:AD->St->Prop}
attribute [local irreducible] Go.Aw.Ai
theorem Xa {q:Rs} {x:Int} (e:q=.inl (x,s')) (h:∀st',II st st' b s'->K (.Ci (fault x)) st'):Fv st b K q:=by subst e;exact h
theorem G6 {own:Ay} {m:Nat} {st:St} {q:Rs} (h:∀n s',q=.inr (n,s')->∀st',II st st' b s'->own.B5 st'->K (.ret (enc n)) (own.st st' m)) (k:∀e s',q=.inl (e,s')->∀st',II st st' b s'->own.B5 st'->K (.Ci (fault e)) (own.st st' m)):jZ own m st b K q:=by
 match q with
 | .inr (n,s')=>exact h n s' rfl
 | .inl (e,s')=>exact k e s' rfl
theorem HU {q:Rs} {x:Nd} (e:q=.inr (x,s')) (h:∀st',II st st' b s'->K (.ret (enc x)) st'):Fv st b K q:=by subst e;exact h
def DV (f:FuncId) (d:Int) (A:Af->Rs):Prop:=∀s,mu s<=100000000->∀(st:St) (R:AD->St->Prop),R (.ret (ME (C5 s d (A s)))) st->PC f [Am s,.int .i64 d] st R
theorem vD {d:Nat} {A:Af->Rs} (hf:DV f d A) (h0:d=0->∀s,A s=.inl (2,s)) (hA:C4 A) (hm:mu s<=100000000) (hs:Has st b s) (h:Fv st b R (A s)):
 PC 84 [.ptr b 0,.func f [] [],.int .i64 d] st R:=by
 by_cases hd:(d:Int)<1
 .have hz:d=0:=H1
  rw [h0 hz s] at h
  refine bw (n:=BC) (s':=s) (e:=2) (λst R k=>hf s hm st R ?_) hs (λe=>by cases e) (λ_=>h)
  unfold C5;rw [if_pos hd];exact k
 .cases U:A s with
  |inr p=>
   rw [U] at h
   refine bw (n:=p.1) (s':=p.2) (e:=0) (λst R k=>hf s hm st R ?_) hs (λ_=>h) (λe=>absurd rfl e)
   unfold C5;rw [if_neg hd,U];exact k
  |inl p=>
   rw [U] at h
   have hne:=hA s p.1 p.2 U
   refine bw (n:=BC) (s':=p.2) (e:=p.1) (λst R k=>hf s hm st R ?_) hs (λe=>absurd e hne) (λ_=>h)
   unfold C5;rw [if_neg hd,U];exact k
theorem Sk {d:Nat} {x:Int} {A:Af->Rs} (hx:x=(d:Int)) (hf:DV f d A) (U:d=0->∀s,A s=.inl (2,s)) (hA:C4 A) (hm:mu s<=100000000) (hs:Has st b s) (h:Fv st b R (A s)):
 PC 84 [.ptr b 0,.func f [] [],.int .i64 x] st R:=by subst hx;exact vD hf U hA hm hs h
theorem oH {d:Nat} (hd:d<=1000000) {Y:Af->Rs} (hY:DV 220 d Y) (h0:d=0->∀s,Y s=.inl (2,s)) (hB:C4 Y) (hF:AZ Y):DW 405 ((d+1:Nat):Int) (Ff Y):=by
 intro s hm b st R hs h
 refine pB Tryz.func405 ?_
 have hb:=BT hm
 unfold Ff at h
 cases U:CP s with
 |inl q=>
  rw [U] at h
  obtain ⟨e,s'⟩:=q
  repeat' ((conv=>whnf);first|(refine Bc ?_;intros)|(refine CD ?_ ?_<;>intro _)|refine GD hs hb (Xa U (λst1 h1=>?_)))
  all_goals exact fin (h st1 h1) rfl
 |inr q=>
  obtain ⟨n1,s1⟩:=q
  rw [U] at h
  have hm1:mu s1<=100000000:=by have:=(Q7 U).1;omega
  have hb1:=BT hm1
  repeat' ((conv=>whnf);first|(refine Bc ?_;intros)|(refine CD ?_ ?_<;>intro _)|refine GD hs hb (HU U (λst1 h1=>?_))|refine bC h1.1 hb1 ?_)
  .have hp:AP s1 15 [93]=true:=Nm
   have hl1:Has (st1.Ab b (Dy s1)) b s1:=.inl (St.As ..)
   have hq2:CP s1=.inr (AJ (Aa s1).1,(Aa s1).2.1):=by unfold CP;rw [if_pos (Fp hp IR)]
   dsimp only at h
   rw [if_pos hp] at h
   have hn1:[n1].length+1<=1000000000:=by show 1+1<=1000000000;decide
   repeat' ((conv=>whnf);first|(refine Bc ?_;intros)|(refine CD ?_ ?_<;>intro _)|refine GD hl1 hb1 (HU hq2 (λst2 h2=>?_))|refine dn (l:=[n1]) (x:=AJ (Aa s1).1) (own:=.full) trivial hn1 (λown1 ho1=>?_))
   all_goals exact CS (Ay.Bj ho1) rfl (h st2 (h1.trans (Bf.trans h2)))
  .have hp:AP s1 15 [93]=false:=Nm
   have hl1:Has (st1.Ab b (Dy s1)) b s1:=.inl (St.As ..)
   dsimp only at h
   rw [if_neg lm] at h
   have hn1:[n1].length+1<=1000000000:=by show 1+1<=1000000000;decide
   have hn2:∀n2:Nd,([n1]++[n2]).length+1<=1000000000:=λ_=>by simp_all
   repeat' ((conv=>whnf);first|(refine Bc ?_;intros)|(refine CD ?_ ?_<;>intro _)|refine Sk H1 hY h0 hB hm1 hl1 (EC (λn2 s2 hq2 st2 h2=>?_) (λe2 s2 hq2 st2 h2=>?_))|refine dn (l:=[n1]) (x:=n2) (own:=.full) trivial hn1 (λown1 ho1=>?_)|refine Tm (h2.1.hw own1 _) (BT (Nat.le_trans (Nat.le_of_lt (hF _ _ _ hq2)) hm1)) (F8 ho1 h2.1 (G6 (λn3 s3 hq3 st3 h3 hg3=>?_) (λe3 s3 hq3 st3 h3 hg3=>?_)))|refine OK (l:=[n1]++[n2]) (x:=n3) hg3 (hn2 n2) (λown2 ho2=>?_))
   all_goals rw [hq2] at h
   .unfold Ek at h
    dsimp only at h
    rw [hq3] at h
    exact CS (Ay.Bj ho2) rfl (h st3 (((h1.trans Bf).trans h2).trans h3))
   .unfold Ek at h
    dsimp only at h
    rw [hq3] at h
    exact CS (Ay.Bj hg3) rfl (h st3 (((h1.trans Bf).trans h2).trans h3))
   .exact fin (h st2 ((h1.trans Bf).trans h2)) rfl
end
theorem D8 {x:Nd} {own:Ay} {st:St} {K:V->St->Prop} (h:own.B5 st) (hb:l.length+1<=1000000000)
 (k:∀U:Ay,U.B5 st->K (.slice 6 ((l++[x]).map Ap) U) (U.st st ((l++[x]).length*6))):Ai 6 72 (l.map Ap) own [Ap x] (own.st st (l.length*6)) K:=by
 rw [<-BV]
 exact OK h hb (by simpa only [BV] using k)
theorem Ck {k:Int} {own:Ay}:AD.ret (enc (Al k l))=(AD.ret (.agg [.int .i64 k,.int .i64 0,.str [],.int .i64 0,.int .i64 0,.slice 6 (l.map Ap) own])).wk:=by
 rw [<-BV];rfl
theorem sx {A:Af->Rs} (h:Ca (Aa s).1=true) (U:A s=.inr (n,s')) (hm:mu s'<mu s):GL A l s=GL A (l++[n]) s':=by
 rw [GL,if_pos h,U]
 dsimp only
 rw [if_pos hm]
section
variable {st:St} {R:AD->St->Prop}
attribute [local irreducible] Go.Aw.Ai
theorem BH {K:Nat->Prop} (k:l.length<4611686018427387904->K l.length):∀m,m=(l.map Ap).length->m<Fk->K m:=λm U h=>by
 rw [List.length_map] at U;subst U;exact k h
theorem eC {own:Ay} {st:St} {n:Nat}:(own.st st n).Ab b cs=own.st (st.Ab b cs) n:=by cases own<;>rfl
theorem wa {own:Ay} {n:Nat} (hg:own.B5 st) (U:Has st b s) (hb:s.Cf.length<=500000000) (h:R (.ret (DP (Aa s).1)) (own.st (st.Ab b (Dy s)) n)):PC 83 [.ptr b 0] (own.st st n) R:=
 HB (U.hw own n) hb (by rw [eC];exact h)
theorem JM {own:Ay} (U:own.B5 st) (hs:Has st b s):own.B5 (st.Ab b cs):=by
 cases own with
 |any=>exact U
 |full=>trivial
 |tok t=>
  have:b≠t:=by
   rintro rfl
   have h2:st.box b=none:=U.1
   rcases hs with k|⟨_,_,_,_,_,k⟩<;>(rw [h2] at k;cases k)
  exact ⟨by rw [St.AH this];exact U.1,U.2⟩
theorem v7 {n1:Nd} {K:List V->Prop} (h:l.length=Int.toNat 1) (j:l.length=1->l=[n1]) (k:K (Ap n1)):(0:Int)<=0/\∃e,(l.map Ap)[Int.toNat 0]? =some e/\K e:=
 ⟨Int.le_refl _,Ap n1,by rw [j h];rfl,k⟩
theorem wF {A:Af->Rs} (ha:DW 362 d A) (hF:AZ A):DW 296 d (A8 A):=by
 intro s hm b st R hs h
 refine pB Tryz.func296 ?_
 unfold A8 at h
 cases U:A s with
 |inl q=>
  obtain ⟨e,s1⟩:=q
  rw [U] at h
  repeat' ((conv=>whnf);first|  (refine CD ?_ ?_<;>intro _)|refine ha s hm b _ _ hs (Xa U (λst1 h1=>?_)))
  all_goals exact fin (h st1 h1) rfl
 |inr q=>
  obtain ⟨n1,s1⟩:=q
  rw [U] at h
  have hf1:=hF _ _ _ U
  dsimp only at h
  repeat' ((conv=>whnf);first|  (refine CD ?_ ?_<;>intro _)|refine ha s hm b _ _ hs (HU U (λst1 h1=>?_)))
  refine Gr (α:=List Nd×Af×St×Ay) (λx=>[(5,.slice 6 (x.1.map Ap) x.2.2.2)]) [0,1,4] (λx=>[]) [0] (λx=>x.2.2.2.st x.2.2.1 (x.1.length*6))
   (λx=>x.2.2.2.B5 x.2.2.1/\II st x.2.2.1 b x.2.1/\x.1≠[]/\x.1.length+mu x.2.1<=200000000/\mu x.2.1<=mu s1/\GL A x.1 x.2.1=GL A [n1] s1/\(x.1.length=1->x.1=[n1])) (λx=>mu x.2.1) ([n1],s1,st1,.full)
   ⟨trivial,h1,Pi,by show 1+mu s1<=_;omega,Nat.le_refl _,rfl,λ_=>rfl⟩ Yl (St.le_refl _) ?_
  rintro ⟨l,s2,st2,own⟩ ⟨j1,j2,j3,j4,j5,j6,j7⟩
  dsimp only at j1 j2 j3 j4 j5 j6 j7
  have hm2:mu s2<=100000000:=H1
  have hb2:=BT hm2
  have hl3:Has (st2.Ab b (Dy s2)) b s2:=.inl (St.As ..)
  have g3:own.B5 (st2.Ab b (Dy s2)):=JM j1 j2.1
  have u3:II st (st2.Ab b (Dy s2)) b s2:=j2.trans Bf
  have hn:l.length+1<=1000000000:=H1
  repeat' ((conv=>whnf);first|  (refine CD ?_ ?_<;>intro _)|refine wa j1 j2.1 hb2 ?_|refine ZF ?_|refine ha s2 hm2 b _ _ (hl3.hw own _) (F8 g3 hl3 (G6 (λn2 s4 hq2 st4 h4 g4=>?_) (λe2 s4 hq2 st4 h4 g4=>?_)))|refine D8 (l:=l) g4 hn (λown' ho'=>?_)|refine BH (λ_=>?_)|refine v7 ‹_› j7 ?_)
  .have hd:=hF _ _ _ hq2
   refine ⟨(l++[n2],s4,st4,own'),⟨ho',u3.trans h4,Pi,by show (l++[n2]).length+mu s4<=_;rw [List.length_append,List.length_singleton];omega,by show mu s4<=_;omega,?_,?_⟩,hd,Yl,St.le_refl _⟩
   .show GL A (l++[n2]) s4=_
    rw [<-j6,sx (l:=l) ‹_› hq2 hd]
   .intro e
    have:=List.length_pos_iff.2 j3
    have e:(l++[n2]).length=1:=e
    rw [List.length_append,List.length_singleton] at e
    omega
  .have hr:GL A l s2=.inl (e2,s4):=by rw [GL,if_pos ‹_›,hq2]
   rw [<-j6,hr] at h
   exact CS (Ay.Bj g4) rfl (h st4 (u3.trans h4))
  .have hr:GL A l s2=.inr (l,s2):=by rw [GL,if_neg (Bool.eq_false_iff.1 ‹_›)]
   rw [<-j6,hr] at h
   dsimp only at h
   rw [if_pos ‹_›] at h
   exact CS (Ay.Bj g3) rfl (h _ u3)
  .have hr:GL A l s2=.inr (l,s2):=by rw [GL,if_neg (Bool.eq_false_iff.1 ‹_›)]
   rw [<-j6,hr] at h
   dsimp only at h
   rw [if_neg ‹_›] at h
   exact CS (Ay.Bj g3) Ck (h _ u3)
end
theorem kn {x y:Nd} {own:Ay} {st:St} {K:V->St->Prop} (h:own.B5 st) (hb:l.length+2<=1000000000)
 (k:∀U:Ay,U.B5 st->K (.slice 6 ((l++[x,y]).map Ap) U) (U.st st ((l++[x,y]).length*6))):Ai 6 72 (l.map Ap) own [Ap x,Ap y] (own.st st (l.length*6)) K:=by
 rw [<-BV]
 have:=TM (l:=l) (new:=[x,y]) h hb (by simpa only [BV] using k)
 rw [BV [x,y]] at this
 grind
theorem p9 {A:Af->Rs} (h:AP s 10 [45,62]=true) (U:A8 A (Aa s).2.1=.inr (n,s')) (hm:mu s'<mu s):Ga A l s=Ga A (l++[AJ (Aa s).1,n]) s':=by
 rw [Ga,if_pos h,U]
 simp_all
theorem DK {k:Int} (h:AP s k x=true) (U:k≠0):CP s=.inr (AJ (Aa s).1,(Aa s).2.1):=by unfold CP;rw [if_pos (Fp h U)]
section
variable {st:St} {R:AD->St->Prop}
attribute [local irreducible] Go.Aw.Ai
theorem vE {own:Ay} {n:Nat} {k:Int} (U:Has st b s) (hb:s.Cf.length<=500000000) (h:R (.ret (.bool (AP s k x))) (own.st (st.Ab b (Dy s)) n)):PC 156 [.ptr b 0,.int .i64 k,.str x] (own.st st n) R:=
 bC (U.hw own n) hb (by rw [eC];exact h)
theorem Td {own:Ay} {n:Nat} {st:St} {q:Rs} {x:Nd} (U:own.B5 st) (hh:Has st b s) (e:q=.inr (x,s')) (h:∀st',II st st' b s'->own.B5 st'->R (.ret (enc x)) (own.st st' n)):Fv (own.st st n) b R q:=
 F8 U hh (by subst e;exact h)
def av (f:FuncId) (d:Int) (A:Nd->Af->Rs):Prop:=∀n s,mu s<=100000000->∀(b:Nat) (st:St) (R:AD->St->Prop),Has st b s->Fv st b R (A n s)->PC f [.ptr b 0,enc n,.int .i64 d] st R
theorem Xu {A:Af->Rs} (hr:DW 296 d (A8 A)) (hF:AZ A):av 364 d (CB A):=by
 intro n1 s1 hm b st R hs h
 refine pB Tryz.func364 ?_
 unfold CB at h
 repeat' ((conv=>whnf);first|  (refine CD ?_ ?_<;>intro _)|fail)
 refine Gr (α:=List Nd×Af×St×Ay) (λx=>[(7,.slice 6 (x.1.map Ap) x.2.2.2)]) [0,2,4,6] (λx=>[]) [0,1] (λx=>x.2.2.2.st x.2.2.1 (x.1.length*6))
  (λx=>x.2.2.2.B5 x.2.2.1/\Has x.2.2.1 b x.2.1/\(∃s0,II st x.2.2.1 b s0\/x.2.2.1=st)/\x.1≠[]/\x.1.length+2*mu x.2.1<=400000000/\mu x.2.1<=mu s1/\Ga A x.1 x.2.1=Ga A [n1] s1) (λx=>mu x.2.1) ([n1],s1,st,.full)
  ⟨trivial,hs,⟨s1,.inr rfl⟩,Pi,GT,Nat.le_refl _,rfl⟩ Yl (St.le_refl _) ?_
 rintro ⟨l,s2,U,own⟩ ⟨j1,j2,j3,j4,j5,j6,j7⟩
 dsimp only at j1 j2 j3 j4 j5 j6 j7
 have hm2:mu s2<=100000000:=H1
 have hb2:=BT hm2
 have hl3:Has (U.Ab b (Dy s2)) b s2:=.inl (St.As ..)
 have g3:own.B5 (U.Ab b (Dy s2)):=JM j1 j2
 have up:∀{st4 s4},II U st4 b s4->II st st4 b s4:=λ{st4 s4} hu=>by
  obtain ⟨s0,h3|h3⟩:=j3
  .exact h3.trans hu
  simp_all
 have hn:l.length+2<=1000000000:=H1
 have hm4:AP s2 10 [45,62]=true->mu (Aa s2).2.1<=100000000:=λe=>by have:=C6 e IR IR;omega
 repeat' ((conv=>whnf);first|  (refine CD ?_ ?_<;>intro _)|refine vE j2 hb2 ?_|refine GD (hl3.hw own _) hb2 (Td g3 hl3 (DK ‹_› IR) (λst4 h4 g4=>?_))|refine hr _ (hm4 ‹_›) b _ _ (h4.1.hw own _) (F8 g4 h4.1 (G6 (λn2 s5 hq2 st5 h5 g5=>?_) (λe2 s5 hq2 st5 h5 g5=>?_)))|refine kn (l:=l) (x:=AJ (Aa s2).1) (y:=n2) g5 hn (λown' ho'=>?_)|refine BH (λ_=>?_))
 .have hp:AP s2 10 [45,62]=true:=Nm
  have hd:=DN hF _ _ _ hq2
  have hd2:=C6 hp IR IR
  have hd3:mu s5<mu s2:=H1
  have hu:=(Bf (st:=U) (b:=b) (s:=s2)).trans (h4.trans h5)
  refine ⟨(l++[AJ (Aa s2).1,n2],s5,st5,own'),⟨ho',h5.1,⟨s5,.inl (up hu)⟩,Pi,?_,GT,?_⟩,hd3,Yl,St.le_refl _⟩
  .grind
  .show Ga A (l++[AJ (Aa s2).1,n2]) s5=_
   rw [<-j7,p9 (l:=l) hp hq2 hd3]
 .have hp:AP s2 10 [45,62]=true:=Nm
  have hu:=(Bf (st:=U) (b:=b) (s:=s2)).trans (h4.trans h5)
  have hr:Ga A l s2=.inl (e2,s5):=by rw [Ga,if_pos hp,hq2]
  rw [<-j7,hr] at h
  exact CS (Ay.Bj g5) rfl (h st5 (up hu))
 .have hr:Ga A l s2=.inr (l,s2):=by rw [Ga,if_neg (Bool.eq_false_iff.1 H1)]
  rw [<-j7,hr] at h
  dsimp only at h
  rw [if_pos GT] at h
  exact CS (Ay.Bj g3) rfl (h _ (up Bf))
 .have hr:Ga A l s2=.inr (l,s2):=by rw [Ga,if_neg (Bool.eq_false_iff.1 H1)]
  rw [<-j7,hr] at h
  dsimp only at h
  rw [if_neg GT] at h
  exact CS (Ay.Bj g3) Ck (h _ (up Bf))
theorem tt {A:Af->Rs} (hr:DW 296 d (A8 A)) (ha:av 364 d (CB A)) (hF:AZ A):DW 297 d (C9 A):=by
 intro s hm b st R hs h
 refine pB Tryz.func297 ?_
 unfold C9 at h
 have hm1:∀{n1 s1},A8 A s=.inr (n1,s1)->mu s1<=100000000:=λe=>by have:=DN hF _ _ _ e;omega
 repeat' ((conv=>whnf);first|  refine hr s hm b _ _ hs (EC (λn1 s1 U st1 h1=>?_) (λe1 s1 U st1 h1=>?_))|refine ha n1 s1 (hm1 U) b _ _ h1.1 (EC (λn2 s2 hq2 st2 h2=>?_) (λe2 s2 hq2 st2 h2=>?_)))
 all_goals rw [U] at h
 all_goals dsimp only at h
 .rw [hq2] at h;exact AU rfl (h st2 (h1.trans h2))
 .rw [hq2] at h;exact fin (h st2 (h1.trans h2)) rfl
 .exact fin (h st1 h1) rfl
end
abbrev Er:={e:Int // e≠0}
abbrev Rv (α:Type):=Sum (Er×Af) (α×Af)
structure Rd (α:Type) where
 run:Af->Rv α
 le:∀s v s',run s=.inr (v,s')->mu s'<=mu s
namespace Rd
variable {α β γ σ:Type}
theorem ext' {a b:Rd α} (h:∀s,a.run s=b.run s):a=b:=by
 obtain ⟨U,l1⟩:=a
 obtain ⟨r2,l2⟩:=b
 obtain rfl:U=r2:=funext h
 rfl
def ret (v:α):Rd α:=⟨λs=>.inr (v,s),λs U s' h=>by simp_all⟩
def seq (m:Rd α) (k:α->Rd β):Rd β:=⟨λs=>match m.run s with
 | .inl e=>.inl e
 | .inr p=>(k p.1).run p.2,λs v s' h=>by
 cases U:m.run s with
 |inl e=>simp_all
 |inr p=>rw [U] at h;exact Nat.le_trans ((k p.1).le _ _ _ h) (m.le _ _ _ U)⟩
def fail (e:Er):Rd α:=⟨λs=>.inl (e,s),λs v s' h=>by cases h⟩
def M6 (t:Af) (e:Er):Rd α:=⟨λ_=>.inl (e,t),λs v s' h=>by cases h⟩
def look (f:Af->Rd α):Rd α:=⟨λs=>(f s).run s,λs v s' h=>(f s).le _ _ _ h⟩
def iter (body:σ->Rd (Sum σ β)) (x:σ) (s:Af):Rv β:=
 match (body x).run s with
 | .inl e=>.inl e
 | .inr (.inr y,s')=>.inr (y,s')
 | .inr (.inl U,s')=>if mu s'<mu s then iter body U s' else .inl (⟨2,IR⟩,s)
termination_by mu s
theorem ru (body:σ->Rd (Sum σ β)) (x:σ) (s:Af):∀v s',iter body x s=.inr (v,s')->mu s'<=mu s:=by
 fun_induction iter body x s with
 |case1 x s e h=>simp_all
 |case2 x s y s1 h=>intro v s' h';cases h';exact (body x).le _ _ _ h
 |case3 x s x' s1 h U ih=>grind
 |case4 x s x' s1 h U=>simp_all
def loop (body:σ->Rd (Sum σ β)) (x:σ):Rd β:=⟨iter body x,ru body x⟩
theorem mE {body:σ->Rd (Sum σ β)} {w:σ->Nat} {w':β->Nat} {c:Nat} (h1:∀x s U s',(body x).run s=.inr (.inl U,s')->w U<=w x+4) (h2:∀x s y s',(body x).run s=.inr (.inr y,s')->w' y<=w x+c) (x:σ) (s:Af):
 ∀y s',(loop body x).run s=.inr (y,s')->w' y+4*mu s'<=w x+c+4*mu s:=by
 show ∀y s',iter body x s=.inr (y,s')->_
 fun_induction iter body x s with
 |case1 x s e h=>simp_all
 |case2 x s y s1 h=>intro y s' h';cases h';have:=h2 _ _ _ _ h;have:=(body x).le _ _ _ h;omega
 |case3 x s U s1 h hlt ih=>grind
 |case4 x s U s1 h hlt=>simp_all
def wp (m:Rd α) (s:Af) (Q:α->Af->Prop) (E:Er->Af->Prop):Prop:=match m.run s with
 | .inl p=>E p.1 p.2
 | .inr p=>Q p.1 p.2
theorem wp_ret {v:α} {Q:α->Af->Prop} {E:Er->Af->Prop}:wp (ret v) s Q E=Q v s:=rfl
theorem wp_seq {m:Rd α} {k:α->Rd β} {Q:β->Af->Prop} {E:Er->Af->Prop}:wp (seq m k) s Q E=wp m s (λv s'=>wp (k v) s' Q E) E:=by
 unfold wp seq
 grind
theorem BD {e:Er} {Q:α->Af->Prop} {E:Er->Af->Prop}:wp (fail e) s Q E=E e s:=rfl
theorem Df {e:Er} {t:Af} {Q:α->Af->Prop} {E:Er->Af->Prop}:wp (M6 t e) s Q E=E e t:=rfl
theorem Ag {f:Af->Rd α} {Q:α->Af->Prop} {E:Er->Af->Prop}:wp (look f) s Q E=wp (f s) s Q E:=rfl
theorem Ao {c:Prop} [Decidable c] {a b:Rd α} {Q:α->Af->Prop} {E:Er->Af->Prop}:wp (if c then a else b) s Q E=if c then wp a s Q E else wp b s Q E:=GT
def again (body:σ->Rd (Sum σ β)) (s:Af) (Q:β->Af->Prop) (E:Er->Af->Prop):Sum σ β->Af->Prop
 | .inr y,s'=>Q y s'
 | .inl x,s'=>if mu s'<mu s then wp (loop body x) s' Q E else E ⟨2,IR⟩ s
theorem wp_loop {body:σ->Rd (Sum σ β)} {x:σ} {Q:β->Af->Prop} {E:Er->Af->Prop}:wp (loop body x) s Q E=wp (body x) s (again body s Q E) E:=by
 have e:(loop body x).run s=match (body x).run s with
  | .inl e=>.inl e
  | .inr (.inr y,s')=>.inr (y,s')
  | .inr (.inl x',s')=>if mu s'<mu s then (loop body x').run s' else .inl (⟨2,IR⟩,s):=by
  show iter body x s=_
  rw [iter]
  rfl
 unfold wp
 rw [e]
 cases hb:(body x).run s with
 |inl p=>rfl
 |inr p=>
  obtain ⟨r,s'⟩:=p
  cases r with
  |inr y=>rfl
  |inl x'=>
   dsimp only [again]
   by_cases U:mu s'<mu s
   .rw [if_pos U,if_pos U];rfl
   grind
theorem AO {body:σ->Rd (Sum σ β)} {Q:β->Af->Prop} {E:Er->Af->Prop} {y:β}:again body s Q E (.inr y) s'=Q y s':=rfl
theorem Bh {body:σ->Rd (Sum σ β)} {Q:β->Af->Prop} {E:Er->Af->Prop} {x:σ} (h:again body s Q E (.inl x) s') (U:mu s'<mu s):wp (loop body x) s' Q E:=by
 have h:if mu s'<mu s then wp (loop body x) s' Q E else E ⟨2,IR⟩ s:=h
 simp_all
theorem wp_mono {m:Rd α} {Q Q':α->Af->Prop} {E E':Er->Af->Prop} (h:wp m s Q E) (hq:∀v s',m.run s=.inr (v,s')->Q v s'->Q' v s') (U:∀e s',m.run s=.inl (e,s')->E e s'->E' e s'):wp m s Q' E':=by
 unfold wp at h |-
 grind
theorem UQ {m:Rd α} {Q:α->Af->Prop} {E:Er->Af->Prop} (hq:∀v s',m.run s=.inr (v,s')->Q v s') (U:∀e s',m.run s=.inl (e,s')->E e s'):wp m s Q E:=by
 unfold wp
 grind
def AZ (m:Rd α):Prop:=∀s v s',m.run s=.inr (v,s')->mu s'<mu s
theorem AZ.seq {m:Rd α} {k:α->Rd β} (h:AZ m):AZ (seq m k):=λs v s' e=>by
 unfold Rd.seq at e
 dsimp only at e
 split at e
 .cases e
 .exact Nat.lt_of_le_of_lt ((k _).le _ _ _ e) (h _ _ _ ‹_›)
theorem AZ.at {m:Rd α} {k:α->Rd β} {s s':Af} {v:β} (h:∀v s',m.run s=.inr (v,s')->mu s'<mu s) (e:(Rd.seq m k).run s=.inr (v,s')):mu s'<mu s:=by
 unfold Rd.seq at e
 dsimp only at e
 split at e
 .cases e
 .exact Nat.lt_of_le_of_lt ((k _).le _ _ _ e) (h _ _ ‹_›)
theorem AZ.look {f:Af->Rd α} (h:∀s v s',(f s).run s=.inr (v,s')->mu s'<mu s):AZ (look f):=λs v s' e=>h s v s' e
end Rd
def Ly (A:Af->Rs) (hle:∀s v s',A s=.inr (v,s')->mu s'<=mu s):Rd Nd:=⟨λs=>match A s with
 | .inl p=>if h:p.1=0 then .inl (⟨2,IR⟩,p.2) else .inl (⟨p.1,h⟩,p.2)
 | .inr p=>.inr p,λs v s' h=>by
 grind⟩
theorem Ip {A:Af->Rs} {hle:∀s v s',A s=.inr (v,s')->mu s'<=mu s} (U:C4 A) (h:A s=.inl (e,s')):(Ly A hle).run s=.inl (⟨e,U _ _ _ h⟩,s'):=by
 unfold Ly
 grind
theorem IY {A:Af->Rs} {hle:∀s v s',A s=.inr (v,s')->mu s'<=mu s} {p:Nd×Af} (h:A s=.inr p):(Ly A hle).run s=.inr p:=by
 unfold Ly
 simp_all
def AB:Rd Nd:=Ly CP λs v s' h=>(Q7 h).1
def MX {α:Type}:Rd α:=⟨λs=>.inl (⟨OO s,Kh s⟩,s),λs v s' h=>by cases h⟩
def Bo (k:Int) (x:List UInt8):Rd Nd:=.look λs=>if AP s k x=true then AB else MX
def Cm (ks:List Int):Rd Nd:=.look λs=>if ks.contains (Aa s).1.kind=true then AB else MX
def GN:Rd Unit:=.seq AB λ_=>.ret ()
theorem LM {k:Int} (h:AP s k x=true) (U:k≠0):AB.run s=.inr (AJ (Aa s).1,(Aa s).2.1):=IY (DK h U)
theorem C8 (h:(Aa s).2.2=0):AB.run s=.inr (AJ (Aa s).1,(Aa s).2.1):=IY (by unfold CP;simp_all)
theorem J8 (h:¬(Aa s).2.2=0):AB.run s=.inl (⟨(Aa s).2.2,h⟩,s):=by
 have e:CP s=.inl ((Aa s).2.2,s):=by unfold CP;rw [if_neg h]
 exact Ip Jz e
theorem Ix {v:Nd} (h:AB.run s=.inr (v,s')) (U:(Aa s).1.kind≠21):mu s'<mu s:=by
 by_cases e:(Aa s).2.2=0
 .rw [C8 e] at h;cases h;exact (De e).2 U
 .rw [J8 e] at h;cases h
theorem En (h:(Aa s).1.kind≠0):(Aa s).2.2=0:=by
 apply Classical.byContradiction
 intro e
 rw [SA e] at h
 exact h rfl
theorem GR {k:Int} (U:k≠21):Rd.AZ (Bo k x):=Rd.AZ.look λs v s' h=>by
 split at h
 .rename_i hi
  refine Ix h λe=>U ?_
  unfold AP at hi
  simp_all
 .cases h
theorem RZ {ks:List Int} (U:ks.contains 21=false):Rd.AZ (Cm ks):=Rd.AZ.look λs v s' h=>by
 split at h
 .rename_i hi
  exact Ix h λe=>by simp_all
 .cases h
end Go.Proofs.Z
namespace Go.Proofs
open Go.Shelf
def Tryz.Ye:Go.Shelf.Ren:=⟨λ|160=>198|232=>261|231=>260|227=>262|234=>264|233=>263|236=>266|235=>265|228=>322|271=>324|151=>323|197=>125|120=>373|152=>372|260=>196|137=>407|119=>408|224=>384|225=>383|217=>382|266=>412|n=>n,λ|9=>9|4=>4|3=>3|5=>5|117=>198|116=>197|0=>0|124=>201|21=>21|105=>130|46=>191|119=>190|139=>194|138=>193|n=>n,λ|3=>0|4=>1|n=>n⟩
theorem Tryz.rB:Go.Proofs.Lays.n160 Tryz.prog Tryz.Ye:={
 mixed:=M2
 f119:=Tryz.func408.trans (congrArg some M2)
 f120:=Tryz.func373.trans (congrArg some M2)
 f137:=Tryz.func407.trans (congrArg some M2)
 f151:=Tryz.func323.trans (congrArg some M2)
 f152:=Tryz.func372.trans (congrArg some M2)
 f160:=Tryz.func198.trans (congrArg some M2)
 f197:=Tryz.func125.trans (congrArg some M2)
 f217:=Tryz.func382.trans (congrArg some M2)
 f224:=Tryz.func384.trans (congrArg some M2)
 f225:=Tryz.func383.trans (congrArg some M2)
 f227:=Tryz.func262.trans (congrArg some M2)
 f228:=Tryz.func322.trans (congrArg some M2)
 f231:=Tryz.func260.trans (congrArg some M2)
 f232:=Tryz.func261.trans (congrArg some M2)
 f233:=Tryz.func263.trans (congrArg some M2)
 f234:=Tryz.func264.trans (congrArg some M2)
 f235:=Tryz.func265.trans (congrArg some M2)
 f236:=Tryz.func266.trans (congrArg some M2)
 f260:=Tryz.func196.trans (congrArg some M2)
 f266:=Tryz.func412.trans (congrArg some M2)
 f271:=Tryz.func324.trans (congrArg some M2)
 t0:=Tryz.underlying0
 a0:=Tryz.isAgg0
 z0:=Tryz.sizeOf0
 v0:=Tryz.zeroValue0
 t3:=Tryz.underlying3
 a3:=Tryz.isAgg3
 z3:=Tryz.sizeOf3
 v3:=Tryz.zeroValue3
 t4:=Tryz.underlying4
 a4:=Tryz.isAgg4
 z4:=Tryz.sizeOf4
 v4:=Tryz.zeroValue4
 t5:=Tryz.underlying5
 a5:=Tryz.isAgg5
 z5:=Tryz.sizeOf5
 v5:=Tryz.zeroValue5
 t9:=Tryz.underlying9
 a9:=Tryz.isAgg9
 z9:=Tryz.sizeOf9
 v9:=Tryz.zeroValue9
 t21:=Tryz.underlying21
 a21:=Tryz.isAgg21
 z21:=Tryz.sizeOf21
 v21:=Tryz.zeroValue21
 t46:=Tryz.underlying191
 a46:=Tryz.isAgg191
 z46:=Tryz.sizeOf191
 v46:=Tryz.zeroValue191
 t105:=Tryz.underlying130
 a105:=Tryz.isAgg130
 z105:=Tryz.sizeOf130
 v105:=Tryz.zeroValue130
 t116:=Tryz.underlying197
 a116:=Tryz.isAgg197
 z116:=Tryz.sizeOf197
 t117:=Tryz.underlying198
 a117:=Tryz.isAgg198
 z117:=Tryz.sizeOf198
 v117:=Tryz.zeroValue198
 t119:=Tryz.underlying190
 a119:=Tryz.isAgg190
 z119:=Tryz.sizeOf190
 t124:=Tryz.underlying201
 a124:=Tryz.isAgg201
 z124:=Tryz.sizeOf201
 v124:=Tryz.zeroValue201
 t138:=Tryz.underlying193
 a138:=Tryz.isAgg193
 z138:=Tryz.sizeOf193
 v138:=Tryz.zeroValue193
 t139:=Tryz.underlying194
 a139:=Tryz.isAgg194
 z139:=Tryz.sizeOf194
 v139:=Tryz.zeroValue194
 g3:=M2
 g4:=by kernel_rfl}
open Go.RowKit in
theorem Tryz.strings_Trim_one (s:ByteArray) (c:UInt8) (hc:c.toNat<128) (w:World) (U:s.size<=9223372036854775807):
 Calls Tryz.prog 198 #[.string s,.string ⟨#[c]⟩] w λe w'=>e=.returned (.string ⟨(Lib.trimB s.data.toList c).toArray⟩)/\(w'=w\/w'=w.drew):=Any.strings_Trim_one Tryz.rB s c hc w U
def Tryz.Yb:Go.Shelf.Ren:=⟨λ|137=>407|217=>382|266=>412|n=>n,λ|9=>9|5=>5|3=>3|n=>n,λ|n=>n⟩
theorem Tryz.ry:Go.Proofs.Lays.n137 Tryz.prog Tryz.Yb:={
 mixed:=M2
 f137:=Tryz.func407.trans (congrArg some M2)
 f217:=Tryz.func382.trans (congrArg some M2)
 f266:=Tryz.func412.trans (congrArg some M2)
 t3:=Tryz.underlying3
 a3:=Tryz.isAgg3
 z3:=Tryz.sizeOf3
 v3:=Tryz.zeroValue3
 t5:=Tryz.underlying5
 a5:=Tryz.isAgg5
 z5:=Tryz.sizeOf5
 v5:=Tryz.zeroValue5
 t9:=Tryz.underlying9
 a9:=Tryz.isAgg9
 z9:=Tryz.sizeOf9
 v9:=Tryz.zeroValue9}
open Go.RowKit in
theorem Tryz.strings_IndexByte (s:ByteArray) (c:Int) (w:World):
 Calls Tryz.prog 407 #[.string s,.int .u8 c] w λe w'=>e=.returned (.int .i64 (Lib.indexByte s.data.toList c.toNat.toUInt8))/\w'=w:=Any.strings_IndexByte Tryz.ry s c w
def Tryz.Yc:Go.Shelf.Ren:=⟨λ|144=>205|143=>272|219=>334|217=>382|225=>383|224=>384|267=>385|266=>412|314=>413|n=>n,λ|9=>9|4=>4|3=>3|5=>5|46=>191|146=>256|51=>255|n=>n,λ|1=>2|n=>n⟩
theorem Tryz.rz:Go.Proofs.Lays.n144 Tryz.prog Tryz.Yc:={
 mixed:=M2
 f143:=Tryz.func272.trans (congrArg some M2)
 f144:=Tryz.func205.trans (congrArg some M2)
 f217:=Tryz.func382.trans (congrArg some M2)
 f219:=Tryz.func334.trans (congrArg some M2)
 f224:=Tryz.func384.trans (congrArg some M2)
 f225:=Tryz.func383.trans (congrArg some M2)
 f266:=Tryz.func412.trans (congrArg some M2)
 f267:=Tryz.func385.trans (congrArg some M2)
 f314:=Tryz.func413.trans (congrArg some M2)
 t3:=Tryz.underlying3
 a3:=Tryz.isAgg3
 z3:=Tryz.sizeOf3
 v3:=Tryz.zeroValue3
 t4:=Tryz.underlying4
 a4:=Tryz.isAgg4
 z4:=Tryz.sizeOf4
 v4:=Tryz.zeroValue4
 t5:=Tryz.underlying5
 a5:=Tryz.isAgg5
 z5:=Tryz.sizeOf5
 v5:=Tryz.zeroValue5
 t9:=Tryz.underlying9
 a9:=Tryz.isAgg9
 z9:=Tryz.sizeOf9
 v9:=Tryz.zeroValue9
 t46:=Tryz.underlying191
 a46:=Tryz.isAgg191
 z46:=Tryz.sizeOf191
 v46:=Tryz.zeroValue191
 t51:=Tryz.underlying255
 a51:=Tryz.isAgg255
 z51:=Tryz.sizeOf255
 v51:=Tryz.zeroValue255
 t146:=Tryz.underlying256
 a146:=Tryz.isAgg256
 z146:=Tryz.sizeOf256
 v146:=Tryz.zeroValue256
 g1:=by kernel_rfl}
open Go.RowKit Go.Lib in
theorem Tryz.strings_Contains (s sub:ByteArray) (m:Int) (w:World) (hs:s.size<4294967281) (U:w.cell? ⟨2,0,none⟩=some (.int .i64 m)):
 Calls Tryz.prog 205 #[.string s,.string sub] w λe w'=>e=.returned (.bool (Lib.contains s.data.toList sub.data.toList))/\w'=w:=Any.strings_Contains Tryz.rz s sub m w hs U
def Tryz.VC:Go.Shelf.Ren:=⟨λ|15=>56|20=>126|n=>n,λ|9=>9|23=>84|3=>3|4=>4|0=>0|21=>21|n=>n,λ|n=>n⟩
theorem Tryz.mh:Go.Proofs.LaysGw.n15 Tryz.prog Tryz.VC:={
 mixed:=M2
 f15:=Tryz.func56.trans (congrArg some M2)
 f20:=Tryz.func126.trans (congrArg some M2)
 t0:=Tryz.underlying0
 a0:=Tryz.isAgg0
 z0:=Tryz.sizeOf0
 v0:=Tryz.zeroValue0
 i0:=M2
 t3:=Tryz.underlying3
 a3:=Tryz.isAgg3
 z3:=Tryz.sizeOf3
 v3:=Tryz.zeroValue3
 i3:=M2
 t4:=Tryz.underlying4
 a4:=Tryz.isAgg4
 z4:=Tryz.sizeOf4
 v4:=Tryz.zeroValue4
 i4:=M2
 t9:=Tryz.underlying9
 a9:=Tryz.isAgg9
 z9:=Tryz.sizeOf9
 v9:=Tryz.zeroValue9
 i9:=M2
 t21:=Tryz.underlying21
 a21:=Tryz.isAgg21
 z21:=Tryz.sizeOf21
 v21:=Tryz.zeroValue21
 i21:=M2
 t23:=Tryz.underlying84
 a23:=Tryz.isAgg84
 z23:=Tryz.sizeOf84
 v23:=Tryz.zeroValue84
 i23:=by kernel_rfl}
def Tryz.bE:Go.Shelf.Ren:=⟨λ|99=>130|206=>197|n=>n,λ|9=>9|4=>4|3=>3|n=>n,λ|n=>n⟩
theorem Tryz.vH:Go.Proofs.Lays.n99 Tryz.prog Tryz.bE:={
 mixed:=M2
 f99:=Tryz.func130.trans (congrArg some M2)
 f206:=Tryz.func197.trans (congrArg some M2)
 t3:=Tryz.underlying3
 a3:=Tryz.isAgg3
 z3:=Tryz.sizeOf3
 v3:=Tryz.zeroValue3
 t4:=Tryz.underlying4
 a4:=Tryz.isAgg4
 z4:=Tryz.sizeOf4
 v4:=Tryz.zeroValue4
 t9:=Tryz.underlying9
 a9:=Tryz.isAgg9
 z9:=Tryz.sizeOf9
 v9:=Tryz.zeroValue9}
open Go.RowKit Go.Lib in
theorem Tryz.strings_HasPrefix (s p:ByteArray) (w:World):
 Calls Tryz.prog 130 #[.string s,.string p] w λe w'=>e=.returned (.bool (Lib.hasPrefix s.data.toList p.data.toList))/\w'=w:=Any.strings_HasPrefix Tryz.vH s p w
def Tryz.Yd:Go.Shelf.Ren:=⟨λ|157=>428|229=>429|199=>430|261=>431|311=>432|312=>433|n=>n,λ|9=>9|31=>172|3=>3|5=>5|4=>4|119=>190|0=>0|40=>84|152=>267|21=>21|154=>269|51=>255|141=>271|196=>275|193=>272|198=>278|49=>276|194=>273|201=>281|226=>283|46=>191|227=>284|n=>n,λ|0=>3|6=>4|n=>n⟩
theorem Tryz.rA:Go.Proofs.Lays.n157 Tryz.prog Tryz.Yd:={
 mixed:=M2
 f157:=Tryz.func428.trans (congrArg some M2)
 f199:=Tryz.func430.trans (congrArg some M2)
 f229:=Tryz.func429.trans (congrArg some M2)
 f261:=Tryz.func431.trans (congrArg some M2)
 f311:=Tryz.func432.trans (congrArg some M2)
 f312:=Tryz.func433.trans (congrArg some M2)
 t0:=Tryz.underlying0
 a0:=Tryz.isAgg0
 z0:=Tryz.sizeOf0
 v0:=Tryz.zeroValue0
 t3:=Tryz.underlying3
 a3:=Tryz.isAgg3
 z3:=Tryz.sizeOf3
 v3:=Tryz.zeroValue3
 t4:=Tryz.underlying4
 a4:=Tryz.isAgg4
 z4:=Tryz.sizeOf4
 v4:=Tryz.zeroValue4
 t5:=Tryz.underlying5
 a5:=Tryz.isAgg5
 z5:=Tryz.sizeOf5
 v5:=Tryz.zeroValue5
 t9:=Tryz.underlying9
 a9:=Tryz.isAgg9
 z9:=Tryz.sizeOf9
 v9:=Tryz.zeroValue9
 t21:=Tryz.underlying21
 a21:=Tryz.isAgg21
 z21:=Tryz.sizeOf21
 v21:=Tryz.zeroValue21
 t31:=Tryz.underlying172
 a31:=Tryz.isAgg172
 z31:=Tryz.sizeOf172
 v31:=Tryz.zeroValue172
 t40:=Tryz.underlying84
 a40:=Tryz.isAgg84
 z40:=Tryz.sizeOf84
 v40:=Tryz.zeroValue84
 t46:=Tryz.underlying191
 a46:=Tryz.isAgg191
 z46:=Tryz.sizeOf191
 v46:=Tryz.zeroValue191
 t49:=Tryz.underlying276
 a49:=Tryz.isAgg276
 z49:=Tryz.sizeOf276
 v49:=Tryz.zeroValue276
 t51:=Tryz.underlying255
 a51:=Tryz.isAgg255
 z51:=Tryz.sizeOf255
 v51:=Tryz.zeroValue255
 t119:=Tryz.underlying190
 a119:=Tryz.isAgg190
 z119:=Tryz.sizeOf190
 t141:=Tryz.underlying271
 a141:=Tryz.isAgg271
 z141:=Tryz.sizeOf271
 v141:=Tryz.zeroValue271
 t152:=Tryz.underlying267
 a152:=Tryz.isAgg267
 z152:=Tryz.sizeOf267
 v152:=Tryz.zeroValue267
 t154:=Tryz.underlying269
 a154:=Tryz.isAgg269
 z154:=Tryz.sizeOf269
 v154:=Tryz.zeroValue269
 t193:=Tryz.underlying272
 a193:=Tryz.isAgg272
 z193:=Tryz.sizeOf272
 v193:=Tryz.zeroValue272
 t194:=Tryz.underlying273
 a194:=Tryz.isAgg273
 z194:=Tryz.sizeOf273
 v194:=Tryz.zeroValue273
 t196:=Tryz.underlying275
 a196:=Tryz.isAgg275
 z196:=Tryz.sizeOf275
 v196:=Tryz.zeroValue275
 t198:=Tryz.underlying278
 a198:=Tryz.isAgg278
 z198:=Tryz.sizeOf278
 v198:=Tryz.zeroValue278
 t201:=Tryz.underlying281
 a201:=Tryz.isAgg281
 z201:=Tryz.sizeOf281
 v201:=Tryz.zeroValue281
 t226:=Tryz.underlying283
 a226:=Tryz.isAgg283
 z226:=Tryz.sizeOf283
 v226:=Tryz.zeroValue283
 t227:=Tryz.underlying284
 a227:=Tryz.isAgg284
 z227:=Tryz.sizeOf284
 v227:=Tryz.zeroValue284
 g0:=M2
 g6:=by kernel_rfl}
open Go.RowKit Go.Lib in
theorem Tryz.strings_Fields (s : ByteArray) (w : World) (hs : s.size < 4294967281) (U : ∀ (j : Nat) b, s.data.toList[j]? = some b -> b.toNat < 128) (htab : Lib.TabIs Tryz.prog w "strings.asciiSpace" .u8 Lib.asciiSpaceTab) :
 Calls Tryz.prog 428 #[.string s] w λe w'=>
  e=.returned (.slice (some ⟨w.heap.size,0,none⟩) (Lib.fields s.data.toList).length (Lib.fields s.data.toList).length)/\w'=w.alloc (.cells ((Lib.fields s.data.toList).map λl=>Value.string ⟨l.toArray⟩).toArray 9):=Any.strings_Fields Tryz.rA M2 M2 s w hs U htab
def Tryz.Yf:Go.Shelf.Ren:=⟨λ|197=>125|260=>196|n=>n,λ|9=>9|21=>21|3=>3|4=>4|5=>5|105=>130|119=>190|0=>0|46=>191|139=>194|138=>193|n=>n,λ|3=>0|4=>1|n=>n⟩
theorem Tryz.rC:Go.Proofs.Lays.n197 Tryz.prog Tryz.Yf:={
 mixed:=M2
 f197:=Tryz.func125.trans (congrArg some M2)
 f260:=Tryz.func196.trans (congrArg some M2)
 t0:=Tryz.underlying0
 a0:=Tryz.isAgg0
 z0:=Tryz.sizeOf0
 v0:=Tryz.zeroValue0
 t3:=Tryz.underlying3
 a3:=Tryz.isAgg3
 z3:=Tryz.sizeOf3
 v3:=Tryz.zeroValue3
 t4:=Tryz.underlying4
 a4:=Tryz.isAgg4
 z4:=Tryz.sizeOf4
 v4:=Tryz.zeroValue4
 t5:=Tryz.underlying5
 a5:=Tryz.isAgg5
 z5:=Tryz.sizeOf5
 v5:=Tryz.zeroValue5
 t9:=Tryz.underlying9
 a9:=Tryz.isAgg9
 z9:=Tryz.sizeOf9
 v9:=Tryz.zeroValue9
 t21:=Tryz.underlying21
 a21:=Tryz.isAgg21
 z21:=Tryz.sizeOf21
 v21:=Tryz.zeroValue21
 t46:=Tryz.underlying191
 a46:=Tryz.isAgg191
 z46:=Tryz.sizeOf191
 v46:=Tryz.zeroValue191
 t105:=Tryz.underlying130
 a105:=Tryz.isAgg130
 z105:=Tryz.sizeOf130
 v105:=Tryz.zeroValue130
 t119:=Tryz.underlying190
 a119:=Tryz.isAgg190
 z119:=Tryz.sizeOf190
 t138:=Tryz.underlying193
 a138:=Tryz.isAgg193
 z138:=Tryz.sizeOf193
 v138:=Tryz.zeroValue193
 t139:=Tryz.underlying194
 a139:=Tryz.isAgg194
 z139:=Tryz.sizeOf194
 v139:=Tryz.zeroValue194
 g3:=M2
 g4:=by kernel_rfl}
open Go.RowKit Go.Lib in
theorem Tryz.utf8_DecodeRuneInString (s:ByteArray) (w:World) (U:Lib.Utf8Tabs 0 1 w):
 Calls Tryz.prog 125 #[.string s] w λe w'=>e=.returned (.tuple #[.int .i32 (Lib.decodeGo s).1,.int .i64 (Lib.decodeGo s).2])/\Below w.heap.size w w':=Any.utf8_DecodeRuneInString Tryz.rC s w U
open Go.RowKit Go.Lib in
theorem Tryz.strings_IndexFunc_grows (g:Nat) (U:Array Value) (eg:∀args w,(callFunc g args).run Tryz.prog w=.ok (.enter g args) w) (p:Nat->Bool) (s:ByteArray) (w:World) (hp:PredGrows Tryz.prog g U p w):
 Calls Tryz.prog 56 #[.string s,.func (.func g) #[] U] w λe w'=>e=.returned (.int .i64 (Lib.idxFunc p true s))/\Below w.heap.size w w':=Any.strings_IndexFunc_grows Tryz.mh g U eg p s w hp
end Go.Proofs
namespace Go.Aw
open Go
theorem Db.below {st:St} {w w':World} (h:Db I st w) (b:RowKit.Below w.heap.size w w'):Fr I st w I st w'/\Db I st w':=by
 refine ⟨⟨b.os,b.tape,b.output,b.size,λx hx _ _=>b.block x hx,Mem.le_refl _,λ_ _ h k=>absurd h k,λ_ h k=>absurd h k,λ_ h=>.inr h⟩,?_,?_,?_,h.Jh,?_,h.UE⟩
 .intro x o v e
  have e:=h.cell x o v e
  rw [HI (b.block x (Nf e))];exact e
 .intro x n e
  obtain ⟨c,ty,U,h2⟩:=h.shape x n e
  exact ⟨c,ty,by rw [b.block x (Ij U)];exact U,h2⟩
 .intro x cs e
  obtain ⟨vs,ty,U,h2⟩:=h.box x cs e
  exact ⟨vs,ty,by rw [b.block x (Ij U)];exact U,h2⟩
 .intro x n e
  exact ⟨Nat.lt_of_lt_of_le (h.hw x n e).1 b.size,(h.hw x n e).2⟩
theorem DO {P:Program} {st:St} (hf:Plain P f) (v:V)
 (h:∀(I:Mem) (w:World) (U:List Value),Db I st w->Ar I args U->Calls P f U.toArray w λe w'=>(∃c,e=.returned c/\A0 I v c)/\RowKit.Below w.heap.size w w')
 (k:R (.ret v) st):Bp P f args st R:=
 ⟨λI w U hs ha=>(h I w U hs ha).mono λe w' ⟨⟨c,he,hc⟩,hb⟩=>⟨I,st,.ret v,(hs.below hb).1,(hs.below hb).2,by subst he;exact hc,k⟩,hf⟩
theorem Db.row {st:St} {w:World} (h:Db I st w) (vs:List Value) (ty:TypeId):
 Fr I st w (I.add w.heap.size 0 vs vs.length) st (w.alloc (.cells vs.toArray ty))/\Db (I.add w.heap.size 0 vs vs.length) st (w.alloc (.cells vs.toArray ty))/\I.le (I.add w.heap.size 0 vs vs.length):=by
 have hr:Rel [] I st w I (λ_=>none) {tmps:=[],boxes:=[],BS:=0,sz:=0,gl:=[]} st {tmps:=#[],defers:=[]} w:=
  SC h rfl (λt v e=>by cases e) rfl rfl
 have h1:=hr.newRow vs [] ty
 rw [List.append_nil,List.length_nil,Nat.add_zero] at h1
 have U:=h1.Iw (St.JT (St.le_refl st) (Eb h).2 vs.length)
 exact ⟨U.fr,U.s,U.fr.le⟩
theorem nG {n:Nat} (l:List (List UInt8)) (hl:∀x ∈ l,x.length<Fk) (hn:l.length<Fk)
 (hle:I.le (I.add b 0 (l.map λx=>Value.string ⟨x.toArray⟩) n)):
 A0 (I.add b 0 (l.map λx=>Value.string ⟨x.toArray⟩) n) (.slice 1 (l.map λx=>[.str x]) .any) (.slice (some ⟨b,0,none⟩) l.length l.length):=by
 simp only [A0]
 refine ⟨some ⟨b,0,none⟩,l.length,Pi,Pi,lm,IR,trivial,.inr rfl,?_⟩
 refine CQ.add _ (l.map λx=>Value.string ⟨x.toArray⟩) 0 ?_ hle (λj c U=>Mem.Rk U)
 clear hle hn
 induction l with
 |nil=>rfl
 |cons a r ih=>
  simp only [List.map_cons,CO]
  refine ⟨[Value.string ⟨a.toArray⟩],r.map λx=>Value.string ⟨x.toArray⟩,rfl,rfl,?_,ih λx hx=>hl x (List.mem_cons_of_mem _ hx)⟩
  simp only [Ar,A0]
  simp_all
end Go.Aw
namespace Go.Proofs.Z
open Go Go.Aw
def XI (s:List UInt8):Int×Int:=match s with
 |[]=>(65533,0)
 |a::r=>(((Br (a::r)).1:Nat),((Br (a::r)).2:Nat))
theorem PN (s:List UInt8):(((Lib.decodeGo ⟨s.toArray⟩).1:Nat):Int)=(XI s).1/\(((Lib.decodeGo ⟨s.toArray⟩).2:Nat):Int)=(XI s).2:=by
 cases s with
 |nil=>exact ⟨rfl,rfl⟩
 |cons a r=>
  have U:¬(⟨(a::r).toArray⟩:ByteArray).size=0:=by show ¬(a::r).toArray.size=0;simp
  unfold Lib.decodeGo
  rw [if_neg U,Vb Pi,List.drop_zero]
  exact ⟨rfl,rfl⟩
section
variable {st:St} {R:AD->St->Prop}
theorem tP {s:List UInt8} (h:R (.ret (.Bl [.int .i32 (XI s).1,.int .i64 (XI s).2])) st):PC 125 [.str s] st R:=by
 refine DO ⟨_,Tryz.func125,IR,IR⟩ _ (λI w cargs U ha=>?_) h
 simp only [Ar,A0] at ha
 obtain ⟨c,r,rfl,⟨rfl,hl⟩,rfl⟩:=ha
 refine (Tryz.utf8_DecodeRuneInString ⟨s.toArray⟩ w ⟨λi hi=>U.cell _ _ _ (U.UE.first i hi),λi hi=>⟨U.cell _ _ _ (U.UE.accept i hi).1,U.cell _ _ _ (U.UE.accept i hi).2⟩⟩).mono λe w' ⟨he,hb⟩=>⟨⟨_,he,?_⟩,hb⟩
 rw [(PN s).1,(PN s).2]
 simp only [A0,Ar]
 exact ⟨_,rfl,_,_,rfl,rfl,_,_,rfl,rfl,rfl⟩
theorem JY {s p:List UInt8} (h:R (.ret (.bool (p.isPrefixOf s))) st):PC 130 [.str s,.str p] st R:=by
 refine DO ⟨_,Tryz.func130,IR,IR⟩ _ (λI w U hs ha=>?_) h
 simp only [Ar,A0] at ha
 obtain ⟨c,r,rfl,⟨rfl,hl⟩,c2,r2,rfl,⟨rfl,hl2⟩,rfl⟩:=ha
 refine (Tryz.strings_HasPrefix ⟨s.toArray⟩ ⟨p.toArray⟩ w).mono λe w' ⟨he,hw⟩=>⟨⟨_,he,?_⟩,hw ▸ RowKit.Below.refl _ _⟩
 simp only [A0]
 rfl
theorem wW {s:List UInt8} {c:UInt8} (hc:c.toNat<128) (h:R (.ret (.str (Lib.trimB s c))) st):PC 198 [.str s,.str [c]] st R:=by
 refine DO ⟨_,Tryz.func198,IR,IR⟩ _ (λI w U hs ha=>?_) h
 simp only [Ar,A0] at ha
 obtain ⟨c1,r,rfl,⟨rfl,hl⟩,c2,r2,rfl,⟨rfl,hl2⟩,rfl⟩:=ha
 have hsz:(⟨s.toArray⟩:ByteArray).size<=9223372036854775807:=by show s.toArray.size<=_;unfold Fk at hl;simp;omega
 refine (Tryz.strings_Trim_one ⟨s.toArray⟩ c hc w hsz).mono λe w' ⟨he,hw⟩=>⟨⟨_,he,?_⟩,?_⟩
 .simp only [A0]
  refine ⟨trivial,?_⟩
  have:(Lib.trimB s c).length<=s.length:=by
   unfold Lib.trimB Lib.trimLeftB Lib.trimRightB
   refine Nat.le_trans (List.dropWhile_sublist _).length_le ?_
   rw [List.length_reverse]
   refine Nat.le_trans (List.dropWhile_sublist _).length_le ?_
   simp
  unfold Fk at hl |-;omega
 .rcases hw with rfl|rfl
  .exact RowKit.Below.refl _ _
  .exact (RowKit.Below.refl _ _).drew
theorem u6 {s:List UInt8} {c:UInt8} (h:R (.ret (.int .i64 (Lib.indexByte s c))) st):PC 407 [.str s,.int .u8 c.toNat] st R:=by
 refine DO ⟨_,Tryz.func407,IR,IR⟩ _ (λI w U hs ha=>?_) h
 simp only [Ar,A0] at ha
 obtain ⟨c1,r,rfl,⟨rfl,hl⟩,c2,r2,rfl,rfl,rfl⟩:=ha
 refine (Tryz.strings_IndexByte ⟨s.toArray⟩ c.toNat w).mono λe w' ⟨he,hw⟩=>⟨⟨_,he,?_⟩,hw ▸ RowKit.Below.refl _ _⟩
 simp [A0]
theorem aQ {s t:List UInt8} (hz:s.length<4294967281) (h:R (.ret (.bool (Lib.contains s t))) st):PC 205 [.str s,.str t] st R:=by
 refine DO ⟨_,Tryz.func205,IR,IR⟩ _ (λI w U hs ha=>?_) h
 simp only [Ar,A0] at ha
 obtain ⟨c1,r,rfl,⟨rfl,hl⟩,c2,r2,rfl,⟨rfl,hl2⟩,rfl⟩:=ha
 obtain ⟨m,hm⟩:=hs.UE.maxLen
 refine (Tryz.strings_Contains ⟨s.toArray⟩ ⟨t.toArray⟩ m w (by show s.toArray.size<_;simpa using hz) (hs.cell _ _ _ hm)).mono λe w' ⟨he,hw⟩=>⟨⟨_,he,?_⟩,hw ▸ RowKit.Below.refl _ _⟩
 simp [A0]
end
end Go.Proofs.Z
namespace Go.Aw
open Go
noncomputable def Env.EG (env:Env) (U:List (Nat×V)) (bx:List (Nat×List V)) (keep kb:List Nat):Env:=match env with
 |⟨ts,bs,n,sz,gl⟩=>⟨Env.ts ⟨ts,bs,n,sz,gl⟩ U keep,List.rec (motive:=λ_=>List (Nat×List V)) (Env.bx ⟨ts,bs,n,sz,gl⟩ kb) (λp _ ih=>p::ih) bx,n,sz,gl⟩
theorem Lt {st:St} (f:α->List (Nat×V)) (g:α->List (Nat×List V)) (keep kb:List Nat) (S:α->St) (J:α->Prop) (U:α->Nat) (x0:α) (h0:J x0)
 (he:(env.EG (f x0) (g x0) keep kb).C3 env) (hs:St.le (S x0) st)
 (hb:∀x,J x->ih (Bz (λenv' st'=>∃y,J y/\U y<U x/\(env.EG (f y) (g y) keep kb).C3 env'/\St.le (S y) st') Q) (env.EG (f x) (g x) keep kb) (S x)):
 ∃(α:Type) (E:α->Env) (S:α->St) (J:α->Prop) (U:α->Nat) (x0:α),J x0/\(E x0).C3 env/\St.le (S x0) st/\
  ∀x,J x->ih (Bz (λenv' st'=>∃y,J y/\U y<U x/\(E y).C3 env'/\St.le (S y) st') Q) (E x) (S x):=
 ⟨α,λk=>env.EG (f k) (g k) keep kb,S,J,U,x0,h0,he,hs,hb⟩
theorem VG {st:St} (f:α->β->List (Nat×V)) (g:α->β->List (Nat×List V)) (keep kb:List Nat) (S:α->β->St) (J:α->β->Prop) (U:α->β->Nat) (x0:α) (y0:β) (h0:J x0 y0)
 (he:(env.EG (f x0 y0) (g x0 y0) keep kb).C3 env) (hs:St.le (S x0 y0) st)
 (hb:∀x y,J x y->ih (Bz (λenv' st'=>∃p:α×β,J p.1 p.2/\U p.1 p.2<U x y/\(env.EG (f p.1 p.2) (g p.1 p.2) keep kb).C3 env'/\St.le (S p.1 p.2) st') Q) (env.EG (f x y) (g x y) keep kb) (S x y)):
 ∃(α:Type) (E:α->Env) (S:α->St) (J:α->Prop) (U:α->Nat) (x0:α),J x0/\(E x0).C3 env/\St.le (S x0) st/\
  ∀x,J x->ih (Bz (λenv' st'=>∃y,J y/\U y<U x/\(E y).C3 env'/\St.le (S y) st') Q) (E x) (S x):=
 ⟨α×β,λp=>env.EG (f p.1 p.2) (g p.1 p.2) keep kb,λp=>S p.1 p.2,λp=>J p.1 p.2,λp=>U p.1 p.2,(x0,y0),h0,he,hs,λp h=>hb p.1 p.2 h⟩
theorem VH {st:St} {γ:Type} (f:α->β->γ->List (Nat×V)) (g:α->β->γ->List (Nat×List V)) (keep kb:List Nat) (S:α->β->γ->St) (J:α->β->γ->Prop) (U:α->β->γ->Nat) (x0:α) (y0:β) (z0:γ) (h0:J x0 y0 z0)
 (he:(env.EG (f x0 y0 z0) (g x0 y0 z0) keep kb).C3 env) (hs:St.le (S x0 y0 z0) st)
 (hb:∀x y z,J x y z->ih (Bz (λenv' st'=>∃p:α×β×γ,J p.1 p.2.1 p.2.2/\U p.1 p.2.1 p.2.2<U x y z/\(env.EG (f p.1 p.2.1 p.2.2) (g p.1 p.2.1 p.2.2) keep kb).C3 env'/\St.le (S p.1 p.2.1 p.2.2) st') Q) (env.EG (f x y z) (g x y z) keep kb) (S x y z)):
 ∃(α:Type) (E:α->Env) (S:α->St) (J:α->Prop) (U:α->Nat) (x0:α),J x0/\(E x0).C3 env/\St.le (S x0) st/\
  ∀x,J x->ih (Bz (λenv' st'=>∃y,J y/\U y<U x/\(E y).C3 env'/\St.le (S y) st') Q) (E x) (S x):=
 ⟨α×β×γ,λp=>env.EG (f p.1 p.2.1 p.2.2) (g p.1 p.2.1 p.2.2) keep kb,λp=>S p.1 p.2.1 p.2.2,λp=>J p.1 p.2.1 p.2.2,λp=>U p.1 p.2.1 p.2.2,(x0,y0,z0),h0,he,hs,λp h=>hb p.1 p.2.1 p.2.2 h⟩
theorem B9 {k:IntKind} {a b:Int} (e:a=b):AD.ret (.int k a)=AD.ret (.int k b):=by rw [e]
theorem WJ {n:Nat} {p:Prop} (k:n<4611686018427387904->p):n<Fk->p:=k
theorem WK {l:List UInt8} {K:Nat->Nat->Prop} (k:∀c m,(c,m)=Br l->K c m):∀c m,(c,m)=Br l->K c m:=k
theorem WN {s:List UInt8} {a:Int} {K:List UInt8->Prop} (U:0<=a) (h1:a<=s.length) (k:K (s.drop a.toNat)):
 (0<=a/\a<=(s.length:Int)/\(s.length:Int)<=s.length)/\∀s',s'=(s.take (s.length:Int).toNat).drop a.toNat->K s':=
 ⟨⟨U,h1,Int.le_refl _⟩,λs' e=>by
   simp_all⟩
theorem WO {s:List UInt8} {b:Int} {K:List UInt8->Prop} (U:0<=b) (h1:b<=s.length) (k:K (s.take b.toNat)):
 ((0:Int)<=0/\0<=b/\b<=s.length)/\∀s',s'=(s.take b.toNat).drop (0:Int).toNat->K s':=
 ⟨⟨Int.le_refl _,U,h1⟩,λs' e=>by
   simp_all⟩
theorem WP {s:List UInt8} {a b:Int} {K:List UInt8->Prop} (U:0<=a) (h1:a<=b) (h2:b<=s.length) (k:K ((s.take b.toNat).drop a.toNat)):
 (0<=a/\a<=b/\b<=s.length)/\∀s',s'=(s.take b.toNat).drop a.toNat->K s':=⟨⟨U,h1,h2⟩,λs' e=>e ▸ k⟩
theorem WM {s:List UInt8} {K:UInt8->Prop} (U:0<=i) (h1:i<s.length) (k:∀e,s[i.toNat]? =some e->K e):0<=i/\∃e,s[i.toNat]? =some e/\K e:=lm
theorem WL {s:List UInt8} {e:UInt8} {K:UInt8->Prop} (h:s[i.toNat]? =some e) (U:0<=i) (k:K e):0<=i/\∃e,s[i.toNat]? =some e/\K e:=⟨U,e,h,k⟩
theorem Ft (h:P:=by with_reducible first|(show _/\_;first|exact Wa)|(show BG _ _ _;first|exact Wb|exact Wc)|fail):P:=h
theorem CM (k:A) (h:A->P:=by intro k;with_reducible first|(show _/\_;first|  exact Wm ‹_› H1 k|exact Wn H1 H1 k|exact Wo H1 H1 k|exact Wp H1 H1 H1 k|exact Wr IR H1 H1 k|exact Ws IR k|exact WB ‹_› H1 k|exact WC H1 H1 k|exact WD H1 H1 k|exact WE H1 H1 H1 k|exact WL ‹_› H1 k|exact WM H1 H1 k|exact WN H1 H1 k|exact WO H1 H1 k|exact WP H1 H1 H1 k)|(show BG _ _ _;first|exact Wt RK k|exact Wu RK k|exact Wv H1 k|exact Ww H1 k|exact Wi k|exact Wj k)|(intro x y z;exact Wl k x y z)|(intro x y z;exact Wz k x y z)|(intro x y z;exact WA k x y z)|(intro x;exact WJ k x)|(intro x y z;exact WK k x y z)|(show Exists _;first|exact Wq H1 H1 k)|fail):P:=h k
theorem Fu {B C:V->Prop} (k:V) (l:B k) (m:C k) (h:∀k,B k->C k->P:=by intro k l m;with_reducible first|(show Exists _;first|  exact W8 NE k l m|exact W0 NE k l m|exact W9 k l m)|fail):P:=h k l m
theorem DD {B:Prop} (k:A) (l:B) (h:A->B->P:=by intro k l;with_reducible first|(show BG _ _ _;first|exact Wf IR k l|exact Wg k l|exact Wh k l|exact Wk k l)|fail):P:=h k l
end Go.Aw
namespace Go.Proofs.Z
open Go Go.Aw
def tL (st0 st:St):Ay×List Nd->Prop
 |(.any,_)=>False
 |(.full,_)=>True
 |(.tok t,l)=>st0.fresh t/\st.hw t=some (l.length*6)
def xn:Ay×List Nd->Ay×List Nd->Prop
 |(.tok t,_),(.tok u,_)=>t≠u
 |_,_=>True
structure Rx (st0 st:St) (rows:List (Ay×List Nd)):Prop where
 le:st0.le st
 ok:∀r ∈ rows,tL st0 st r
 ap:rows.Pairwise xn
section
variable {st0 st:St} {r q:Ay×List Nd} {rows:List (Ay×List Nd)}
theorem Rx.start:Rx st st []:=⟨St.le_refl _,λr U=>absurd U List.not_mem_nil,List.Pairwise.nil⟩
theorem Rx.drop (h:Rx st0 st (r::rows)):Rx st0 st rows:=⟨h.le,λq U=>h.ok q (List.mem_cons_of_mem _ U),(List.pairwise_cons.1 h.ap).2⟩
theorem Rx.push (h:Rx st0 st rows) (l:List Nd):Rx st0 st ((.full,l)::rows):=⟨h.le,λq U=>by
 rcases List.mem_cons.1 U with e|e
 .subst e;exact trivial
 .exact h.ok q e,List.pairwise_cons.2 ⟨λq U=>trivial,h.ap⟩⟩
theorem Rx.fresh {t:Nat} (h:Rx st0 st rows) (U:st.fresh t):st0.fresh t:=by
 refine ⟨?_,?_⟩
 .cases e:st0.box t with
  |none=>rfl
  |some c=>
   have:=h.le.1 t c e
   rw [U.1] at this;grind
 .cases e:st0.hw t with
  |none=>rfl
  |some c=>
   have:=h.le.2 t c e
   rw [U.2] at this;grind
theorem Rx.oJ {t:Nat} (h:Rx st0 st rows) (ht:st.fresh t):∀r ∈ rows,r.1≠.tok t:=λr U e=>by
 have:=h.ok r U
 obtain ⟨o,l⟩:=r
 dsimp only at e
 subst e
 have:=this.2
 rw [ht.2] at this;grind
theorem Rx.app {own:Ay} {K:V->St->Prop} (h:Rx st0 st ((own,l)::rows)) (hb:l.length+new.length<=1000000000)
 (k:∀own' st',st'.box=st.box->Rx st0 st' ((own',l++new)::rows)->K (.slice 6 ((l++new).map Ap) own') st'):Ai 6 72 (l.map Ap) own (new.map Ap) st K:=by
 have hw:(new.map Ap).map (·.map V.K8)=new.map Ap:=by
  rw [List.map_map]
  exact List.map_congr_left λx _=>rfl
 have hsc:((new.map Ap).all λv=>v.all V.sc)=true:=by
  rw [List.all_map,List.all_eq_true]
  intro x _;rfl
 have hlen:(l.map Ap).length+(new.map Ap).length=(l++new).length:=Pi
 have hap:=List.pairwise_cons.1 h.ap
 have mk:∀(t:Nat) (m:St),(∀r ∈ rows,tL st0 m r)->st0.fresh t->st0.le m->(∀r ∈ rows,r.1≠.tok t)->m.hw t=some ((l++new).length*6)->Rx st0 m ((.tok t,l++new)::rows):=by
  intro t m h1 h2 h4 h5 h6
  refine ⟨h4,λr U=>?_,List.pairwise_cons.2 ⟨λr U=>?_,hap.2⟩⟩
  .rcases List.mem_cons.1 U with e|e
   .subst e;exact ⟨h2,h6⟩
   simp_all
  .obtain ⟨o,q⟩:=r
   cases o with
   |tok u=>exact λe=>h5 _ U lm
   |any=>exact trivial
   |full=>exact trivial
 refine ⟨GT,by rw [hlen,List.length_append];unfold Fk;omega,A7 hsc ?_⟩
 cases own with
 |any=>exact (h.ok _ (List.mem_cons_self ..)).elim
 |full=>
  refine ⟨λe=>?_,λ_=>.inl λt ht=>?_⟩
  .simp_all
  .rw [hw,hlen,<-List.map_append]
   refine k (.tok t) _ rfl (mk t _ (λr U=>?_) (h.fresh ht) (St.JT h.le (h.fresh ht).2 _) (h.drop.oJ ht) (by simp [St.Cw]))
   have h1:=h.ok r (List.mem_cons_of_mem _ U)
   have h2:=h.drop.oJ ht r U
   obtain ⟨o,q⟩:=r
   cases o with
   |tok u=>
    have:u≠t:=λe=>h2 lm
    exact ⟨h1.1,by simp only [St.Cw];rw [if_neg this];exact h1.2⟩
   |any=>exact h1
   |full=>exact h1
 |tok t0=>
  have h0:=h.ok _ (List.mem_cons_self ..)
  refine ⟨by rw [List.length_map];exact h0.2,.inl λt ht=>?_⟩
  rw [hw,hlen,<-List.map_append]
  have hne:∀r ∈ rows,r.1≠.tok t0:=λr U e=>by
   have:=hap.1 r U
   obtain ⟨o,q⟩:=r
   dsimp only at e
   subst e
   exact this rfl
  have hst:∀r ∈ rows,r.1≠.tok t:=λr U=>by
   rcases ht with rfl|ht
   .grind
   .exact h.drop.oJ ht r U
  have hf:st0.fresh t:=by
   rcases ht with rfl|ht
   .exact h0.1
   .exact h.fresh ht
  refine k (.tok t) _ rfl (mk t _ (λr U=>?_) hf ⟨h.le.1,λx n hx=>?_⟩ hst (by simp [St.Cw]))
  .have h1:=h.ok r (List.mem_cons_of_mem _ U)
   have h2:=hst r U
   have h3:=hne r U
   obtain ⟨o,q⟩:=r
   cases o with
   |tok u=>
    have e1:u≠t:=λe=>h2 lm
    have e2:u≠t0:=λe=>h3 lm
    exact ⟨h1.1,by simp only [St.Cw,St.Fm];rw [if_neg e1,if_neg e2];exact h1.2⟩
   |any=>exact h1
   |full=>exact h1
  .simp only [St.Cw,St.Fm]
   split
   .rename_i e;subst e
    rw [hf.2] at hx;cases hx
   .split
    .rename_i e;subst e
     rw [h0.1.2] at hx;cases hx
    .exact h.le.2 x n hx
theorem Rx.Ab {b:Nat} {cs cs':List V} (h:Rx (st0.Ab b cs) st rows):Rx (st0.Ab b cs') (st.Ab b cs') rows:=by
 refine ⟨⟨λx c U=>?_,λx n U=>h.le.2 x n U⟩,λr hr=>?_,h.ap⟩
 .by_cases e:x=b
  .subst e;rw [St.As] at U |-;exact U
  .rw [St.AH (Ne.symm e)] at U |-
   exact h.le.1 x c (by rw [St.AH (Ne.symm e)];exact U)
 .have:=h.ok r hr
  obtain ⟨o,l⟩:=r
  cases o with
  |any=>exact this
  |full=>exact this
  |tok t=>
   have hb:b≠t:=by
    rintro rfl
    have:=this.1.1
    rw [St.As] at this;cases this
   exact ⟨⟨by rw [St.AH hb];have:=this.1.1;rw [St.AH hb] at this;omega,this.1.2⟩,this.2⟩
end
structure Cx (st0:St) (b:Nat) (s:Af) (st:St) (rows:List (Ay×List Nd)):Prop where
 has:Has st b s
 rx:∃cs,Rx (st0.Ab b cs) st rows
 mu:mu s<=100000000
structure Cy (st0:St) (b:Nat) (s:Af) (st:St) (rows:List (Ay×List Nd)):Prop where
 has:Has st b s
 rx:∃cs,Rx (st0.Ab b cs) st rows
section
variable {st0 st st':St} {b:Nat} {s s':Af} {r q:Ay×List Nd} {rows:List (Ay×List Nd)}
theorem Cx.y (h:Cx st0 b s st rows):Cy st0 b s st rows:=⟨h.has,h.rx⟩
theorem Cy.drop (h:Cy st0 b s st (r::rows)):Cy st0 b s st rows:=⟨h.has,h.rx.imp λ_ e=>e.drop⟩
theorem Cx.yZ (h:Cx st0 b s st rows) (hu:II st st' b s'):Cy st0 b s' st' rows:=by
 obtain ⟨U,cs,rfl⟩:=hu
 obtain ⟨c0,hr⟩:=h.rx
 exact ⟨U,⟨cs,hr.Ab⟩⟩
theorem Cx.hb (h:Cx st0 b s st rows):s.Cf.length<=500000000:=BT h.mu
theorem Cx.start (h:Has st b s) (U:Proofs.Z.mu s<=100000000):Cx st b s st []:=
 ⟨h,by
   rcases h with e|⟨_,_,_,_,_,e⟩
   all_goals exact ⟨_,by rw [St.SY e];exact Rx.start⟩,U⟩
theorem Cx.drop (h:Cx st0 b s st (r::rows)):Cx st0 b s st rows:=⟨h.has,h.rx.imp λ_ e=>e.drop,h.mu⟩
theorem Cx.push (h:Cx st0 b s st rows) (l:List Nd):Cx st0 b s st ((.full,l)::rows):=⟨h.has,h.rx.imp λ_ e=>e.push l,h.mu⟩
theorem Cx.set (h:Cx st0 b s st rows) (hu:II st st' b s') (hm:Proofs.Z.mu s'<=100000000):Cx st0 b s' st' rows:=by
 obtain ⟨U,cs,rfl⟩:=hu
 obtain ⟨c0,hr⟩:=h.rx
 exact ⟨U,⟨cs,hr.Ab⟩,hm⟩
theorem Cx.PD (h:Cx st0 b s st rows) (hu:II st st' b s') (U:Proofs.Z.mu s'<=Proofs.Z.mu s):Cx st0 b s' st' rows:=h.set hu (Nat.le_trans U h.mu)
theorem Cx.look (h:Cx st0 b s st rows):Cx st0 b s (st.Ab b (Dy s)) rows:=h.PD Bf (Nat.le_refl _)
theorem Cx.Vt {t:Nat} (h:Cx st0 b s st rows) (U:st.fresh t):st0.box t=none/\t≠b:=by
 obtain ⟨c0,hr⟩:=h.rx
 have hb:t≠b:=by
  rintro rfl
  rcases h.has with e|⟨_,_,_,_,_,e⟩<;>(rw [U.1] at e;cases e)
 have:=(hr.fresh U).1
 rw [St.AH hb.symm] at this
 simp_all
theorem Cx.wu {c:Nat} {z:List V} (h:Cx st0 b s st rows) (hf:st.fresh c):Cx (st0.Ab c cs) b s ((st.Ab c z).Ab c cs) rows:=by
 have hb:=(h.Vt hf).2
 rw [St.set_set]
 obtain ⟨c0,hr⟩:=h.rx
 refine ⟨?_,⟨c0,⟨λx v U=>?_,λx n U=>hr.le.2 x n U⟩,λr hr'=>?_,hr.ap⟩,h.mu⟩
 .rcases h.has with e|⟨q1,q2,q3,q4,q5,e⟩
  .exact .inl (by rw [St.AH hb];exact e)
  .exact .inr ⟨q1,q2,q3,q4,q5,by rw [St.AH hb];exact e⟩
 .by_cases e:x=c
  .subst e
   rw [St.AH hb.symm,St.As] at U
   rw [St.As];exact U
  .rw [St.AH (Ne.symm e)]
   by_cases e2:x=b
   .subst e2
    rw [St.As] at U
    exact hr.le.1 x v (by rw [St.As];exact U)
   .rw [St.AH (Ne.symm e2),St.AH (Ne.symm e)] at U
    exact hr.le.1 x v (by rw [St.AH (Ne.symm e2)];exact U)
 .have hk:=hr.ok r hr'
  obtain ⟨o,l⟩:=r
  cases o with
  |any=>exact hk
  |full=>exact hk
  |tok t=>
   have htc:t≠c:=by
    rintro rfl
    have:=hk.2
    rw [hf.2] at this;cases this
   have h1:=hk.1.1
   have htb:t≠b:=by
    rintro rfl
    rw [St.As] at h1;cases h1
   rw [St.AH htb.symm] at h1
   exact ⟨⟨by rw [St.AH htb.symm,St.AH htc.symm];exact h1,hk.1.2⟩,hk.2⟩
theorem Cx.V5 {c:Nat} (h:Cx st0 b s st rows) (hf:st.fresh c):Cx (st0.Ab c cs) b s (st.Ab c cs) rows:=by
 have:=h.wu (z:=cs) (cs:=cs) hf
 rw [St.set_set] at this;omega
theorem Rx.unbox {c:Nat} (h:Rx (st0.Ab c cs) st rows) (hf:st0.box c=none):Rx st0 st rows:=by
 refine ⟨⟨λx v hx=>?_,h.le.2⟩,λr hr=>?_,h.ap⟩
 .have:x≠c:=by rintro rfl;rw [hf] at hx;cases hx
  exact h.le.1 x v (by rw [St.AH this.symm];exact hx)
 .have U:=h.ok r hr
  obtain ⟨o,l⟩:=r
  cases o with
  |any=>exact U
  |full=>exact U
  |tok t=>
   have h1:=U.1.1
   have:t≠c:=by rintro rfl;rw [St.As] at h1;cases h1
   rw [St.AH this.symm] at h1
   exact ⟨⟨h1,U.1.2⟩,U.2⟩
theorem Tb {c:Nat} {cs':List V} (h:c≠b):(st0.Ab c cs).Ab b cs'=(st0.Ab b cs').Ab c cs:=by
 simp only [St.Ab,St.mk.injEq,and_true]
 grind
theorem Cx.unbox {c:Nat} {cs:List V} (h:Cx (st0.Ab c cs) b s st rows) (hf:st0.box c=none/\c≠b):Cx st0 b s st rows:=
 ⟨h.has,h.rx.imp λc0 U=>by rw [Tb hf.2] at U;exact U.unbox (by rw [St.AH hf.2.symm];grind),h.mu⟩
theorem Cy.unbox {c:Nat} {cs:List V} (h:Cy (st0.Ab c cs) b s st rows) (hf:st0.box c=none/\c≠b):Cy st0 b s st rows:=
 ⟨h.has,h.rx.imp λc0 U=>by rw [Tb hf.2] at U;exact U.unbox (by rw [St.AH hf.2.symm];grind)⟩
theorem Cx.boxed {c:Nat} (h:Cx (st0.Ab c cs) b s st rows) (hf:st0.box c=none/\c≠b):st.box c=some cs:=by
 obtain ⟨c0,U⟩:=h.rx
 exact U.le.1 c cs (by rw [St.AH hf.2.symm,St.As])
theorem Has.eq (h:Has st b s) (e:st'.box=st.box):Has st' b s:=by unfold Has at h |-;simp_all
theorem Cx.app {own:Ay} {l new:List Nd} {K:V->St->Prop} (h:Cx st0 b s st ((own,l)::rows)) (hb:l.length+new.length<=1000000000)
 (k:∀U st',Cx st0 b s st' ((U,l++new)::rows)->K (.slice 6 ((l++new).map Ap) U) st'):Ai 6 72 (l.map Ap) own (new.map Ap) st K:=by
 obtain ⟨c0,hr⟩:=h.rx
 exact hr.app hb λU st' e hr'=>k U st' ⟨h.has.eq e,⟨c0,hr'⟩,h.mu⟩
theorem Cx.BE {own:Ay} {x:Nd} {K:V->St->Prop} (h:Cx st0 b s st ((own,l)::rows)) (hb:l.length+1<=1000000000)
 (k:∀U st',Cx st0 b s st' ((U,l++[x])::rows)->K (.slice 6 ((l++[x]).map Ap) U) st'):Ai 6 72 (l.map Ap) own [Ap x] st K:=h.app (new:=[x]) hb k
theorem Cx.uU {own:Ay} {x y:Nd} {K:V->St->Prop} (h:Cx st0 b s st ((own,l)::rows)) (hb:l.length+2<=1000000000)
 (k:∀U st',Cx st0 b s st' ((U,l++[x,y])::rows)->K (.slice 6 ((l++[x,y]).map Ap) U) st'):Ai 6 72 (l.map Ap) own [Ap x,Ap y] st K:=h.app (new:=[x,y]) hb k
theorem Rx.BE {own:Ay} {x:Nd} {K:V->St->Prop} (h:Rx st0 st ((own,l)::rows)) (hb:l.length+1<=1000000000)
 (k:∀U st',Rx st0 st' ((U,l++[x])::rows)->K (.slice 6 ((l++[x]).map Ap) U) st'):Ai 6 72 (l.map Ap) own [Ap x] st K:=h.app (new:=[x]) hb λU st' _ c=>k U st' c
end
structure Bi {α:Type} (en:α->V) (f:FuncId) (mk:Nat->List V) (A:Rd α):Prop where
 ap:∀{st0:St} {b:Nat} {s:Af} {st:St} {rows:List (Ay×List Nd)} {K:AD->St->Prop},Cx st0 b s st rows->
 Rd.wp A s (λv s'=>∀st',Cx st0 b s' st' rows->K (.ret (en v)) st') (λe s'=>∀st',Cy st0 b s' st' rows->K (.Ci (fault e.1)) st')->PC f (mk b) st K
theorem Bi.go {U:α->V} {mk:Nat->List V} {A:Rd α} {st:St} {Q:α->Af->Prop} {E:Er->Af->Prop} (hf:Bi U f mk A) (hc:Cx st0 b s st rows) (h:Rd.wp A s Q E)
 (k:∀v s' st',A.run s=.inr (v,s')->mu s'<=mu s->Cx st0 b s' st' rows->Q v s'->K (.ret (U v)) st') (kb:∀e s' st',Cy st0 b s' st' rows->E e s'->K (.Ci (fault e.1)) st'):PC f (mk b) st K:=
 hf.ap hc (Rd.wp_mono h (λv s' r q st' c=>k v s' st' r (A.le _ _ _ r) c q) (λe s' _ q st' c=>kb e s' st' c q))
theorem Bi.Tr {U:α->V} {mk:Nat->List V} {A:Rd α} {st:St} {Q:α->Af->Prop} {E:Er->Af->Prop} (hf:Bi U f mk A) (hF:Rd.AZ A) (hc:Cx st0 b s st rows) (h:Rd.wp A s Q E)
 (k:∀v s' st',A.run s=.inr (v,s')->mu s'<mu s->Cx st0 b s' st' rows->Q v s'->K (.ret (U v)) st') (kb:∀e s' st',Cy st0 b s' st' rows->E e s'->K (.Ci (fault e.1)) st'):PC f (mk b) st K:=
 hf.go hc h (λv s' st' r m c q=>k v s' st' r (hF _ _ _ r) c q) kb
structure tH {α:Type} (en:α->Ay->V) (ls:α->List Nd) (f:FuncId) (mk:Nat->List V) (A:Rd α):Prop where
 ap:∀{st0:St} {b:Nat} {s:Af} {st:St} {rows:List (Ay×List Nd)} {K:AD->St->Prop},Cx st0 b s st rows->
 Rd.wp A s (λv s'=>∀own st',Cx st0 b s' st' ((own,ls v)::rows)->K (.ret (en v own)) st') (λe s'=>∀st',Cy st0 b s' st' rows->K (.Ci (fault e.1)) st')->PC f (mk b) st K
theorem tH.go {U:α->Ay->V} {ls:α->List Nd} {mk:Nat->List V} {A:Rd α} {st:St} {Q:α->Af->Prop} {E:Er->Af->Prop} (hf:tH U ls f mk A) (hc:Cx st0 b s st rows) (h:Rd.wp A s Q E)
 (k:∀v own s' st',A.run s=.inr (v,s')->mu s'<=mu s->Cx st0 b s' st' ((own,ls v)::rows)->Q v s'->K (.ret (U v own)) st') (kb:∀e s' st',Cy st0 b s' st' rows->E e s'->K (.Ci (fault e.1)) st'):PC f (mk b) st K:=
 hf.ap hc (Rd.wp_mono h (λv s' r q own st' c=>k v own s' st' r (A.le _ _ _ r) c q) (λe s' _ q st' c=>kb e s' st' c q))
structure tI (f:FuncId) (mk:Nat->V->List V) (A:List Nd->Rd (List Nd)):Prop where
 ap:∀{st0:St} {b:Nat} {s:Af} {st:St} {rows:List (Ay×List Nd)} {K:AD->St->Prop} {own:Ay} {l:List Nd},l.length<=90000000->Cx st0 b s st ((own,l)::rows)->
 Rd.wp (A l) s (λl' s'=>∀own' st',Cx st0 b s' st' ((own',l')::rows)->K (.ret (.slice 6 (l'.map Ap) own')) st') (λe s'=>∀st',Cy st0 b s' st' rows->K (.Ci (fault e.1)) st')->PC f (mk b (.slice 6 (l.map Ap) own)) st K
theorem tI.go {mk:Nat->V->List V} {A:List Nd->Rd (List Nd)} {st:St} {Q:List Nd->Af->Prop} {E:Er->Af->Prop} {own:Ay} (hf:tI f mk A) (hl:l.length<=90000000) (hc:Cx st0 b s st ((own,l)::rows)) (h:Rd.wp (A l) s Q E)
 (k:∀l' U s' st',(A l).run s=.inr (l',s')->mu s'<=mu s->Cx st0 b s' st' ((U,l')::rows)->Q l' s'->K (.ret (.slice 6 (l'.map Ap) U)) st') (kb:∀e s' st',Cy st0 b s' st' rows->E e s'->K (.Ci (fault e.1)) st'):PC f (mk b (.slice 6 (l.map Ap) own)) st K:=
 hf.ap hl hc (Rd.wp_mono h (λv s' r q own st' c=>k v own s' st' r ((A l).le _ _ _ r) c q) (λe s' _ q st' c=>kb e s' st' c q))
def GJ {α:Type} (U:α->V) (f:FuncId) (args:List V) (b:Nat) (A:Rd α):Prop:=∀{st0:St} {s:Af} {st:St} {rows:List (Ay×List Nd)} {K:AD->St->Prop},Cx st0 b s st rows->
 Rd.wp A s (λv s'=>∀st',Cx st0 b s' st' rows->K (.ret (U v)) st') (λe s'=>∀st',Cy st0 b s' st' rows->K (.Ci (fault e.1)) st')->PC f args st K
theorem Bi.a {U:α->V} {mk:Nat->List V} {A:Rd α} (h:Bi U f mk A):GJ U f (mk b) b A:=h.ap
theorem Bi.q {U:α->V} {mk:Nat->List V} {A:Rd α} (h:Bi U f mk A:=by assumption) (e:args=mk b:=by rfl):GJ U f args b A:=e ▸ h.a
theorem GJ.go {U:α->V} {A:Rd α} {st:St} {Q:α->Af->Prop} {E:Er->Af->Prop} (hf:GJ U f args b A)
 (k:∀v s' st',A.run s=.inr (v,s')->mu s'<=mu s->Cx st0 b s' st' rows->Q v s'->K (.ret (U v)) st') (kb:∀e s' st',Cy st0 b s' st' rows->E e s'->K (.Ci (fault e.1)) st') (hc:Cx st0 b s st rows:=by assumption) (h:Rd.wp A s Q E:=by assumption):PC f args st K:=
 hf hc (Rd.wp_mono h (λv s' r q st' c=>k v s' st' r (A.le _ _ _ r) c q) (λe s' _ q st' c=>kb e s' st' c q))
theorem tU {st:St} {F:Ay->List (Ay×List Nd)} {r:Ay->AD} {r':AD} {o:Ay} (h:∀o st',Cx st0 b s st' (F o)->K (r o) st') (hc:Cx st0 b s st (F o)) (e:r o=r'):∃r2 U,(r2=r'\/r2=r'.wk)/\St.le U st/\K r2 U:=⟨r o,st,.inl e,St.le_refl _,h o st hc⟩
theorem DR {st:St} {r r':AD} (hc:Cx st0 b s st rows) (h:∀st',Cx st0 b s st' rows->K r st') (e:r=r'.wk):∃r2 U,(r2=r'\/r2=r'.wk)/\St.le U st/\K r2 U:=⟨r,st,.inr e,St.le_refl _,h st hc⟩
theorem Ch {st:St} (hc:Cy st0 b s st rows) (h:∀st',Cy st0 b s st' rows->K (.Ci (fault e)) st'):∃r2 U,(r2=.Ci (fault e)\/r2=(AD.Ci (fault e)).wk)/\St.le U st/\K r2 U:=⟨_,st,.inl rfl,St.le_refl _,h st hc⟩
theorem XC {c:Bool} {Q p q:Prop} (h:if c=true then P else Q) (U:c=true->P->p) (k2:c=false->Q->q):BG c p q:=Wk (λe=>U e lm) (λe=>k2 e lm)
theorem E3 [BEq α] [LawfulBEq α] {a b:α} {Q p q:Prop} (h:if (a==b)=true then P else Q) (U:a=b->P->p) (k2:¬a=b->Q->q):BG (a==b) p q:=
 Wg (λe=>U e lm) (λe=>k2 e lm)
theorem fW {c:Prop} [Decidable c] {Q p q:Prop} (h:if c then P else Q) (U:c->P->p) (k2:¬c->Q->q):BG (decide c) p q:=
 Wh (λe=>U e lm) (λe=>k2 e lm)
theorem uY {b:Bool} {p q:Prop} (h:b=true) (k:p):BG b p q:=Wk (λ_=>k) (λe=>by simp_all)
theorem kD {b:Bool} {p q:Prop} (h:b=false) (k:q):BG b p q:=Wk (λe=>by simp_all) (λ_=>k)
structure LS (σ:Type) where
 x:σ
 s:Af
 m:St
 o:Ay
theorem CZ {σ:Type} {Q0:AG->Env->St->Prop} {st:St} {Q:β->Af->Prop} {E:Er->Af->Prop} {body:σ->Rd (Sum σ β)} {x0:σ}
 (f:σ->Ay->List (Nat×V)) (g:σ->Ay->List (Nat×List V)) (keep kb:List Nat) (rw:σ->Ay->List (Ay×List Nd)) (wt:σ->Nat) (U:Ay) (hc:Cx st0 b s st (rw x0 U)) (h:Rd.wp (Rd.loop body x0) s Q E) (hl:wt x0+4*mu s<=500000000)
 (he:(env.EG (f x0 U) (g x0 U) keep kb).C3 env)
 (hb:∀x s1 st1 own1,Cx st0 b s1 st1 (rw x own1)->Rd.wp (body x) s1 (Rd.again body s1 Q E) E->wt x+4*mu s1<=500000000->mu s1<=mu s->
   ih (Bz (λenv' st'=>∃y:LS σ,(Cx st0 b y.s y.m (rw y.x y.o)/\Rd.wp (Rd.loop body y.x) y.s Q E/\wt y.x+4*mu y.s<=500000000/\mu y.s<=mu s)/\mu y.s<mu s1/\(env.EG (f y.x y.o) (g y.x y.o) keep kb).C3 env'/\St.le y.m st') Q0)
    (env.EG (f x own1) (g x own1) keep kb) st1):
 ∃(α:Type) (E:α->Env) (S:α->St) (J:α->Prop) (μ:α->Nat) (x0:α),J x0/\(E x0).C3 env/\St.le (S x0) st/\
  ∀x,J x->ih (Bz (λenv' st'=>∃y,J y/\μ y<μ x/\(E y).C3 env'/\St.le (S y) st') Q0) (E x) (S x):=
 ⟨LS σ,λy=>env.EG (f y.x y.o) (g y.x y.o) keep kb,λy=>y.m,
   λy=>Cx st0 b y.s y.m (rw y.x y.o)/\Rd.wp (Rd.loop body y.x) y.s Q E/\wt y.x+4*mu y.s<=500000000/\mu y.s<=mu s,λy=>mu y.s,⟨x0,s,st,U⟩,⟨hc,h,hl,Nat.le_refl _⟩,he,St.le_refl _,
   λy ⟨j1,j2,j3,j4⟩=>hb y.x y.s y.m y.o j1 (by rw [<-Rd.wp_loop];exact j2) j3 j4⟩
section
variable {st0 st:St} {b:Nat} {s:Af} {rows:List (Ay×List Nd)} {K:AD->St->Prop}
theorem SH (hc:Cx st0 b s st rows) (k:∀st',Cx st0 b s st' rows->K (.ret (DP (Aa s).1)) st'):PC 83 [.ptr b 0] st K:=HB hc.has hc.hb (k _ hc.look)
theorem rq {k:Int} (hc:Cx st0 b s st rows) (U:∀st',Cx st0 b s st' rows->K (.ret (.bool (AP s k x))) st'):PC 156 [.ptr b 0,.int .i64 k,.str x] st K:=bC hc.has hc.hb (U _ hc.look)
theorem bD {k:Int} (hc:Cx st0 b s st rows) (e:AP s k x=true) (U:∀st',Cx st0 b s st' rows->K (.ret (.bool true)) st'):PC 156 [.ptr b 0,.int .i64 k,.str x] st K:=rq hc lm
theorem mb {k:Int} (hc:Cx st0 b s st rows) (e:AP s k x=false) (U:∀st',Cx st0 b s st' rows->K (.ret (.bool false)) st'):PC 156 [.ptr b 0,.int .i64 k,.str x] st K:=rq hc lm
theorem ma {k:Int} {Q:Prop} (hc:Cx st0 b s st rows) (h:if AP s k x=true then P else Q) (U:∀st',Cx st0 b s st' rows->AP s k x=true->P->K (.ret (.bool true)) st') (k2:∀st',Cx st0 b s st' rows->AP s k x=false->Q->K (.ret (.bool false)) st'):
 PC 156 [.ptr b 0,.int .i64 k,.str x] st K:=by
 cases e:AP s k x with
 |true=>exact bD hc e λst' c=>U st' c e lm
 |false=>exact mb hc e λst' c=>k2 st' c e lm
theorem HS:Bi enc 121 (λb=>[.ptr b 0]) AB:=by
 refine ⟨λ{st0 b s st rows K} hc h=>?_⟩
 refine Nu hc.has hc.hb (λe st' U=>?_) (λe=>?_)
 .unfold Rd.wp at h;rw [C8 e] at h;exact h st' (hc.PD U (De e).1)
 .unfold Rd.wp at h;rw [J8 e] at h;exact h _ hc.look.y
theorem W6 {k:Int} {Q:Nd->Af->Prop} {E:Er->Af->Prop} (hc:Cx st0 b s st rows) (h:Rd.wp AB s Q E) (e:AP s k x=true) (hk:k≠0/\k≠21) (kk:∀s' st',(Aa s).2.1=s'->mu s'<mu s->Cx st0 b s' st' rows->Q (AJ (Aa s).1) s'->K (.ret (enc (AJ (Aa s).1))) st'):
 PC 121 [.ptr b 0] st K:=by
 unfold Rd.wp at h
 rw [LM e hk.1] at h
 have U:=C6 e hk.1 hk.2
 exact Nu hc.has hc.hb (λ_ st' hu=>kk _ st' rfl U (hc.PD hu (Nat.le_of_lt U)) h) (λn=>absurd (Fp e hk.1) n)
theorem Q6 {Q:Nd->Af->Prop} {E:Er->Af->Prop} (hc:Cx st0 b s st rows) (h:Rd.wp AB s Q E) (hk:(Aa s).1.kind≠0/\(Aa s).1.kind≠21) (kk:∀s' st',(Aa s).2.1=s'->mu s'<mu s->Cx st0 b s' st' rows->Q (AJ (Aa s).1) s'->K (.ret (enc (AJ (Aa s).1))) st'):
 PC 121 [.ptr b 0] st K:=by
 have e:=En hk.1
 unfold Rd.wp at h
 rw [C8 e] at h
 have U:=(De e).2 hk.2
 exact Nu hc.has hc.hb (λ_ st' hu=>kk _ st' rfl U (hc.PD hu (Nat.le_of_lt U)) h) (λn=>absurd e n)
theorem TO {Q:α->Af->Prop} {E:Er->Af->Prop} (hc:Cx st0 b s st rows) (h:Rd.wp (MX:Rd α) s Q E) (U:∀e s' st',Cy st0 b s' st' rows->E e s'->K (.Ci (fault e.1)) st'):PC 171 [.ptr b 0] st K:=
 kA hc.has hc.hb (U _ _ _ hc.look.y h)
theorem Xh {k:Int}:Bi enc 118 (λb=>[.ptr b 0,.int .i64 k,.str x]) (Bo k x):=by
 refine ⟨λ{st0 b s st rows K} hc h=>?_⟩
 unfold Bo at h
 rw [Rd.Ag,Rd.Ao] at h
 refine pz hc.has hc.hb (λU e2 st' hu=>?_) (λU e2=>?_) (λU=>?_)
 .rw [if_pos U] at h
  unfold Rd.wp at h;rw [C8 e2] at h;exact h st' (hc.PD hu (De e2).1)
 .rw [if_pos U] at h
  unfold Rd.wp at h;rw [J8 e2] at h;exact h _ hc.look.y
 .rw [if_neg lm] at h
  exact h _ hc.look.y
theorem xJ (hc:Cx st0 b s st rows) (U:mu s'<=100000000) (k:∀st',Cx st0 b s' st' rows->K (.ret (.Bl [])) st'):PC 72 [.ptr b 0,Am s'] st K:=q7 hc.has λst' hu=>k st' (hc.set hu U)
theorem Ml {Q:Unit->Af->Prop} {E:Er->Af->Prop} (hc:Cx st0 b s st rows) (h:Rd.wp GN s Q E) (hk:(Aa s).1.kind≠0/\(Aa s).1.kind≠21) (kk:∀s' st',(Aa s).2.1=s'->mu s'<mu s->Cx st0 b s' st' rows->Q () s'->K (.ret (DP (Aa s).1)) st'):
 PC 139 [.ptr b 0] st K:=by
 have e:=En hk.1
 unfold GN at h
 rw [Rd.wp_seq] at h
 unfold Rd.wp at h
 rw [C8 e] at h
 have U:=(De e).2 hk.2
 exact WS hc.has hc.hb (λ_ st' hu=>kk _ st' rfl U (hc.PD hu (Nat.le_of_lt U)) h) (λn=>absurd e n)
theorem fq {k:Int} {Q:Unit->Af->Prop} {E:Er->Af->Prop} (hc:Cx st0 b s st rows) (h:if AP (Aa s).2.1 k x=true then Rd.wp GN s Q E else P) (hk:(Aa s).1.kind≠0/\(Aa s).1.kind≠21)
 (kk:∀s' st',mu s'<mu s->Cx st0 b s' st' rows->(if AP s' k x=true then Q () s' else P)->K (.ret (DP (Aa s).1)) st'):PC 139 [.ptr b 0] st K:=by
 have e:=En hk.1
 have U:=(De e).2 hk.2
 refine WS hc.has hc.hb (λ_ st' hu=>kk _ st' U (hc.PD hu (Nat.le_of_lt U)) ?_) (λn=>absurd e n)
 split
 .rename_i hi
  rw [if_pos hi] at h
  unfold GN at h
  rw [Rd.wp_seq] at h
  unfold Rd.wp at h
  rw [C8 e] at h
  exact h
 simp_all
theorem He {s0:Af} (hc:Cx st0 b s st rows) (U:mu s0<=100000000) (k:∀st',Cx st0 b s0 st' rows->K (.ret (.Bl [])) st'):PC 72 [.ptr b 0,.agg s0.cells] st K:=xJ hc U k
theorem wT (hc:Cx st0 b s st rows) (hk:(Aa s).1.kind≠0/\(Aa s).1.kind≠21) (kk:∀s' st',(Aa s).2.1=s'->mu s'<mu s->Cx st0 b s' st' rows->K (.ret (enc (AJ (Aa s).1))) st'):PC 121 [.ptr b 0] st K:=by
 have e:=En hk.1
 have U:=(De e).2 hk.2
 exact Nu hc.has hc.hb (λ_ st' hu=>kk _ st' rfl U (hc.PD hu (Nat.le_of_lt U))) (λn=>absurd e n)
end
theorem C1 (h:P:=by with_reducible first|(show _/\_;first|exact Wa)|(show BG _ _ _;first|exact Wb|exact Wc)|fail):P:=h
theorem AV (k:A) (h:A->P:=by intro k;with_reducible first|(show _/\_;first|  exact Wm ‹_› H1 k|exact Wn H1 H1 k|exact Wo H1 H1 k|exact Wp H1 H1 H1 k|exact Wr IR H1 H1 k|exact Ws IR k|exact WB ‹_› H1 k|exact WC H1 H1 k|exact WD H1 H1 k|exact WE H1 H1 H1 k)|(show BG _ _ _;first|exact Wt RK k|exact Wu RK k|exact Wv H1 k|exact Ww H1 k|exact uY ‹_› k|exact kD ‹_› k|exact Wi k|exact Wj k)|(intro x y z;exact Wl k x y z)|(intro x y z;exact Wz k x y z)|(intro x y z;exact WA k x y z)|(show Exists _;first|exact Wq H1 H1 k)|fail):P:=h k
theorem C2 {B C:V->Prop} (k:V) (l:B k) (m:C k) (h:∀k,B k->C k->P:=by intro k l m;with_reducible first|(show Exists _;first|  exact W8 NE k l m|exact W0 NE k l m|exact W9 k l m)|fail):P:=h k l m
theorem Ej {B:Prop} (k:A) (l:B) (h:A->B->P:=by intro k l;with_reducible first|(show BG _ _ _;first|exact E3 ‹_› k l|exact fW ‹_› k l|exact XC ‹_› k l)|fail):P:=h k l
theorem BU {B:Prop} (k:A) (l:B) (h:A->B->P:=by intro k l;with_reducible first|(show BG _ _ _;first|exact Wf IR k l|exact Wg k l|exact Wh k l|exact Wk k l)|fail):P:=h k l
abbrev ID (f:FuncId) (args:List V) (st:St) (R:AD->St->Prop):Prop:=Bp Tryz.prog f args st R
def Ky (x:Int):List Int->Int->Int
 |[],_=> -1
 |y::r,i=>if x=y then i else Ky x r (i+1)
theorem Sj {x:Int}:∀{l:List Int} {i:Int},0<=i->(0<=Ky x l i↔l.contains x=true)
 |[],i,h=>by simp [Ky]
 |y::r,i,h=>by
  simp only [Ky]
  split
  .simp_all
  .rename_i e
   rw [Sj H1]
   simp [e]
theorem l7 {x:Int} {st:St} {own:Ay} (h:R (.ret (.int .i64 (Ky x kinds 0))) st):ID 303 [.slice 1 (ints kinds) own,.int .i64 x] st R:=by
 refine pB Tryz.func303 ?_
 have hlen:(ints kinds).length=kinds.length:=by simp [ints]
 intro m hm hl
 rw [hlen] at hm
 subst hm
 conv=>whnf
 refine ⟨Nat,λk=>{tmps:=[(8,.int .i64 k),(7,.int .i64 kinds.length),(0,.slice 1 (ints kinds) own),(1,.int .i64 x)],boxes:=[],BS:=0,sz:=19,gl:=[]},λ_=>st,
  λk=>k<=kinds.length/\Ky x kinds 0=Ky x (kinds.drop k) k,λk=>kinds.length - k,0,⟨Nat.zero_le _,rfl⟩,⟨rfl,⟨rfl,rfl,rfl,rfl,rfl,rfl,rfl,rfl,trivial⟩,trivial,rfl⟩,St.le_refl _,?_⟩
 rintro k ⟨hk,hi⟩
 refine Wh (λh1=>?_) (λh1=>?_)
 .have U:k<kinds.length:=H1
  have he:(ints kinds)[(k:Int).toNat]? =some [.int .i64 kinds[k]]:=by simp [ints,U]
  refine ⟨H1,_,he,?_⟩
  have hd:Ky x (kinds.drop k) k=if x=kinds[k] then (k:Int) else Ky x (kinds.drop (k+1)) (k+1):=by
   rw [List.drop_eq_getElem_cons U];rfl
  refine Wg (λh2=>?_) (λh2=>?_)
  .exact fin h lm
  .refine ⟨((k+1:Nat):Int),?_,?_⟩
   .simp only [Fk] at hl
    rw [Mr H1 H1];rfl
   .refine ⟨k+1,⟨U,?_⟩,GT,⟨rfl,⟨rfl,rfl,rfl,rfl,rfl,rfl,rfl,rfl,trivial⟩,trivial,rfl⟩,St.le_refl _⟩
    simp_all
 .refine fin h ?_
  have:k=kinds.length:=H1
  rw [hi,this,List.drop_length];rfl
section
variable {st:St} {R:AD->St->Prop}
theorem PM {x:Int} {own:Ay} (h:R (.ret (.bool (kinds.contains x))) st):ID 227 [.slice 1 (ints kinds) own,.int .i64 x] st R:=by
 refine pB Tryz.func227 ?_
 refine l7 ?_
 have key:=Sj (x:=x) (l:=kinds) (i:=0) H1
 refine Wh (λU=>?_) (λU=>?_)
 .exact An h (key.1 U)
 .refine An h ?_
  simp_all
def BR (n:Nd) (kinds:List Int):Bool:=n.kind==1&&kinds.contains n.form
theorem JR {own:Ay} (h:R (.ret (.bool (BR n kinds))) st):ID 352 [enc n,.slice 1 (ints kinds) own] st R:=by
 refine pB Tryz.func352 ?_
 unfold BR at h
 repeat' ((conv=>whnf);first|  (refine GM ?_ ?_<;>intro _)|refine PM ?_)
 all_goals exact An h lm
def Cv (n:Nd) (k:Int) (t:List UInt8):Bool:=BR n [k]&&n.text==t
theorem Nn {k:Int} {t:List UInt8} (h:R (.ret (.bool (Cv n k t))) st):ID 353 [enc n,.int .i64 k,.str t] st R:=by
 refine pB Tryz.func353 ?_
 unfold Cv at h
 repeat' ((conv=>whnf);first|  (refine GM ?_ ?_<;>intro _)|refine JR (kinds:=[k]) ?_)
 all_goals exact An h lm
def BO (n:Nd) (o s:List UInt8):Option (List Nd):=
 if 2<=n.kids.length/\n.kids[0]?.any (Cv · 15 o)=true/\n.kids[n.kids.length - 1]?.any (Cv · 15 s)=true then some ((n.kids.take (n.kids.length - 1)).drop 1) else none
theorem JK {s:List UInt8} (U:∀l,BO n o s=some l->R (.ret (.Bl [.slice 6 (Co l) .any,.bool true])) st)
 (hn:BO n o s=none->R (.ret (.Bl [.slice 6 [] .any,.bool false])) st):ID 348 [enc n,.str o,.str s] st R:=by
 refine pB Tryz.func348 ?_
 repeat' ((conv=>whnf);first|(refine Jw ?_;intros)|(refine GM ?_ ?_<;>intro _)|refine Nn ?_)
 .exact Vp (hn (by simp [BO];omega)) rfl
 all_goals
  have e:((n.kids.length:Int) - 1).toNat=n.kids.length - 1:=H1
  simp only [e,Int.toNat_zero,Int.reduceToNat] at *
  first
   |exact Vp (U _ (by simp_all [BO];omega)) rfl
   |exact Vp (hn (by simp_all [BO])) rfl
theorem M9 {s:List UInt8} (h:BO n o s=some l):l.length+2=n.kids.length:=by
 simp only [BO] at h
 grind
theorem Vs {s:List UInt8} (U:∀l,BO n o s=some l->l.length+2=n.kids.length->R (.ret (.Bl [.slice 6 (Co l) .any,.bool true])) st)
 (hn:BO n o s=none->R (.ret (.Bl [.slice 6 [] .any,.bool false])) st):ID 348 [enc n,.str o,.str s] st R:=
 JK (λl h=>U l h (M9 h)) hn
def F0:Nd:=.mk 0 0 [] 0 0 []
def Hh (n:Nd):Bool:=BR n [6,8]||Cv n 10 [58]
theorem Yr (h:R (.ret (.bool (Hh n))) st):ID 401 [enc n] st R:=by
 refine pB Tryz.func401 ?_
 repeat' ((conv=>whnf);first|  (refine GM ?_ ?_<;>intro _)|refine JR (kinds:=[6,8]) ?_|refine Nn ?_)
 all_goals conv=>whnf
 all_goals (refine An h ?_;clear h;simp_all [Hh])
def EX (n:Nd):Option Nd:=if n.kind=3 then (match BO n [40] [41] with|some l=>if l.length=1 then l[0]? else none|none=>none) else none
theorem YB (U:∀x,EX n=some x->R (.ret (.Bl [enc x,.bool true])) st) (hn:EX n=none->R (.ret (.Bl [enc F0,.bool false])) st):ID 396 [enc n] st R:=by
 refine pB Tryz.func396 ?_
 repeat' ((conv=>whnf);first|(refine Jw ?_;intros)|(refine GM ?_ ?_<;>intro _)|refine JK (λl hl=>?_) (λhl=>?_))
 all_goals conv=>whnf
 all_goals first
  |exact AU rfl (U _ (by clear U hn;simp_all [EX]))
  |exact AU rfl (hn (by clear U hn;simp_all [EX]))
def BM (n:Nd):Option (List UInt8):=
 if BR n [1] then some n.text else match EX n with|some x=>if BR x [5] then some x.text else none|none=>none
theorem Ny (U:∀t,BM n=some t->R (.ret (.Bl [.str t,.bool true])) st) (hn:BM n=none->R (.ret (.Bl [.str [],.bool false])) st):ID 349 [enc n] st R:=by
 refine pB Tryz.func349 ?_
 repeat' ((conv=>whnf);first|(refine Jw ?_;intros)|(refine GM ?_ ?_<;>intro _)|refine YB (λl hl=>?_) (λhl=>?_)|refine JR (kinds:=[1]) ?_|refine JR (kinds:=[5]) ?_)
 all_goals conv=>whnf
 all_goals first
  |exact AU rfl (U _ (by clear U hn;simp_all [BM]))
  |exact AU rfl (hn (by clear U hn;simp_all [BM]))
def Gs (n:Nd):Bool:=BR n [2,4]||(match EX n with|some x=>Hh x|none=>false)
theorem VJ (h:R (.ret (.bool (Gs n))) st):ID 357 [enc n] st R:=by
 refine pB Tryz.func357 ?_
 repeat' ((conv=>whnf);first|(refine Jw ?_;intros)|(refine GM ?_ ?_<;>intro _)|refine YB (λl U=>?_) (λU=>?_)|refine JR (kinds:=[2,4]) ?_|refine Yr ?_)
 all_goals conv=>whnf
 all_goals (refine An h ?_;clear h;simp_all [Gs])
def Bs (n:Nd):Nd×Bool:=
 if n.kind=18 then (if n.kids.length=1 then ((n.kids[0]?.getD F0),false) else if n.kids.length=3 then (match BO n [96] [96] with|some l=>((l[0]?.getD F0),true)|none=>(F0,false)) else (F0,false)) else (F0,false)
theorem PY (h:R (.ret (.Bl [enc (Bs n).1,.bool (Bs n).2])) st):ID 397 [enc n] st R:=by
 refine pB Tryz.func397 ?_
 repeat' ((conv=>whnf);first|(refine Jw ?_;intros)|(refine GM ?_ ?_<;>intro _)|refine Vs (λl U hk=>?_) (λU=>?_))
 all_goals conv=>whnf
 all_goals refine AU ?_ h
 all_goals clear h
 all_goals simp_all [Bs]
 all_goals rfl
def Ep (n:Nd):Bool:=if (Bs n).2 then BR (Bs n).1 [2,4] else Hh (Bs n).1
theorem eh (h:R (.ret (.bool (Ep n))) st):ID 402 [enc n] st R:=by
 refine pB Tryz.func402 ?_
 repeat' ((conv=>whnf);first|  (refine GM ?_ ?_<;>intro _)|refine PY ?_|refine JR (kinds:=[2,4]) ?_|refine Yr ?_)
 all_goals conv=>whnf
 all_goals (refine An h ?_;clear h;simp_all [Ep])
def Ea (n:Nd):Option (List UInt8):=
 if (if (Bs n).2 then BR (Bs n).1 [1] else BR (Bs n).1 [5]) then some (Bs n).1.text else none
theorem qo (U:∀t,Ea n=some t->R (.ret (.Bl [.str t,.bool true])) st) (hn:Ea n=none->R (.ret (.Bl [.str [],.bool false])) st):ID 350 [enc n] st R:=by
 refine pB Tryz.func350 ?_
 repeat' ((conv=>whnf);first|  (refine GM ?_ ?_<;>intro _)|refine PY ?_|refine JR (kinds:=[1]) ?_|refine JR (kinds:=[5]) ?_)
 all_goals conv=>whnf
 all_goals first
  |exact AU rfl (U _ (by clear U hn;simp_all [Ea]))
  |exact AU rfl (hn (by clear U hn;simp_all [Ea]))
def B4 (f:FuncId) (p:Nd->Bool) (x:Nd):Prop:=∀(st:St) (R:AD->St->Prop),R (.ret (.bool (p x))) st->ID f [enc x] st R
def EM (p:Nd->Bool):Bool->List Nd->Bool
 |_,[]=>true
 |b,x::r=>(if b then Cv x 15 [44] else p x)&&EM p (!b) r
def KF (p:Nd->Bool) (l:List Nd):Bool:=l.length % 2==1&&EM p false l
theorem Nk {k:Nat} {x:Nd} (h:l[k]? =some x):
 EM p (k % 2==1) (l.drop k)=((if k % 2=1 then Cv x 15 [44] else p x)&&EM p ((k+1) % 2==1) (l.drop (k+1))):=by
 rw [drop_at h,EM]
 have:(!(k % 2==1))=((k+1) % 2==1):=by
  rcases Nat.mod_two_eq_zero_or_one k with e|e
  .grind
  .grind
 grind
theorem YN (hf:∀x ∈ l,B4 f p x) (h:R (.ret (.bool (KF p l))) st):ID 399 [.slice 6 (Co l) .any,.func f [] []] st R:=by
 refine pB Tryz.func399 ?_
 repeat' ((conv=>whnf);first|(refine Jw ?_;intros)|(refine GM ?_ ?_<;>intro _)|refine Nn ?_)
 .conv=>whnf
  refine An h ?_
  have:=G7.1 ‹_›
  simp [KF,this]
 .refine Lr 13 [11,12,1] l.length (λk=>k<=l.length/\(EM p false l=EM p (k % 2==1) (l.drop k))) ⟨Nat.zero_le _,rfl⟩ Yl ?_
  rintro k ⟨U,hi⟩
  repeat' ((conv=>whnf);first|(refine Jw ?_;intros)|(refine GM ?_ ?_<;>intro _)|refine Nn ?_|refine hf _ ‹_› _ _ ?_)
  all_goals conv=>whnf
  all_goals simp only [G7,Kc,Int.toNat_natCast] at *
  all_goals try (have e:=Nk (p:=p) ‹l[k]? =some _›;rw [e] at hi;clear e)
  all_goals try omega
  all_goals first
   |(refine ⟨k+1,⟨H1,?_⟩,H1,Yl,St.le_refl _⟩;clear h;simp_all)
   |(refine An h ?_;clear h;simp_all [KF])
  rw [List.drop_eq_nil_of_le H1];rfl
def Dg (p:Nd->Bool):List Nd->Int->Int
 |[],_=> -1
 |y::r,i=>if p y then i else Dg p r (i+1)
theorem Ic {p:Nd->Bool}:∀{l:List Nd} {i:Int},0<=i->(0<=Dg p l i↔l.any p=true)
 |[],i,h=>by simp [Dg]
 |y::r,i,h=>by
  simp only [Dg,List.any_cons]
  split
  .simp_all
  .rename_i e
   rw [Ic H1]
   simp [e]
theorem Vx {st:St}
 (hf:∀x ∈ l,B4 f p x) (h:R (.ret (.int .i64 (Dg p l 0))) st):ID 304 [.slice 6 (Co l) .any,.func f [] []] st R:=by
 refine pB Tryz.func304 ?_
 repeat' ((conv=>whnf);first|(refine Jw ?_;intros)|(refine GM ?_ ?_<;>intro _)|fail)
 refine Lr 8 [6,7,0,1] l.length (λk=>k<=l.length/\(Dg p l 0=Dg p (l.drop k) k)) ⟨Nat.zero_le _,rfl⟩ Yl ?_
 rintro k ⟨U,hi⟩
 repeat' ((conv=>whnf);first|(refine Jw ?_;intros)|(refine GM ?_ ?_<;>intro _)|refine hf _ ‹_› _ _ ?_)
 all_goals conv=>whnf
 all_goals try (have e:=drop_at ‹l[Int.toNat k]? =some _›;rw [Int.toNat_natCast] at e;rw [e,Dg] at hi;clear e)
 all_goals first
  |(refine ⟨k+1,⟨H1,?_⟩,H1,Yl,St.le_refl _⟩;clear h;simp_all)
  |(refine fin h ?_;clear h;simp_all;done)
  |(refine fin h ?_;rw [hi,List.drop_eq_nil_of_le H1];rfl)
theorem KU (hf:∀x ∈ l,B4 f p x) (h:R (.ret (.bool (l.any p))) st):ID 229 [.slice 6 (Co l) .any,.func f [] []] st R:=by
 refine pB Tryz.func229 ?_
 refine Vx hf ?_
 have key:=Ic (p:=p) (l:=l) (i:=0) H1
 refine Wh (λU=>?_) (λU=>?_)
 .exact An h (key.1 U)
 .refine An h ?_
  simp_all
theorem ri {x:Nd}:B4 398 (λx=> !Cv x 15 [44]) x:=by
 intro st R h
 refine pB Tryz.func398 ?_
 repeat' ((conv=>whnf);first|  (refine GM ?_ ?_<;>intro _)|refine Nn ?_)
 all_goals conv=>whnf
 all_goals (refine An h ?_;clear h;simp_all)
def N0 (n:Nd):Bool:=
 (BM n).isSome||Gs n||(match BO n [91] [93] with|some l=>l.isEmpty|none=>match BO n [40] [41] with|some l=> !l.any λx=> !Cv x 15 [44]|none=>false)
theorem vB (h:R (.ret (.bool (N0 n))) st):ID 354 [enc n] st R:=by
 refine pB Tryz.func354 ?_
 repeat' ((conv=>whnf);first|(refine Jw ?_;intros)|(refine GM ?_ ?_<;>intro _)|refine Ny (λl U=>?_) (λU=>?_)|refine VJ ?_|refine JK (λl U=>?_) (λU=>?_)|refine KU (λx _=>ri) ?_)
 all_goals conv=>whnf
 all_goals (refine An h ?_;clear h;simp_all [N0])
end
section
variable {st:St} {R:AD->St->Prop}
theorem Na {s:List UInt8} (h:BO n o s=some l):∀x ∈ l,x ∈ n.kids:=by
 simp only [BO] at h
 grind
def EP (p:Nd->Bool) (n:Nd) (o s:List UInt8) (least:Int) (one:Bool):Bool:=
 match BO n o s with
 |some l=>decide (2*least - 1<=(l.length:Int))&&(!one||l.length==1)&&KF p l
 |none=>false
theorem XE {s:List UInt8} {least:Int} {one:Bool} (h0:0<=least) (h1:least<=10) (hp:∀x ∈ n.kids,B4 291 p x)
 (h:R (.ret (.bool (EP p n o s least one))) st):ID 355 [enc n,.str o,.str s,.int .i64 least,.bool one] st R:=by
 cases one
 all_goals refine pB Tryz.func355 ?_
 repeat' ((conv=>whnf);first|(refine Jw ?_;intros)|(refine GM ?_ ?_<;>intro _)|refine JK (λl U=>?_) (λU=>?_)|refine YN (λx hx=>hp x (Na ‹_› x hx)) ?_)
 all_goals conv=>whnf
 all_goals (refine An h ?_;clear h;simp_all [EP])
 all_goals (intros;omega)
def Jf (q:Nd->Bool):List Nd->Bool
 |[]=>true
 |x::r=>q x&&Jf q r
def FM (p:Nd->Bool) (x:Nd):Bool:= !(x.kind==11)&& !(x.kind==17)&&p x
def E4 (p:Nd->Bool) (l:List Nd):Bool:=Jf (FM p) l&&decide (0<l.length)
theorem XD (U:∀x ∈ l,B4 291 p x) (h:R (.ret (.bool (E4 p l))) st):ID 347 [.slice 6 (Co l) .any] st R:=by
 refine pB Tryz.func347 ?_
 repeat' ((conv=>whnf);first|(refine Jw ?_;intros)|(refine GM ?_ ?_<;>intro _)|fail)
 refine Lr 7 [5,6,0] l.length (λk=>k<=l.length/\Jf (FM p) l=Jf (FM p) (l.drop k)) ⟨Nat.zero_le _,rfl⟩ Yl ?_
 rintro k ⟨hk,hi⟩
 repeat' ((conv=>whnf);first|(refine Jw ?_;intros)|(refine GM ?_ ?_<;>intro _)|refine U _ ‹_› _ _ ?_)
 all_goals conv=>whnf
 all_goals try (have e:=drop_at ‹l[Int.toNat k]? =some _›;rw [Int.toNat_natCast] at e;rw [e,Jf] at hi;clear e)
 all_goals first
  |(refine ⟨k+1,⟨H1,?_⟩,H1,Yl,St.le_refl _⟩;clear h;simp_all [FM];done)
  |(refine An h ?_;clear h;simp_all [E4,FM];done)
  |(refine An h ?_;clear h;rw [List.drop_eq_nil_of_le H1] at hi;simp_all [E4,Jf];done)
  |skip
def Kv (p:Nd->Bool) (n:Nd):Bool:=
 n.kind==13&&n.kids.length==3&&n.kids[0]?.any (BR · [1,3])&&n.kids[1]?.any (Cv · 10 [61])&&n.kids[2]?.any p
theorem qS (U:∀x ∈ n.kids,B4 291 p x):B4 400 (Kv p) n:=by
 intro st R h
 refine pB Tryz.func400 ?_
 repeat' ((conv=>whnf);first|(refine Jw ?_;intros)|(refine GM ?_ ?_<;>intro _)|refine JR (kinds:=[1,3]) ?_|refine Nn ?_|refine U _ ‹_› _ _ ?_)
 all_goals conv=>whnf
 all_goals (refine An h ?_;clear h;simp_all [Kv])
def KJ (p:Nd->Bool) (n:Nd):Bool:=
 decide (3<=n.kids.length)&&n.kids[0]?.any Gs&&(match BO (.mk 0 0 [] 0 0 (n.kids.drop 1)) [123] [125] with|some l=>l.isEmpty||KF (Kv p) l|none=>false)
theorem nE (hp:∀x ∈ n.kids,∀y ∈ x.kids,B4 291 p y) (h:R (.ret (.bool (KJ p n))) st):ID 356 [enc n] st R:=by
 refine pB Tryz.func356 ?_
 repeat' ((conv=>whnf);first|(refine Jw ?_;intros)|(refine GM ?_ ?_<;>intro _)|refine VJ ?_|refine JK (n:=.mk 0 0 [] 0 0 _) (λl U=>?_) (λU=>?_)|refine YN (λx hx=>qS (hp x (List.mem_of_mem_drop (i:=1) (l:=n.kids) (Na (n:=.mk 0 0 [] 0 0 (n.kids.drop 1)) ‹_› x hx)))) ?_)
 all_goals conv=>whnf
 all_goals (refine An h ?_;clear h;try simp only [Int.toNat_zero,Int.toNat_one] at *;simp_all [KJ])
 all_goals first
  |omega
  |(have:¬3<=n.kids.length:=by omega
    simp [KJ,this])
def IG (p:Nd->Bool):Nat->List Nd->Bool
 |2,[]=>true
 |_,[]=>false
 |0,x::r=>if x.kind=19 then IG p 1 r else (!(x.kind==17)&&p x)&&IG p 2 r
 |1,x::r=>BR x [11,12]&&IG p 2 r
 |_,x::r=>Ep x&&IG p 0 r
theorem nV {k:Nat} {x:Nd} (h:l[k]? =some x):IG p 0 (l.drop k)=if x.kind=19 then IG p 1 (l.drop (k+1)) else (!(x.kind==17)&&p x)&&IG p 2 (l.drop (k+1)):=by
 rw [drop_at h];rfl
theorem nW {k:Nat} {x:Nd} (h:l[k]? =some x):IG p 1 (l.drop k)=(BR x [11,12]&&IG p 2 (l.drop (k+1))):=by
 rw [drop_at h];rfl
theorem Ut {k:Nat} {x:Nd} (h:l[k]? =some x):IG p 2 (l.drop k)=(Ep x&&IG p 0 (l.drop (k+1))):=by
 rw [drop_at h];rfl
theorem KZ {k s:Nat} (h:l.length<=k):IG p s (l.drop k)=(s==2):=by
 rw [List.drop_eq_nil_of_le h]
 match s with
 |0=>rfl
 |1=>rfl
 |2=>rfl
 |s+3=>rfl
theorem y9:(0:Int).toNat=0:=rfl
theorem za:((0:Int)+1).toNat=1:=rfl
theorem zb:((0:Int)+1+1).toNat=2:=rfl
theorem xg {k:Nat}:((k:Int)+1).toNat=k+1:=H1
theorem yM {k:Nat}:((k:Int)+1+1).toNat=k+2:=H1
theorem nX (U:∀x ∈ l,B4 291 p x) (h:R (.ret (.bool (IG p 0 l))) st):ID 358 [.slice 6 (Co l) .any] st R:=by
 refine pB Tryz.func358 ?_
 conv=>whnf
 refine ⟨Nat,λ_=>0,λk=>{tmps:=[(3,.int .i64 k),(0,.slice 6 (Co l) .any)],boxes:=[],BS:=0,sz:=57,gl:=[]},λ_=>st,
  λk=>k<=l.length/\IG p 0 l=IG p 0 (l.drop k),λk=>l.length - k,?_,?_⟩
 .have hi:IG p 0 l=IG p 0 (l.drop 0):=rfl
  repeat' ((conv=>whnf);first|(refine Jw ?_;intros)|(refine GM ?_ ?_<;>intro _)|refine JR (kinds:=[11,12]) ?_|refine eh ?_|refine U _ ‹_› _ _ ?_)
  all_goals conv=>whnf
  all_goals try simp only [y9,za,zb,xg,yM,Int.toNat_natCast,Nat.zero_add,Nat.reduceAdd] at *
  all_goals try (have e:=nV (p:=p) ‹l[0]? =some _›;rw [e] at hi;clear e)
  all_goals (try have e1:=nW (p:=p) ‹l[1]? =some _›)
  all_goals (try have e2:=Ut (p:=p) ‹l[1]? =some _›)
  all_goals (try have e3:=Ut (p:=p) ‹l[2]? =some _›)
  all_goals (try have f0:=KZ (p:=p) (s:=0) (l:=l) (k:=0) H1)
  all_goals (try have f1:=KZ (p:=p) (s:=1) (l:=l) (k:=1) H1)
  all_goals (try have f2:=KZ (p:=p) (s:=2) (l:=l) (k:=1) H1)
  all_goals (try have f3:=KZ (p:=p) (s:=2) (l:=l) (k:=2) H1)
  all_goals try simp only [Nat.zero_add,Nat.reduceAdd] at *
  all_goals first
   |(refine An h ?_;clear h;clear U;simp_all;done)
   |(refine ⟨3,(by first|trivial|rfl),⟨H1,?_⟩,Yl,St.le_refl _⟩;clear h;clear U;simp_all;done)
   |(refine ⟨2,(by first|trivial|rfl),⟨H1,?_⟩,Yl,St.le_refl _⟩;clear h;clear U;simp_all;done)
 .rintro k ⟨hk,hi⟩
  refine ⟨_,rfl,?_⟩
  repeat' ((conv=>whnf);first|(refine Jw ?_;intros)|(refine GM ?_ ?_<;>intro _)|refine JR (kinds:=[11,12]) ?_|refine eh ?_|refine U _ ‹_› _ _ ?_)
  all_goals conv=>whnf
  all_goals try simp only [y9,za,zb,xg,yM,Int.toNat_natCast,Nat.zero_add,Nat.reduceAdd] at *
  all_goals try (have e:=nV (p:=p) ‹l[k]? =some _›;rw [e] at hi;clear e)
  all_goals (try have e1:=nW (p:=p) ‹l[k+1]? =some _›)
  all_goals (try have e2:=Ut (p:=p) ‹l[k+1]? =some _›)
  all_goals (try have e3:=Ut (p:=p) ‹l[k+2]? =some _›)
  all_goals (try have f0:=KZ (p:=p) (s:=0) (l:=l) (k:=k) H1)
  all_goals (try have f1:=KZ (p:=p) (s:=1) (l:=l) (k:=k+1) H1)
  all_goals (try have f2:=KZ (p:=p) (s:=2) (l:=l) (k:=k+1) H1)
  all_goals (try have f3:=KZ (p:=p) (s:=2) (l:=l) (k:=k+2) H1)
  all_goals try simp only [Nat.zero_add,Nat.reduceAdd] at *
  all_goals first
   |(refine An h ?_;clear h;clear U;simp_all;done)
   |(refine ⟨k+3,(by first|trivial|rfl),⟨H1,?_⟩,H1,Yl,St.le_refl _⟩;clear h;clear U;simp_all;done)
   |(refine ⟨k+2,(by first|trivial|rfl),⟨H1,?_⟩,H1,Yl,St.le_refl _⟩;clear h;clear U;simp_all;done)
end
section
variable {st:St} {R:AD->St->Prop}
def D4 (p:Nd->Bool) (n:Nd):Bool:=
 if n.kind=1 then BR n [1,2,4,11,12,13,14]
 else if n.kind=14 then n.kids.length==1&&n.kids[0]?.any (Cv · 9 [95])
 else if n.kind=3 then N0 n
 else if n.kind=15 then n.kids.length==3&&n.kids[0]?.any (BR · [1])&&n.kids[1]?.any (Cv · 10 [64])&&n.kids[2]?.any p
 else if n.kind=16 then n.kids.length==2&&n.kids[0]?.any (Cv · 10 [126])&&n.kids[1]?.any p
 else if n.kind=4 then EP p n [40] [41] 1 true
 else if n.kind=5 then EP p n [40] [41] 2 false
 else if n.kind=6 then EP p n [91] [93] 1 false
 else if n.kind=12 then KJ p n
 else if n.kind=11 then decide (0<n.kids.length)&&n.kids[0]?.any Gs&&E4 p (n.kids.drop 1)
 else if n.kind=17 then decide (1<n.kids.length)&&IG p 0 n.kids
 else false
theorem mI (hp:∀x,x.size<n.size->B4 291 p x):B4 291 (D4 p) n:=by
 intro st R h
 have U:∀x ∈ n.kids,B4 291 p x:=λx hx=>hp x (Dl hx)
 have hkk:∀x ∈ n.kids,∀y ∈ x.kids,B4 291 p y:=λx hx y hy=>hp y (Nat.lt_trans (Dl hy) (Dl hx))
 have hd:∀x ∈ n.kids.drop 1,B4 291 p x:=λx hx=>U x (List.mem_of_mem_drop hx)
 refine pB Tryz.func291 ?_
 repeat' ((conv=>whnf);first|(refine Jw ?_;intros)|(refine GM ?_ ?_<;>intro _)|refine JR (kinds:=[1,2,4,11,12,13,14]) ?_|refine Nn ?_|refine vB ?_|refine JR (kinds:=[1]) ?_|refine U _ ‹_› _ _ ?_|refine XE (p:=p) IR IR U ?_|refine nE hkk ?_|refine VJ ?_|refine XD hd ?_|refine nX U ?_)
 all_goals conv=>whnf
 all_goals (refine An h ?_;clear h hp U hkk hd;try simp only [Int.toNat_zero,Int.toNat_one,Int.reduceToNat] at *)
 all_goals first
  |(simp_all [D4];done)
  |(have:1<n.kids.length:=by omega
    simp_all [D4];done)
  |(have:¬1<n.kids.length:=by omega
    simp_all [D4];intros;omega)
def Yt:Nat->Nd->Bool
 |0,_=>false
 |k+1,n=>D4 (Yt k) n
theorem size_pos (n:Nd):0<n.size:=by cases n;rw [Nd.size];omega
theorem bP:∀(k:Nat) (n:Nd),n.size<=k->B4 291 (Yt k) n
 |0,n,h=>by have:=size_pos n;omega
 |k+1,n,h=>mI λx U=>bP k x H1
def Uz (p:Nd->Bool) (l:List Nd):Bool:=if l.length=1 then l[0]?.any (λx=> !(x.kind==17)&&p x) else IG p 0 l
theorem oB (U:∀x ∈ l,B4 291 p x) (h:R (.ret (.bool (Uz p l))) st):ID 351 [.slice 6 (Co l) .any] st R:=by
 refine pB Tryz.func351 ?_
 repeat' ((conv=>whnf);first|(refine Jw ?_;intros)|(refine GM ?_ ?_<;>intro _)|refine U _ ‹_› _ _ ?_|refine nX U ?_)
 all_goals conv=>whnf
 all_goals (refine An h ?_;clear h U;try simp only [Int.toNat_zero,Int.toNat_one,Int.reduceToNat] at *)
 all_goals first
  |(simp_all [Uz];done)
  |skip
def Ec (p:Nd->Bool) (l:List Nd):Nat->List Nd->List UInt8×Bool
 |_,[]=>([],false)
 |i,x::r=>match Ea x with
  |some t=>(t,Uz p (l.take i)&&Uz p (l.drop (i+1)))
  |none=>Ec p l (i+1) r
def BW (p:Nd->Bool) (q:Nd->List UInt8×Bool) (n:Nd):List UInt8×Bool:=
 if n.kind=11 then
  if 2<=n.kids.length then (if E4 p (n.kids.drop 1) then (match n.kids[0]? with
   |none=>([],false)
   |some f=>if f.kind=4 then (match BO f [40] [41] with|some l=>if l.length=1 then (match l[0]? with|some x=>q x|none=>([],false)) else ([],false)|none=>([],false))
    else match BM f with|some t=>(t,true)|none=>([],false)) else ([],false)) else ([],false)
 else if n.kind=17 then Ec p n.kids 0 n.kids
 else ([],false)
theorem X2 {f:List UInt8×Bool} {t:List UInt8} {b:Bool} (h:f=(t,b)):AD.ret (.Bl [.str f.1,.bool f.2])=(AD.ret (.Bl [.str t,.bool b])).wk:=by subst h;rfl
def aA (q:Nd->List UInt8×Bool) (x:Nd):Prop:=∀(st:St) (R:AD->St->Prop),R (.ret (.Bl [.str (q x).1,.bool (q x).2])) st->ID 290 [enc x] st R
theorem TB {q:Nd->List UInt8×Bool} (hp:∀x,x.size<n.size->B4 291 p x) (hq:∀x,x.size<n.size->aA q x):aA (BW p q) n:=by
 intro st R h
 have hk:∀x ∈ n.kids,B4 291 p x:=λx U=>hp x (Dl U)
 have hd:∀x ∈ n.kids.drop 1,B4 291 p x:=λx U=>hk x (List.mem_of_mem_drop U)
 refine pB Tryz.func290 ?_
 repeat' ((conv=>whnf);first|(refine Jw ?_;intros)|(refine GM ?_ ?_<;>intro _)|refine XD hd ?_|refine JK (λl hl=>?_) (λhl=>?_)|refine Ny (λl hl=>?_) (λhl=>?_)|refine hq _ (Nat.lt_trans (Dl (Na ‹_› _ ‹_›)) (Dl ‹_›)) _ _ ?_)
 all_goals try (refine L9 63 [1,61,62] [0] n.kids.length (λk=>k<=n.kids.length/\Ec p n.kids 0 n.kids=Ec p n.kids k (n.kids.drop k)) ⟨Nat.zero_le _,rfl⟩ Yl ?_;rintro k ⟨hkl,hi⟩)
 repeat' ((conv=>whnf);first|(refine Jw ?_;intros)|(refine GM ?_ ?_<;>intro _)|refine qo (λl hl=>?_) (λhl=>?_)|refine oB (λx U=>hk x (List.mem_of_mem_take (List.mem_of_mem_drop U))) ?_|refine oB (λx U=>hk x (List.mem_of_mem_drop U)) ?_)
 all_goals conv=>whnf
 all_goals first
  |refine AU ?_ h
  |(refine ⟨k+1,⟨H1,?_⟩,H1,Yl,St.le_refl _⟩)
  |skip
 all_goals clear h hp hq hk hd
 all_goals try (have e:=drop_at ‹n.kids[Int.toNat k]? =some _›;rw [Int.toNat_natCast] at e;rw [e,Ec] at hi;clear e)
 all_goals try simp only [Int.toNat_zero,Int.toNat_one,Int.reduceToNat,Int.toNat_natCast] at *
 all_goals first
  |(simp_all;done)
  |refine X2 ?_
 .have:¬2<=n.kids.length:=H1
  simp [BW, *]
 all_goals try have g:2<=n.kids.length:=H1
 .rename_i x _ _ y _ _ _
  have e:BW p q n=q y:=by simp_all [BW]
  rw [e];exact Prod.ext rfl ‹_›
 .rename_i x _ _ y _ _ _
  have e:BW p q n=q y:=by simp_all [BW]
  rw [e];exact Prod.ext rfl ‹_›
 all_goals try (rw [List.drop_eq_nil_of_le H1,Ec] at hi)
 all_goals simp_all [BW]
def lY:Nat->Nd->List UInt8×Bool
 |0,_=>([],false)
 |k+1,n=>BW (Yt k) (lY k) n
theorem Sh:∀(k:Nat) (n:Nd),n.size<=k->aA (lY k) n
 |0,n,h=>by have:=size_pos n;omega
 |k+1,n,h=>TB (λx U=>bP k x H1) λx U=>Sh k x H1
end
end Go.Proofs.Z
