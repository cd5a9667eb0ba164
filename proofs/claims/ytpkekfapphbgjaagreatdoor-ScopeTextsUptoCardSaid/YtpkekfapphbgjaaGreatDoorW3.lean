/-
  Parts of a proof: lemmas that the last text uses.
-/
import Derived.Test.YtpkekfapphbgjaaGreatDoorW2
import Derived.IntWalk
import Derived.Shelf.Strings.Builder1
import Derived.Shelf.Strings.Builder2
import Derived.Shelf.Strings.OnBuilder
import Derived.Shelf.Strings.Trim
import Derived.Shelf.Small.Utf8
import Derived.Shelf.Small.Strs
import Derived.Shelf.Strings.Search1
import Derived.Shelf.Strings.Search2
import Derived.Shelf.Strings.Search3
import Derived.Shelf.LaysM
import Derived.Shelf.Strings.Shaped
import Derived.Shelf.GgClosure.StringsIndexFunc
import Derived.Ground.GgwProg
import Derived.Shelf.GgClosure.StringsIndexFuncTop
import Derived.Shelf.GgClosure.StringsRunes
import Derived.Shelf.Strings.Prefix
import Derived.Shelf.Strings.Fields
import Derived.Shelf.Strings.SplitShaped
import Derived.Shelf.Unicode.Latin
import Derived.Shelf.Unicode.Decode
import Derived.Shelf.Strings.Runes
import Derived.Shelf.Strings.AsciiSet
import Derived.Shelf.Unicode.DecodeSlow
import Derived.Shelf.Unicode.DecodeAny
import Derived.Shelf.Unicode.Is16White
import Derived.Shelf.Unicode.IsSpaceAny
import Derived.Shelf.Unicode.DecodeLast
import Derived.Shelf.Unicode.Is16Any
import Derived.Shelf.Unicode.Is32Any
import Derived.Shelf.Unicode.ExclAny
import Derived.Shelf.Strings.FuncGrows
import Derived.Shelf.Slices.Turned
import Derived.Ground.Names2Prog
import Derived.Shelf.Slices.Clone
import Derived.Ground.SlgnProg
import Derived.Shelf.SlicesE.Clone
import Derived.Test.YtpkekfapphbgjaaGreatDoorProg
import Derived.Below
set_option linter.unusedVariables false
set_option linter.unusedSimpArgs false
set_option maxHeartbeats 16000000
variable {b m pos:Nat} {c k d i:Int} {cs:List Go.Aw.V} {K:Go.Aw.V->Go.Aw.St->Prop} {f:Go.FuncId} {s t x o:List UInt8} {l:List Go.Aw.Nd} {n:Go.Aw.Nd} {s':Go.Proofs.Z.An} {R:Go.Aw.As->Go.Aw.St->Prop} {e:UInt8} {p:Go.Aw.Nd->Bool} {kinds:List Int} {I:Go.Aw.Mem} {P:Prop} {ih:(Go.Aw.AP->Go.Aw.Env->Go.Aw.St->Prop)->Go.Aw.Env->Go.Aw.St->Prop} {Q:Go.Aw.AP->Go.Aw.Env->Go.Aw.St->Prop} {env:Go.Aw.Env} {α:Type}
namespace Go.Proofs.Z
open Go Go.Aw
abbrev Rs:=Sum (Int×An) (Nd×An)
def E5 (st:St) (b:Nat) (R:As->St->Prop):Rs->Prop
 | .inr (n,s')=>∀st',Ii st st' b s'->R (.ret (enc n)) st'
 | .inl (e,s')=>∀st',Ii st st' b s'->R (.B7 (fault e)) st'
def Reads (f:FuncId) (s:An) (d:Int) (q:Rs):Prop:=∀(b:Nat) (st:St) (R:As->St->Prop),Has st b s->E5 st b R q->PC f [.ptr b 0,.int .i64 d] st R
def B9 (s:An) (deep:Int) (q:Rs):Nd×An×Int:=
 if deep<1 then (Hv,s,2) else match q with
  | .inr (n,s')=>(n,s',0)
  | .inl (e,s')=>(Hv,s',e)
def Ko (p:Nd×An×Int):V:=Rl p.1 p.2.1 p.2.2
section
variable {st:St} {R:As->St->Prop}
attribute [local irreducible] Go.Aw.Aj
theorem A5 {st:St} {c:Nat} (h:(st.Aa b cs).fresh c):b≠c/\st.fresh c:=by
 by_cases e:b=c
 .subst e
  have:=h.1
  rw [St.Ai] at this
  cases this
 .refine ⟨e,?_,h.2⟩
  have:=h.1
  rw [St.Ak e] at this
  exact this
theorem D5 {st:St} {K:Nat->Prop} (h:∀b,st.fresh b->K b):∀b,st.fresh b->K b:=h
theorem EO {st:St} (h:st.box b=some cs):St.le st (st.Aa b cs):=by rw [St.K4 h];exact St.le_refl _
noncomputable def mg:List Oper:=match Tryz.f64.body with|some (.seq _ (.seq _ (.seq _ (.seq _ (.seq _ (.seq (.region _ ops _) _))))))=>ops.toList|_=>[]
noncomputable def mf (bs:List Bool) (b1 U b3 b4 b5:Nat) (nc sc:List V):Env:=
 {tmps:=jY [(6,.ptr b1 0),(7,.ptr U 0),(8,.ptr b3 0),(9,.ptr b5 0)] mg [.agg nc,.ptr b4 0,.ptr b4 0,.ptr b4 0,.agg sc,.BR,.BR,.BR] bs,boxes:=[],BU:=1,sz:=28,gl:=[6,7,8,9,12]}
def mh (st:St) (U b3:Nat) (sc:List V) (bs:List Bool):St:=
 match bs[6]?,bs[7]? with
 |_,some true=>(st.Aa U sc).Aa b3 [.int .i64 0]
 |some true,_=>st.Aa U sc
 |_,_=>st
theorem M7 {s:An} {deep:Int} {q:Rs} (hq:¬deep<1->Reads f s (if 100<deep then 100 else deep) q) (h:R (.ret (Ko (B9 s deep q))) st):PC 64 [D9 s,.int .i64 deep,.func f [] []] st R:=by
 refine Bo.ends (J7 Ac [6,7,8,9,12] Tryz.func64 rfl Do rfl rfl rfl rfl rfl rfl ⟨_,Tryz.func107,rfl,Do⟩ rfl ?_)
 repeat' ((conv=>whnf);first|  (refine Bb ?_ ?_<;>intro _)|refine D5 (λb5 f5=>?_)|refine Am (St.Ai ..) ?_|fail)
 rename_i b1 f1 b2 f2 b3 f3 b4 f4
 obtain ⟨n12,f2a⟩:=A5 f2
 obtain ⟨n23,f3a⟩:=A5 f3
 obtain ⟨n13,f3b⟩:=A5 f3a
 obtain ⟨n34,f4a⟩:=A5 f4
 obtain ⟨n24,f4b⟩:=A5 f4a
 obtain ⟨n14,f4c⟩:=A5 f4b
 obtain ⟨n45,f5a⟩:=A5 f5
 obtain ⟨n35,f5b⟩:=A5 f5a
 obtain ⟨n25,f5c⟩:=A5 f5b
 obtain ⟨n15,f5d⟩:=A5 f5c
 conv=>whnf
 refine ⟨rfl,AY rfl ?_⟩
 generalize hst5:St.Aa _ b5 [V.ptr b4 0]=st5
 have k1:st5.box b1=some CX:=by subst hst5;rw [St.Ak n15.symm,St.Ak n15.symm,St.Ak n14.symm,St.Ak n13.symm,St.Ak n12.symm,St.Ai];rfl
 have k2:st5.box b2=some [.slice 4 (AU Fk.AL) .full,.int .i64 Fk.pos,.slice 1 (ints Fk.Ev) .full,.int .i64 Fk.wait]:=by subst hst5;rw [St.Ak n25.symm,St.Ak n25.symm,St.Ak n24.symm,St.Ak n23.symm,St.Ai];rfl
 have k3:st5.box b3=some [.int .i64 0]:=by subst hst5;rw [St.Ak n35.symm,St.Ak n35.symm,St.Ak n34.symm,St.Ai]
 have k4:Has st5 b4 s:=by subst hst5;refine .inr ⟨TR,Fk,.full,.full,0,?_⟩;rw [St.Ak n45.symm,St.Ak n45.symm,St.Ai];rfl
 have k5:st5.box b5=some [.ptr b4 0]:=by subst hst5;rw [St.Ai]
 have kle:st.le st5:=by
  subst hst5
  exact St.Ag (St.Ag (St.Ag (St.Ag (St.Ag (St.Ag (St.le_refl _) f1.1 _) f2a.1 _) f3b.1 _) f4c.1 _) f5d.1 _) f5d.1 _
 have kpan:∀(U:St) (e:Int) (s':An),Ii st5 U b4 s'->U.box b5=some [.ptr b4 0]/\U.box b1=some CX/\U.box b2=some [.slice 4 (AU Fk.AL) .full,.int .i64 Fk.pos,.slice 1 (ints Fk.Ev) .full,.int .i64 Fk.wait]/\U.box b3=some [.int .i64 0]/\st.le U:=by
  rintro U e s' ⟨_,cs,rfl⟩
  exact ⟨by rw [St.Ak n45];exact k5,by rw [St.Ak n14.symm];exact k1,by rw [St.Ak n24.symm];exact k2,by rw [St.Ak n34.symm];exact k3,St.Ag kle f4c.1 _⟩
 clear hst5 f2 f3 f4 f5 f3a f4a f4b f5a f5b f5c
 refine Ad (Af Ac ?_)
 repeat' ((conv=>whnf);first|  (refine Bb ?_ ?_<;>intro _)|refine Am k5 ?_|refine Ct ?_|fail)
 .refine JO (n0:=Hv) (s0:=Fk) k5 k4 k1 k2 k3 n15 n14 n12 n13 n25 n24 n23 ?_
  have g1:(((st5.Aa b1 CX).Aa b2 s.cells).Aa b3 [.int .i64 2]).box b1=some CX:=by rw [St.Ak n13.symm,St.Ak n12.symm,St.Ai]
  have g2:(((st5.Aa b1 CX).Aa b2 s.cells).Aa b3 [.int .i64 2]).box b2=some s.cells:=by rw [St.Ak n23.symm,St.Ai]
  have gl:st.le (((st5.Aa b1 CX).Aa b2 s.cells).Aa b3 [.int .i64 2]):=St.Ag (St.Ag (St.Ag kle f1.1 _) f2a.1 _) f3b.1 _
  unfold B9 at h
  rw [if_pos ‹_›] at h
  repeat' ((conv=>whnf);first|  (refine Bb ?_ ?_<;>intro _)|refine Am g1 ?_|refine Am g2 ?_|refine Am (St.Ai ..) ?_|fail)
  all_goals exact EK gl rfl h
 .rename_i hd
  unfold B9 at h
  rw [if_neg hd] at h
  have hq:=hq hd b4
  refine Ad (Af Ac ?_)
  cases q with
  |inl q=>
   obtain ⟨e,s'⟩:=q
   repeat' ((conv=>whnf);first|  (refine Bb ?_ ?_<;>intro _)|refine Am k5 ?_|refine ⟨_,rfl,?_⟩|refine hq _ _ k4 (λU hu=>?_)|fail)
   obtain ⟨j5,j1,j2,j3,jle⟩:=kpan U e s' hu
   refine JO (n0:=Hv) (s0:=Fk) j5 hu.1 j1 j2 j3 n15 n14 n12 n13 n25 n24 n23 ?_
   have g1:(((U.Aa b1 CX).Aa b2 s'.cells).Aa b3 [.int .i64 e]).box b1=some CX:=by rw [St.Ak n13.symm,St.Ak n12.symm,St.Ai]
   have g2:(((U.Aa b1 CX).Aa b2 s'.cells).Aa b3 [.int .i64 e]).box b2=some s'.cells:=by rw [St.Ak n23.symm,St.Ai]
   have gl:st.le (((U.Aa b1 CX).Aa b2 s'.cells).Aa b3 [.int .i64 e]):=St.Ag (St.Ag (St.Ag jle f1.1 _) f2a.1 _) f3b.1 _
   repeat' ((conv=>whnf);first|  (refine Bb ?_ ?_<;>intro _)|refine Am g1 ?_|refine Am g2 ?_|refine Am (St.Ai ..) ?_|fail)
   all_goals exact EK gl rfl h
  |inr q=>
   obtain ⟨n,s'⟩:=q
   have kret:=λU hu=>kpan U 0 s' hu
   repeat' ((conv=>whnf);first|  (refine Bb ?_ ?_<;>intro _)|refine Am k5 ?_|refine ⟨_,rfl,?_⟩|refine hq _ _ k4 (λU hu=>?_)|refine Am (kret U hu).2.1 ?_|fail)
   obtain ⟨j5,j1,j2,j3,jle⟩:=kret U hu
   generalize hst7:U.Aa b1 (AK n)=st7
   have i1:st7.box b1=some (AK n):=by subst hst7;rw [St.Ai]
   have i5:st7.box b5=some [.ptr b4 0]:=by subst hst7;rw [St.Ak n15];exact j5
   have i2:st7.box b2=some [.slice 4 (AU Fk.AL) .full,.int .i64 Fk.pos,.slice 1 (ints Fk.Ev) .full,.int .i64 Fk.wait]:=by subst hst7;rw [St.Ak n12];exact j2
   have i3:(st7.Aa b2 s'.cells).box b3=some [.int .i64 0]:=by subst hst7;rw [St.Ak n23,St.Ak n13];exact j3
   have i4:Has st7 b4 s':=by
    subst hst7
    rcases hu.1 with e|⟨t,u,o1,o2,e',e⟩
    .exact .inl (by rw [St.Ak n14];exact e)
    .exact .inr ⟨t,u,o1,o2,e',by rw [St.Ak n14];exact e⟩
   have ile:st.le st7:=by subst hst7;exact St.Ag jle f1.1 _
   refine Ad (Mn Ac (Bq _) (λbs=>mf bs b1 b2 b3 b4 b5 (AK n) s'.cells) (mh st7 b2 b3 s'.cells) Qe GE Yl (by rw [<-hst7];exact St.le_refl _) ?_ ?_)
   .skip
    unfold Qe
    rcases i4 with i4|⟨t,u,q1,q2,q3,i4⟩
    all_goals repeat' (first|refine List.forall_mem_cons.2 ⟨?_,?_⟩|exact λ_ h=>nomatch h)
    repeat' ((conv=>whnf);first|  (refine Bb ?_ ?_<;>intro _)|refine Am i5 ?_|refine Am i1 ?_|refine Am i4 ?_|refine Am i2 ?_|refine Am i3 ?_|fail)
    all_goals conv=>whnf
    all_goals (refine ⟨Yl,?_⟩)
    all_goals first|exact St.le_refl _|exact EO i1
   .refine Af Ac (Q7 (bp:=b5) ?_)
    have g1:((st7.Aa b2 s'.cells).Aa b3 [.int .i64 0]).box b1=some (AK n):=by rw [St.Ak n13.symm,St.Ak n12.symm];exact i1
    have g2:((st7.Aa b2 s'.cells).Aa b3 [.int .i64 0]).box b2=some s'.cells:=by rw [St.Ak n23.symm,St.Ai]
    have gl:st.le ((st7.Aa b2 s'.cells).Aa b3 [.int .i64 0]):=St.Ag (St.Ag ile f2a.1 _) f3b.1 _
    repeat' ((conv=>whnf);first|  (refine Bb ?_ ?_<;>intro _)|refine Am g1 ?_|refine Am g2 ?_|refine Am (St.Ai ..) ?_|fail)
    all_goals exact EK gl rfl h
end
def mu (s:An):Nat:=4*(s.AL.length - s.pos.toNat)+s.Ev.length+(2 - s.wait.toNat)
theorem yo (s:An):s.Ev.length<=mu s:=by unfold mu;omega
theorem JP {s:An} (h:s.Ev≠[]):(FU s).Ev.length+1=s.Ev.length:=by
 have:0<s.Ev.length:=List.length_pos_iff.2 h
 simp only [FU,List.length_dropLast]
 omega
theorem aU {s:An} {t:Tk} (h:s.AL[s.pos.toNat]? =some t):s.pos.toNat<s.AL.length:=(List.getElem?_eq_some_iff.1 h).1
theorem mU {s:An} (h:(EX s).2.2=0):mu (EX s).2.1<=mu s/\((EX s).1.kind≠21->mu (EX s).2.1<mu s):=by
 unfold EX at h |-
 split
 .exact ⟨Nat.le_refl _,λe=>absurd rfl e⟩
 .split
  .rename_i U e2
   have:=JP U
   refine ⟨?_,λ_=>?_⟩<;>simp only [mu,FU] at* <;>omega
  .rename_i U e2
   rw [if_neg U,if_neg e2] at h
   cases h
theorem lZ {t:Tk} {s:An} (h0:0<=s.pos) (h1:0<=s.wait) (h2:s.wait<2) (U:s.AL[s.pos.toNat]? =some t):mu (FR t s).2<mu s:=by
 have:=aU U
 unfold FR
 split
 .rename_i e;simp only [mu];rw [e,show Int.toNat 2=2 from rfl,show Int.toNat 1=1 from rfl];omega
 .split
  .simp only [mu,NR,List.length_append,List.length_singleton];omega
  .simp only [mu];omega
theorem tY {t:Tk} {s:An} (h0:0<=s.pos) (h2:s.wait<=2) (U:s.AL[s.pos.toNat]? =some t):mu (DU t s).2<mu s:=by
 have:=aU U
 unfold DU
 split
 .rename_i e
  have:=JP (UQ e.1)
  simp only [mu,FU] at *;omega
 .split<;>(simp only [mu];omega)
theorem mb {t:Tk} {s:An} (h0:0<=s.pos) (ht:s.AL[s.pos.toNat]? =some t) (h:(Fv t s).2.2=0):mu (Fv t s).2.1<mu s:=by
 have:=aU ht
 unfold Fv at h |-
 split
 .simp only [mu,NR,List.length_append,List.length_singleton];omega
 .rename_i e1
  rw [if_neg e1] at h
  split
  .rename_i e2
   rw [if_pos e2] at h
   split
   .rename_i U;rw [if_pos U] at h;cases h
   .rename_i U
    have:=JP (s:=s) (λe=>U (.inl e))
    simp only [mu,FU] at *;omega
  .simp only [mu];omega
theorem Y6:∀(n:Nat) (s:An),0<=s.pos->0<=s.wait->s.wait<=2->(Di n s).2.2=0->mu (Di n s).2.1<=mu s/\((Di n s).1.kind≠21->mu (Di n s).2.1<mu s)
 |0,s,h0,h1,h2,h=>mU h
 |n+1,s,h0,h1,h2,h=>by
  unfold Di at h |-
  cases U:s.AL[s.pos.toNat]? with
  |none=>rw [U] at h;exact mU h
  |some t=>
   rw [U] at h
   dsimp only at h |-
   split
   .rename_i e
    have:=lZ h0 h1 e.2 U
    exact ⟨Nat.le_of_lt this,λ_=>this⟩
   .rename_i e1
    rw [if_neg e1] at h
    have hl:=tY h0 h2 U
    split
    .rename_i e2
     rw [if_pos e2] at h
     split
     .rename_i e3
      rw [if_pos e3] at h
      have hz:=D3 e3
      have:=Y6 n (DU t s).2 (by rw [hz];show 0<=s.pos+1;omega) (by rw [hz];exact Int.le_refl _) (by rw [hz];show (0:Int)<=2;decide) h
      exact ⟨AC,λe=>by omega⟩
     .exact ⟨Nat.le_of_lt hl,λ_=>hl⟩
    .rename_i e2
     rw [if_neg e2] at h
     have:=mb h0 U h
     exact ⟨Nat.le_of_lt this,λ_=>this⟩
theorem Eo {s:An} (h:(Ae s).2.2=0):mu (Ae s).2.1<=mu s/\((Ae s).1.kind≠21->mu (Ae s).2.1<mu s):=by
 unfold Ae at h |-
 cases U:PZ s with
 |false=>rw [U] at h;cases h
 |true=>
  rw [U,if_pos rfl] at h
  rw [if_pos rfl]
  unfold PZ at U
  simp only [Bool.and_eq_true,decide_eq_true_eq] at U
  exact Y6 _ s AC AC AC h
theorem eD {s:An} (h:¬(EX s).2.2=0):(EX s).1=TR:=by
 unfold EX at h |-
 split
 .rename_i e;rw [if_pos e] at h;exact absurd rfl h
 .rename_i e;rw [if_neg e] at h
  split
  .rename_i e;rw [if_pos e] at h;exact absurd rfl h
  .rfl
theorem iv {t:Tk} {s:An} (h:¬(Fv t s).2.2=0):(Fv t s).1=TR:=by
 unfold Fv at h |-
 split
 .rename_i e;rw [if_pos e] at h;exact absurd rfl h
 .rename_i e;rw [if_neg e] at h
  split
  .rename_i e;rw [if_pos e] at h
   split
   .rfl
   .rename_i e;rw [if_neg e] at h;exact absurd rfl h
  .rename_i e;rw [if_neg e] at h;exact absurd rfl h
theorem Ux:∀(n:Nat) (s:An),¬(Di n s).2.2=0->(Di n s).1=TR
 |0,s,h=>eD h
 |n+1,s,h=>by
  unfold Di at h |-
  cases U:s.AL[s.pos.toNat]? with
  |none=>rw [U] at h;exact eD h
  |some t=>
   rw [U] at h
   dsimp only at h |-
   split
   .rename_i e;rw [if_pos e] at h;exact absurd rfl h
   .rename_i e;rw [if_neg e] at h
    split
    .rename_i e;rw [if_pos e] at h
     split
     .rename_i e;rw [if_pos e] at h;exact Ux n _ h
     .rename_i e;rw [if_neg e] at h;exact absurd rfl h
    .rename_i e;rw [if_neg e] at h;exact iv h
theorem Y8 {s:An} (h:¬(Ae s).2.2=0):(Ae s).1=TR:=by
 unfold Ae at h |-
 cases U:PZ s with
 |false=>rfl
 |true=>rw [U,if_pos rfl] at h;rw [if_pos rfl];exact Ux _ _ h
theorem HX {s:An} (h:BB s k x=true) (U:k≠0):(Ae s).2.2=0:=by
 apply Classical.byContradiction
 intro e
 unfold BB at h
 rw [Y8 e] at h
 simp only [TR,Bool.and_eq_true,beq_iff_eq] at h
 exact U h.1.symm
theorem EY {s:An} (h:BB s k x=true) (hk:k≠0) (U:k≠21):mu (Ae s).2.1<mu s:=by
 refine (Eo (HX h hk)).2 λe=>?_
 unfold BB at h
 simp only [Bool.and_eq_true,beq_iff_eq] at h
 exact U (h.1.symm.trans e)
abbrev Ls:=Sum (Int×An) (List Nd×An)
def Dp (s:An):Rs:=if (Ae s).2.2=0 then .inr (BP (Ae s).1,(Ae s).2.1) else .inl ((Ae s).2.2,s)
def ie (s:An):Rs:=.inl (Va s,s)
def Mf (s:An) (k:Int) (x:List UInt8):Rs:=if BB s k x then Dp s else ie s
def Ep (t:Tk):Bool:=t.kind==2||t.kind==4||t.kind==1||(t.kind==15&&(t.text==[40]||t.text==[91]))
def At (k:Int) (l:List Nd):Nd:=.mk k 0 [] 0 0 l
def Hf (A:An->Rs) (l:List Nd) (s:An):Ls:=
 if Ep (Ae s).1 then match A s with
  | .inl e=>.inl e
  | .inr p=>if mu p.2<mu s then Hf A (l++[p.1]) p.2 else .inl (2,s)
 else .inr (l,s)
termination_by mu s
def Hg (A:An->Rs) (s:An):Rs:=
 match A s with
 | .inl e=>.inl e
 | .inr p=>match Hf A [p.1] p.2 with
   | .inl e=>.inl e
   | .inr q=>if q.1.length=1 then .inr (p.1,q.2) else .inr (At 39 q.1,q.2)
def HO (A:An->Rs) (l:List Nd) (s:An):Ls:=
 if BB s 10 [45,62] then match Hg A (Ae s).2.1 with
  | .inl e=>.inl e
  | .inr p=>if mu p.2<mu s then HO A (l++[BP (Ae s).1,p.1]) p.2 else .inl (2,s)
 else .inr (l,s)
termination_by mu s
def Em (A:An->Rs) (n:Nd) (s:An):Rs:=
 match HO A [n] s with
 | .inl e=>.inl e
 | .inr q=>if q.1.length=1 then .inr (n,q.2) else .inr (At 37 q.1,q.2)
def EF (A:An->Rs) (s:An):Rs:=
 match Hg A s with
 | .inl e=>.inl e
 | .inr p=>Em A p.1 p.2
def Hj (A:An->Rs) (s:An):Rs:=
 match Hg A s with
 | .inl e=>.inl e
 | .inr p=>if BB p.2 10 [61,62] then match EF A (Ae p.2).2.1 with
    | .inl e=>.inl e
    | .inr q=>.inr (At 38 [p.1,BP (Ae p.2).1,q.1],q.2)
   else Em A p.1 p.2
def C6 (Y:An->Rs) (l:List Nd) (s:An):Ls:=
 if BB s 15 [44] then match Y (Ae s).2.1 with
  | .inl e=>.inl e
  | .inr p=>if mu p.2<mu s then C6 Y (l++[BP (Ae s).1,p.1]) p.2 else .inl (2,s)
 else .inr (l,s)
termination_by mu s
def DY (l:List Nd) (s:An):List Nd×An:=
 if BB s 15 [44] then if mu (Ae s).2.1<mu s then DY (l++[BP (Ae s).1]) (Ae s).2.1 else (l,s) else (l,s)
termination_by mu s
def Jh (k:Int) (l:List Nd) (s:An) (x:List UInt8):Rs:=match Mf s 15 x with
 | .inl e=>.inl e
 | .inr p=>.inr (At k (l++[p.1]),p.2)
def He (Y:An->Rs) (s:An):Rs:=
 match Dp s with
 | .inl e=>.inl e
 | .inr p=>
   if BB p.2 10 [45,62] then Jh 3 [p.1,BP (Ae p.2).1] (Ae p.2).2.1 [41]
   else if BB p.2 15 [41] then Jh 3 [p.1] p.2 [41]
   else if BB p.2 15 [44] then Jh 3 (DY [p.1] p.2).1 (DY [p.1] p.2).2 [41]
   else match Y p.2 with
    | .inl e=>.inl e
    | .inr q=>match C6 Y [p.1,q.1] q.2 with
      | .inl e=>.inl e
      | .inr r=>Jh (if 2<r.1.length then 5 else 4) r.1 r.2 [41]
def Fu (Y:An->Rs) (s:An):Rs:=
 match Dp s with
 | .inl e=>.inl e
 | .inr p=>
   if BB p.2 15 [93] then .inr (At 3 [p.1,BP (Ae p.2).1],(Ae p.2).2.1)
   else match Y p.2 with
    | .inl e=>.inl e
    | .inr q=>Jh 6 [p.1,q.1] q.2 [93]
def DS (Y:An->Rs) (s:An):Rs:=
 if Ep (Ae s).1 then if (Ae s).1.kind=15 then if (Ae s).1.text=[40] then He Y s else Fu Y s else Dp s else ie s
def DV:Nat->An->Rs
 |0,s=>.inl (2,s)
 |d+1,s=>EF (DS (DV d)) s
def E4 (A:An->Rs):Prop:=∀s e s',A s=.inl (e,s')->e≠0
def Bn (A:An->Rs):Prop:=∀s n s',A s=.inr (n,s')->mu s'<mu s
theorem Vb (s:An):Va s≠0:=by
 unfold Va
 omega
theorem Jb:E4 Dp:=λs e s' h=>by
 unfold Dp at h
 grind
theorem XT:E4 ie:=λs e s' h=>by unfold ie at h;cases h;exact Vb s
theorem ig:E4 (λs=>Mf s k x):=λs e s' h=>by
 unfold Mf at h
 dsimp only at h
 split at h
 .exact Jb _ _ _ h
 .exact XT _ _ _ h
theorem KA:E4 (λs=>Jh k l s x):=λs e s' h=>by
 unfold Jh at h
 dsimp only at h
 split at h
 .rename_i U hw
  cases h
  exact ig _ _ _ hw
 grind
theorem pU {A:An->Rs} (U:E4 A) (l:List Nd) (s:An):∀e s',Hf A l s=.inl (e,s')->e≠0:=by
 fun_induction Hf A l s with
 |case1 l s h1 e1 h2=>intro e s' h;cases h;exact U _ _ _ h2
 |case2 l s h1 p h2 h3 ih=>exact ih
 |case3 l s h1 p h2 h3=>simp_all
 |case4 l s h1=>simp_all
theorem MY {A:An->Rs} (U:E4 A):E4 (Hg A):=λs e s' h=>by
 unfold Hg at h
 split at h
 .rename_i h1;cases h;exact U _ _ _ h1
 .split at h
  .rename_i h1;cases h;exact pU U _ _ _ _ h1
  grind
theorem lQ {A:An->Rs} (U:E4 A) (l:List Nd) (s:An):∀e s',HO A l s=.inl (e,s')->e≠0:=by
 fun_induction HO A l s with
 |case1 l s h1 e1 h2=>intro e s' h;cases h;exact MY U _ _ _ h2
 |case2 l s h1 p h2 h3 ih=>exact ih
 |case3 l s h1 p h2 h3=>simp_all
 |case4 l s h1=>simp_all
theorem Pc {A:An->Rs} (U:E4 A):E4 (Em A n):=λs e s' h=>by
 unfold Em at h
 split at h
 .rename_i h1;cases h;exact lQ U _ _ _ _ h1
 grind
theorem Mo {A:An->Rs} (U:E4 A):E4 (EF A):=λs e s' h=>by
 unfold EF at h
 split at h
 .rename_i h1;cases h;exact MY U _ _ _ h1
 .exact Pc U _ _ _ h
theorem T1 {A:An->Rs} (U:E4 A):E4 (Hj A):=λs e s' h=>by
 unfold Hj at h
 split at h
 .rename_i h1;cases h;exact MY U _ _ _ h1
 .split at h
  .split at h
   .rename_i h1;cases h;exact Mo U _ _ _ h1
   grind
  .exact Pc U _ _ _ h
theorem dK {Y:An->Rs} (U:E4 Y) (l:List Nd) (s:An):∀e s',C6 Y l s=.inl (e,s')->e≠0:=by
 fun_induction C6 Y l s with
 |case1 l s h1 e1 h2=>intro e s' h;cases h;exact U _ _ _ h2
 |case2 l s h1 p h2 h3 ih=>exact ih
 |case3 l s h1 p h2 h3=>simp_all
 |case4 l s h1=>simp_all
theorem aW {Y:An->Rs} (U:E4 Y):E4 (He Y):=λs e s' h=>by
 unfold He at h
 split at h
 .rename_i h1;cases h;exact Jb _ _ _ h1
 .split at h
  .exact KA _ _ _ h
  .split at h
   .exact KA _ _ _ h
   .split at h
    .exact KA _ _ _ h
    .split at h
     .rename_i h1;cases h;exact U _ _ _ h1
     .split at h
      .rename_i h1;cases h;exact dK U _ _ _ _ h1
      .exact KA _ _ _ h
theorem XU {Y:An->Rs} (U:E4 Y):E4 (Fu Y):=λs e s' h=>by
 unfold Fu at h
 split at h
 .rename_i h1;cases h;exact Jb _ _ _ h1
 .split at h
  .cases h
  .split at h
   .rename_i h1;cases h;exact U _ _ _ h1
   .exact KA _ _ _ h
theorem HG {Y:An->Rs} (U:E4 Y):E4 (DS Y):=λs e s' h=>by
 unfold DS at h
 split at h
 .split at h
  .split at h
   .exact aW U _ _ _ h
   .exact XU U _ _ _ h
  .exact Jb _ _ _ h
 .exact XT _ _ _ h
theorem FD:∀d,E4 (DV d)
 |0=>λs e s' h=>by cases h;decide
 |d+1=>Mo (HG (FD d))
theorem QK {s:An} (h:Dp s=.inr (n,s')):mu s'<=mu s/\((Ae s).1.kind≠21->mu s'<mu s):=by
 unfold Dp at h
 split at h
 .rename_i e;cases h;exact Eo e
 grind
theorem vC {s:An} (hk:k≠0) (U:k≠21) (h:Mf s k x=.inr (n,s')):mu s'<mu s:=by
 unfold Mf at h
 split at h
 .rename_i e
  unfold Dp at h
  rw [if_pos (HX e hk)] at h
  cases h
  exact EY e hk U
 .cases h
theorem RD {s:An} (h:Jh k l s x=.inr (n,s')):mu s'<mu s:=by
 unfold Jh at h
 split at h
 .cases h
 .rename_i h1;cases h;exact vC Do Do h1
theorem OW {s:An} (U:Ep (Ae s).1=true) (h:Dp s=.inr (n,s')):mu s'<mu s:=by
 refine (QK h).2 λe=>?_
 unfold Ep at U
 simp_all
theorem uN {A:An->Rs} (l:List Nd) (s:An):∀q s',Hf A l s=.inr (q,s')->mu s'<=mu s:=by
 fun_induction Hf A l s with
 |case1 l s h1 U h2=>simp_all
 |case2 l s h1 p h2 h3 ih=>grind
 |case3 l s h1 p h2 h3=>simp_all
 |case4 l s h1=>simp_all
theorem FH {A:An->Rs} (U:Bn A):Bn (Hg A):=λs n s' h=>by
 unfold Hg at h
 split at h
 .cases h
 .rename_i h1
  have:=U _ _ _ h1
  split at h
  .cases h
  .rename_i h2
   have:=uN _ _ _ _ h2
   grind
theorem rO {A:An->Rs} (l:List Nd) (s:An):∀q s',HO A l s=.inr (q,s')->mu s'<=mu s:=by
 fun_induction HO A l s with
 |case1 l s h1 U h2=>simp_all
 |case2 l s h1 p h2 h3 ih=>grind
 |case3 l s h1 p h2 h3=>simp_all
 |case4 l s h1=>simp_all
theorem TY {A:An->Rs} {m:Nd} {s:An} (h:Em A n s=.inr (m,s')):mu s'<=mu s:=by
 unfold Em at h
 split at h
 .cases h
 .rename_i h1
  have:=rO _ _ _ _ h1
  grind
theorem GZ {A:An->Rs} (U:Bn A):Bn (EF A):=λs n s' h=>by
 unfold EF at h
 split at h
 .cases h
 .rename_i h1
  have:=FH U _ _ _ h1
  have:=TY h
  omega
theorem UW {Y:An->Rs} (l:List Nd) (s:An):∀q s',C6 Y l s=.inr (q,s')->mu s'<=mu s:=by
 fun_induction C6 Y l s with
 |case1 l s h1 U h2=>simp_all
 |case2 l s h1 p h2 h3 ih=>grind
 |case3 l s h1 p h2 h3=>simp_all
 |case4 l s h1=>simp_all
theorem iz (l:List Nd) (s:An):mu (DY l s).2<=mu s:=by
 fun_induction DY l s with
 |case1 l s h1 h2 ih=>omega
 |case2 l s h1 h2=>simp_all
 |case3 l s h1=>simp_all
theorem pR {Y:An->Rs} (U:Bn Y) {s:An} (hs:Ep (Ae s).1=true) (h:He Y s=.inr (n,s')):mu s'<mu s:=by
 unfold He at h
 split at h
 .cases h
 .rename_i h1
  have:=OW hs h1
  split at h
  .rename_i h2
   have:=EY h2 Do Do
   have:=RD h
   omega
  .split at h
   .have:=RD h;omega
   .split at h
    .have:=RD h
     have:=iz [‹Nd×An›.1] ‹Nd×An›.2
     omega
    .split at h
     .cases h
     .rename_i h2
      have:=U _ _ _ h2
      split at h
      .cases h
      .rename_i h3
       have:=UW _ _ _ _ h3
       have:=RD h
       omega
theorem kI {Y:An->Rs} (U:Bn Y) {s:An} (hs:Ep (Ae s).1=true) (h:Fu Y s=.inr (n,s')):mu s'<mu s:=by
 unfold Fu at h
 split at h
 .cases h
 .rename_i h1
  have:=OW hs h1
  split at h
  .rename_i h2
   have:=EY h2 Do Do
   grind
  .split at h
   .cases h
   .rename_i h2
    have:=U _ _ _ h2
    have:=RD h
    omega
theorem BQ {Y:An->Rs} (hY:Bn Y):Bn (DS Y):=λs n s' h=>by
 unfold DS at h
 split at h
 .rename_i U
  split at h
  .split at h
   .exact pR hY U h
   .exact kI hY U h
  .exact OW U h
 .cases h
theorem BJ:∀d,Bn (DV d)
 |0=>λs n s' h=>by cases h
 |d+1=>GZ (BQ (BJ d))
theorem Ee {st:St} {K:As->St->Prop} {q:Rs} (h:∀n s',q=.inr (n,s')->∀st',Ii st st' b s'->K (.ret (enc n)) st') (k:∀e s',q=.inl (e,s')->∀st',Ii st st' b s'->K (.B7 (fault e)) st'):E5 st b K q:=by
 match q with
 | .inr (n,s')=>exact h n s' rfl
 | .inl (e,s')=>exact k e s' rfl
theorem Has.hw {st:St} {s:An} (h:Has st b s) (own:AH) (n:Nat):Has (own.st st n) b s:=by
 cases own with
 |any=>exact h
 |full=>exact h
 |tok t=>exact h
theorem gM {own:AH} {st st':St} {n:Nat} {s:An} (hg:own.BM st) (hh:Has st b s) (hu:Ii (own.st st n) st' b s'):∃U,st'=own.st U n/\Ii st U b s'/\own.BM U:=by
 obtain ⟨h1,cs,e⟩:=hu
 cases own with
 |any=>exact hg.elim
 |full=>exact ⟨st',rfl,⟨h1,cs,e⟩,trivial⟩
 |tok t=>
  refine ⟨st.Aa b cs,e,⟨?_,cs,rfl⟩,?_,?_⟩
  .rw [e] at h1;exact h1
  .have:b≠t:=by
    rintro rfl
    have h2:st.box b=none:=hg.1
    rcases hh with k|⟨_,_,_,_,_,k⟩<;>(rw [h2] at k;cases k)
   rw [St.Ak this];exact hg.1
  .exact hg.2
def lI (own:AH) (n:Nat) (st:St) (b:Nat) (R:As->St->Prop):Rs->Prop
 | .inr (x,s')=>∀st',Ii st st' b s'->own.BM st'->R (.ret (enc x)) (own.st st' n)
 | .inl (e,s')=>∀st',Ii st st' b s'->own.BM st'->R (.B7 (fault e)) (own.st st' n)
theorem FM {own:AH} {n:Nat} {st:St} {s:An} {q:Rs} (hg:own.BM st) (hh:Has st b s) (h:lI own n st b R q):E5 (own.st st n) b R q:=by
 refine Ee (λx s' e st' hu=>?_) (λx s' e st' hu=>?_)
 .obtain ⟨U,rfl,h2,h3⟩:=gM hg hh hu
  subst e
  exact h U h2 h3
 .obtain ⟨U,rfl,h2,h3⟩:=gM hg hh hu
  subst e
  exact h U h2 h3
section
variable {st:St} {R:As->St->Prop}
attribute [local irreducible] Go.Aw.Aj
theorem ZZ {t:Tk} (h:R (.ret (.bool (Ep t))) st):PC 391 [FX t] st R:=by
 refine pB Tryz.func391 ?_
 repeat' ((conv=>whnf);first|  (refine Bb ?_ ?_<;>intro _)|fail)
 all_goals conv=>whnf
 all_goals (refine AB h ?_;clear h;simp_all [Ep])
def DC (f:FuncId) (d:Int) (A:An->Rs):Prop:=∀s,mu s<=100000000->Reads f s d (A s)
theorem Fz {s:An} (h:mu s<=100000000):s.Ev.length<=500000000:=by have:=yo s;omega
theorem F8 {s:An} (U:Has st b s) (hb:s.Ev.length<=500000000) (h:E5 st b R (Dp s)):PC 150 [.ptr b 0] st R:=by
 unfold Dp at h
 refine MK U hb (λe=>?_) (λe=>?_)
 .rw [if_pos e] at h;exact h
 .rw [if_neg e] at h;exact h _ A8
theorem zw {s:An} (U:Has st b s) (hb:s.Ev.length<=500000000) (h:∀st',Ii st st' b s->R (.B7 (fault (Va s))) st'):PC 113 [.ptr b 0] st R:=lW U hb (h _ A8)
theorem Tn {s:An} (hs:Has st b s) (hb:s.Ev.length<=500000000) (h:E5 st b R (Mf s k x)):PC 153 [.ptr b 0,.int .i64 k,.str x] st R:=by
 unfold Mf Dp at h
 refine rj hs hb (λU e2=>?_) (λU e2=>?_) (λU=>?_)
 .rw [if_pos U,if_pos e2] at h;exact h
 .rw [if_pos U,if_neg e2] at h;exact h _ A8
 .rw [if_neg (by rw [U];decide)] at h;exact h _ A8
theorem xe {Y:An->Rs} (hr:DC 410 d (He Y)) (hsq:DC 411 d (Fu Y)):DC 390 d (DS Y):=by
 intro s hm b st R hs h
 refine pB Tryz.func390 ?_
 have hb:=Fz hm
 have hl:Has (st.Aa b (C9 s)) b s:=.inl (St.Ai ..)
 unfold DS at h
 repeat' ((conv=>whnf);first|  (refine Bb ?_ ?_<;>intro _)|refine Hd hs hb ?_|refine ZZ ?_|refine F8 hl hb (Ee (λn s' hq st' U=>?_) (λe s' hq st' U=>?_))|refine zw hl hb (λst' U=>?_)|refine hr s hm b _ _ hl (Ee (λn s' hq st' U=>?_) (λe s' hq st' U=>?_))|refine hsq s hm b _ _ hl (Ee (λn s' hq st' U=>?_) (λe s' hq st' U=>?_)))
 all_goals repeat (first|rw [if_pos ‹_›] at h|rw [if_neg ‹_›] at h|rw [if_neg (Bool.eq_false_iff.1 ‹_›)] at h)
 all_goals first
  |exact fin (h st' (A8.trans U)) rfl
  |(rw [hq] at h;exact AF rfl (h st' (A8.trans U)))
  |(rw [hq] at h;exact fin (h st' (A8.trans U)) rfl)
 all_goals trace_state
end
theorem TX {new:List Nd} {own:AH} {st:St} (h:own.BM st) (hb:l.length+new.length<=1000000000)
 (k:∀U:AH,U.BM st->K (.slice 6 (Bg (l++new)) U) (U.st st ((l++new).length*6))):Aj 6 72 (Bg l) own (Bg new) (own.st st (l.length*6)) K:=by
 have hw:(Bg new).map (·.map V.JK)=Bg new:=by
  rw [BF,List.map_map]
  refine List.map_congr_left λx _=>?_
  rfl
 have hsc:((Bg new).all λv=>v.all V.sc)=true:=by
  rw [BF,List.all_map,List.all_eq_true]
  intro x _
  rfl
 have:=EI (sz:=6) (bytes:=72) (es:=Bg l) (new:=Bg new) (K:=K) h (by rw [BL,BL];omega) (by rw [BL,BL];simp only [DR];omega) hsc (λU ho=>by
  have:=k U ho
  rw [BL,BL,hw,<-Pk,<-List.length_append]
  omega)
 rw [BL] at this
 omega
theorem Oh {x:Nd} {own:AH} {st:St} (h:own.BM st) (hb:l.length+1<=1000000000)
 (k:∀U:AH,U.BM st->K (.slice 6 (Bg (l++[x])) U) (U.st st ((l++[x]).length*6))):Aj 6 72 (Bg l) own [AK x] (own.st st (l.length*6)) K:=by
 have:=TX (l:=l) (new:=[x]) h hb k
 rw [BF [x]] at this
 grind
theorem dY {x:Nd} {own:AH} {st:St} (h:own.BM st) (hb:l.length+1<=1000000000)
 (k:∀U:AH,U.BM st->K (.slice 6 (Bg (l++[x])) U) (U.st st ((l++[x]).length*6))):Aj 6 72 (l.map AK) own [AK x] (own.st st (l.length*6)) K:=by
 rw [<-BF]
 exact Oh h hb k
theorem UC {d:Nat} {K:Int->Prop} (h:d<=1000000) (k:K (d:Int)):∃r,r=IntKind.i64.wrap (((d+1:Nat):Int) - 1)/\K r:=by
 refine ⟨d,?_,k⟩
 rw [show ((d+1:Nat):Int) - 1=(d:Int) by omega,LQ AC AC]
section
variable {st:St} {R:As->St->Prop}
attribute [local irreducible] Go.Aw.Aj
theorem Xx {K:As->St->Prop} {q:Rs} {x:Int} (e:q=.inl (x,s')) (h:∀st',Ii st st' b s'->K (.B7 (fault x)) st'):E5 st b K q:=by subst e;exact h
theorem GC {own:AH} {st:St} {K:As->St->Prop} {q:Rs} (h:∀n s',q=.inr (n,s')->∀st',Ii st st' b s'->own.BM st'->K (.ret (enc n)) (own.st st' m)) (k:∀e s',q=.inl (e,s')->∀st',Ii st st' b s'->own.BM st'->K (.B7 (fault e)) (own.st st' m)):lI own m st b K q:=by
 match q with
 | .inr (n,s')=>exact h n s' rfl
 | .inl (e,s')=>exact k e s' rfl
theorem Hz {K:As->St->Prop} {q:Rs} {x:Nd} (e:q=.inr (x,s')) (h:∀st',Ii st st' b s'->K (.ret (enc x)) st'):E5 st b K q:=by subst e;exact h
def DB (f:FuncId) (d:Int) (A:An->Rs):Prop:=∀s,mu s<=100000000->∀(st:St) (R:As->St->Prop),R (.ret (Ko (B9 s d (A s)))) st->PC f [D9 s,.int .i64 d] st R
theorem xM {d:Nat} {A:An->Rs} (hf:DB f d A) (h0:d=0->∀s,A s=.inl (2,s)) (hA:E4 A) {s:An} (hm:mu s<=100000000) (hs:Has st b s) (h:E5 st b R (A s)):
 PC 110 [.ptr b 0,.func f [] [],.int .i64 d] st R:=by
 by_cases hd:(d:Int)<1
 .have hz:d=0:=AC
  rw [h0 hz s] at h
  refine RY (n:=Hv) (s':=s) (e:=2) (λst R k=>hf s hm st R ?_) hs (λe=>by cases e) (λ_=>h)
  unfold B9;rw [if_pos hd];exact k
 .cases U:A s with
  |inr p=>
   rw [U] at h
   refine RY (n:=p.1) (s':=p.2) (e:=0) (λst R k=>hf s hm st R ?_) hs (λ_=>h) (λe=>absurd rfl e)
   unfold B9;rw [if_neg hd,U];exact k
  |inl p=>
   rw [U] at h
   have hne:=hA s p.1 p.2 U
   refine RY (n:=Hv) (s':=p.2) (e:=p.1) (λst R k=>hf s hm st R ?_) hs (λe=>absurd e hne) (λ_=>h)
   unfold B9;rw [if_neg hd,U];exact k
theorem RZ {d:Nat} {x:Int} {A:An->Rs} (hx:x=(d:Int)) (hf:DB f d A) (U:d=0->∀s,A s=.inl (2,s)) (hA:E4 A) {s:An} (hm:mu s<=100000000) (hs:Has st b s) (h:E5 st b R (A s)):
 PC 110 [.ptr b 0,.func f [] [],.int .i64 x] st R:=by subst hx;exact xM hf U hA hm hs h
theorem qu {d:Nat} (hd:d<=1000000) {Y:An->Rs} (hY:DB 318 d Y) (h0:d=0->∀s,Y s=.inl (2,s)) (hB:E4 Y) (hF:Bn Y):DC 411 ((d+1:Nat):Int) (Fu Y):=by
 intro s hm b st R hs h
 refine pB Tryz.func411 ?_
 have hb:=Fz hm
 unfold Fu at h
 cases U:Dp s with
 |inl q=>
  rw [U] at h
  obtain ⟨e,s'⟩:=q
  repeat' ((conv=>whnf);first|(refine AE ?_;intros)|(refine Bb ?_ ?_<;>intro _)|refine F8 hs hb (Xx U (λst1 h1=>?_)))
  all_goals exact fin (h st1 h1) rfl
 |inr q=>
  obtain ⟨n1,s1⟩:=q
  rw [U] at h
  have hm1:mu s1<=100000000:=by have:=(QK U).1;omega
  have hb1:=Fz hm1
  repeat' ((conv=>whnf);first|(refine AE ?_;intros)|(refine Bb ?_ ?_<;>intro _)|refine F8 hs hb (Hz U (λst1 h1=>?_))|refine bZ h1.1 hb1 ?_)
  .have hp:BB s1 15 [93]=true:=FS
   have hl1:Has (st1.Aa b (C9 s1)) b s1:=.inl (St.Ai ..)
   have hq2:Dp s1=.inr (BP (Ae s1).1,(Ae s1).2.1):=by unfold Dp;rw [if_pos (HX hp Do)]
   dsimp only at h
   rw [if_pos hp] at h
   have hn1:[n1].length+1<=1000000000:=by show 1+1<=1000000000;decide
   repeat' ((conv=>whnf);first|(refine AE ?_;intros)|(refine Bb ?_ ?_<;>intro _)|refine F8 hl1 hb1 (Hz hq2 (λst2 h2=>?_))|refine dY (l:=[n1]) (x:=BP (Ae s1).1) (own:=.full) trivial hn1 (λown1 ho1=>?_))
   all_goals exact EK (AH.Bz ho1) rfl (h st2 (h1.trans (A8.trans h2)))
  .have hp:BB s1 15 [93]=false:=FS
   have hl1:Has (st1.Aa b (C9 s1)) b s1:=.inl (St.Ai ..)
   dsimp only at h
   rw [if_neg f9] at h
   have hn1:[n1].length+1<=1000000000:=by show 1+1<=1000000000;decide
   have hn2:∀n2:Nd,([n1]++[n2]).length+1<=1000000000:=λ_=>by simp_all
   repeat' ((conv=>whnf);first|(refine AE ?_;intros)|(refine Bb ?_ ?_<;>intro _)|refine RZ AC hY h0 hB hm1 hl1 (Ee (λn2 s2 hq2 st2 h2=>?_) (λe2 s2 hq2 st2 h2=>?_))|refine dY (l:=[n1]) (x:=n2) (own:=.full) trivial hn1 (λown1 ho1=>?_)|refine Tn (h2.1.hw own1 _) (Fz (Nat.le_trans (Nat.le_of_lt (hF _ _ _ hq2)) hm1)) (FM ho1 h2.1 (GC (λn3 s3 hq3 st3 h3 hg3=>?_) (λe3 s3 hq3 st3 h3 hg3=>?_)))|refine Oh (l:=[n1]++[n2]) (x:=n3) hg3 (hn2 n2) (λown2 ho2=>?_))
   all_goals rw [hq2] at h
   .unfold Jh at h
    dsimp only at h
    rw [hq3] at h
    exact EK (AH.Bz ho2) rfl (h st3 (((h1.trans A8).trans h2).trans h3))
   .unfold Jh at h
    dsimp only at h
    rw [hq3] at h
    exact EK (AH.Bz hg3) rfl (h st3 (((h1.trans A8).trans h2).trans h3))
   .exact fin (h st2 ((h1.trans A8).trans h2)) rfl
end
theorem Pb {x:Nd} {own:AH} {st:St} (h:own.BM st) (hb:l.length+1<=1000000000)
 (k:∀U:AH,U.BM st->K (.slice 6 ((l++[x]).map AK) U) (U.st st ((l++[x]).length*6))):Aj 6 72 (l.map AK) own [AK x] (own.st st (l.length*6)) K:=by
 rw [<-BF]
 exact Oh h hb (by simpa only [BF] using k)
theorem Cb {own:AH}:As.ret (enc (At k l))=(As.ret (.agg [.int .i64 k,.int .i64 0,.str [],.int .i64 0,.int .i64 0,.slice 6 (l.map AK) own])).wk:=by
 rw [<-BF];rfl
theorem uM {A:An->Rs} {s:An} (h:Ep (Ae s).1=true) (U:A s=.inr (n,s')) (hm:mu s'<mu s):Hf A l s=Hf A (l++[n]) s':=by
 rw [Hf,if_pos h,U]
 dsimp only
 rw [if_pos hm]
section
variable {st:St} {R:As->St->Prop}
attribute [local irreducible] Go.Aw.Aj
theorem Cj {K:Nat->Prop} (k:l.length<4611686018427387904->K l.length):∀m,m=(l.map AK).length->m<DR->K m:=λm U h=>by
 rw [List.length_map] at U;subst U;exact k h
theorem WX {own:AH} {st:St} {n:Nat}:(own.st st n).Aa b cs=own.st (st.Aa b cs) n:=by cases own<;>rfl
theorem yp {own:AH} {n:Nat} {s:An} (hg:own.BM st) (U:Has st b s) (hb:s.Ev.length<=500000000) (h:R (.ret (FX (Ae s).1)) (own.st (st.Aa b (C9 s)) n)):PC 112 [.ptr b 0] (own.st st n) R:=
 Hd (U.hw own n) hb (by rw [WX];exact h)
theorem Jm {own:AH} {s:An} (U:own.BM st) (hs:Has st b s):own.BM (st.Aa b cs):=by
 cases own with
 |any=>exact U
 |full=>trivial
 |tok t=>
  have:b≠t:=by
   rintro rfl
   have h2:st.box b=none:=U.1
   rcases hs with k|⟨_,_,_,_,_,k⟩<;>(rw [h2] at k;cases k)
  exact ⟨by rw [St.Ak this];exact U.1,U.2⟩
theorem yn {n1:Nd} {K:List V->Prop} (h:l.length=Int.toNat 1) (j:l.length=1->l=[n1]) (k:K (AK n1)):(0:Int)<=0/\∃e,(l.map AK)[Int.toNat 0]? =some e/\K e:=
 ⟨Int.le_refl _,AK n1,by rw [j h];rfl,k⟩
theorem yJ {A:An->Rs} (ha:DC 390 d A) (hF:Bn A):DC 357 d (Hg A):=by
 intro s hm b st R hs h
 refine pB Tryz.func357 ?_
 unfold Hg at h
 cases U:A s with
 |inl q=>
  obtain ⟨e,s1⟩:=q
  rw [U] at h
  repeat' ((conv=>whnf);first|  (refine Bb ?_ ?_<;>intro _)|refine ha s hm b _ _ hs (Xx U (λst1 h1=>?_)))
  all_goals exact fin (h st1 h1) rfl
 |inr q=>
  obtain ⟨n1,s1⟩:=q
  rw [U] at h
  have hf1:=hF _ _ _ U
  dsimp only at h
  repeat' ((conv=>whnf);first|  (refine Bb ?_ ?_<;>intro _)|refine ha s hm b _ _ hs (Hz U (λst1 h1=>?_)))
  refine B5 (α:=List Nd×An×St×AH) (λx=>[(5,.slice 6 (x.1.map AK) x.2.2.2)]) [0,1,4] (λx=>[]) [0] (λx=>x.2.2.2.st x.2.2.1 (x.1.length*6))
   (λx=>x.2.2.2.BM x.2.2.1/\Ii st x.2.2.1 b x.2.1/\x.1≠[]/\x.1.length+mu x.2.1<=200000000/\mu x.2.1<=mu s1/\Hf A x.1 x.2.1=Hf A [n1] s1/\(x.1.length=1->x.1=[n1])) (λx=>mu x.2.1) ([n1],s1,st1,.full)
   ⟨trivial,h1,GT,by show 1+mu s1<=_;omega,Nat.le_refl _,rfl,λ_=>rfl⟩ Yl (St.le_refl _) ?_
  rintro ⟨l,s2,st2,own⟩ ⟨j1,j2,j3,j4,j5,j6,j7⟩
  dsimp only at j1 j2 j3 j4 j5 j6 j7
  have hm2:mu s2<=100000000:=AC
  have hb2:=Fz hm2
  have hl3:Has (st2.Aa b (C9 s2)) b s2:=.inl (St.Ai ..)
  have g3:own.BM (st2.Aa b (C9 s2)):=Jm j1 j2.1
  have u3:Ii st (st2.Aa b (C9 s2)) b s2:=j2.trans A8
  have hn:l.length+1<=1000000000:=AC
  repeat' ((conv=>whnf);first|  (refine Bb ?_ ?_<;>intro _)|refine yp j1 j2.1 hb2 ?_|refine ZZ ?_|refine ha s2 hm2 b _ _ (hl3.hw own _) (FM g3 hl3 (GC (λn2 s4 hq2 st4 h4 g4=>?_) (λe2 s4 hq2 st4 h4 g4=>?_)))|refine Pb (l:=l) g4 hn (λown' ho'=>?_)|refine Cj (λ_=>?_)|refine yn ‹_› j7 ?_)
  .have hd:=hF _ _ _ hq2
   refine ⟨(l++[n2],s4,st4,own'),⟨ho',u3.trans h4,GT,by show (l++[n2]).length+mu s4<=_;rw [List.length_append,List.length_singleton];omega,by show mu s4<=_;omega,?_,?_⟩,hd,Yl,St.le_refl _⟩
   .show Hf A (l++[n2]) s4=_
    rw [<-j6,uM (l:=l) ‹_› hq2 hd]
   .intro e
    have:=List.length_pos_iff.2 j3
    have e:(l++[n2]).length=1:=e
    rw [List.length_append,List.length_singleton] at e
    omega
  .have hr:Hf A l s2=.inl (e2,s4):=by rw [Hf,if_pos ‹_›,hq2]
   rw [<-j6,hr] at h
   exact EK (AH.Bz g4) rfl (h st4 (u3.trans h4))
  .have hr:Hf A l s2=.inr (l,s2):=by rw [Hf,if_neg (Bool.eq_false_iff.1 ‹_›)]
   rw [<-j6,hr] at h
   dsimp only at h
   rw [if_pos ‹_›] at h
   exact EK (AH.Bz g3) rfl (h _ u3)
  .have hr:Hf A l s2=.inr (l,s2):=by rw [Hf,if_neg (Bool.eq_false_iff.1 ‹_›)]
   rw [<-j6,hr] at h
   dsimp only at h
   rw [if_neg ‹_›] at h
   exact EK (AH.Bz g3) Cb (h _ u3)
end
theorem lN {x y:Nd} {own:AH} {st:St} (h:own.BM st) (hb:l.length+2<=1000000000)
 (k:∀U:AH,U.BM st->K (.slice 6 ((l++[x,y]).map AK) U) (U.st st ((l++[x,y]).length*6))):Aj 6 72 (l.map AK) own [AK x,AK y] (own.st st (l.length*6)) K:=by
 rw [<-BF]
 have:=TX (l:=l) (new:=[x,y]) h hb (by simpa only [BF] using k)
 rw [BF [x,y]] at this
 grind
theorem rN {A:An->Rs} {s:An} (h:BB s 10 [45,62]=true) (U:Hg A (Ae s).2.1=.inr (n,s')) (hm:mu s'<mu s):HO A l s=HO A (l++[BP (Ae s).1,n]) s':=by
 rw [HO,if_pos h,U]
 simp_all
theorem Kh {s:An} (h:BB s k x=true) (U:k≠0):Dp s=.inr (BP (Ae s).1,(Ae s).2.1):=by unfold Dp;rw [if_pos (HX h U)]
section
variable {st:St} {R:As->St->Prop}
attribute [local irreducible] Go.Aw.Aj
theorem xN {own:AH} {n:Nat} {s:An} (U:Has st b s) (hb:s.Ev.length<=500000000) (h:R (.ret (.bool (BB s k x))) (own.st (st.Aa b (C9 s)) n)):PC 149 [.ptr b 0,.int .i64 k,.str x] (own.st st n) R:=
 bZ (U.hw own n) hb (by rw [WX];exact h)
theorem Tb {own:AH} {n:Nat} {st:St} {s:An} {q:Rs} {x:Nd} (U:own.BM st) (hh:Has st b s) (e:q=.inr (x,s')) (h:∀st',Ii st st' b s'->own.BM st'->R (.ret (enc x)) (own.st st' n)):E5 (own.st st n) b R q:=
 FM U hh (by subst e;exact h)
def aK (f:FuncId) (d:Int) (A:Nd->An->Rs):Prop:=∀n s,mu s<=100000000->∀(b:Nat) (st:St) (R:As->St->Prop),Has st b s->E5 st b R (A n s)->PC f [.ptr b 0,enc n,.int .i64 d] st R
theorem XM {A:An->Rs} (hr:DC 357 d (Hg A)) (hF:Bn A):aK 392 d (Em A):=by
 intro n1 s1 hm b st R hs h
 refine pB Tryz.func392 ?_
 unfold Em at h
 repeat' ((conv=>whnf);first|  (refine Bb ?_ ?_<;>intro _)|fail)
 refine B5 (α:=List Nd×An×St×AH) (λx=>[(7,.slice 6 (x.1.map AK) x.2.2.2)]) [0,2,4,6] (λx=>[]) [0,1] (λx=>x.2.2.2.st x.2.2.1 (x.1.length*6))
  (λx=>x.2.2.2.BM x.2.2.1/\Has x.2.2.1 b x.2.1/\(∃s0,Ii st x.2.2.1 b s0\/x.2.2.1=st)/\x.1≠[]/\x.1.length+2*mu x.2.1<=400000000/\mu x.2.1<=mu s1/\HO A x.1 x.2.1=HO A [n1] s1) (λx=>mu x.2.1) ([n1],s1,st,.full)
  ⟨trivial,hs,⟨s1,.inr rfl⟩,GT,by grind,Nat.le_refl _,rfl⟩ Yl (St.le_refl _) ?_
 rintro ⟨l,s2,U,own⟩ ⟨j1,j2,j3,j4,j5,j6,j7⟩
 dsimp only at j1 j2 j3 j4 j5 j6 j7
 have hm2:mu s2<=100000000:=AC
 have hb2:=Fz hm2
 have hl3:Has (U.Aa b (C9 s2)) b s2:=.inl (St.Ai ..)
 have g3:own.BM (U.Aa b (C9 s2)):=Jm j1 j2
 have up:∀{st4 s4},Ii U st4 b s4->Ii st st4 b s4:=λ{st4 s4} hu=>by
  obtain ⟨s0,h3|h3⟩:=j3
  .exact h3.trans hu
  simp_all
 have hn:l.length+2<=1000000000:=AC
 have hm4:BB s2 10 [45,62]=true->mu (Ae s2).2.1<=100000000:=λe=>by have:=EY e Do Do;omega
 repeat' ((conv=>whnf);first|  (refine Bb ?_ ?_<;>intro _)|refine xN j2 hb2 ?_|refine F8 (hl3.hw own _) hb2 (Tb g3 hl3 (Kh ‹_› Do) (λst4 h4 g4=>?_))|refine hr _ (hm4 ‹_›) b _ _ (h4.1.hw own _) (FM g4 h4.1 (GC (λn2 s5 hq2 st5 h5 g5=>?_) (λe2 s5 hq2 st5 h5 g5=>?_)))|refine lN (l:=l) (x:=BP (Ae s2).1) (y:=n2) g5 hn (λown' ho'=>?_)|refine Cj (λ_=>?_))
 .have hp:BB s2 10 [45,62]=true:=FS
  have hd:=FH hF _ _ _ hq2
  have hd2:=EY hp Do Do
  have hd3:mu s5<mu s2:=AC
  have hu:=(A8 (st:=U) (b:=b) (s:=s2)).trans (h4.trans h5)
  refine ⟨(l++[BP (Ae s2).1,n2],s5,st5,own'),⟨ho',h5.1,⟨s5,.inl (up hu)⟩,GT,?_,by grind,?_⟩,hd3,Yl,St.le_refl _⟩
  .grind
  .show HO A (l++[BP (Ae s2).1,n2]) s5=_
   rw [<-j7,rN (l:=l) hp hq2 hd3]
 .have hp:BB s2 10 [45,62]=true:=FS
  have hu:=(A8 (st:=U) (b:=b) (s:=s2)).trans (h4.trans h5)
  have hr:HO A l s2=.inl (e2,s5):=by rw [HO,if_pos hp,hq2]
  rw [<-j7,hr] at h
  exact EK (AH.Bz g5) rfl (h st5 (up hu))
 .have hr:HO A l s2=.inr (l,s2):=by rw [HO,if_neg (Bool.eq_false_iff.1 AC)]
  rw [<-j7,hr] at h
  dsimp only at h
  rw [if_pos (by grind)] at h
  exact EK (AH.Bz g3) rfl (h _ (up A8))
 .have hr:HO A l s2=.inr (l,s2):=by rw [HO,if_neg (Bool.eq_false_iff.1 AC)]
  rw [<-j7,hr] at h
  dsimp only at h
  rw [if_neg (by grind)] at h
  exact EK (AH.Bz g3) Cb (h _ (up A8))
theorem vD {A:An->Rs} (hr:DC 357 d (Hg A)) (ha:aK 392 d (Em A)) (hF:Bn A):DC 358 d (EF A):=by
 intro s hm b st R hs h
 refine pB Tryz.func358 ?_
 unfold EF at h
 have hm1:∀{n1 s1},Hg A s=.inr (n1,s1)->mu s1<=100000000:=λe=>by have:=FH hF _ _ _ e;omega
 repeat' ((conv=>whnf);first|  refine hr s hm b _ _ hs (Ee (λn1 s1 U st1 h1=>?_) (λe1 s1 U st1 h1=>?_))|refine ha n1 s1 (hm1 U) b _ _ h1.1 (Ee (λn2 s2 hq2 st2 h2=>?_) (λe2 s2 hq2 st2 h2=>?_)))
 all_goals rw [U] at h
 all_goals dsimp only at h
 .rw [hq2] at h;exact AF rfl (h st2 (h1.trans h2))
 .rw [hq2] at h;exact fin (h st2 (h1.trans h2)) rfl
 .exact fin (h st1 h1) rfl
end
abbrev Er:={e:Int // e≠0}
abbrev Rv (α:Type):=Sum (Er×An) (α×An)
structure Rd (α:Type) where
 run:An->Rv α
 le:∀s v s',run s=.inr (v,s')->mu s'<=mu s
namespace Rd
variable {α β γ σ:Type}
def ret (v:α):Rd α:=⟨λs=>.inr (v,s),λs U s' h=>by simp_all⟩
def seq (m:Rd α) (k:α->Rd β):Rd β:=⟨λs=>match m.run s with
 | .inl e=>.inl e
 | .inr p=>(k p.1).run p.2,λs v s' h=>by
 cases U:m.run s with
 |inl e=>simp_all
 |inr p=>rw [U] at h;exact Nat.le_trans ((k p.1).le _ _ _ h) (m.le _ _ _ U)⟩
def fail (e:Er):Rd α:=⟨λs=>.inl (e,s),λs v s' h=>by cases h⟩
def Ha (t:An) (e:Er):Rd α:=⟨λ_=>.inl (e,t),λs v s' h=>by cases h⟩
def look (f:An->Rd α):Rd α:=⟨λs=>(f s).run s,λs v s' h=>(f s).le _ _ _ h⟩
def iter (body:σ->Rd (Sum σ β)) (x:σ) (s:An):Rv β:=
 match (body x).run s with
 | .inl e=>.inl e
 | .inr (.inr y,s')=>.inr (y,s')
 | .inr (.inl U,s')=>if mu s'<mu s then iter body U s' else .inl (⟨2,Do⟩,s)
termination_by mu s
theorem tu (body:σ->Rd (Sum σ β)) (x:σ) (s:An):∀v s',iter body x s=.inr (v,s')->mu s'<=mu s:=by
 fun_induction iter body x s with
 |case1 x s e h=>simp_all
 |case2 x s y s1 h=>intro v s' h';cases h';exact (body x).le _ _ _ h
 |case3 x s x' s1 h U ih=>grind
 |case4 x s x' s1 h U=>simp_all
def loop (body:σ->Rd (Sum σ β)) (x:σ):Rd β:=⟨iter body x,tu body x⟩
theorem oA {body:σ->Rd (Sum σ β)} {w:σ->Nat} {w':β->Nat} {c:Nat} (h1:∀x s U s',(body x).run s=.inr (.inl U,s')->w U<=w x+4) (h2:∀x s y s',(body x).run s=.inr (.inr y,s')->w' y<=w x+c) (x:σ) (s:An):
 ∀y s',(loop body x).run s=.inr (y,s')->w' y+4*mu s'<=w x+c+4*mu s:=by
 show ∀y s',iter body x s=.inr (y,s')->_
 fun_induction iter body x s with
 |case1 x s e h=>simp_all
 |case2 x s y s1 h=>intro y s' h';cases h';have:=h2 _ _ _ _ h;have:=(body x).le _ _ _ h;omega
 |case3 x s U s1 h hlt ih=>grind
 |case4 x s U s1 h hlt=>simp_all
def wp (m:Rd α) (s:An) (Q:α->An->Prop) (E:Er->An->Prop):Prop:=match m.run s with
 | .inl p=>E p.1 p.2
 | .inr p=>Q p.1 p.2
theorem wp_ret {v:α} {s:An} {Q:α->An->Prop} {E:Er->An->Prop}:wp (ret v) s Q E=Q v s:=rfl
theorem wp_seq {m:Rd α} {k:α->Rd β} {s:An} {Q:β->An->Prop} {E:Er->An->Prop}:wp (seq m k) s Q E=wp m s (λv s'=>wp (k v) s' Q E) E:=by
 unfold wp seq
 grind
theorem Es {e:Er} {s:An} {Q:α->An->Prop} {E:Er->An->Prop}:wp (fail e) s Q E=E e s:=rfl
theorem Du {e:Er} {s t:An} {Q:α->An->Prop} {E:Er->An->Prop}:wp (Ha t e) s Q E=E e t:=rfl
theorem Ah {f:An->Rd α} {s:An} {Q:α->An->Prop} {E:Er->An->Prop}:wp (look f) s Q E=wp (f s) s Q E:=rfl
theorem Aq {c:Prop} [Decidable c] {a b:Rd α} {s:An} {Q:α->An->Prop} {E:Er->An->Prop}:wp (if c then a else b) s Q E=if c then wp a s Q E else wp b s Q E:=by grind
def again (body:σ->Rd (Sum σ β)) (s:An) (Q:β->An->Prop) (E:Er->An->Prop):Sum σ β->An->Prop
 | .inr y,s'=>Q y s'
 | .inl x,s'=>if mu s'<mu s then wp (loop body x) s' Q E else E ⟨2,Do⟩ s
theorem wp_loop {body:σ->Rd (Sum σ β)} {x:σ} {s:An} {Q:β->An->Prop} {E:Er->An->Prop}:wp (loop body x) s Q E=wp (body x) s (again body s Q E) E:=by
 have e:(loop body x).run s=match (body x).run s with
  | .inl e=>.inl e
  | .inr (.inr y,s')=>.inr (y,s')
  | .inr (.inl x',s')=>if mu s'<mu s then (loop body x').run s' else .inl (⟨2,Do⟩,s):=by
  show iter body x s=_
  rw [iter]
  rfl
 unfold wp
 rw [e]
 cases hb:(body x).run s with
 |inl p=>rfl
 |inr p=>
  obtain ⟨r,s'⟩:=p
  cases r with
  |inr y=>rfl
  |inl x'=>
   dsimp only [again]
   by_cases U:mu s'<mu s
   .rw [if_pos U,if_pos U];rfl
   grind
theorem BI {body:σ->Rd (Sum σ β)} {s:An} {Q:β->An->Prop} {E:Er->An->Prop} {y:β}:again body s Q E (.inr y) s'=Q y s':=rfl
theorem E6 {body:σ->Rd (Sum σ β)} {s:An} {Q:β->An->Prop} {E:Er->An->Prop} {x:σ} (h:again body s Q E (.inl x) s') (U:mu s'<mu s):wp (loop body x) s' Q E:=by
 have h:if mu s'<mu s then wp (loop body x) s' Q E else E ⟨2,Do⟩ s:=h
 simp_all
theorem wp_mono {m:Rd α} {s:An} {Q Q':α->An->Prop} {E E':Er->An->Prop} (h:wp m s Q E) (hq:∀v s',m.run s=.inr (v,s')->Q v s'->Q' v s') (U:∀e s',m.run s=.inl (e,s')->E e s'->E' e s'):wp m s Q' E':=by
 unfold wp at h |-
 grind
theorem aE {m:Rd α} {s:An} {Q:α->An->Prop} {E:Er->An->Prop} (hq:∀v s',m.run s=.inr (v,s')->Q v s') (U:∀e s',m.run s=.inl (e,s')->E e s'):wp m s Q E:=by
 unfold wp
 grind
def Bn (m:Rd α):Prop:=∀s v s',m.run s=.inr (v,s')->mu s'<mu s
theorem Bn.seq {m:Rd α} {k:α->Rd β} (h:Bn m):Bn (seq m k):=λs v s' e=>by
 unfold Rd.seq at e
 dsimp only at e
 split at e
 .cases e
 .exact Nat.lt_of_le_of_lt ((k _).le _ _ _ e) (h _ _ _ ‹_›)
theorem Bn.at {m:Rd α} {k:α->Rd β} {s s':An} {v:β} (h:∀v s',m.run s=.inr (v,s')->mu s'<mu s) (e:(Rd.seq m k).run s=.inr (v,s')):mu s'<mu s:=by
 unfold Rd.seq at e
 dsimp only at e
 split at e
 .cases e
 .exact Nat.lt_of_le_of_lt ((k _).le _ _ _ e) (h _ _ ‹_›)
theorem Bn.look {f:An->Rd α} (h:∀s v s',(f s).run s=.inr (v,s')->mu s'<mu s):Bn (look f):=λs v s' e=>h s v s' e
end Rd
def H0 (A:An->Rs) (hle:∀s v s',A s=.inr (v,s')->mu s'<=mu s):Rd Nd:=⟨λs=>match A s with
 | .inl p=>if h:p.1=0 then .inl (⟨2,Do⟩,p.2) else .inl (⟨p.1,h⟩,p.2)
 | .inr p=>.inr p,λs v s' h=>by
 grind⟩
theorem Zd {A:An->Rs} {hle:∀s v s',A s=.inr (v,s')->mu s'<=mu s} (U:E4 A) {s:An} {e:Int} (h:A s=.inl (e,s')):(H0 A hle).run s=.inl (⟨e,U _ _ _ h⟩,s'):=by
 unfold H0
 grind
theorem WH {A:An->Rs} {hle:∀s v s',A s=.inr (v,s')->mu s'<=mu s} {s:An} {p:Nd×An} (h:A s=.inr p):(H0 A hle).run s=.inr p:=by
 unfold H0
 simp_all
def A4:Rd Nd:=H0 Dp λs v s' h=>(QK h).1
def Q2 {α:Type}:Rd α:=⟨λs=>.inl (⟨Va s,Vb s⟩,s),λs v s' h=>by cases h⟩
def BG (k:Int) (x:List UInt8):Rd Nd:=.look λs=>if BB s k x=true then A4 else Q2
def C8 (ks:List Int):Rd Nd:=.look λs=>if ks.contains (Ae s).1.kind=true then A4 else Q2
def K7:Rd Unit:=.seq A4 λ_=>.ret ()
theorem qH {s:An} (h:BB s k x=true) (U:k≠0):A4.run s=.inr (BP (Ae s).1,(Ae s).2.1):=WH (Kh h U)
theorem Fl {s:An} (h:(Ae s).2.2=0):A4.run s=.inr (BP (Ae s).1,(Ae s).2.1):=WH (by unfold Dp;simp_all)
theorem N8 {s:An} (h:¬(Ae s).2.2=0):A4.run s=.inl (⟨(Ae s).2.2,h⟩,s):=by
 have e:Dp s=.inl ((Ae s).2.2,s):=by unfold Dp;rw [if_neg h]
 exact Zd Jb e
theorem H7 {s:An} {v:Nd} (h:A4.run s=.inr (v,s')) (U:(Ae s).1.kind≠21):mu s'<mu s:=by
 by_cases e:(Ae s).2.2=0
 .rw [Fl e] at h;cases h;exact (Eo e).2 U
 .rw [N8 e] at h;cases h
theorem Fq {s:An} (h:(Ae s).1.kind≠0):(Ae s).2.2=0:=by
 apply Classical.byContradiction
 intro e
 rw [Y8 e] at h
 exact h rfl
theorem Mr (U:k≠21):Rd.Bn (BG k x):=Rd.Bn.look λs v s' h=>by
 split at h
 .rename_i hi
  refine H7 h λe=>U ?_
  unfold BB at hi
  simp_all
 .cases h
theorem bG {ks:List Int} (U:ks.contains 21=false):Rd.Bn (C8 ks):=Rd.Bn.look λs v s' h=>by
 split at h
 .rename_i hi
  exact H7 h λe=>by simp_all
 .cases h
abbrev MS (f:FuncId) (args:List V) (st:St) (R:As->St->Prop):Prop:=Bo Tryz.prog f args st R
def JV (x:Int):List Int->Int->Int
 |[],_=> -1
 |y::r,i=>if x=y then i else JV x r (i+1)
theorem RW {x:Int}:∀{l:List Int} {i:Int},0<=i->(0<=JV x l i↔l.contains x=true)
 |[],i,h=>by simp [JV]
 |y::r,i,h=>by
  simp only [JV]
  split
  .simp_all
  .rename_i e
   rw [RW AC]
   simp [e]
theorem nG {x:Int} {st:St} {own:AH} (h:R (.ret (.int .i64 (JV x kinds 0))) st):MS 364 [.slice 1 (ints kinds) own,.int .i64 x] st R:=by
 refine pB Tryz.func364 ?_
 have hlen:(ints kinds).length=kinds.length:=by simp [ints]
 intro m hm hl
 rw [hlen] at hm
 subst hm
 conv=>whnf
 refine ⟨Nat,λk=>{tmps:=[(8,.int .i64 k),(7,.int .i64 kinds.length),(0,.slice 1 (ints kinds) own),(1,.int .i64 x)],boxes:=[],BU:=0,sz:=19,gl:=[]},λ_=>st,
  λk=>k<=kinds.length/\JV x kinds 0=JV x (kinds.drop k) k,λk=>kinds.length - k,0,⟨Nat.zero_le _,rfl⟩,⟨rfl,⟨rfl,rfl,rfl,rfl,rfl,rfl,rfl,rfl,trivial⟩,trivial,rfl⟩,St.le_refl _,?_⟩
 rintro k ⟨hk,hi⟩
 refine Wh (λh1=>?_) (λh1=>?_)
 .have U:k<kinds.length:=AC
  have he:(ints kinds)[(k:Int).toNat]? =some [.int .i64 kinds[k]]:=by simp [ints,U]
  refine ⟨AC,_,he,?_⟩
  have hd:JV x (kinds.drop k) k=if x=kinds[k] then (k:Int) else JV x (kinds.drop (k+1)) (k+1):=by
   rw [List.drop_eq_getElem_cons U];rfl
  refine Wg (λh2=>?_) (λh2=>?_)
  .exact fin h f9
  .refine ⟨((k+1:Nat):Int),?_,?_⟩
   .simp only [DR] at hl
    rw [LQ AC AC];rfl
   .refine ⟨k+1,⟨U,?_⟩,by grind,⟨rfl,⟨rfl,rfl,rfl,rfl,rfl,rfl,rfl,rfl,trivial⟩,trivial,rfl⟩,St.le_refl _⟩
    simp_all
 .refine fin h ?_
  have:k=kinds.length:=AC
  rw [hi,this,List.drop_length];rfl
section
variable {st:St} {R:As->St->Prop}
theorem Pg {x:Int} {own:AH} (h:R (.ret (.bool (kinds.contains x))) st):MS 325 [.slice 1 (ints kinds) own,.int .i64 x] st R:=by
 refine pB Tryz.func325 ?_
 refine nG ?_
 have key:=RW (x:=x) (l:=kinds) (i:=0) AC
 refine Wh (λh1=>?_) (λh1=>?_)
 .exact AB h (key.1 h1)
 .refine AB h ?_
  simp_all
def Eb (n:Nd) (kinds:List Int):Bool:=n.kind==1&&kinds.contains n.form
theorem Jq {own:AH} (h:R (.ret (.bool (Eb n kinds))) st):MS 380 [enc n,.slice 1 (ints kinds) own] st R:=by
 refine pB Tryz.func380 ?_
 unfold Eb at h
 repeat' ((conv=>whnf);first|  (refine L3 ?_ ?_<;>intro _)|refine Pg ?_)
 all_goals exact AB h f9
def JD (n:Nd) (k:Int) (t:List UInt8):Bool:=Eb n [k]&&n.text==t
theorem MG (h:R (.ret (.bool (JD n k t))) st):MS 381 [enc n,.int .i64 k,.str t] st R:=by
 refine pB Tryz.func381 ?_
 unfold JD at h
 repeat' ((conv=>whnf);first|  (refine L3 ?_ ?_<;>intro _)|refine Jq (kinds:=[k]) ?_)
 all_goals exact AB h f9
def Dl (n:Nd) (o s:List UInt8):Option (List Nd):=
 if 2<=n.kids.length/\n.kids[0]?.any (JD · 15 o)=true/\n.kids[n.kids.length - 1]?.any (JD · 15 s)=true then some ((n.kids.take (n.kids.length - 1)).drop 1) else none
theorem Jk (U:∀l,Dl n o s=some l->R (.ret (.Bc [.slice 6 (Bg l) .any,.bool true])) st)
 (hn:Dl n o s=none->R (.ret (.Bc [.slice 6 [] .any,.bool false])) st):MS 376 [enc n,.str o,.str s] st R:=by
 refine pB Tryz.func376 ?_
 repeat' ((conv=>whnf);first|(refine QO ?_;intros)|(refine L3 ?_ ?_<;>intro _)|refine MG ?_)
 .exact VG (hn (by simp [Dl];omega)) rfl
 all_goals
  have e:((n.kids.length:Int) - 1).toNat=n.kids.length - 1:=AC
  simp only [e,Int.toNat_zero,Int.reduceToNat] at *
  first
   |exact VG (U _ (by simp_all [Dl];omega)) rfl
   |exact VG (hn (by simp_all [Dl])) rfl
theorem bR (h:Dl n o s=some l):l.length+2=n.kids.length:=by
 simp only [Dl] at h
 grind
theorem VK (U:∀l,Dl n o s=some l->l.length+2=n.kids.length->R (.ret (.Bc [.slice 6 (Bg l) .any,.bool true])) st)
 (hn:Dl n o s=none->R (.ret (.Bc [.slice 6 [] .any,.bool false])) st):MS 376 [enc n,.str o,.str s] st R:=
 Jk (λl h=>U l h (bR h)) hn
def O9:Nd:=.mk 0 0 [] 0 0 []
def Qo (n:Nd):Bool:=Eb n [6,8]||JD n 10 [58]
theorem YV (h:R (.ret (.bool (Qo n))) st):MS 407 [enc n] st R:=by
 refine pB Tryz.func407 ?_
 repeat' ((conv=>whnf);first|  (refine L3 ?_ ?_<;>intro _)|refine Jq (kinds:=[6,8]) ?_|refine MG ?_)
 all_goals conv=>whnf
 all_goals (refine AB h ?_;clear h;simp_all [Qo])
def OJ (n:Nd):Option Nd:=if n.kind=3 then (match Dl n [40] [41] with|some l=>if l.length=1 then l[0]? else none|none=>none) else none
theorem Y4 (U:∀x,OJ n=some x->R (.ret (.Bc [enc x,.bool true])) st) (hn:OJ n=none->R (.ret (.Bc [enc O9,.bool false])) st):MS 402 [enc n] st R:=by
 refine pB Tryz.func402 ?_
 repeat' ((conv=>whnf);first|(refine QO ?_;intros)|(refine L3 ?_ ?_<;>intro _)|refine Jk (λl hl=>?_) (λhl=>?_))
 all_goals conv=>whnf
 all_goals first
  |exact AF rfl (U _ (by clear U hn;simp_all [OJ]))
  |exact AF rfl (hn (by clear U hn;simp_all [OJ]))
def GF (n:Nd):Option (List UInt8):=
 if Eb n [1] then some n.text else match OJ n with|some x=>if Eb x [5] then some x.text else none|none=>none
theorem MO (U:∀t,GF n=some t->R (.ret (.Bc [.str t,.bool true])) st) (hn:GF n=none->R (.ret (.Bc [.str [],.bool false])) st):MS 377 [enc n] st R:=by
 refine pB Tryz.func377 ?_
 repeat' ((conv=>whnf);first|(refine QO ?_;intros)|(refine L3 ?_ ?_<;>intro _)|refine Y4 (λl hl=>?_) (λhl=>?_)|refine Jq (kinds:=[1]) ?_|refine Jq (kinds:=[5]) ?_)
 all_goals conv=>whnf
 all_goals first
  |exact AF rfl (U _ (by clear U hn;simp_all [GF]))
  |exact AF rfl (hn (by clear U hn;simp_all [GF]))
def Si (n:Nd):Bool:=Eb n [2,4]||(match OJ n with|some x=>Qo x|none=>false)
theorem V0 (h:R (.ret (.bool (Si n))) st):MS 385 [enc n] st R:=by
 refine pB Tryz.func385 ?_
 repeat' ((conv=>whnf);first|(refine QO ?_;intros)|(refine L3 ?_ ?_<;>intro _)|refine Y4 (λl U=>?_) (λU=>?_)|refine Jq (kinds:=[2,4]) ?_|refine YV ?_)
 all_goals conv=>whnf
 all_goals (refine AB h ?_;clear h;simp_all [Si])
def Ej (n:Nd):Nd×Bool:=
 if n.kind=18 then (if n.kids.length=1 then ((n.kids[0]?.getD O9),false) else if n.kids.length=3 then (match Dl n [96] [96] with|some l=>((l[0]?.getD O9),true)|none=>(O9,false)) else (O9,false)) else (O9,false)
theorem Pt (h:R (.ret (.Bc [enc (Ej n).1,.bool (Ej n).2])) st):MS 403 [enc n] st R:=by
 refine pB Tryz.func403 ?_
 repeat' ((conv=>whnf);first|(refine QO ?_;intros)|(refine L3 ?_ ?_<;>intro _)|refine VK (λl U hk=>?_) (λU=>?_))
 all_goals conv=>whnf
 all_goals refine AF ?_ h
 all_goals clear h
 all_goals simp_all [Ej]
 all_goals rfl
def V1 (n:Nd):Bool:=if (Ej n).2 then Eb (Ej n).1 [2,4] else Qo (Ej n).1
theorem fp (h:R (.ret (.bool (V1 n))) st):MS 408 [enc n] st R:=by
 refine pB Tryz.func408 ?_
 repeat' ((conv=>whnf);first|  (refine L3 ?_ ?_<;>intro _)|refine Pt ?_|refine Jq (kinds:=[2,4]) ?_|refine YV ?_)
 all_goals conv=>whnf
 all_goals (refine AB h ?_;clear h;simp_all [V1])
def Q5 (n:Nd):Option (List UInt8):=
 if (if (Ej n).2 then Eb (Ej n).1 [1] else Eb (Ej n).1 [5]) then some (Ej n).1.text else none
theorem sg (U:∀t,Q5 n=some t->R (.ret (.Bc [.str t,.bool true])) st) (hn:Q5 n=none->R (.ret (.Bc [.str [],.bool false])) st):MS 378 [enc n] st R:=by
 refine pB Tryz.func378 ?_
 repeat' ((conv=>whnf);first|  (refine L3 ?_ ?_<;>intro _)|refine Pt ?_|refine Jq (kinds:=[1]) ?_|refine Jq (kinds:=[5]) ?_)
 all_goals conv=>whnf
 all_goals first
  |exact AF rfl (U _ (by clear U hn;simp_all [Q5]))
  |exact AF rfl (hn (by clear U hn;simp_all [Q5]))
def Dd (f:FuncId) (p:Nd->Bool) (x:Nd):Prop:=∀(st:St) (R:As->St->Prop),R (.ret (.bool (p x))) st->MS f [enc x] st R
def J6 (p:Nd->Bool):Bool->List Nd->Bool
 |_,[]=>true
 |b,x::r=>(if b then JD x 15 [44] else p x)&&J6 p (!b) r
def NT (p:Nd->Bool) (l:List Nd):Bool:=l.length % 2==1&&J6 p false l
theorem cY {k:Nat} {x:Nd} (h:l[k]? =some x):
 J6 p (k % 2==1) (l.drop k)=((if k % 2=1 then JD x 15 [44] else p x)&&J6 p ((k+1) % 2==1) (l.drop (k+1))):=by
 rw [drop_at h,J6]
 have:(!(k % 2==1))=((k+1) % 2==1):=by
  rcases Nat.mod_two_eq_zero_or_one k with e|e
  .grind
  .grind
 grind
theorem Zi (hf:∀x ∈ l,Dd f p x) (h:R (.ret (.bool (NT p l))) st):MS 405 [.slice 6 (Bg l) .any,.func f [] []] st R:=by
 refine pB Tryz.func405 ?_
 repeat' ((conv=>whnf);first|(refine QO ?_;intros)|(refine L3 ?_ ?_<;>intro _)|refine MG ?_)
 .conv=>whnf
  refine AB h ?_
  have:=GD.1 ‹_›
  simp [NT,this]
 .refine KU 13 [11,12,1] l.length (λk=>k<=l.length/\(J6 p false l=J6 p (k % 2==1) (l.drop k))) ⟨Nat.zero_le _,rfl⟩ Yl ?_
  rintro k ⟨U,hi⟩
  repeat' ((conv=>whnf);first|(refine QO ?_;intros)|(refine L3 ?_ ?_<;>intro _)|refine MG ?_|refine hf _ ‹_› _ _ ?_)
  all_goals conv=>whnf
  all_goals simp only [GD,JI,Int.toNat_natCast] at *
  all_goals try (have e:=cY (p:=p) ‹l[k]? =some _›;rw [e] at hi;clear e)
  all_goals try omega
  all_goals first
   |(refine ⟨k+1,⟨AC,?_⟩,AC,Yl,St.le_refl _⟩;clear h;simp_all)
   |(refine AB h ?_;clear h;simp_all [NT])
  rw [List.drop_eq_nil_of_le AC];rfl
def CS (p:Nd->Bool):List Nd->Int->Int
 |[],_=> -1
 |y::r,i=>if p y then i else CS p r (i+1)
theorem HW {p:Nd->Bool}:∀{l:List Nd} {i:Int},0<=i->(0<=CS p l i↔l.any p=true)
 |[],i,h=>by simp [CS]
 |y::r,i,h=>by
  simp only [CS,List.any_cons]
  split
  .simp_all
  .rename_i e
   rw [HW AC]
   simp [e]
theorem VQ {st:St}
 (hf:∀x ∈ l,Dd f p x) (h:R (.ret (.int .i64 (CS p l 0))) st):MS 365 [.slice 6 (Bg l) .any,.func f [] []] st R:=by
 refine pB Tryz.func365 ?_
 repeat' ((conv=>whnf);first|(refine QO ?_;intros)|(refine L3 ?_ ?_<;>intro _))
 refine KU 8 [6,7,0,1] l.length (λk=>k<=l.length/\(CS p l 0=CS p (l.drop k) k)) ⟨Nat.zero_le _,rfl⟩ Yl ?_
 rintro k ⟨U,hi⟩
 repeat' ((conv=>whnf);first|(refine QO ?_;intros)|(refine L3 ?_ ?_<;>intro _)|refine hf _ ‹_› _ _ ?_)
 all_goals conv=>whnf
 all_goals try (have e:=drop_at ‹l[Int.toNat k]? =some _›;rw [Int.toNat_natCast] at e;rw [e,CS] at hi;clear e)
 all_goals first
  |(refine ⟨k+1,⟨AC,?_⟩,AC,Yl,St.le_refl _⟩;clear h;simp_all)
  |(refine fin h ?_;clear h;simp_all;done)
  |(refine fin h ?_;rw [hi,List.drop_eq_nil_of_le AC];rfl)
theorem Km (hf:∀x ∈ l,Dd f p x) (h:R (.ret (.bool (l.any p))) st):MS 327 [.slice 6 (Bg l) .any,.func f [] []] st R:=by
 refine pB Tryz.func327 ?_
 refine VQ hf ?_
 have key:=HW (p:=p) (l:=l) (i:=0) AC
 refine Wh (λh1=>?_) (λh1=>?_)
 .exact AB h (key.1 h1)
 .refine AB h ?_
  simp_all
theorem ti {x:Nd}:Dd 404 (λx=> !JD x 15 [44]) x:=by
 intro st R h
 refine pB Tryz.func404 ?_
 repeat' ((conv=>whnf);first|  (refine L3 ?_ ?_<;>intro _)|refine MG ?_)
 all_goals conv=>whnf
 all_goals (refine AB h ?_;clear h;simp_all)
def nE (n:Nd):Bool:=
 (GF n).isSome||Si n||(match Dl n [91] [93] with|some l=>l.isEmpty|none=>match Dl n [40] [41] with|some l=> !l.any λx=> !JD x 15 [44]|none=>false)
theorem xJ (h:R (.ret (.bool (nE n))) st):MS 382 [enc n] st R:=by
 refine pB Tryz.func382 ?_
 repeat' ((conv=>whnf);first|(refine QO ?_;intros)|(refine L3 ?_ ?_<;>intro _)|refine MO (λl U=>?_) (λU=>?_)|refine V0 ?_|refine Jk (λl U=>?_) (λU=>?_)|refine Km (λx _=>ti) ?_)
 all_goals conv=>whnf
 all_goals (refine AB h ?_;clear h;simp_all [nE])
end
section
variable {st:St} {R:As->St->Prop}
theorem Mw (h:Dl n o s=some l):∀x ∈ l,x ∈ n.kids:=by
 simp only [Dl] at h
 grind
def HQ (p:Nd->Bool) (n:Nd) (o s:List UInt8) (least:Int) (one:Bool):Bool:=
 match Dl n o s with
 |some l=>decide (2*least - 1<=(l.length:Int))&&(!one||l.length==1)&&NT p l
 |none=>false
theorem XZ {least:Int} {one:Bool} (h0:0<=least) (h1:least<=10) (hp:∀x ∈ n.kids,Dd 352 p x)
 (h:R (.ret (.bool (HQ p n o s least one))) st):MS 383 [enc n,.str o,.str s,.int .i64 least,.bool one] st R:=by
 cases one
 all_goals refine pB Tryz.func383 ?_
 repeat' ((conv=>whnf);first|(refine QO ?_;intros)|(refine L3 ?_ ?_<;>intro _)|refine Jk (λl U=>?_) (λU=>?_)|refine Zi (λx hx=>hp x (Mw ‹_› x hx)) ?_)
 all_goals conv=>whnf
 all_goals (refine AB h ?_;clear h;simp_all [HQ])
 all_goals (intros;omega)
def gW (q:Nd->Bool):List Nd->Bool
 |[]=>true
 |x::r=>q x&&gW q r
def M4 (p:Nd->Bool) (x:Nd):Bool:= !(x.kind==11)&& !(x.kind==17)&&p x
def M3 (p:Nd->Bool) (l:List Nd):Bool:=gW (M4 p) l&&decide (0<l.length)
theorem XX (U:∀x ∈ l,Dd 352 p x) (h:R (.ret (.bool (M3 p l))) st):MS 375 [.slice 6 (Bg l) .any] st R:=by
 refine pB Tryz.func375 ?_
 repeat' ((conv=>whnf);first|(refine QO ?_;intros)|(refine L3 ?_ ?_<;>intro _))
 refine KU 7 [5,6,0] l.length (λk=>k<=l.length/\gW (M4 p) l=gW (M4 p) (l.drop k)) ⟨Nat.zero_le _,rfl⟩ Yl ?_
 rintro k ⟨hk,hi⟩
 repeat' ((conv=>whnf);first|(refine QO ?_;intros)|(refine L3 ?_ ?_<;>intro _)|refine U _ ‹_› _ _ ?_)
 all_goals conv=>whnf
 all_goals try (have e:=drop_at ‹l[Int.toNat k]? =some _›;rw [Int.toNat_natCast] at e;rw [e,gW] at hi;clear e)
 all_goals first
  |(refine ⟨k+1,⟨AC,?_⟩,AC,Yl,St.le_refl _⟩;clear h;simp_all [M4];done)
  |(refine AB h ?_;clear h;simp_all [M3,M4];done)
  |(refine AB h ?_;clear h;rw [List.drop_eq_nil_of_le AC] at hi;simp_all [M3,gW];done)
  |skip
def bN (p:Nd->Bool) (n:Nd):Bool:=
 n.kind==13&&n.kids.length==3&&n.kids[0]?.any (Eb · [1,3])&&n.kids[1]?.any (JD · 10 [61])&&n.kids[2]?.any p
theorem sQ (U:∀x ∈ n.kids,Dd 352 p x):Dd 406 (bN p) n:=by
 intro st R h
 refine pB Tryz.func406 ?_
 repeat' ((conv=>whnf);first|(refine QO ?_;intros)|(refine L3 ?_ ?_<;>intro _)|refine Jq (kinds:=[1,3]) ?_|refine MG ?_|refine U _ ‹_› _ _ ?_)
 all_goals conv=>whnf
 all_goals (refine AB h ?_;clear h;simp_all [bN])
def Qx (p:Nd->Bool) (n:Nd):Bool:=
 decide (3<=n.kids.length)&&n.kids[0]?.any Si&&(match Dl (.mk 0 0 [] 0 0 (n.kids.drop 1)) [123] [125] with|some l=>l.isEmpty||NT (bN p) l|none=>false)
theorem pJ (hp:∀x ∈ n.kids,∀y ∈ x.kids,Dd 352 p y) (h:R (.ret (.bool (Qx p n))) st):MS 384 [enc n] st R:=by
 refine pB Tryz.func384 ?_
 repeat' ((conv=>whnf);first|(refine QO ?_;intros)|(refine L3 ?_ ?_<;>intro _)|refine V0 ?_|refine Jk (n:=.mk 0 0 [] 0 0 _) (λl U=>?_) (λU=>?_)|refine Zi (λx hx=>sQ (hp x (List.mem_of_mem_drop (i:=1) (l:=n.kids) (Mw (n:=.mk 0 0 [] 0 0 (n.kids.drop 1)) ‹_› x hx)))) ?_)
 all_goals conv=>whnf
 all_goals (refine AB h ?_;clear h;try simp only [Int.toNat_zero,Int.toNat_one] at *;simp_all [Qx])
 all_goals first
  |omega
  |(have:¬3<=n.kids.length:=by omega
    simp [Qx,this])
def Kd (p:Nd->Bool):Nat->List Nd->Bool
 |2,[]=>true
 |_,[]=>false
 |0,x::r=>if x.kind=19 then Kd p 1 r else (!(x.kind==17)&&p x)&&Kd p 2 r
 |1,x::r=>Eb x [11,12]&&Kd p 2 r
 |_,x::r=>V1 x&&Kd p 0 r
theorem wB {k:Nat} {x:Nd} (h:l[k]? =some x):Kd p 0 (l.drop k)=if x.kind=19 then Kd p 1 (l.drop (k+1)) else (!(x.kind==17)&&p x)&&Kd p 2 (l.drop (k+1)):=by
 rw [drop_at h];rfl
theorem wC {k:Nat} {x:Nd} (h:l[k]? =some x):Kd p 1 (l.drop k)=(Eb x [11,12]&&Kd p 2 (l.drop (k+1))):=by
 rw [drop_at h];rfl
theorem gh {k:Nat} {x:Nd} (h:l[k]? =some x):Kd p 2 (l.drop k)=(V1 x&&Kd p 0 (l.drop (k+1))):=by
 rw [drop_at h];rfl
theorem Py {k s:Nat} (h:l.length<=k):Kd p s (l.drop k)=(s==2):=by
 rw [List.drop_eq_nil_of_le h]
 match s with
 |0=>rfl
 |1=>rfl
 |2=>rfl
 |s+3=>rfl
theorem tn0:(0:Int).toNat=0:=rfl
theorem tn1:((0:Int)+1).toNat=1:=rfl
theorem tn2:((0:Int)+1+1).toNat=2:=rfl
theorem tn3 {k:Nat}:((k:Int)+1).toNat=k+1:=AC
theorem tn4 {k:Nat}:((k:Int)+1+1).toNat=k+2:=AC
theorem pX (U:∀x ∈ l,Dd 352 p x) (h:R (.ret (.bool (Kd p 0 l))) st):MS 386 [.slice 6 (Bg l) .any] st R:=by
 refine pB Tryz.func386 ?_
 conv=>whnf
 refine ⟨Nat,λ_=>0,λk=>{tmps:=[(3,.int .i64 k),(0,.slice 6 (Bg l) .any)],boxes:=[],BU:=0,sz:=57,gl:=[]},λ_=>st,
  λk=>k<=l.length/\Kd p 0 l=Kd p 0 (l.drop k),λk=>l.length - k,?_,?_⟩
 .have hi:Kd p 0 l=Kd p 0 (l.drop 0):=rfl
  repeat' ((conv=>whnf);first|(refine QO ?_;intros)|(refine L3 ?_ ?_<;>intro _)|refine Jq (kinds:=[11,12]) ?_|refine fp ?_|refine U _ ‹_› _ _ ?_)
  all_goals conv=>whnf
  all_goals try simp only [tn0,tn1,tn2,tn3,tn4,Int.toNat_natCast,Nat.zero_add,Nat.reduceAdd] at *
  all_goals try (have e:=wB (p:=p) ‹l[0]? =some _›;rw [e] at hi;clear e)
  all_goals (try have e1:=wC (p:=p) ‹l[1]? =some _›)
  all_goals (try have e2:=gh (p:=p) ‹l[1]? =some _›)
  all_goals (try have e3:=gh (p:=p) ‹l[2]? =some _›)
  all_goals (try have f0:=Py (p:=p) (s:=0) (l:=l) (k:=0) AC)
  all_goals (try have f1:=Py (p:=p) (s:=1) (l:=l) (k:=1) AC)
  all_goals (try have f2:=Py (p:=p) (s:=2) (l:=l) (k:=1) AC)
  all_goals (try have f3:=Py (p:=p) (s:=2) (l:=l) (k:=2) AC)
  all_goals try simp only [Nat.zero_add,Nat.reduceAdd] at *
  all_goals first
   |(refine AB h ?_;clear h;clear U;simp_all;done)
   |(refine ⟨3,(by first|trivial|rfl),⟨AC,?_⟩,Yl,St.le_refl _⟩;clear h;clear U;simp_all;done)
   |(refine ⟨2,(by first|trivial|rfl),⟨AC,?_⟩,Yl,St.le_refl _⟩;clear h;clear U;simp_all;done)
 .rintro k ⟨hk,hi⟩
  refine ⟨_,rfl,?_⟩
  repeat' ((conv=>whnf);first|(refine QO ?_;intros)|(refine L3 ?_ ?_<;>intro _)|refine Jq (kinds:=[11,12]) ?_|refine fp ?_|refine U _ ‹_› _ _ ?_)
  all_goals conv=>whnf
  all_goals try simp only [tn0,tn1,tn2,tn3,tn4,Int.toNat_natCast,Nat.zero_add,Nat.reduceAdd] at *
  all_goals try (have e:=wB (p:=p) ‹l[k]? =some _›;rw [e] at hi;clear e)
  all_goals (try have e1:=wC (p:=p) ‹l[k+1]? =some _›)
  all_goals (try have e2:=gh (p:=p) ‹l[k+1]? =some _›)
  all_goals (try have e3:=gh (p:=p) ‹l[k+2]? =some _›)
  all_goals (try have f0:=Py (p:=p) (s:=0) (l:=l) (k:=k) AC)
  all_goals (try have f1:=Py (p:=p) (s:=1) (l:=l) (k:=k+1) AC)
  all_goals (try have f2:=Py (p:=p) (s:=2) (l:=l) (k:=k+1) AC)
  all_goals (try have f3:=Py (p:=p) (s:=2) (l:=l) (k:=k+2) AC)
  all_goals try simp only [Nat.zero_add,Nat.reduceAdd] at *
  all_goals first
   |(refine AB h ?_;clear h;clear U;simp_all;done)
   |(refine ⟨k+3,(by first|trivial|rfl),⟨AC,?_⟩,AC,Yl,St.le_refl _⟩;clear h;clear U;simp_all;done)
   |(refine ⟨k+2,(by first|trivial|rfl),⟨AC,?_⟩,AC,Yl,St.le_refl _⟩;clear h;clear U;simp_all;done)
end
section
variable {st:St} {R:As->St->Prop}
def NI (p:Nd->Bool) (n:Nd):Bool:=
 if n.kind=1 then Eb n [1,2,4,11,12,13,14]
 else if n.kind=14 then n.kids.length==1&&n.kids[0]?.any (JD · 9 [95])
 else if n.kind=3 then nE n
 else if n.kind=15 then n.kids.length==3&&n.kids[0]?.any (Eb · [1])&&n.kids[1]?.any (JD · 10 [64])&&n.kids[2]?.any p
 else if n.kind=16 then n.kids.length==2&&n.kids[0]?.any (JD · 10 [126])&&n.kids[1]?.any p
 else if n.kind=4 then HQ p n [40] [41] 1 true
 else if n.kind=5 then HQ p n [40] [41] 2 false
 else if n.kind=6 then HQ p n [91] [93] 1 false
 else if n.kind=12 then Qx p n
 else if n.kind=11 then decide (0<n.kids.length)&&n.kids[0]?.any Si&&M3 p (n.kids.drop 1)
 else if n.kind=17 then decide (1<n.kids.length)&&Kd p 0 n.kids
 else false
theorem oG (hp:∀x,x.size<n.size->Dd 352 p x):Dd 352 (NI p) n:=by
 intro st R h
 have U:∀x ∈ n.kids,Dd 352 p x:=λx hx=>hp x (CC hx)
 have hkk:∀x ∈ n.kids,∀y ∈ x.kids,Dd 352 p y:=λx hx y hy=>hp y (Nat.lt_trans (CC hy) (CC hx))
 have hd:∀x ∈ n.kids.drop 1,Dd 352 p x:=λx hx=>U x (List.mem_of_mem_drop hx)
 refine pB Tryz.func352 ?_
 repeat' ((conv=>whnf);first|(refine QO ?_;intros)|(refine L3 ?_ ?_<;>intro _)|refine Jq (kinds:=[1,2,4,11,12,13,14]) ?_|refine MG ?_|refine xJ ?_|refine Jq (kinds:=[1]) ?_|refine U _ ‹_› _ _ ?_|refine XZ (p:=p) Do Do U ?_|refine pJ hkk ?_|refine V0 ?_|refine XX hd ?_|refine pX U ?_)
 all_goals conv=>whnf
 all_goals (refine AB h ?_;clear h hp U hkk hd;try simp only [Int.toNat_zero,Int.toNat_one,Int.reduceToNat] at *)
 all_goals first
  |(simp_all [NI];done)
  |(have:1<n.kids.length:=by omega
    simp_all [NI];done)
  |(have:¬1<n.kids.length:=by omega
    simp_all [NI];intros;omega)
def ud:Nat->Nd->Bool
 |0,_=>false
 |k+1,n=>NI (ud k) n
theorem size_pos (n:Nd):0<n.size:=by cases n;rw [Nd.size];omega
theorem cD:∀(k:Nat) (n:Nd),n.size<=k->Dd 352 (ud k) n
 |0,n,h=>by have:=size_pos n;omega
 |k+1,n,h=>oG λx U=>cD k x AC
def gp (p:Nd->Bool) (l:List Nd):Bool:=if l.length=1 then l[0]?.any (λx=> !(x.kind==17)&&p x) else Kd p 0 l
theorem qm (U:∀x ∈ l,Dd 352 p x) (h:R (.ret (.bool (gp p l))) st):MS 379 [.slice 6 (Bg l) .any] st R:=by
 refine pB Tryz.func379 ?_
 repeat' ((conv=>whnf);first|(refine QO ?_;intros)|(refine L3 ?_ ?_<;>intro _)|refine U _ ‹_› _ _ ?_|refine pX U ?_)
 all_goals conv=>whnf
 all_goals (refine AB h ?_;clear h U;try simp only [Int.toNat_zero,Int.toNat_one,Int.reduceToNat] at *)
 all_goals first
  |(simp_all [gp];done)
  |skip
def HI (p:Nd->Bool) (l:List Nd):Nat->List Nd->List UInt8×Bool
 |_,[]=>([],false)
 |i,x::r=>match Q5 x with
  |some t=>(t,gp p (l.take i)&&gp p (l.drop (i+1)))
  |none=>HI p l (i+1) r
def Dx (p:Nd->Bool) (q:Nd->List UInt8×Bool) (n:Nd):List UInt8×Bool:=
 if n.kind=11 then
  if 2<=n.kids.length then (if M3 p (n.kids.drop 1) then (match n.kids[0]? with
   |none=>([],false)
   |some f=>if f.kind=4 then (match Dl f [40] [41] with|some l=>if l.length=1 then (match l[0]? with|some x=>q x|none=>([],false)) else ([],false)|none=>([],false))
    else match GF f with|some t=>(t,true)|none=>([],false)) else ([],false)) else ([],false)
 else if n.kind=17 then HI p n.kids 0 n.kids
 else ([],false)
theorem nu {f:List UInt8×Bool} {b:Bool} (h:f=(t,b)):As.ret (.Bc [.str f.1,.bool f.2])=(As.ret (.Bc [.str t,.bool b])).wk:=by subst h;rfl
def aL (q:Nd->List UInt8×Bool) (x:Nd):Prop:=∀(st:St) (R:As->St->Prop),R (.ret (.Bc [.str (q x).1,.bool (q x).2])) st->MS 351 [enc x] st R
theorem TF {q:Nd->List UInt8×Bool} (hp:∀x,x.size<n.size->Dd 352 p x) (hq:∀x,x.size<n.size->aL q x):aL (Dx p q) n:=by
 intro st R h
 have hk:∀x ∈ n.kids,Dd 352 p x:=λx U=>hp x (CC U)
 have hd:∀x ∈ n.kids.drop 1,Dd 352 p x:=λx U=>hk x (List.mem_of_mem_drop U)
 refine pB Tryz.func351 ?_
 repeat' ((conv=>whnf);first|(refine QO ?_;intros)|(refine L3 ?_ ?_<;>intro _)|refine XX hd ?_|refine Jk (λl hl=>?_) (λhl=>?_)|refine MO (λl hl=>?_) (λhl=>?_)|refine hq _ (Nat.lt_trans (CC (Mw ‹_› _ ‹_›)) (CC ‹_›)) _ _ ?_)
 all_goals try (refine VZ 63 [1,61,62] [0] n.kids.length (λk=>k<=n.kids.length/\HI p n.kids 0 n.kids=HI p n.kids k (n.kids.drop k)) ⟨Nat.zero_le _,rfl⟩ Yl ?_;rintro k ⟨hkl,hi⟩)
 repeat' ((conv=>whnf);first|(refine QO ?_;intros)|(refine L3 ?_ ?_<;>intro _)|refine sg (λl hl=>?_) (λhl=>?_)|refine qm (λx U=>hk x (List.mem_of_mem_take (List.mem_of_mem_drop U))) ?_|refine qm (λx U=>hk x (List.mem_of_mem_drop U)) ?_)
 all_goals conv=>whnf
 all_goals first
  |refine AF ?_ h
  |(refine ⟨k+1,⟨AC,?_⟩,AC,Yl,St.le_refl _⟩)
  |skip
 all_goals clear h hp hq hk hd
 all_goals try (have e:=drop_at ‹n.kids[Int.toNat k]? =some _›;rw [Int.toNat_natCast] at e;rw [e,HI] at hi;clear e)
 all_goals try simp only [Int.toNat_zero,Int.toNat_one,Int.reduceToNat,Int.toNat_natCast] at *
 all_goals first
  |(simp_all;done)
  |refine nu ?_
 .have:¬2<=n.kids.length:=AC
  simp [Dx, *]
 all_goals try have g:2<=n.kids.length:=AC
 .rename_i x _ _ y _ _ _
  have e:Dx p q n=q y:=by simp_all [Dx]
  rw [e];exact Prod.ext rfl ‹_›
 .rename_i x _ _ y _ _ _
  have e:Dx p q n=q y:=by simp_all [Dx]
  rw [e];exact Prod.ext rfl ‹_›
 all_goals try (rw [List.drop_eq_nil_of_le AC,HI] at hi)
 all_goals simp_all [Dx]
def sW:Nat->Nd->List UInt8×Bool
 |0,_=>([],false)
 |k+1,n=>Dx (ud k) (sW k) n
theorem RO:∀(k:Nat) (n:Nd),n.size<=k->aL (sW k) n
 |0,n,h=>by have:=size_pos n;omega
 |k+1,n,h=>TF (λx U=>cD k x AC) λx U=>RO k x AC
end
section
variable {st:St} {R:As->St->Prop}
def Ma (n:Nd):Bool:=ud n.size n
theorem cC:Dd 352 Ma n:=λst R h=>cD n.size n (Nat.le_refl _) st R h
def aZ (n:Nd):Int:=if Ma n then 0 else 120
theorem mn (h:R (.ret (.int .i64 (aZ n))) st):MS 421 [enc n] st R:=by
 refine pB Tryz.func421 ?_
 repeat' ((conv=>whnf);first|  (refine L3 ?_ ?_<;>intro _)|refine cC _ _ ?_)
 all_goals conv=>whnf
 all_goals (refine fin h ?_;clear h;simp_all [aZ])
def ot (n:Nd):Int×List UInt8×Int:=
 if (sW n.size n).2 then (1,(sW n.size n).1,0) else if Ma n then (2,[],0) else (0,[],120)
theorem nw {f:Int×List UInt8×Int} {b:Int} (h:f=(b,t,c)):As.ret (.Bc [.int .i64 f.1,.str f.2.1,.int .i64 f.2.2])=(As.ret (.Bc [.int .i64 b,.str t,.int .i64 c])).wk:=by subst h;rfl
theorem zS (h:R (.ret (.Bc [.int .i64 (ot n).1,.str (ot n).2.1,.int .i64 (ot n).2.2])) st):MS 313 [enc n] st R:=by
 refine pB Tryz.func313 ?_
 repeat' ((conv=>whnf);first|  (refine L3 ?_ ?_<;>intro _)|refine RO _ n (Nat.le_refl _) _ _ ?_|refine cC _ _ ?_)
 all_goals conv=>whnf
 all_goals (refine AF ?_ h;clear h;refine nw ?_;simp_all [ot])
def Gq (q:Nd->List (List UInt8)) (field:Bool):Nat->List Nd->List (List UInt8)
 |_,[]=>[]
 |i,x::r=>(if 0<i\/field=false then q x else [])++Gq q field (i+1) r
def Db (q:Nd->List (List UInt8)) (n:Nd):List (List UInt8):=
 match GF n with
 |some s=>[s]
 |none=>if n.kind=18\/n.kind=19 then [] else Gq q (n.kind==13) 0 n.kids
def aM (q:Nd->List (List UInt8)) (x:Nd):Prop:=∀(l:List (List UInt8)) (own:AH) (st:St) (R:As->St->Prop),l.length+(q x).length<=1000000000->own.BM st->
 (∀U:AH,U.BM st->R (.ret (.slice 1 (strs (l++q x)) U)) (U.st st (l++q x).length))->MS 399 [.slice 1 (strs l) own,enc x] (own.st st l.length) R
attribute [local irreducible] Go.Aw.Aj
theorem cL {q:Nd->List (List UInt8)} (hq:∀x,x.size<n.size->aM q x):aM (Db q) n:=by
 intro l own st R hb ho h
 refine pB Tryz.func399 ?_
 repeat' ((conv=>whnf);first|(refine QO ?_;intros)|(refine L3 ?_ ?_<;>intro _)|refine MO (λt ht=>?_) (λht=>?_)|refine PK (new:=[_]) ho ?_ (λown' ho'=>?_))
 .have e:Db q n=[t]:=by simp [Db,ht]
  rw [e] at hb;exact hb
 .conv=>whnf
  have e:Db q n=[t]:=by simp [Db,ht]
  rw [e] at h
  exact fin (h own' ho') rfl
 .conv=>whnf
  have e:Db q n=[]:=by simp [Db, *]
  rw [e,List.append_nil] at h
  exact fin (h own ho) rfl
 .conv=>whnf
  have e:Db q n=[]:=by simp [Db, *]
  rw [e,List.append_nil] at h
  exact fin (h own ho) rfl
 .have e:Db q n=Gq q (n.kind==13) 0 n.kids:=by simp [Db, *]
  rw [e] at h hb
  conv=>whnf
  refine OG (α:=Nat×AH×List (List UInt8)) (λx=>[(31,.int .i64 (x.1:Int)),(0,.slice 1 (strs x.2.2) x.2.1)]) [3,29,30] [0] (λx=>AH.st st x.2.2.length x.2.1)
   (λx=>x.1<=n.kids.length/\AH.BM st x.2.1/\l++Gq q (n.kind==13) 0 n.kids=x.2.2++Gq q (n.kind==13) x.1 (n.kids.drop x.1)) (λx=>n.kids.length - x.1) (0,own,l) ⟨Nat.zero_le _,ho,rfl⟩ Yl (St.le_refl _) ?_
  rintro ⟨k,own1,U⟩ ⟨hk,ho1,hi⟩
  simp only at hk ho1 hi
  have hlen:=congrArg List.length hi
  simp only [List.length_append] at hlen
  repeat' ((conv=>whnf);first|(refine QO ?_;intros)|(refine L3 ?_ ?_<;>intro _)|refine hq _ (CC ‹_›) U own1 st _ ?_ ho1 (λown2 ho2=>?_))
  all_goals try conv=>whnf
  all_goals try (have e:=drop_at ‹n.kids[_]? =some _›;simp only [Int.toNat_natCast] at e;rw [e,Gq] at hi hlen;clear e)
  all_goals simp only [Int.toNat_natCast] at *
  .rw [if_pos (.inl AC)] at hlen
   rw [List.length_append] at hlen
   show U.length+_<=1000000000
   omega
  .refine ⟨(k+1,own2,U++_),⟨by show k+1<=_;omega,ho2,?_⟩,by show _ - (k+1)<_ - k;omega,Yl,St.le_refl _⟩
   rw [if_pos (.inl AC)] at hi
   rw [hi,List.append_assoc]
  .refine ⟨(k+1,own1,U),⟨by show k+1<=_;omega,ho1,?_⟩,by show _ - (k+1)<_ - k;omega,Yl,St.le_refl _⟩
   rw [if_neg (by rintro (g|g)<;>first|omega|simp_all)] at hi
   rw [hi];rfl
  .have g:(n.kind==13)=false:=f9
   rw [if_pos (.inr g),List.length_append] at hlen
   show U.length+_<=1000000000
   omega
  .refine ⟨(k+1,own2,U++_),⟨by show k+1<=_;omega,ho2,?_⟩,by show _ - (k+1)<_ - k;omega,Yl,St.le_refl _⟩
   have g:(n.kind==13)=false:=f9
   rw [if_pos (.inr g)] at hi
   rw [hi,List.append_assoc]
  .rw [List.drop_eq_nil_of_le AC,Gq,List.append_nil] at hi
   rw [hi] at h
   exact fin (h own1 ho1) rfl
def IW:Nat->Nd->List (List UInt8)
 |0,_=>[]
 |k+1,n=>Db (IW k) n
theorem Y5:∀(k:Nat) (n:Nd),n.size<=k->aM (IW k) n
 |0,n,h=>by have:=size_pos n;omega
 |k+1,n,h=>cL λx U=>Y5 k x AC
def Hb (n:Nd):List (List UInt8)×Int:=if Ma n then (IW n.size n,0) else ([],120)
theorem jH (hb:(IW n.size n).length<=1000000000) (h:R (.ret (.Bc [.slice 1 (strs (Hb n).1) .any,.int .i64 (Hb n).2])) st):MS 372 [enc n] st R:=by
 refine pB Tryz.func372 ?_
 repeat' ((conv=>whnf);first|  (refine L3 ?_ ?_<;>intro _)|refine cC _ _ ?_|refine Y5 _ n (Nat.le_refl _) [] .full st _ ?_ trivial (λown2 U=>?_))
 all_goals try conv=>whnf
 .show 0+_<=_
  omega
 .have e:Hb n=(IW n.size n,0):=by simp_all [Hb]
  rw [e] at h
  exact ⟨_,st,.inr rfl,AH.Bz U,h⟩
 .have e:Hb n=([],120):=by simp_all [Hb]
  rw [e] at h
  exact AF rfl h
end
section
variable {st:St} {R:As->St->Prop}
theorem UI:∀{l:List Nd},l.length<=AD l
 |[]=>Nat.le_refl _
 |x::r=>by have:=UI (l:=r);have:=size_pos x;rw [AD,List.length_cons];omega
theorem Gw (n:Nd):n.kids.length<n.size:=by
 cases n with
 |mk a b c d e ks=>rw [Nd.size];have:=UI (l:=ks);show ks.length<_;omega
end
theorem Sp {q:Nd->List (List UInt8)} {b:Bool}:∀{l:List Nd} {i:Nat},(∀x ∈ l,(q x).length<=x.size)->(Gq q b i l).length<=AD l
 |[],_,_=>by simp [Gq,AD]
 |x::r,i,h=>by
  have:=Sp (b:=b) (l:=r) (i:=i+1) λy hy=>h y (List.mem_cons_of_mem _ hy)
  have:=h x List.mem_cons_self
  rw [Gq,List.length_append,AD]
  grind
theorem Sq:∀{k:Nat} {n:Nd},(IW k n).length<=n.size
 |0,n=>Nat.zero_le _
 |k+1,n=>by
  rw [IW,Db]
  have:=size_pos n
  split
  .grind
  .split
   .simp
   .have:=Sp (b:=n.kind==13) (l:=n.kids) (i:=0) (q:=IW k) λx _=>Sq
    cases n with
    |mk a b c d e ks=>rw [Nd.size];show (Gq _ _ 0 ks).length<=_;have:(Gq (IW k) (a==13) 0 ks).length<=AD ks:=this;show (Gq (IW k) (a==13) 0 ks).length<=_;omega
section
variable {st:St} {R:As->St->Prop}
theorem oM (U:n.size<=1000000000) (h:R (.ret (.Bc [.slice 1 (strs (Hb n).1) .any,.int .i64 (Hb n).2])) st):MS 372 [enc n] st R:=
 jH (Nat.le_trans Sq U) h
theorem mS {f:Int} {l:Int} {ks:List Nd}:enc (.mk k f t l c ks)=.agg [.int .i64 k,.int .i64 f,.str t,.int .i64 l,.int .i64 c,.slice 6 (ks.map AK) .any]:=by
 rw [enc,AK,BF];rfl
end
end Go.Proofs.Z
namespace Go.Proofs
open Go.Shelf
open Go.RowKit in
open Go.RowKit in
def Tryz.YB:Go.Shelf.Ren:=⟨λ|160=>119|232=>159|231=>158|227=>160|234=>162|233=>161|236=>164|235=>163|228=>194|271=>196|151=>195|197=>68|120=>241|152=>240|260=>117|137=>294|119=>295|224=>252|225=>251|217=>250|266=>299|n=>n,λ|9=>9|4=>4|3=>3|5=>5|117=>226|116=>225|0=>0|124=>229|21=>21|105=>105|46=>219|119=>218|139=>222|138=>221|n=>n,λ|3=>1|4=>2|n=>n⟩
theorem Tryz.tG:Go.Proofs.Lays.n160 Tryz.prog Tryz.YB:={
 mixed:=EQ
 f119:=Tryz.func295.trans (congrArg some EQ)
 f120:=Tryz.func241.trans (congrArg some EQ)
 f137:=Tryz.func294.trans (congrArg some EQ)
 f151:=Tryz.func195.trans (congrArg some EQ)
 f152:=Tryz.func240.trans (congrArg some EQ)
 f160:=Tryz.func119.trans (congrArg some EQ)
 f197:=Tryz.func68.trans (congrArg some EQ)
 f217:=Tryz.func250.trans (congrArg some EQ)
 f224:=Tryz.func252.trans (congrArg some EQ)
 f225:=Tryz.func251.trans (congrArg some EQ)
 f227:=Tryz.func160.trans (congrArg some EQ)
 f228:=Tryz.func194.trans (congrArg some EQ)
 f231:=Tryz.func158.trans (congrArg some EQ)
 f232:=Tryz.func159.trans (congrArg some EQ)
 f233:=Tryz.func161.trans (congrArg some EQ)
 f234:=Tryz.func162.trans (congrArg some EQ)
 f235:=Tryz.func163.trans (congrArg some EQ)
 f236:=Tryz.func164.trans (congrArg some EQ)
 f260:=Tryz.func117.trans (congrArg some EQ)
 f266:=Tryz.func299.trans (congrArg some EQ)
 f271:=Tryz.func196.trans (congrArg some EQ)
 t0:=Tryz.underlying0
 a0:=Tryz.isAgg0
 z0:=Tryz.sizeOf0
 v0:=Tryz.zeroValue0
 t3:=Tryz.underlying3
 a3:=Tryz.isAgg3
 z3:=Tryz.sizeOf3
 v3:=Tryz.zeroValue3
 t4:=Tryz.underlying4
 a4:=Tryz.isAgg4
 z4:=Tryz.sizeOf4
 v4:=Tryz.zeroValue4
 t5:=Tryz.underlying5
 a5:=Tryz.isAgg5
 z5:=Tryz.sizeOf5
 v5:=Tryz.zeroValue5
 t9:=Tryz.underlying9
 a9:=Tryz.isAgg9
 z9:=Tryz.sizeOf9
 v9:=Tryz.zeroValue9
 t21:=Tryz.underlying21
 a21:=Tryz.isAgg21
 z21:=Tryz.sizeOf21
 v21:=Tryz.zeroValue21
 t46:=Tryz.underlying219
 a46:=Tryz.isAgg219
 z46:=Tryz.sizeOf219
 v46:=Tryz.zeroValue219
 t105:=Tryz.underlying105
 a105:=Tryz.isAgg105
 z105:=Tryz.sizeOf105
 v105:=Tryz.zeroValue105
 t116:=Tryz.underlying225
 a116:=Tryz.isAgg225
 z116:=Tryz.sizeOf225
 t117:=Tryz.underlying226
 a117:=Tryz.isAgg226
 z117:=Tryz.sizeOf226
 v117:=Tryz.zeroValue226
 t119:=Tryz.underlying218
 a119:=Tryz.isAgg218
 z119:=Tryz.sizeOf218
 t124:=Tryz.underlying229
 a124:=Tryz.isAgg229
 z124:=Tryz.sizeOf229
 v124:=Tryz.zeroValue229
 t138:=Tryz.underlying221
 a138:=Tryz.isAgg221
 z138:=Tryz.sizeOf221
 v138:=Tryz.zeroValue221
 t139:=Tryz.underlying222
 a139:=Tryz.isAgg222
 z139:=Tryz.sizeOf222
 v139:=Tryz.zeroValue222
 g3:=EQ
 g4:=by kernel_rfl}
open Go.RowKit in
theorem Tryz.strings_Trim_one (s:ByteArray) (c:UInt8) (U:c.toNat<128) (w:World) (hs:s.size<=9223372036854775807):
 Calls Tryz.prog 119 #[.string s,.string ⟨#[c]⟩] w λe w'=>e=.returned (.string ⟨(Lib.trimB s.data.toList c).toArray⟩)/\(w'=w\/w'=w.drew):=Any.strings_Trim_one Tryz.tG s c U w hs
def Tryz.Yy:Go.Shelf.Ren:=⟨λ|137=>294|217=>250|266=>299|n=>n,λ|9=>9|5=>5|3=>3|n=>n,λ|n=>n⟩
theorem Tryz.tD:Go.Proofs.Lays.n137 Tryz.prog Tryz.Yy:={
 mixed:=EQ
 f137:=Tryz.func294.trans (congrArg some EQ)
 f217:=Tryz.func250.trans (congrArg some EQ)
 f266:=Tryz.func299.trans (congrArg some EQ)
 t3:=Tryz.underlying3
 a3:=Tryz.isAgg3
 z3:=Tryz.sizeOf3
 v3:=Tryz.zeroValue3
 t5:=Tryz.underlying5
 a5:=Tryz.isAgg5
 z5:=Tryz.sizeOf5
 v5:=Tryz.zeroValue5
 t9:=Tryz.underlying9
 a9:=Tryz.isAgg9
 z9:=Tryz.sizeOf9
 v9:=Tryz.zeroValue9}
open Go.RowKit in
theorem Tryz.strings_IndexByte (s:ByteArray) (c:Int) (w:World):
 Calls Tryz.prog 294 #[.string s,.int .u8 c] w λe w'=>e=.returned (.int .i64 (Lib.indexByte s.data.toList c.toNat.toUInt8))/\w'=w:=Any.strings_IndexByte Tryz.tD s c w
def Tryz.Yz:Go.Shelf.Ren:=⟨λ|144=>125|143=>168|219=>204|217=>250|225=>251|224=>252|267=>253|266=>299|314=>300|n=>n,λ|9=>9|4=>4|3=>3|5=>5|46=>219|146=>307|51=>306|n=>n,λ|1=>3|n=>n⟩
theorem Tryz.tE:Go.Proofs.Lays.n144 Tryz.prog Tryz.Yz:={
 mixed:=EQ
 f143:=Tryz.func168.trans (congrArg some EQ)
 f144:=Tryz.func125.trans (congrArg some EQ)
 f217:=Tryz.func250.trans (congrArg some EQ)
 f219:=Tryz.func204.trans (congrArg some EQ)
 f224:=Tryz.func252.trans (congrArg some EQ)
 f225:=Tryz.func251.trans (congrArg some EQ)
 f266:=Tryz.func299.trans (congrArg some EQ)
 f267:=Tryz.func253.trans (congrArg some EQ)
 f314:=Tryz.func300.trans (congrArg some EQ)
 t3:=Tryz.underlying3
 a3:=Tryz.isAgg3
 z3:=Tryz.sizeOf3
 v3:=Tryz.zeroValue3
 t4:=Tryz.underlying4
 a4:=Tryz.isAgg4
 z4:=Tryz.sizeOf4
 v4:=Tryz.zeroValue4
 t5:=Tryz.underlying5
 a5:=Tryz.isAgg5
 z5:=Tryz.sizeOf5
 v5:=Tryz.zeroValue5
 t9:=Tryz.underlying9
 a9:=Tryz.isAgg9
 z9:=Tryz.sizeOf9
 v9:=Tryz.zeroValue9
 t46:=Tryz.underlying219
 a46:=Tryz.isAgg219
 z46:=Tryz.sizeOf219
 v46:=Tryz.zeroValue219
 t51:=Tryz.underlying306
 a51:=Tryz.isAgg306
 z51:=Tryz.sizeOf306
 v51:=Tryz.zeroValue306
 t146:=Tryz.underlying307
 a146:=Tryz.isAgg307
 z146:=Tryz.sizeOf307
 v146:=Tryz.zeroValue307
 g1:=by kernel_rfl}
open Go.RowKit Go.Lib in
theorem Tryz.strings_Contains (s sub:ByteArray) (m:Int) (w:World) (hs:s.size<4294967281) (U:w.cell? ⟨3,0,none⟩=some (.int .i64 m)):
 Calls Tryz.prog 125 #[.string s,.string sub] w λe w'=>e=.returned (.bool (Lib.contains s.data.toList sub.data.toList))/\w'=w:=Any.strings_Contains Tryz.tE s sub m w hs U
def Tryz.VU:Go.Shelf.Ren:=⟨λ|15=>44|20=>69|n=>n,λ|9=>9|23=>64|3=>3|4=>4|0=>0|21=>21|n=>n,λ|n=>n⟩
theorem Tryz.nV:Go.Proofs.LaysGw.n15 Tryz.prog Tryz.VU:={
 mixed:=EQ
 f15:=Tryz.func44.trans (congrArg some EQ)
 f20:=Tryz.func69.trans (congrArg some EQ)
 t0:=Tryz.underlying0
 a0:=Tryz.isAgg0
 z0:=Tryz.sizeOf0
 v0:=Tryz.zeroValue0
 i0:=EQ
 t3:=Tryz.underlying3
 a3:=Tryz.isAgg3
 z3:=Tryz.sizeOf3
 v3:=Tryz.zeroValue3
 i3:=EQ
 t4:=Tryz.underlying4
 a4:=Tryz.isAgg4
 z4:=Tryz.sizeOf4
 v4:=Tryz.zeroValue4
 i4:=EQ
 t9:=Tryz.underlying9
 a9:=Tryz.isAgg9
 z9:=Tryz.sizeOf9
 v9:=Tryz.zeroValue9
 i9:=EQ
 t21:=Tryz.underlying21
 a21:=Tryz.isAgg21
 z21:=Tryz.sizeOf21
 v21:=Tryz.zeroValue21
 i21:=EQ
 t23:=Tryz.underlying64
 a23:=Tryz.isAgg64
 z23:=Tryz.sizeOf64
 v23:=Tryz.zeroValue64
 i23:=by kernel_rfl}
def Tryz.cj:Go.Shelf.Ren:=⟨λ|99=>73|206=>118|n=>n,λ|9=>9|4=>4|3=>3|n=>n,λ|n=>n⟩
theorem Tryz.xU:Go.Proofs.Lays.n99 Tryz.prog Tryz.cj:={
 mixed:=EQ
 f99:=Tryz.func73.trans (congrArg some EQ)
 f206:=Tryz.func118.trans (congrArg some EQ)
 t3:=Tryz.underlying3
 a3:=Tryz.isAgg3
 z3:=Tryz.sizeOf3
 v3:=Tryz.zeroValue3
 t4:=Tryz.underlying4
 a4:=Tryz.isAgg4
 z4:=Tryz.sizeOf4
 v4:=Tryz.zeroValue4
 t9:=Tryz.underlying9
 a9:=Tryz.isAgg9
 z9:=Tryz.sizeOf9
 v9:=Tryz.zeroValue9}
open Go.RowKit Go.Lib in
theorem Tryz.strings_HasPrefix (s p:ByteArray) (w:World):
 Calls Tryz.prog 73 #[.string s,.string p] w λe w'=>e=.returned (.bool (Lib.hasPrefix s.data.toList p.data.toList))/\w'=w:=Any.strings_HasPrefix Tryz.xU s p w
def Tryz.YA:Go.Shelf.Ren:=⟨λ|157=>214|229=>258|199=>259|261=>302|311=>335|312=>336|n=>n,λ|9=>9|31=>79|3=>3|5=>5|4=>4|119=>218|0=>0|40=>64|152=>309|21=>21|154=>311|51=>306|141=>313|196=>330|193=>327|198=>333|49=>331|194=>328|201=>336|226=>347|46=>219|227=>348|n=>n,λ|0=>4|6=>5|n=>n⟩
theorem Tryz.tF:Go.Proofs.Lays.n157 Tryz.prog Tryz.YA:={
 mixed:=EQ
 f157:=Tryz.func214.trans (congrArg some EQ)
 f199:=Tryz.func259.trans (congrArg some EQ)
 f229:=Tryz.func258.trans (congrArg some EQ)
 f261:=Tryz.func302.trans (congrArg some EQ)
 f311:=Tryz.func335.trans (congrArg some EQ)
 f312:=Tryz.func336.trans (congrArg some EQ)
 t0:=Tryz.underlying0
 a0:=Tryz.isAgg0
 z0:=Tryz.sizeOf0
 v0:=Tryz.zeroValue0
 t3:=Tryz.underlying3
 a3:=Tryz.isAgg3
 z3:=Tryz.sizeOf3
 v3:=Tryz.zeroValue3
 t4:=Tryz.underlying4
 a4:=Tryz.isAgg4
 z4:=Tryz.sizeOf4
 v4:=Tryz.zeroValue4
 t5:=Tryz.underlying5
 a5:=Tryz.isAgg5
 z5:=Tryz.sizeOf5
 v5:=Tryz.zeroValue5
 t9:=Tryz.underlying9
 a9:=Tryz.isAgg9
 z9:=Tryz.sizeOf9
 v9:=Tryz.zeroValue9
 t21:=Tryz.underlying21
 a21:=Tryz.isAgg21
 z21:=Tryz.sizeOf21
 v21:=Tryz.zeroValue21
 t31:=Tryz.underlying79
 a31:=Tryz.isAgg79
 z31:=Tryz.sizeOf79
 v31:=Tryz.zeroValue79
 t40:=Tryz.underlying64
 a40:=Tryz.isAgg64
 z40:=Tryz.sizeOf64
 v40:=Tryz.zeroValue64
 t46:=Tryz.underlying219
 a46:=Tryz.isAgg219
 z46:=Tryz.sizeOf219
 v46:=Tryz.zeroValue219
 t49:=Tryz.underlying331
 a49:=Tryz.isAgg331
 z49:=Tryz.sizeOf331
 v49:=Tryz.zeroValue331
 t51:=Tryz.underlying306
 a51:=Tryz.isAgg306
 z51:=Tryz.sizeOf306
 v51:=Tryz.zeroValue306
 t119:=Tryz.underlying218
 a119:=Tryz.isAgg218
 z119:=Tryz.sizeOf218
 t141:=Tryz.underlying313
 a141:=Tryz.isAgg313
 z141:=Tryz.sizeOf313
 v141:=Tryz.zeroValue313
 t152:=Tryz.underlying309
 a152:=Tryz.isAgg309
 z152:=Tryz.sizeOf309
 v152:=Tryz.zeroValue309
 t154:=Tryz.underlying311
 a154:=Tryz.isAgg311
 z154:=Tryz.sizeOf311
 v154:=Tryz.zeroValue311
 t193:=Tryz.underlying327
 a193:=Tryz.isAgg327
 z193:=Tryz.sizeOf327
 v193:=Tryz.zeroValue327
 t194:=Tryz.underlying328
 a194:=Tryz.isAgg328
 z194:=Tryz.sizeOf328
 v194:=Tryz.zeroValue328
 t196:=Tryz.underlying330
 a196:=Tryz.isAgg330
 z196:=Tryz.sizeOf330
 v196:=Tryz.zeroValue330
 t198:=Tryz.underlying333
 a198:=Tryz.isAgg333
 z198:=Tryz.sizeOf333
 v198:=Tryz.zeroValue333
 t201:=Tryz.underlying336
 a201:=Tryz.isAgg336
 z201:=Tryz.sizeOf336
 v201:=Tryz.zeroValue336
 t226:=Tryz.underlying347
 a226:=Tryz.isAgg347
 z226:=Tryz.sizeOf347
 v226:=Tryz.zeroValue347
 t227:=Tryz.underlying348
 a227:=Tryz.isAgg348
 z227:=Tryz.sizeOf348
 v227:=Tryz.zeroValue348
 g0:=EQ
 g6:=by kernel_rfl}
open Go.RowKit Go.Lib in
theorem Tryz.strings_Fields (s : ByteArray) (w : World) (hs : s.size < 4294967281) (U : ∀ (j : Nat) b, s.data.toList[j]? = some b -> b.toNat < 128) (htab : Lib.TabIs Tryz.prog w "strings.asciiSpace" .u8 Lib.asciiSpaceTab) :
 Calls Tryz.prog 214 #[.string s] w λe w'=>
  e=.returned (.slice (some ⟨w.heap.size,0,none⟩) (Lib.fields s.data.toList).length (Lib.fields s.data.toList).length)/\w'=w.alloc (.cells ((Lib.fields s.data.toList).map λl=>Value.string ⟨l.toArray⟩).toArray 9):=Any.strings_Fields Tryz.tF EQ EQ s w hs U htab
def Tryz.YC:Go.Shelf.Ren:=⟨λ|197=>68|260=>117|n=>n,λ|9=>9|21=>21|3=>3|4=>4|5=>5|105=>105|119=>218|0=>0|46=>219|139=>222|138=>221|n=>n,λ|3=>1|4=>2|n=>n⟩
theorem Tryz.tH:Go.Proofs.Lays.n197 Tryz.prog Tryz.YC:={
 mixed:=EQ
 f197:=Tryz.func68.trans (congrArg some EQ)
 f260:=Tryz.func117.trans (congrArg some EQ)
 t0:=Tryz.underlying0
 a0:=Tryz.isAgg0
 z0:=Tryz.sizeOf0
 v0:=Tryz.zeroValue0
 t3:=Tryz.underlying3
 a3:=Tryz.isAgg3
 z3:=Tryz.sizeOf3
 v3:=Tryz.zeroValue3
 t4:=Tryz.underlying4
 a4:=Tryz.isAgg4
 z4:=Tryz.sizeOf4
 v4:=Tryz.zeroValue4
 t5:=Tryz.underlying5
 a5:=Tryz.isAgg5
 z5:=Tryz.sizeOf5
 v5:=Tryz.zeroValue5
 t9:=Tryz.underlying9
 a9:=Tryz.isAgg9
 z9:=Tryz.sizeOf9
 v9:=Tryz.zeroValue9
 t21:=Tryz.underlying21
 a21:=Tryz.isAgg21
 z21:=Tryz.sizeOf21
 v21:=Tryz.zeroValue21
 t46:=Tryz.underlying219
 a46:=Tryz.isAgg219
 z46:=Tryz.sizeOf219
 v46:=Tryz.zeroValue219
 t105:=Tryz.underlying105
 a105:=Tryz.isAgg105
 z105:=Tryz.sizeOf105
 v105:=Tryz.zeroValue105
 t119:=Tryz.underlying218
 a119:=Tryz.isAgg218
 z119:=Tryz.sizeOf218
 t138:=Tryz.underlying221
 a138:=Tryz.isAgg221
 z138:=Tryz.sizeOf221
 v138:=Tryz.zeroValue221
 t139:=Tryz.underlying222
 a139:=Tryz.isAgg222
 z139:=Tryz.sizeOf222
 v139:=Tryz.zeroValue222
 g3:=EQ
 g4:=by kernel_rfl}
open Go.RowKit Go.Lib in
theorem Tryz.utf8_DecodeRuneInString (s:ByteArray) (w:World) (U:Lib.Utf8Tabs 1 2 w):
 Calls Tryz.prog 68 #[.string s] w λe w'=>e=.returned (.tuple #[.int .i32 (Lib.decodeGo s).1,.int .i64 (Lib.decodeGo s).2])/\Below w.heap.size w w':=Any.utf8_DecodeRuneInString Tryz.tH s w U
open Go.RowKit Go.Lib in
theorem Tryz.strings_IndexFunc_grows (g:Nat) (U:Array Value) (eg:∀args w,(callFunc g args).run Tryz.prog w=.ok (.enter g args) w) (p:Nat->Bool) (s:ByteArray) (w:World) (hp:PredGrows Tryz.prog g U p w):
 Calls Tryz.prog 44 #[.string s,.func (.func g) #[] U] w λe w'=>e=.returned (.int .i64 (Lib.idxFunc p true s))/\Below w.heap.size w w':=Any.strings_IndexFunc_grows Tryz.nV g U eg p s w hp
end Go.Proofs
namespace Go.Aw
open Go
theorem CL.below {st:St} {w w':World} (h:CL I st w) (b:RowKit.Below w.heap.size w w'):Fr I st w I st w'/\CL I st w':=by
 refine ⟨⟨b.os,b.tape,b.output,b.size,λx U _ _=>b.block x U,Mem.le_refl _,λ_ _ h k=>absurd h k,λ_ h k=>absurd h k,λ_ h=>.inr h⟩,?_,?_,?_,h.IE,?_,h.TQ⟩
 .intro x o v e
  have e:=h.cell x o v e
  rw [Hr (b.block x (Mz e))];exact e
 .intro x n e
  obtain ⟨c,ty,h1,h2⟩:=h.shape x n e
  exact ⟨c,ty,by rw [b.block x (Gp h1)];exact h1,h2⟩
 .intro x cs e
  obtain ⟨vs,ty,h1,h2⟩:=h.box x cs e
  exact ⟨vs,ty,by rw [b.block x (Gp h1)];exact h1,h2⟩
 .intro x n e
  exact ⟨Nat.lt_of_lt_of_le (h.hw x n e).1 b.size,(h.hw x n e).2⟩
theorem Dt {P:Program} {args:List V} {st:St} (hf:Plain P f) (v:V)
 (h:∀(I:Mem) (w:World) (U:List Value),CL I st w->Ap I args U->Calls P f U.toArray w λe w'=>(∃c,e=.returned c/\A3 I v c)/\RowKit.Below w.heap.size w w')
 (k:R (.ret v) st):Bo P f args st R:=
 ⟨λI w U hs ha=>(h I w U hs ha).mono λe w' ⟨⟨c,he,hc⟩,hb⟩=>⟨I,st,.ret v,(hs.below hb).1,(hs.below hb).2,by subst he;exact hc,k⟩,hf⟩
theorem CL.row {st:St} {w:World} (h:CL I st w) (vs:List Value) (ty:TypeId):
 Fr I st w (I.add w.heap.size 0 vs vs.length) st (w.alloc (.cells vs.toArray ty))/\CL (I.add w.heap.size 0 vs vs.length) st (w.alloc (.cells vs.toArray ty))/\I.le (I.add w.heap.size 0 vs vs.length):=by
 have U:Rel [] I st w I (λ_=>none) {tmps:=[],boxes:=[],BU:=0,sz:=0,gl:=[]} st {tmps:=#[],defers:=[]} w:=
  NP h rfl (λt v e=>by cases e) rfl rfl
 have h1:=U.newRow vs [] ty
 rw [List.append_nil,List.length_nil,Nat.add_zero] at h1
 have h2:=h1.H5 (St.Ec (St.le_refl st) (DM h).2 vs.length)
 exact ⟨h2.fr,h2.s,h2.fr.le⟩
theorem pL {n:Nat} (l:List (List UInt8)) (hl:∀x ∈ l,x.length<DR) (hn:l.length<DR)
 (hle:I.le (I.add b 0 (l.map λx=>Value.string ⟨x.toArray⟩) n)):
 A3 (I.add b 0 (l.map λx=>Value.string ⟨x.toArray⟩) n) (.slice 1 (l.map λx=>[.str x]) .any) (.slice (some ⟨b,0,none⟩) l.length l.length):=by
 simp only [A3]
 refine ⟨some ⟨b,0,none⟩,l.length,GT,GT,f9,Do,trivial,.inr rfl,?_⟩
 refine CD.add _ (l.map λx=>Value.string ⟨x.toArray⟩) 0 ?_ hle (λj c U=>Mem.Mk U)
 clear hle hn
 induction l with
 |nil=>rfl
 |cons a r ih=>
  simp only [List.map_cons,Cw]
  refine ⟨[Value.string ⟨a.toArray⟩],r.map λx=>Value.string ⟨x.toArray⟩,rfl,rfl,?_,ih λx hx=>hl x (List.mem_cons_of_mem _ hx)⟩
  simp only [Ap,A3]
  simp_all
end Go.Aw
namespace Go.Proofs.Z
open Go Go.Aw
def Vo (s:List UInt8):Int×Int:=match s with
 |[]=>(65533,0)
 |a::r=>(((Ba (a::r)).1:Nat),((Ba (a::r)).2:Nat))
theorem Pj (s:List UInt8):(((Lib.decodeGo ⟨s.toArray⟩).1:Nat):Int)=(Vo s).1/\(((Lib.decodeGo ⟨s.toArray⟩).2:Nat):Int)=(Vo s).2:=by
 cases s with
 |nil=>exact ⟨rfl,rfl⟩
 |cons a r=>
  have U:¬(⟨(a::r).toArray⟩:ByteArray).size=0:=by show ¬(a::r).toArray.size=0;simp
  unfold Lib.decodeGo
  rw [if_neg U,Vp GT,List.drop_zero]
  exact ⟨rfl,rfl⟩
section
variable {st:St} {R:As->St->Prop}
theorem vQ (h:R (.ret (.Bc [.int .i32 (Vo s).1,.int .i64 (Vo s).2])) st):PC 68 [.str s] st R:=by
 refine Dt ⟨_,Tryz.func68,Do,Do⟩ _ (λI w cargs U ha=>?_) h
 simp only [Ap,A3] at ha
 obtain ⟨c,r,rfl,⟨rfl,hl⟩,rfl⟩:=ha
 refine (Tryz.utf8_DecodeRuneInString ⟨s.toArray⟩ w ⟨λi hi=>U.cell _ _ _ (U.TQ.first i hi),λi hi=>⟨U.cell _ _ _ (U.TQ.accept i hi).1,U.cell _ _ _ (U.TQ.accept i hi).2⟩⟩).mono λe w' ⟨he,hb⟩=>⟨⟨_,he,?_⟩,hb⟩
 rw [(Pj s).1,(Pj s).2]
 simp only [A3,Ap]
 exact ⟨_,rfl,_,_,rfl,rfl,_,_,rfl,rfl,rfl⟩
theorem Jy {p:List UInt8} (h:R (.ret (.bool (p.isPrefixOf s))) st):PC 73 [.str s,.str p] st R:=by
 refine Dt ⟨_,Tryz.func73,Do,Do⟩ _ (λI w U hs ha=>?_) h
 simp only [Ap,A3] at ha
 obtain ⟨c,r,rfl,⟨rfl,hl⟩,c2,r2,rfl,⟨rfl,hl2⟩,rfl⟩:=ha
 refine (Tryz.strings_HasPrefix ⟨s.toArray⟩ ⟨p.toArray⟩ w).mono λe w' ⟨he,hw⟩=>⟨⟨_,he,?_⟩,hw ▸ RowKit.Below.refl _ _⟩
 simp only [A3]
 rfl
theorem za {c:UInt8} (hc:c.toNat<128) (h:R (.ret (.str (Lib.trimB s c))) st):PC 119 [.str s,.str [c]] st R:=by
 refine Dt ⟨_,Tryz.func119,Do,Do⟩ _ (λI w U hs ha=>?_) h
 simp only [Ap,A3] at ha
 obtain ⟨c1,r,rfl,⟨rfl,hl⟩,c2,r2,rfl,⟨rfl,hl2⟩,rfl⟩:=ha
 have hsz:(⟨s.toArray⟩:ByteArray).size<=9223372036854775807:=by show s.toArray.size<=_;unfold DR at hl;simp;omega
 refine (Tryz.strings_Trim_one ⟨s.toArray⟩ c hc w hsz).mono λe w' ⟨he,hw⟩=>⟨⟨_,he,?_⟩,?_⟩
 .simp only [A3]
  refine ⟨trivial,?_⟩
  have:(Lib.trimB s c).length<=s.length:=by
   unfold Lib.trimB Lib.trimLeftB Lib.trimRightB
   refine Nat.le_trans (List.dropWhile_sublist _).length_le ?_
   rw [List.length_reverse]
   refine Nat.le_trans (List.dropWhile_sublist _).length_le ?_
   simp
  unfold DR at hl |-;omega
 .rcases hw with rfl|rfl
  .exact RowKit.Below.refl _ _
  .exact (RowKit.Below.refl _ _).drew
theorem xn {c:UInt8} (h:R (.ret (.int .i64 (Lib.indexByte s c))) st):PC 294 [.str s,.int .u8 c.toNat] st R:=by
 refine Dt ⟨_,Tryz.func294,Do,Do⟩ _ (λI w U hs ha=>?_) h
 simp only [Ap,A3] at ha
 obtain ⟨c1,r,rfl,⟨rfl,hl⟩,c2,r2,rfl,rfl,rfl⟩:=ha
 refine (Tryz.strings_IndexByte ⟨s.toArray⟩ c.toNat w).mono λe w' ⟨he,hw⟩=>⟨⟨_,he,?_⟩,hw ▸ RowKit.Below.refl _ _⟩
 simp [A3]
theorem bj (hz:s.length<4294967281) (h:R (.ret (.bool (Lib.contains s t))) st):PC 125 [.str s,.str t] st R:=by
 refine Dt ⟨_,Tryz.func125,Do,Do⟩ _ (λI w U hs ha=>?_) h
 simp only [Ap,A3] at ha
 obtain ⟨c1,r,rfl,⟨rfl,hl⟩,c2,r2,rfl,⟨rfl,hl2⟩,rfl⟩:=ha
 obtain ⟨m,hm⟩:=hs.TQ.maxLen
 refine (Tryz.strings_Contains ⟨s.toArray⟩ ⟨t.toArray⟩ m w (by show s.toArray.size<_;simpa using hz) (hs.cell _ _ _ hm)).mono λe w' ⟨he,hw⟩=>⟨⟨_,he,?_⟩,hw ▸ RowKit.Below.refl _ _⟩
 simp [A3]
end
end Go.Proofs.Z
namespace Go.Aw
open Go
noncomputable def Env.Mm (env:Env) (U:List (Nat×V)) (bx:List (Nat×List V)) (keep kb:List Nat):Env:=match env with
 |⟨ts,bs,n,sz,gl⟩=>⟨Env.ts ⟨ts,bs,n,sz,gl⟩ U keep,List.rec (motive:=λ_=>List (Nat×List V)) (Env.bx ⟨ts,bs,n,sz,gl⟩ kb) (λp _ ih=>p::ih) bx,n,sz,gl⟩
theorem Sh {st:St} (f:α->List (Nat×V)) (g:α->List (Nat×List V)) (keep kb:List Nat) (S:α->St) (J:α->Prop) (U:α->Nat) (x0:α) (h0:J x0)
 (he:(env.Mm (f x0) (g x0) keep kb).E3 env) (hs:St.le (S x0) st)
 (hb:∀x,J x->ih (B2 (λenv' st'=>∃y,J y/\U y<U x/\(env.Mm (f y) (g y) keep kb).E3 env'/\St.le (S y) st') Q) (env.Mm (f x) (g x) keep kb) (S x)):
 ∃(α:Type) (E:α->Env) (S:α->St) (J:α->Prop) (U:α->Nat) (x0:α),J x0/\(E x0).E3 env/\St.le (S x0) st/\
  ∀x,J x->ih (B2 (λenv' st'=>∃y,J y/\U y<U x/\(E y).E3 env'/\St.le (S y) st') Q) (E x) (S x):=
 ⟨α,λk=>env.Mm (f k) (g k) keep kb,S,J,U,x0,h0,he,hs,hb⟩
theorem KT {st:St} {β:Type} (f:α->β->List (Nat×V)) (g:α->β->List (Nat×List V)) (keep kb:List Nat) (S:α->β->St) (J:α->β->Prop) (U:α->β->Nat) (x0:α) (y0:β) (h0:J x0 y0)
 (he:(env.Mm (f x0 y0) (g x0 y0) keep kb).E3 env) (hs:St.le (S x0 y0) st)
 (hb:∀x y,J x y->ih (B2 (λenv' st'=>∃p:α×β,J p.1 p.2/\U p.1 p.2<U x y/\(env.Mm (f p.1 p.2) (g p.1 p.2) keep kb).E3 env'/\St.le (S p.1 p.2) st') Q) (env.Mm (f x y) (g x y) keep kb) (S x y)):
 ∃(α:Type) (E:α->Env) (S:α->St) (J:α->Prop) (U:α->Nat) (x0:α),J x0/\(E x0).E3 env/\St.le (S x0) st/\
  ∀x,J x->ih (B2 (λenv' st'=>∃y,J y/\U y<U x/\(E y).E3 env'/\St.le (S y) st') Q) (E x) (S x):=
 ⟨α×β,λp=>env.Mm (f p.1 p.2) (g p.1 p.2) keep kb,λp=>S p.1 p.2,λp=>J p.1 p.2,λp=>U p.1 p.2,(x0,y0),h0,he,hs,λp h=>hb p.1 p.2 h⟩
theorem VY {st:St} {β γ:Type} (f:α->β->γ->List (Nat×V)) (g:α->β->γ->List (Nat×List V)) (keep kb:List Nat) (S:α->β->γ->St) (J:α->β->γ->Prop) (U:α->β->γ->Nat) (x0:α) (y0:β) (z0:γ) (h0:J x0 y0 z0)
 (he:(env.Mm (f x0 y0 z0) (g x0 y0 z0) keep kb).E3 env) (hs:St.le (S x0 y0 z0) st)
 (hb:∀x y z,J x y z->ih (B2 (λenv' st'=>∃p:α×β×γ,J p.1 p.2.1 p.2.2/\U p.1 p.2.1 p.2.2<U x y z/\(env.Mm (f p.1 p.2.1 p.2.2) (g p.1 p.2.1 p.2.2) keep kb).E3 env'/\St.le (S p.1 p.2.1 p.2.2) st') Q) (env.Mm (f x y z) (g x y z) keep kb) (S x y z)):
 ∃(α:Type) (E:α->Env) (S:α->St) (J:α->Prop) (U:α->Nat) (x0:α),J x0/\(E x0).E3 env/\St.le (S x0) st/\
  ∀x,J x->ih (B2 (λenv' st'=>∃y,J y/\U y<U x/\(E y).E3 env'/\St.le (S y) st') Q) (E x) (S x):=
 ⟨α×β×γ,λp=>env.Mm (f p.1 p.2.1 p.2.2) (g p.1 p.2.1 p.2.2) keep kb,λp=>S p.1 p.2.1 p.2.2,λp=>J p.1 p.2.1 p.2.2,λp=>U p.1 p.2.1 p.2.2,(x0,y0,z0),h0,he,hs,λp h=>hb p.1 p.2.1 p.2.2 h⟩
theorem Bt {k:IntKind} {a b:Int} (e:a=b):As.ret (.int k a)=As.ret (.int k b):=by rw [e]
theorem WJ {n:Nat} {p:Prop} (k:n<4611686018427387904->p):n<DR->p:=k
theorem WK {l:List UInt8} {K:Nat->Nat->Prop} (k:∀c m,(c,m)=Ba l->K c m):∀c m,(c,m)=Ba l->K c m:=k
theorem WN {a:Int} {K:List UInt8->Prop} (U:0<=a) (h1:a<=s.length) (k:K (s.drop a.toNat)):
 (0<=a/\a<=(s.length:Int)/\(s.length:Int)<=s.length)/\∀s',s'=(s.take (s.length:Int).toNat).drop a.toNat->K s':=
 ⟨⟨U,h1,Int.le_refl _⟩,λs' e=>by
   simp_all⟩
theorem WO {b:Int} {K:List UInt8->Prop} (U:0<=b) (h1:b<=s.length) (k:K (s.take b.toNat)):
 ((0:Int)<=0/\0<=b/\b<=s.length)/\∀s',s'=(s.take b.toNat).drop (0:Int).toNat->K s':=
 ⟨⟨Int.le_refl _,U,h1⟩,λs' e=>by
   simp_all⟩
theorem WP {a b:Int} {K:List UInt8->Prop} (U:0<=a) (h1:a<=b) (h2:b<=s.length) (k:K ((s.take b.toNat).drop a.toNat)):
 (0<=a/\a<=b/\b<=s.length)/\∀s',s'=(s.take b.toNat).drop a.toNat->K s':=⟨⟨U,h1,h2⟩,λs' e=>e ▸ k⟩
theorem WM {K:UInt8->Prop} (U:0<=i) (h1:i<s.length) (k:∀e,s[i.toNat]? =some e->K e):0<=i/\∃e,s[i.toNat]? =some e/\K e:=f9
theorem WL {K:UInt8->Prop} (h:s[i.toNat]? =some e) (U:0<=i) (k:K e):0<=i/\∃e,s[i.toNat]? =some e/\K e:=⟨U,e,h,k⟩
theorem EG (h:P:=by with_reducible first|(show _/\_;first|exact Wa)|(show Bw _ _ _;first|exact Wb|exact Wc)|fail):P:=h
theorem B6 {A:Prop} (k:A) (h:A->P:=by intro k;with_reducible first|(show _/\_;first|  exact Wm ‹_› AC k|exact Wn AC AC k|exact Wo AC AC k|exact Wp AC AC AC k|exact Wr Do AC AC k|exact Ws Do k|exact WB ‹_› AC k|exact WC AC AC k|exact WD AC AC k|exact WE AC AC AC k|exact WL ‹_› AC k|exact WM AC AC k|exact WN AC AC k|exact WO AC AC k|exact WP AC AC AC k)|(show Bw _ _ _;first|exact Wt H9 k|exact Wu H9 k|exact Wv AC k|exact Ww AC k|exact Wi k|exact Wj k)|(intro x y z;exact Wl k x y z)|(intro x y z;exact Wz k x y z)|(intro x y z;exact WA k x y z)|(intro x;exact WJ k x)|(intro x y z;exact WK k x y z)|(show Exists _;first|exact Wq AC AC k)|fail):P:=h k
theorem EH {B C:V->Prop} (k:V) (l:B k) (m:C k) (h:∀k,B k->C k->P:=by intro k l m;with_reducible first|(show Exists _;first|  exact W8 GE k l m|exact W0 GE k l m|exact W9 k l m)|fail):P:=h k l m
theorem Cv {A B:Prop} (k:A) (l:B) (h:A->B->P:=by intro k l;with_reducible first|(show Bw _ _ _;first|exact Wf Do k l|exact Wg k l|exact Wh k l|exact Wk k l)|fail):P:=h k l
def CA (c:Int):Int:=
 if c=40\/c=41\/c=44\/c=59\/c=91\/c=93\/c=96\/c=123\/c=125 then 6
 else if c=34\/c=39 then 7
 else if 32<c/\c<127 then 5
 else 0
def Li (c:Int):Int:=
 if c=215\/c=247 then 5
 else if 223<=c/\c<=255\/945<=c/\c<=969 then 2
 else if 192<=c/\c<=222\/913<=c/\c<=937/\c≠930 then 3
 else if c<160\/c=173\/55296<=c/\c<=57343\/1114111<c then 0
 else if 160<c/\c<=191\/8592<=c/\c<=8959 then 5
 else 8
def AA (c:Int):Int:=
 if c=32\/9<=c/\c<=13 then 1
 else if 48<=c/\c<=57 then 4
 else if 97<=c/\c<=122\/c=95 then 2
 else if 65<=c/\c<=90 then 3
 else if c<128 then CA c else Li c
def BE (c base:Int):Int:=
 let v:=if 48<=c/\c<=57 then c - 48 else if 97<=c/\c<=102 then c - 87 else if 65<=c/\c<=70 then c - 55 else 16
 if base<2\/16<base\/base<=v then -1 else v
theorem GX (l:List UInt8):1<=(Ba l).2:=by
 unfold Ba
 grind
theorem JQ {l:List UInt8} (h:l≠[]):(Ba l).2<=l.length:=by
 cases l with
 |nil=>simp_all
 |cons a l=>
  have U:∀k:Nat,(match l[k]? with|some b=>b.toNat / 64==2|none=>false)=true->k+2<=(a::l).length:=λk e=>by grind
  unfold Ba
  grind
def Cs (p:Nat×Nat->Bool) (l:List UInt8):Nat:=
 match l with
 |[]=>0
 |a::r=>if p (Ba (a::r)) then (Ba (a::r)).2+Cs p ((a::r).drop (Ba (a::r)).2) else 0
termination_by l.length
decreasing_by
 have:=GX (a::r)
 grind
theorem OU (p:Nat×Nat->Bool):Cs p []=0:=by rw [Cs]
theorem LH {p:Nat×Nat->Bool} {l:List UInt8} (h:l≠[]) (U:p (Ba l)=true):Cs p l=(Ba l).2+Cs p (l.drop (Ba l).2):=by
 cases l with
 |nil=>simp_all
 |cons a r=>rw [Cs,if_pos U]
theorem N3 {p:Nat×Nat->Bool} {l:List UInt8} (U:p (Ba l)=false):Cs p l=0:=by
 cases l with
 |nil=>exact OU p
 |cons a r=>rw [Cs,if_neg f9]
theorem N2 (p:Nat×Nat->Bool) (l:List UInt8):Cs p l<=l.length:=by
 fun_induction Cs p l with
 |case1=>omega
 |case2 a r h ih=>
  have:=JQ (l:=a::r) GT
  grind
 |case3 a r h=>omega
theorem dw (p:Nat×Nat->Bool) (l:List UInt8) (h:Cs p l<l.length):p (Ba (l.drop (Cs p l)))=false:=by
 fun_induction Cs p l with
 |case1=>simp at h
 |case2 a r U ih=>
  rw [List.length_drop] at ih
  have:=JQ (l:=a::r) GT
  rw [<-List.drop_drop]
  grind
 |case3 a r U=>simp_all
def BD (p:Int->Bool) (l:List UInt8):Nat:=Cs (λd=>p (d.1:Nat)) l
theorem kG (p:Int->Bool):BD p []=0:=OU _
theorem UK {p:Int->Bool} {l:List UInt8} (h:l≠[]) (U:p ((Ba l).1:Nat)=true):BD p l=(Ba l).2+BD p (l.drop (Ba l).2):=LH h U
theorem qt {p:Int->Bool} {l:List UInt8} (U:p ((Ba l).1:Nat)=false):BD p l=0:=N3 U
theorem Dz (p:Int->Bool) (l:List UInt8):BD p l<=l.length:=N2 _ l
theorem S1 (p:Int->Bool) (l:List UInt8) (h:BD p l<l.length):p ((Ba (l.drop (BD p l))).1:Nat)=false:=dw _ l h
theorem rune_le {c:Nat} (h:pos<t.length) (U:(c,m)=Ba (t.drop pos)):pos+m<=t.length/\1<=m:=by
 have h1:=GX (t.drop pos)
 have h2:=JQ (l:=t.drop pos) (λe=>by have:=congrArg List.length e;grind)
 grind
theorem gj {c:Nat} (U:(c,m)=Ba (t.drop pos)):¬pos<t.length\/(pos+m<=t.length/\1<=m):=by
 by_cases h:pos<t.length
 .exact .inr (rune_le h U)
 omega
theorem LI {p:Nat×Nat->Bool} {c n:Nat} (h:pos<t.length) (U:(c,m)=Ba (t.drop pos)) (hp:p (c,m)=true) (hi:n=pos+Cs p (t.drop pos)):n=pos+m+Cs p (t.drop (pos+m)):=by
 rw [hi,LH (λe=>by have:=congrArg List.length e;grind) f9,<-U,List.drop_drop]
 grind
theorem N4 {p:Nat×Nat->Bool} {c n:Nat} (U:(c,m)=Ba (t.drop pos)) (hp:p (c,m)=false) (hi:n=pos+Cs p (t.drop pos)):n=pos:=by
 rw [hi,N3 f9];rfl
theorem K8 {p:Nat×Nat->Bool} {n:Nat} (h:¬pos<t.length) (hi:n=pos+Cs p (t.drop pos)):n=pos:=by
 rw [hi,List.drop_eq_nil_iff.2 AC,OU];rfl
def Fc (d:Nat×Nat):Bool:= !(d.1==65533&&d.2==1)
end Go.Aw
namespace Go.Proofs.Z
open Go Go.Aw
def NM (s:List UInt8) (i:Int):Int×Int:=if i<0\/s.length<=i then (0,0) else Vo (s.drop i.toNat)
def qc (s:List UInt8) (i U:Int):Int:=if i<0\/s.length<i then 0 else i+BD (λc=>AA c==U) (s.drop i.toNat)
def M8 (s:List UInt8):Int×Int:=if Cs Fc s<s.length then (Cs Fc s,10) else (s.length,0)
theorem Uv (h:i<0\/s.length<=i):NM s i=(0,0):=if_pos h
theorem NO (h:0<=i) (k:i<s.length):NM s i=Vo (s.drop i.toNat):=if_neg AC
theorem ZB (h:i<0\/s.length<i):qc s i k=0:=if_pos h
theorem Ke (h:0<=i) (h1:i<=s.length):qc s i k=i+BD (λc=>AA c==k) (s.drop i.toNat):=if_neg AC
theorem ep (h:s≠[]):Vo s=((((Ba s).1:Nat):Int),(((Ba s).2:Nat):Int)):=by
 cases s with
 |nil=>exact absurd rfl h
 |cons a r=>rfl
theorem Nb {c:Nat} (h:pos<s.length) (U:(c,m)=Ba (s.drop pos)):Vo (s.drop (pos:Int).toNat)=((c:Int),(m:Int)):=by
 rw [show (pos:Int).toNat=pos by omega,ep (λe=>by have:=congrArg List.length e;rw [List.length_drop,List.length_nil] at this;omega),<-U]
theorem mo (h:pos<s.length) (k:Cs Fc s=pos):M8 s=(((pos:Nat):Int),10):=by
 unfold M8;rw [k,if_pos h]
theorem sl (h:¬pos<s.length) (k:Cs Fc s=pos):M8 s=((s.length:Int),0):=by
 unfold M8;rw [k,if_neg h]
section
variable {st:St} {R:As->St->Prop}
theorem yd (h:R (.ret (.int .i64 (CA c))) st):PC 70 [.int .i32 c] st R:=by
 refine pB Tryz.func70 ?_
 repeat' ((conv=>whnf);first|  (refine Cv ?_ ?_<;>intro _)|fail)
 all_goals exact fin h (Bt (by unfold CA;(repeat' split)<;>first|omega|rfl))
theorem l5 (h:R (.ret (.int .i64 (Li c))) st):PC 71 [.int .i32 c] st R:=by
 refine pB Tryz.func71 ?_
 repeat' ((conv=>whnf);first|(refine B6 ?_;intros)|(refine Cv ?_ ?_<;>intro _)|fail)
 all_goals exact fin h (Bt (by unfold Li;(repeat' split)<;>first|omega|rfl))
theorem Ll (h:R (.ret (.int .i64 (AA c))) st):PC 46 [.int .i32 c] st R:=by
 refine pB Tryz.func46 ?_
 repeat' ((conv=>whnf);first|(refine B6 ?_;intros)|(refine Cv ?_ ?_<;>intro _)|refine yd ?_|refine l5 ?_)
 all_goals exact fin h (Bt (by unfold AA;(repeat' split)<;>first|omega|rfl))
theorem oS (U:s.length<4611686018427387904) (h:R (.ret (.Bc [.int .i32 (NM s i).1,.int .i64 (NM s i).2])) st):PC 105 [.str s,.int .i64 i] st R:=by
 refine pB Tryz.func105 ?_
 repeat' ((conv=>whnf);first|(refine B6 ?_;intros)|(refine Cv ?_ ?_<;>intro _)|refine vQ ?_)
 all_goals exact fin h (by first|rw [Uv AC]|rw [NO AC AC])
theorem wG (hl:s.length<4611686018427387904) (h:R (.ret (.int .i64 (qc s i k))) st):PC 72 [.str s,.int .i64 i,.int .i64 k] st R:=by
 refine pB Tryz.func72 ?_
 repeat' ((conv=>whnf);first|(refine B6 ?_;intros)|(refine Cv ?_ ?_<;>intro _)|refine Ll ?_)
 all_goals try exact fin h (Bt (ZB AC))
 have hlen:(s.drop i.toNat).length=s.length - i.toNat:=List.length_drop
 generalize ht:s.drop i.toNat=t at hlen
 refine Sh (α:=Nat) (λ_=>[]) (λpos=>[(0,[.P1 t pos])]) [0,1,2,20] [] (λ_=>st) (λpos=>pos<=t.length/\BD (λc=>AA c==k) t=pos+BD (λc=>AA c==k) (t.drop pos)) (λpos=>t.length - pos) 0 ⟨Nat.zero_le _,GT⟩ Yl (St.le_refl _) ?_
 rintro pos ⟨hp,hi⟩
 repeat' ((conv=>whnf);first|(refine B6 ?_;intros)|(refine Cv ?_ ?_<;>intro _)|refine Ll ?_)
 .rename_i U c m hd hk
  have hr:=rune_le U hd
  conv=>whnf
  exact ⟨pos+m,⟨hr.1,LI U hd (beq_iff_eq.2 hk) hi⟩,AC,Yl,St.le_refl _⟩
 .rename_i U c m hd hk
  have:=N4 (p:=λd=>AA (d.1:Nat)==k) hd (beq_eq_false_iff_ne.2 hk) hi
  exact fin h (Bt (by rw [Ke AC AC,ht,this]))
 .rename_i U hls
  have:=K8 U hi
  exact fin h (Bt (by rw [Ke AC AC,ht,this];omega))
theorem Vi (h:R (.ret (.Bc [.int .i64 (M8 s).1,.int .i64 (M8 s).2])) st):PC 43 [.str s] st R:=by
 refine pB Tryz.func43 ?_
 repeat' ((conv=>whnf);first|(refine B6 ?_;intros)|(refine Cv ?_ ?_<;>intro _)|fail)
 refine Sh (α:=Nat) (λ_=>[]) (λpos=>[(0,[.P1 s pos])]) [0,9] [] (λ_=>st) (λpos=>pos<=s.length/\Cs Fc s=pos+Cs Fc (s.drop pos)) (λpos=>s.length - pos) 0 ⟨Nat.zero_le _,GT⟩ Yl (St.le_refl _) ?_
 rintro pos ⟨hp,hi⟩
 repeat' ((conv=>whnf);first|(refine B6 ?_;intros)|(refine Cv ?_ ?_<;>intro _)|refine vQ ?_)
 .rename_i U c m hd hc hm
  rw [Nb U hd] at hm
  have hk:=N4 hd (by simp only [Fc];have h1:c=65533:=hc;have h2:m=1:=Int.ofNat.inj hm;rw [h1,h2];rfl) hi
  exact fin h (by rw [mo U hk])
 .rename_i U c m hd hc hm
  rw [Nb U hd] at hm
  have hr:=rune_le U hd
  conv=>whnf
  exact ⟨pos+m,⟨hr.1,LI U hd (by simp only [Fc];have:¬m=1:=λe=>hm (by subst e;rfl);simp [this]) hi⟩,AC,Yl,St.le_refl _⟩
 .rename_i U c m hd hc
  have hr:=rune_le U hd
  conv=>whnf
  exact ⟨pos+m,⟨hr.1,LI U hd (by simp only [Fc];have:¬c=65533:=hc;simp [this]) hi⟩,AC,Yl,St.le_refl _⟩
 .rename_i U hls
  exact fin h (by rw [sl U (K8 U hi)])
end
end Go.Proofs.Z
namespace Go.Aw
open Go
theorem T6 {K:Int->Prop} (k:K (e.toNat:Nat)):∃r,r=IntKind.i64.wrap ((e.toNat:Nat):Int)/\K r:=by
 have:=e.toNat_lt
 exact Wq AC AC k
def AV:List UInt8->Int
 |[]=> -1
 |a::_=>(a.toNat:Nat)
theorem RR (l:List UInt8): -1<=AV l/\AV l<=255:=by
 cases l with
 |nil=>exact ⟨Do,Do⟩
 |cons a r=>have:=a.toNat_lt;simp only [AV];omega
def FE:Nat->List UInt8->Int->Option Int
 |0,_,c=>some c
 |k+1,l,c=>if AV l<128\/191<AV l then none else FE k (l.drop 1) (c*64+AV l - 128)
def Rm (o:Option Int) (least n:Int):Int×Int:=match o with
 |none=>(65533,1)
 |some c=>if c<least\/1114111<c\/55296<=c/\c<=57343 then (65533,1) else (c,n)
theorem mT [Decidable P] {o:Option Int} {l n:Int}:Rm (if P then none else o) l n=if P then (65533,1) else Rm o l n:=by
 by_cases h:P
 .rw [if_pos h,if_pos h];rfl
 .rw [if_neg h,if_neg h]
theorem iP {l n:Int}:Rm (some c) l n=if c<l\/1114111<c\/55296<=c/\c<=57343 then (65533,1) else (c,n):=rfl
def rD (l:List UInt8):Int×Int:=
 if AV l<0 then (0,0)
 else if AV l<128 then (AV l,1)
 else if 194<=AV l/\AV l<=223 then Rm (FE 1 (l.drop 1) (AV l - 192)) 128 2
 else if 224<=AV l/\AV l<=239 then Rm (FE 2 (l.drop 1) (AV l - 224)) 2048 3
 else if 240<=AV l/\AV l<=244 then Rm (FE 3 (l.drop 1) (AV l - 240)) 65536 4
 else (65533,1)
end Go.Aw
namespace Go.Proofs.Z
open Go Go.Aw
def rfF (l:List UInt8):Int×Int:=match l with
 |[]=>(0,0)
 |a::r=>Vo (a::r)
set_option maxRecDepth 100000 in
theorem yG (l:List UInt8):rD l=rfF l:=by
 cases l with
 |nil=>rfl
 |cons a r=>
  have U:=a.toNat_lt
  show rD (a::r)=((((Ba (a::r)).1:Nat):Int),(((Ba (a::r)).2:Nat):Int))
  rcases r with _|⟨b,_|⟨c,_|⟨d,t⟩⟩⟩
  all_goals try have hb:=b.toNat_lt
  all_goals try have hc:=c.toNat_lt
  all_goals try have hd:=d.toNat_lt
  all_goals unfold Ba rD
  all_goals dsimp only
  all_goals simp only [FE,AV,mT,iP,List.drop_succ_cons,List.drop_zero,List.drop_nil]
  all_goals simp only [List.getElem?_nil,List.getElem?_cons_zero,List.getElem?_cons_succ,List.getD_cons_zero,List.getD_cons_succ]
  all_goals simp only [Bool.and_eq_true,beq_iff_eq,Bool.false_eq_true,and_false,false_and,if_false]
  all_goals try simp only [decide_eq_true_eq,Utf8.valid,Bool.or_eq_true,Bool.and_eq_true]
  all_goals repeat' (first|rw [if_pos AC]|rw [if_neg AC]|split)
  all_goals first|rfl|omega|(simp only [Prod.mk.injEq];done)|(simp only [Prod.mk.injEq];omega)
def Kw (s:List UInt8) (i:Int):Int:=if i<0 then -1 else AV (s.drop i.toNat)
theorem rQ (h:i<0\/s.length<=i):Kw s i= -1:=by
 unfold Kw
 split
 .rfl
 .rw [List.drop_eq_nil_iff.2 AC];rfl
theorem xc (U:¬i<0) (h:s[i.toNat]? =some e):Kw s i=(e.toNat:Nat):=by
 unfold Kw
 rw [if_neg U,drop_at h];rfl
def El (s:List UInt8) (i:Int):Int×Int:=if i<0 then (0,0) else rD (s.drop i.toNat)
theorem Oq {n k:Nat} {l:List UInt8} (h:k<n) (U:d=AV (l.drop k)) (b:d<128\/191<d):FE (n - k) (l.drop k) c=none:=by
 obtain ⟨j,rfl⟩:∃j,n=k+1+j:=⟨n - (k+1),AC⟩
 rw [show k+1+j - k=j+1 by omega,FE,if_pos (U ▸ b)]
theorem Q8 {n k:Nat} {l:List UInt8} (h:k<n) (U:d=AV (l.drop k)) (b:¬(d<128\/191<d)):FE (n - (k+1)) (l.drop (k+1)) (c*64+d - 128)=FE (n - k) (l.drop k) c:=by
 obtain ⟨j,rfl⟩:∃j,n=k+1+j:=⟨n - (k+1),AC⟩
 rw [show k+1+j - k=j+1 by omega,show k+1+j - (k+1)=j by omega,FE,if_neg (U ▸ b),List.drop_drop,U]
theorem HH {n k:Nat} {l:List UInt8} (h:n - k=0):FE (n - k) l c=some c:=by rw [h];rfl
theorem Kz (h:¬Kw s i<0):0<=i/\Kw s i=AV (s.drop i.toNat):=by
 unfold Kw at h |-
 omega
theorem U8 {k:Nat} (h:0<=i):Kw s (i+k)=AV ((s.drop i.toNat).drop k):=by
 unfold Kw
 rw [if_neg AC,List.drop_drop,show (i+(k:Int)).toNat=i.toNat+k by omega]
theorem Zv (h:Kw s i<0):El s i=(0,0):=by
 unfold El
 split
 .rfl
 .rename_i U
  unfold Kw at h
  rw [if_neg U] at h
  unfold rD
  simp_all
theorem di (h:¬Kw s i<0) (k:Kw s i<128):El s i=(Kw s i,1):=by
 obtain ⟨U,e⟩:=Kz h
 rw [e] at h k |-
 unfold El rD
 grind
theorem SJ (h:194<=Kw s i) (k:Kw s i<=223):El s i=Rm (FE (2 - 1) ((s.drop i.toNat).drop 1) (Kw s i - 192)) 128 2:=by
 obtain ⟨U,e⟩:=Kz (s:=s) (i:=i) AC
 rw [e] at h k |-
 unfold El rD
 grind
theorem SK (h:224<=Kw s i) (k:Kw s i<=239):El s i=Rm (FE (3 - 1) ((s.drop i.toNat).drop 1) (Kw s i - 224)) 2048 3:=by
 obtain ⟨U,e⟩:=Kz (s:=s) (i:=i) AC
 rw [e] at h k |-
 unfold El rD
 grind
theorem SL (h:240<=Kw s i) (k:Kw s i<=244):El s i=Rm (FE (4 - 1) ((s.drop i.toNat).drop 1) (Kw s i - 240)) 65536 4:=by
 obtain ⟨U,e⟩:=Kz (s:=s) (i:=i) AC
 rw [e] at h k |-
 unfold El rD
 grind
theorem dh (h:¬Kw s i<128) (k:¬(194<=Kw s i/\Kw s i<=244)):El s i=(65533,1):=by
 obtain ⟨U,e⟩:=Kz (s:=s) (i:=i) AC
 rw [e] at h k
 unfold El rD
 grind
theorem Rn {l n:Int} (h:c<l\/1114111<c\/55296<=c/\c<=57343):Rm (some c) l n=(65533,1):=if_pos h
theorem Oy {l n:Int} (h:¬(c<l\/1114111<c\/55296<=c/\c<=57343)):Rm (some c) l n=(c,n):=if_neg h
section
variable {st:St} {R:As->St->Prop}
theorem fO (h:R (.ret (.int .i64 (Kw s i))) st):PC 301 [.str s,.int .i64 i] st R:=by
 refine pB Tryz.func301 ?_
 repeat' ((conv=>whnf);first|(refine B6 ?_;intros)|(refine Cv ?_ ?_<;>intro _)|refine T6 ?_)
 all_goals first|exact fin h (Bt (rQ AC))|exact fin h (Bt (xc AC ‹_›))
theorem wA {a b:Int} (h:R (.ret (.bool (decide (a<=c/\c<=b)))) st):PC 261 [.int .i64 c,.int .i64 a,.int .i64 b] st R:=by
 refine pB Tryz.func261 ?_
 repeat' ((conv=>whnf);first|  (refine Cv ?_ ?_<;>intro _)|fail)
 all_goals exact fin h (congrArg (λb=>As.ret (V.bool b)) (by first|exact decide_eq_true (by omega)|exact decide_eq_false AC))
theorem Zo (h:R (.ret (.int .i64 (AA c))) st):PC 256 [.int .i64 c] st R:=by
 refine pB Tryz.func256 ?_
 repeat' ((conv=>whnf);first|(refine B6 ?_;intros)|(refine Cv ?_ ?_<;>intro _)|refine wA ?_)
 all_goals exact fin h (Bt (by unfold AA CA Li;repeat' (first|rfl|rw [if_pos AC]|rw [if_neg AC]|split)))
theorem fZ (hl:s.length<4611686018427387904) (hi:i<4611686018427387904) (h:R (.ret (.Bc [.int .i64 (El s i).1,.int .i64 (El s i).2])) st):PC 255 [.str s,.int .i64 i] st R:=by
 refine pB Tryz.func255 ?_
 repeat' ((conv=>whnf);first|(refine B6 ?_;intros)|(refine Cv ?_ ?_<;>intro _)|refine fO ?_)
 .exact fin h (by rw [Zv ‹_›])
 .exact fin h (by rw [di ‹_› ‹_›])
 .have U:0<=i:=(Kz (s:=s) (i:=i) AC).1
  refine KT (α:=Nat) (β:=Int) (λk c=>[(10,.int .i64 (k:Int)),(9,.int .i64 c)]) (λ_ _=>[]) [0,1,7,8] [] (λ_ _=>st)
   (λk c=>1<=k/\k<=2/\FE (2 - k) ((s.drop i.toNat).drop k) c=FE (2 - 1) ((s.drop i.toNat).drop 1) (Kw s i - 192)/\0<=c/\(k=1/\c<32\/k=2/\c<2048\/k=3/\c<131072\/k=4/\c<8388608))
   (λk _=>2 - k) 1 (Kw s i - 192) ⟨Nat.le_refl _,Do,rfl,AC,.inl ⟨rfl,AC⟩⟩ Yl (St.le_refl _) ?_
  rintro k c ⟨h1,h2,h3,h4,h5⟩
  have hk:=U8 (s:=s) (k:=k) U
  have hlt:=RR ((s.drop i.toNat).drop k)
  repeat' ((conv=>whnf);first|(refine B6 ?_;intros)|(refine Cv ?_ ?_<;>intro _)|refine fO ?_)
  all_goals first
   |exact fin h (by rw [SJ AC AC,<-h3,Oq AC hk AC];rfl)
   |exact fin h (by rw [SJ AC AC,<-h3,HH AC,Rn AC])
   |exact fin h (by rw [SJ AC AC,<-h3,HH AC,Oy AC])
   |(conv=>whnf
     exact ⟨(k+1,c*64+Kw s (i+k) - 128),⟨AC,AC,(Q8 AC hk AC).trans h3,RL,RL⟩,RL,Yl,St.le_refl _⟩)
 .have U:0<=i:=(Kz (s:=s) (i:=i) AC).1
  refine KT (α:=Nat) (β:=Int) (λk c=>[(10,.int .i64 (k:Int)),(9,.int .i64 c)]) (λ_ _=>[]) [0,1,7,8] [] (λ_ _=>st)
   (λk c=>1<=k/\k<=3/\FE (3 - k) ((s.drop i.toNat).drop k) c=FE (3 - 1) ((s.drop i.toNat).drop 1) (Kw s i - 224)/\0<=c/\(k=1/\c<32\/k=2/\c<2048\/k=3/\c<131072\/k=4/\c<8388608))
   (λk _=>3 - k) 1 (Kw s i - 224) ⟨Nat.le_refl _,Do,rfl,AC,.inl ⟨rfl,AC⟩⟩ Yl (St.le_refl _) ?_
  rintro k c ⟨h1,h2,h3,h4,h5⟩
  have hk:=U8 (s:=s) (k:=k) U
  have hlt:=RR ((s.drop i.toNat).drop k)
  repeat' ((conv=>whnf);first|(refine B6 ?_;intros)|(refine Cv ?_ ?_<;>intro _)|refine fO ?_)
  all_goals first
   |exact fin h (by rw [SK AC AC,<-h3,Oq AC hk AC];rfl)
   |exact fin h (by rw [SK AC AC,<-h3,HH AC,Rn AC])
   |exact fin h (by rw [SK AC AC,<-h3,HH AC,Oy AC])
   |(conv=>whnf
     exact ⟨(k+1,c*64+Kw s (i+k) - 128),⟨AC,AC,(Q8 AC hk AC).trans h3,RL,RL⟩,RL,Yl,St.le_refl _⟩)
 .have U:0<=i:=(Kz (s:=s) (i:=i) AC).1
  refine KT (α:=Nat) (β:=Int) (λk c=>[(10,.int .i64 (k:Int)),(9,.int .i64 c)]) (λ_ _=>[]) [0,1,7,8] [] (λ_ _=>st)
   (λk c=>1<=k/\k<=4/\FE (4 - k) ((s.drop i.toNat).drop k) c=FE (4 - 1) ((s.drop i.toNat).drop 1) (Kw s i - 240)/\0<=c/\(k=1/\c<32\/k=2/\c<2048\/k=3/\c<131072\/k=4/\c<8388608))
   (λk _=>4 - k) 1 (Kw s i - 240) ⟨Nat.le_refl _,Do,rfl,AC,.inl ⟨rfl,AC⟩⟩ Yl (St.le_refl _) ?_
  rintro k c ⟨h1,h2,h3,h4,h5⟩
  have hk:=U8 (s:=s) (k:=k) U
  have hlt:=RR ((s.drop i.toNat).drop k)
  repeat' ((conv=>whnf);first|(refine B6 ?_;intros)|(refine Cv ?_ ?_<;>intro _)|refine fO ?_)
  all_goals first
   |exact fin h (by rw [SL AC AC,<-h3,Oq AC hk AC];rfl)
   |exact fin h (by rw [SL AC AC,<-h3,HH AC,Rn AC])
   |exact fin h (by rw [SL AC AC,<-h3,HH AC,Oy AC])
   |(conv=>whnf
     exact ⟨(k+1,c*64+Kw s (i+k) - 128),⟨AC,AC,(Q8 AC hk AC).trans h3,RL,RL⟩,RL,Yl,St.le_refl _⟩)
 all_goals exact fin h (by rw [dh AC AC])
end
theorem kt {c:Nat} (U:(c,m)=Ba (s.drop pos)) (h:pos<s.length):El s pos=((c:Int),(m:Int)):=by
 unfold El
 rw [if_neg AC,yG,<-Nb h U,show (pos:Int).toNat=pos by omega,drop_at (List.getElem?_eq_getElem h)]
 rfl
section
variable {st:St} {R:As->St->Prop}
theorem ga {c:Nat} (U:(c,m)=Ba (s.drop pos)) (h1:pos<s.length) (hl:s.length<4611686018427387904) (h:R (.ret (.Bc [.int .i64 c,.int .i64 m])) st):PC 255 [.str s,.int .i64 pos] st R:=
 fZ hl AC (by rw [kt U h1];exact h)
theorem yL (hl:s.length<4611686018427387904) (h:R (.ret (.int .i64 (qc s i k))) st):PC 206 [.str s,.int .i64 i,.int .i64 k] st R:=by
 refine pB Tryz.func206 ?_
 repeat' ((conv=>whnf);first|(refine B6 ?_;intros)|(refine Cv ?_ ?_<;>intro _)|fail)
 all_goals try exact fin h (Bt (ZB AC))
 have h0:0<=i/\i<=s.length:=AC
 refine OG (α:=Nat) (λpos=>[(1,.int .i64 (pos:Int))]) [0,2] [] (λ_=>st) (λpos=>pos<=s.length/\i.toNat+BD (λc=>AA c==k) (s.drop i.toNat)=pos+BD (λc=>AA c==k) (s.drop pos)) (λpos=>s.length - pos) i.toNat ⟨AC,rfl⟩ (by rw [Int.toNat_of_nonneg h0.1];exact Yl) (St.le_refl _) ?_
 rintro pos ⟨hp,hi⟩
 rcases U:Ba (s.drop pos) with ⟨c,m⟩
 have U:=U.symm
 have hr:=gj U
 repeat' ((conv=>whnf);first|(refine B6 ?_;intros)|(refine Cv ?_ ?_<;>intro _)|refine ga U AC hl ?_|refine Zo ?_)
 .conv=>whnf
  exact ⟨pos+m,⟨AC,LI AC U (beq_iff_eq.2 ‹_›) hi⟩,AC,Yl,St.le_refl _⟩
 .have:=N4 (p:=λd=>AA (d.1:Nat)==k) U (beq_eq_false_iff_ne.2 ‹_›) hi
  exact fin h (Bt (by rw [Ke h0.1 h0.2];omega))
 .have:=K8 AC hi
  exact fin h (Bt (by rw [Ke h0.1 h0.2];omega))
end
end Go.Proofs.Z
