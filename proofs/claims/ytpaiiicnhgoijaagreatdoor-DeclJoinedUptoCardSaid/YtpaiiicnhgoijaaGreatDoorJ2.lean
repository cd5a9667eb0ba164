/-
  Parts of a proof: lemmas that the last text uses.
-/
import Derived.Test.YtpaiiicnhgoijaaGreatDoorJ1
import Derived.IntWalk
import Derived.Shelf.Strings.Trim
import Derived.Shelf.Small.Utf8
import Derived.Shelf.Small.Strs
import Derived.Shelf.Strings.Search1
import Derived.Shelf.Strings.Search2
import Derived.Shelf.Strings.Search3
import Derived.Shelf.LaysM
import Derived.Shelf.Strings.Shaped
import Derived.Shelf.GgClosure.StringsIndexFunc
import Derived.Ground.GgwProg
import Derived.Shelf.GgClosure.StringsIndexFuncTop
import Derived.Shelf.GgClosure.StringsRunes
import Derived.Shelf.Strings.Prefix
import Derived.Shelf.Strings.Fields
import Derived.Shelf.Strings.SplitShaped
import Derived.Shelf.Unicode.Latin
import Derived.Shelf.Unicode.Decode
import Derived.Shelf.Strings.Runes
import Derived.Shelf.Strings.AsciiSet
import Derived.Shelf.Unicode.DecodeSlow
import Derived.Shelf.Unicode.DecodeAny
import Derived.Shelf.Unicode.Is16White
import Derived.Shelf.Unicode.IsSpaceAny
import Derived.Shelf.Unicode.DecodeLast
import Derived.Shelf.Unicode.Is16Any
import Derived.Shelf.Unicode.Is32Any
import Derived.Shelf.Unicode.ExclAny
import Derived.Shelf.Strings.FuncGrows
import Derived.Shelf.Slices.Turned
import Derived.Ground.Names2Prog
import Derived.Shelf.Slices.Clone
import Derived.Ground.SlgnProg
import Derived.Shelf.SlicesE.Clone
import Derived.Test.YtpaiiicnhgoijaaGreatDoorProg
import Derived.Below
set_option linter.unusedVariables false
set_option linter.unusedSimpArgs false
set_option maxHeartbeats 16000000
variable {b d m pos j:Nat} {K:Go.Aw.V->Go.Aw.St->Prop} {s t x o w r:List UInt8} {n:Go.Aw.Nd} {s':Go.Proofs.Z.Ad} {R:Go.Aw.AA->Go.Aw.St->Prop} {k c i base:Int} {l:List Go.Aw.Nd} {f:Go.FuncId} {p:Go.Aw.Nd->Bool} {ks kinds:List Int} {I:Go.Aw.Mem} {P:Prop} {ih:(Go.Aw.AH->Go.Aw.Env->Go.Aw.St->Prop)->Go.Aw.Env->Go.Aw.St->Prop} {Q:Go.Aw.AH->Go.Aw.Env->Go.Aw.St->Prop} {env:Go.Aw.Env} {α β:Type}
namespace Go.Proofs.Z
open Go Go.Aw
theorem DW {st:St} {K:AA->St->Prop} {q:Rs} (h:∀n s',q=.inr (n,s')->∀st',Ho st st' b s'->K (.ret (enc n)) st') (k:∀e s',q=.inl (e,s')->∀st',Ho st st' b s'->K (.B0 (fault e)) st'):EJ st b K q:=by
 match q with
 | .inr (n,s')=>exact h n s' rfl
 | .inl (e,s')=>exact k e s' rfl
theorem Has.hw {st:St} {s:Ad} (h:Has st b s) (own:AJ) (n:Nat):Has (own.st st n) b s:=by
 cases own with
 |any=>exact h
 |full=>exact h
 |tok t=>exact h
theorem bT {own:AJ} {st st':St} {n:Nat} {s:Ad} (hg:own.BM st) (hh:Has st b s) (hu:Ho (own.st st n) st' b s'):∃U,st'=own.st U n/\Ho st U b s'/\own.BM U:=by
 obtain ⟨h1,cs,e⟩:=hu
 cases own with
 |any=>exact hg.elim
 |full=>exact ⟨st',rfl,⟨h1,cs,e⟩,trivial⟩
 |tok t=>
  refine ⟨st.Aa b cs,e,⟨?_,cs,rfl⟩,?_,?_⟩
  .rw [e] at h1;exact h1
  .have:b≠t:=by
    rintro rfl
    have h2:st.box b=none:=hg.1
    rcases hh with k|⟨_,_,_,_,_,k⟩<;>(rw [h2] at k;cases k)
   rw [St.As this];exact hg.1
  .exact hg.2
def fu (own:AJ) (n:Nat) (st:St) (b:Nat) (R:AA->St->Prop):Rs->Prop
 | .inr (x,s')=>∀st',Ho st st' b s'->own.BM st'->R (.ret (enc x)) (own.st st' n)
 | .inl (e,s')=>∀st',Ho st st' b s'->own.BM st'->R (.B0 (fault e)) (own.st st' n)
theorem Fe {own:AJ} {n:Nat} {st:St} {s:Ad} {q:Rs} (hg:own.BM st) (hh:Has st b s) (h:fu own n st b R q):EJ (own.st st n) b R q:=by
 refine DW (λx s' e st' hu=>?_) (λx s' e st' hu=>?_)
 .obtain ⟨U,rfl,h2,h3⟩:=bT hg hh hu
  subst e
  exact h U h2 h3
 .obtain ⟨U,rfl,h2,h3⟩:=bT hg hh hu
  subst e
  exact h U h2 h3
section
variable {st:St} {R:AA->St->Prop}
attribute [local irreducible] Go.Aw.Ah
theorem Xl {t:Tk} (h:R (.ret (.bool (BE t))) st):PC 363 [Fl t] st R:=by
 refine pB Tryz.func363 ?_
 repeat' ((conv=>whnf);first|(refine Bv ?_;intros)|(refine Bw ?_ ?_<;>intro _)|fail)
 all_goals conv=>whnf
 all_goals (refine At h ?_;clear h;simp_all [BE])
def De (f:FuncId) (d:Int) (A:Ad->Rs):Prop:=∀s,mu s<=100000000->Reads f s d (A s)
theorem E3 {s:Ad} (h:mu s<=100000000):s.CF.length<=500000000:=by have:=sj s;omega
theorem FD {s:Ad} (hs:Has st b s) (hb:s.CF.length<=500000000) (h:EJ st b R (Dk s)):PC 121 [.ptr b 0] st R:=by
 unfold Dk at h
 refine LM hs hb (λe=>?_) (λe=>?_)
 .rw [if_pos e] at h;exact h
 .rw [if_neg e] at h;exact h _ A0
theorem tg {s:Ad} (hs:Has st b s) (hb:s.CF.length<=500000000) (h:∀st',Ho st st' b s->R (.B0 (fault (S0 s))) st'):PC 171 [.ptr b 0] st R:=fG hs hb (h _ A0)
theorem Rm {s:Ad} (hs:Has st b s) (hb:s.CF.length<=500000000) (h:EJ st b R (Kn s k x)):PC 118 [.ptr b 0,.int .i64 k,.str x] st R:=by
 unfold Kn Dk at h
 refine lT hs hb (λU e2=>?_) (λU e2=>?_) (λU=>?_)
 .rw [if_pos U,if_pos e2] at h;exact h
 .rw [if_pos U,if_neg e2] at h;exact h _ A0
 .rw [if_neg (by rw [U];decide)] at h;exact h _ A0
theorem qY {d:Int} {Y:Ad->Rs} (hr:De 404 d (Fy Y)) (hsq:De 405 d (D4 Y)):De 362 d (C5 Y):=by
 intro s hm b st R hs h
 refine pB Tryz.func362 ?_
 have hb:=E3 hm
 have hl:Has (st.Aa b (CL s)) b s:=.inl (St.Ai ..)
 unfold C5 at h
 repeat' ((conv=>whnf);first|(refine Bv ?_;intros)|(refine Bw ?_ ?_<;>intro _)|refine Gn hs hb ?_|refine Xl ?_|refine FD hl hb (DW (λn s' hq st' U=>?_) (λe s' hq st' U=>?_))|refine tg hl hb (λst' U=>?_)|refine hr s hm b _ _ hl (DW (λn s' hq st' U=>?_) (λe s' hq st' U=>?_))|refine hsq s hm b _ _ hl (DW (λn s' hq st' U=>?_) (λe s' hq st' U=>?_)))
 all_goals repeat (first|rw [if_pos ‹_›] at h|rw [if_neg ‹_›] at h|rw [if_neg (Bool.eq_false_iff.1 ‹_›)] at h)
 all_goals first
  |exact fin (h st' (A0.trans U)) rfl
  |(rw [hq] at h;exact BJ rfl (h st' (A0.trans U)))
  |(rw [hq] at h;exact fin (h st' (A0.trans U)) rfl)
 all_goals trace_state
end
theorem Kr {new:List Nd} {own:AJ} {st:St} (h:own.BM st) (hb:l.length+new.length<=1000000000)
 (k:∀U:AJ,U.BM st->K (.slice 6 (Ck (l++new)) U) (U.st st ((l++new).length*6))):Ah 6 72 (Ck l) own (Ck new) (own.st st (l.length*6)) K:=by
 have hw:(Ck new).map (·.map V.JI)=Ck new:=by
  rw [BR,List.map_map]
  refine List.map_congr_left λx _=>?_
  rfl
 have hsc:((Ck new).all λv=>v.all V.sc)=true:=by
  rw [BR,List.all_map,List.all_eq_true]
  intro x _
  rfl
 have:=El (sz:=6) (bytes:=72) (es:=Ck l) (new:=Ck new) (K:=K) h (by rw [CK,CK];omega) (by rw [CK,CK];simp only [C9];omega) hsc (λU ho=>by
  have:=k U ho
  rw [CK,CK,hw,<-U4,<-List.length_append]
  omega)
 rw [CK] at this
 omega
theorem M3 {x:Nd} {own:AJ} {st:St} (h:own.BM st) (hb:l.length+1<=1000000000)
 (k:∀U:AJ,U.BM st->K (.slice 6 (Ck (l++[x])) U) (U.st st ((l++[x]).length*6))):Ah 6 72 (Ck l) own [AP x] (own.st st (l.length*6)) K:=by
 have:=Kr (l:=l) (new:=[x]) h hb k
 rw [BR [x]] at this
 grind
theorem ZM {x:Nd} {own:AJ} {st:St} (h:own.BM st) (hb:l.length+1<=1000000000)
 (k:∀U:AJ,U.BM st->K (.slice 6 (Ck (l++[x])) U) (U.st st ((l++[x]).length*6))):Ah 6 72 (l.map AP) own [AP x] (own.st st (l.length*6)) K:=by
 rw [<-BR]
 exact M3 h hb k
theorem Sq {K:Int->Prop} (h:d<=1000000) (k:K (d:Int)):∃r,r=IntKind.i64.wrap (((d+1:Nat):Int) - 1)/\K r:=by
 refine ⟨d,?_,k⟩
 rw [show ((d+1:Nat):Int) - 1=(d:Int) by omega,KX AC AC]
section
variable {st:St} {R:AA->St->Prop}
attribute [local irreducible] Go.Aw.Ah
theorem Uu {K:AA->St->Prop} {q:Rs} {x:Int} (e:q=.inl (x,s')) (h:∀st',Ho st st' b s'->K (.B0 (fault x)) st'):EJ st b K q:=by subst e;exact h
theorem F0 {own:AJ} {st:St} {K:AA->St->Prop} {q:Rs} (h:∀n s',q=.inr (n,s')->∀st',Ho st st' b s'->own.BM st'->K (.ret (enc n)) (own.st st' m)) (k:∀e s',q=.inl (e,s')->∀st',Ho st st' b s'->own.BM st'->K (.B0 (fault e)) (own.st st' m)):fu own m st b K q:=by
 match q with
 | .inr (n,s')=>exact h n s' rfl
 | .inl (e,s')=>exact k e s' rfl
theorem GL {K:AA->St->Prop} {q:Rs} {x:Nd} (e:q=.inr (x,s')) (h:∀st',Ho st st' b s'->K (.ret (enc x)) st'):EJ st b K q:=by subst e;exact h
def Dd (f:FuncId) (d:Int) (A:Ad->Rs):Prop:=∀s,mu s<=100000000->∀(st:St) (R:AA->St->Prop),R (.ret (NZ (B8 s d (A s)))) st->PC f [DJ s,.int .i64 d] st R
theorem rG {A:Ad->Rs} (hf:Dd f d A) (h0:d=0->∀s,A s=.inl (2,s)) (hA:E1 A) {s:Ad} (hm:mu s<=100000000) (hs:Has st b s) (h:EJ st b R (A s)):
 PC 84 [.ptr b 0,.func f [] [],.int .i64 d] st R:=by
 by_cases hd:(d:Int)<1
 .have hz:d=0:=AC
  rw [h0 hz s] at h
  refine Yw (n:=Hz) (s':=s) (e:=2) (λst R k=>hf s hm st R ?_) hs (λe=>by cases e) (λ_=>h)
  unfold B8;rw [if_pos hd];exact k
 .cases U:A s with
  |inr p=>
   rw [U] at h
   refine Yw (n:=p.1) (s':=p.2) (e:=0) (λst R k=>hf s hm st R ?_) hs (λ_=>h) (λe=>absurd rfl e)
   unfold B8;rw [if_neg hd,U];exact k
  |inl p=>
   rw [U] at h
   have hne:=hA s p.1 p.2 U
   refine Yw (n:=Hz) (s':=p.2) (e:=p.1) (λst R k=>hf s hm st R ?_) hs (λe=>absurd e hne) (λ_=>h)
   unfold B8;rw [if_neg hd,U];exact k
theorem Qg {x:Int} {A:Ad->Rs} (hx:x=(d:Int)) (hf:Dd f d A) (U:d=0->∀s,A s=.inl (2,s)) (hA:E1 A) {s:Ad} (hm:mu s<=100000000) (hs:Has st b s) (h:EJ st b R (A s)):
 PC 84 [.ptr b 0,.func f [] [],.int .i64 x] st R:=by subst hx;exact rG hf U hA hm hs h
theorem kK (hd:d<=1000000) {Y:Ad->Rs} (hY:Dd 220 d Y) (h0:d=0->∀s,Y s=.inl (2,s)) (hB:E1 Y) (hF:AR Y):De 405 ((d+1:Nat):Int) (D4 Y):=by
 intro s hm b st R hs h
 refine pB Tryz.func405 ?_
 have hb:=E3 hm
 unfold D4 at h
 cases U:Dk s with
 |inl q=>
  rw [U] at h
  obtain ⟨e,s'⟩:=q
  repeat' ((conv=>whnf);first|(refine Bv ?_;intros)|(refine Bw ?_ ?_<;>intro _)|refine FD hs hb (Uu U (λst1 h1=>?_)))
  all_goals exact fin (h st1 h1) rfl
 |inr q=>
  obtain ⟨n1,s1⟩:=q
  rw [U] at h
  have hm1:mu s1<=100000000:=by have:=(Pf U).1;omega
  have hb1:=E3 hm1
  repeat' ((conv=>whnf);first|(refine Bv ?_;intros)|(refine Bw ?_ ?_<;>intro _)|refine FD hs hb (GL U (λst1 h1=>?_))|refine Yz h1.1 hb1 ?_)
  .have hp:AU s1 15 [93]=true:=FS
   have hl1:Has (st1.Aa b (CL s1)) b s1:=.inl (St.Ai ..)
   have hq2:Dk s1=.inr (Bk (Ab s1).1,(Ab s1).2.1):=by unfold Dk;rw [if_pos (CS hp Do)]
   dsimp only at h
   rw [if_pos hp] at h
   have hn1:[n1].length+1<=1000000000:=by show 1+1<=1000000000;decide
   repeat' ((conv=>whnf);first|(refine Bv ?_;intros)|(refine Bw ?_ ?_<;>intro _)|refine FD hl1 hb1 (GL hq2 (λst2 h2=>?_))|refine ZM (l:=[n1]) (x:=Bk (Ab s1).1) (own:=.full) trivial hn1 (λown1 ho1=>?_))
   all_goals exact EH (AJ.BK ho1) rfl (h st2 (h1.trans (A0.trans h2)))
  .have hp:AU s1 15 [93]=false:=FS
   have hl1:Has (st1.Aa b (CL s1)) b s1:=.inl (St.Ai ..)
   dsimp only at h
   rw [if_neg kw] at h
   have hn1:[n1].length+1<=1000000000:=by show 1+1<=1000000000;decide
   have hn2:∀n2:Nd,([n1]++[n2]).length+1<=1000000000:=λ_=>by simp_all
   repeat' ((conv=>whnf);first|(refine Bv ?_;intros)|(refine Bw ?_ ?_<;>intro _)|refine Qg AC hY h0 hB hm1 hl1 (DW (λn2 s2 hq2 st2 h2=>?_) (λe2 s2 hq2 st2 h2=>?_))|refine ZM (l:=[n1]) (x:=n2) (own:=.full) trivial hn1 (λown1 ho1=>?_)|refine Rm (h2.1.hw own1 _) (E3 (Nat.le_trans (Nat.le_of_lt (hF _ _ _ hq2)) hm1)) (Fe ho1 h2.1 (F0 (λn3 s3 hq3 st3 h3 hg3=>?_) (λe3 s3 hq3 st3 h3 hg3=>?_)))|refine M3 (l:=[n1]++[n2]) (x:=n3) hg3 (hn2 n2) (λown2 ho2=>?_))
   all_goals rw [hq2] at h
   .unfold Hk at h
    dsimp only at h
    rw [hq3] at h
    exact EH (AJ.BK ho2) rfl (h st3 (((h1.trans A0).trans h2).trans h3))
   .unfold Hk at h
    dsimp only at h
    rw [hq3] at h
    exact EH (AJ.BK hg3) rfl (h st3 (((h1.trans A0).trans h2).trans h3))
   .exact fin (h st2 ((h1.trans A0).trans h2)) rfl
end
theorem NT {x:Nd} {own:AJ} {st:St} (h:own.BM st) (hb:l.length+1<=1000000000)
 (k:∀U:AJ,U.BM st->K (.slice 6 ((l++[x]).map AP) U) (U.st st ((l++[x]).length*6))):Ah 6 72 (l.map AP) own [AP x] (own.st st (l.length*6)) K:=by
 rw [<-BR]
 exact M3 h hb (by simpa only [BR] using k)
theorem Ca {own:AJ}:AA.ret (enc (Aq k l))=(AA.ret (.agg [.int .i64 k,.int .i64 0,.str [],.int .i64 0,.int .i64 0,.slice 6 (l.map AP) own])).wk:=by
 rw [<-BR];rfl
theorem bz {A:Ad->Rs} {s:Ad} (h:BE (Ab s).1=true) (U:A s=.inr (n,s')) (hm:mu s'<mu s):Gf A l s=Gf A (l++[n]) s':=by
 rw [Gf,if_pos h,U]
 dsimp only
 rw [if_pos hm]
section
variable {st:St} {R:AA->St->Prop}
attribute [local irreducible] Go.Aw.Ah
theorem BV {K:Nat->Prop} (k:l.length<4611686018427387904->K l.length):∀m,m=(l.map AP).length->m<C9->K m:=λm U h=>by
 rw [List.length_map] at U;subst U;exact k h
theorem aW {own:AJ} {st:St} {n:Nat} {cs:List V}:(own.st st n).Aa b cs=own.st (st.Aa b cs) n:=by cases own<;>rfl
theorem sk {own:AJ} {n:Nat} {s:Ad} (U:own.BM st) (hs:Has st b s) (hb:s.CF.length<=500000000) (h:R (.ret (Fl (Ab s).1)) (own.st (st.Aa b (CL s)) n)):PC 83 [.ptr b 0] (own.st st n) R:=
 Gn (hs.hw own n) hb (by rw [aW];exact h)
theorem H9 {own:AJ} {s:Ad} {cs:List V} (U:own.BM st) (hs:Has st b s):own.BM (st.Aa b cs):=by
 cases own with
 |any=>exact U
 |full=>trivial
 |tok t=>
  have:b≠t:=by
   rintro rfl
   have h2:st.box b=none:=U.1
   rcases hs with k|⟨_,_,_,_,_,k⟩<;>(rw [h2] at k;cases k)
  exact ⟨by rw [St.As this];exact U.1,U.2⟩
theorem si {n1:Nd} {K:List V->Prop} (h:l.length=Int.toNat 1) (j:l.length=1->l=[n1]) (k:K (AP n1)):(0:Int)<=0/\∃e,(l.map AP)[Int.toNat 0]? =some e/\K e:=
 ⟨Int.le_refl _,AP n1,by rw [j h];rfl,k⟩
theorem sx {d:Int} {A:Ad->Rs} (ha:De 362 d A) (hF:AR A):De 296 d (Gq A):=by
 intro s hm b st R hs h
 refine pB Tryz.func296 ?_
 unfold Gq at h
 cases U:A s with
 |inl q=>
  obtain ⟨e,s1⟩:=q
  rw [U] at h
  repeat' ((conv=>whnf);first|(refine Bv ?_;intros)|(refine Bw ?_ ?_<;>intro _)|refine ha s hm b _ _ hs (Uu U (λst1 h1=>?_)))
  all_goals exact fin (h st1 h1) rfl
 |inr q=>
  obtain ⟨n1,s1⟩:=q
  rw [U] at h
  have hf1:=hF _ _ _ U
  dsimp only at h
  repeat' ((conv=>whnf);first|(refine Bv ?_;intros)|(refine Bw ?_ ?_<;>intro _)|refine ha s hm b _ _ hs (GL U (λst1 h1=>?_)))
  refine Qk (α:=List Nd×Ad×St×AJ) (λx=>[(5,.slice 6 (x.1.map AP) x.2.2.2)]) [0,1,4] (λx=>[]) [0] (λx=>x.2.2.2.st x.2.2.1 (x.1.length*6))
   (λx=>x.2.2.2.BM x.2.2.1/\Ho st x.2.2.1 b x.2.1/\x.1≠[]/\x.1.length+mu x.2.1<=200000000/\mu x.2.1<=mu s1/\Gf A x.1 x.2.1=Gf A [n1] s1/\(x.1.length=1->x.1=[n1])) (λx=>mu x.2.1) ([n1],s1,st1,.full)
   ⟨trivial,h1,GT,by show 1+mu s1<=_;omega,Nat.le_refl _,rfl,λ_=>rfl⟩ Yl (St.le_refl _) ?_
  rintro ⟨l,s2,st2,own⟩ ⟨j1,j2,j3,j4,j5,j6,j7⟩
  dsimp only at j1 j2 j3 j4 j5 j6 j7
  have hm2:mu s2<=100000000:=AC
  have R6:=E3 hm2
  have hl3:Has (st2.Aa b (CL s2)) b s2:=.inl (St.Ai ..)
  have g3:own.BM (st2.Aa b (CL s2)):=H9 j1 j2.1
  have u3:Ho st (st2.Aa b (CL s2)) b s2:=j2.trans A0
  have hn:l.length+1<=1000000000:=AC
  repeat' ((conv=>whnf);first|(refine Bv ?_;intros)|(refine Bw ?_ ?_<;>intro _)|refine sk j1 j2.1 R6 ?_|refine Xl ?_|refine ha s2 hm2 b _ _ (hl3.hw own _) (Fe g3 hl3 (F0 (λn2 s4 hq2 st4 h4 g4=>?_) (λe2 s4 hq2 st4 h4 g4=>?_)))|refine NT (l:=l) g4 hn (λown' ho'=>?_)|refine BV (λ_=>?_)|refine si ‹_› j7 ?_)
  .have hd:=hF _ _ _ hq2
   refine ⟨(l++[n2],s4,st4,own'),⟨ho',u3.trans h4,GT,by show (l++[n2]).length+mu s4<=_;rw [List.length_append,List.length_singleton];omega,by show mu s4<=_;omega,?_,?_⟩,hd,Yl,St.le_refl _⟩
   .show Gf A (l++[n2]) s4=_
    rw [<-j6,bz (l:=l) ‹_› hq2 hd]
   .intro e
    have:=List.length_pos_iff.2 j3
    have e:(l++[n2]).length=1:=e
    rw [List.length_append,List.length_singleton] at e
    omega
  .have hr:Gf A l s2=.inl (e2,s4):=by rw [Gf,if_pos ‹_›,hq2]
   rw [<-j6,hr] at h
   exact EH (AJ.BK g4) rfl (h st4 (u3.trans h4))
  .have hr:Gf A l s2=.inr (l,s2):=by rw [Gf,if_neg (Bool.eq_false_iff.1 ‹_›)]
   rw [<-j6,hr] at h
   dsimp only at h
   rw [if_pos ‹_›] at h
   exact EH (AJ.BK g3) rfl (h _ u3)
  .have hr:Gf A l s2=.inr (l,s2):=by rw [Gf,if_neg (Bool.eq_false_iff.1 ‹_›)]
   rw [<-j6,hr] at h
   dsimp only at h
   rw [if_neg ‹_›] at h
   exact EH (AJ.BK g3) Ca (h _ u3)
end
theorem fz {x y:Nd} {own:AJ} {st:St} (h:own.BM st) (hb:l.length+2<=1000000000)
 (k:∀U:AJ,U.BM st->K (.slice 6 ((l++[x,y]).map AP) U) (U.st st ((l++[x,y]).length*6))):Ah 6 72 (l.map AP) own [AP x,AP y] (own.st st (l.length*6)) K:=by
 rw [<-BR]
 have:=Kr (l:=l) (new:=[x,y]) h hb (by simpa only [BR] using k)
 rw [BR [x,y]] at this
 grind
theorem ZO {A:Ad->Rs} {s:Ad} (h:AU s 10 [45,62]=true) (U:Gq A (Ab s).2.1=.inr (n,s')) (hm:mu s'<mu s):Gu A l s=Gu A (l++[Bk (Ab s).1,n]) s':=by
 rw [Gu,if_pos h,U]
 simp_all
theorem GI {s:Ad} (h:AU s k x=true) (U:k≠0):Dk s=.inr (Bk (Ab s).1,(Ab s).2.1):=by unfold Dk;rw [if_pos (CS h U)]
section
variable {st:St} {R:AA->St->Prop}
attribute [local irreducible] Go.Aw.Ah
theorem rH {own:AJ} {n:Nat} {s:Ad} (hs:Has st b s) (hb:s.CF.length<=500000000) (h:R (.ret (.bool (AU s k x))) (own.st (st.Aa b (CL s)) n)):PC 156 [.ptr b 0,.int .i64 k,.str x] (own.st st n) R:=
 Yz (hs.hw own n) hb (by rw [aW];exact h)
theorem Q5 {own:AJ} {n:Nat} {st:St} {s:Ad} {q:Rs} {x:Nd} (U:own.BM st) (hh:Has st b s) (e:q=.inr (x,s')) (h:∀st',Ho st st' b s'->own.BM st'->R (.ret (enc x)) (own.st st' n)):EJ (own.st st n) b R q:=
 Fe U hh (by subst e;exact h)
def XR (f:FuncId) (d:Int) (A:Nd->Ad->Rs):Prop:=∀n s,mu s<=100000000->∀(b:Nat) (st:St) (R:AA->St->Prop),Has st b s->EJ st b R (A n s)->PC f [.ptr b 0,enc n,.int .i64 d] st R
theorem UI {d:Int} {A:Ad->Rs} (hr:De 296 d (Gq A)) (hF:AR A):XR 364 d (Dm A):=by
 intro n1 s1 hm b st R hs h
 refine pB Tryz.func364 ?_
 unfold Dm at h
 repeat' ((conv=>whnf);first|(refine Bv ?_;intros)|(refine Bw ?_ ?_<;>intro _)|fail)
 refine Qk (α:=List Nd×Ad×St×AJ) (λx=>[(7,.slice 6 (x.1.map AP) x.2.2.2)]) [0,2,4,6] (λx=>[]) [0,1] (λx=>x.2.2.2.st x.2.2.1 (x.1.length*6))
  (λx=>x.2.2.2.BM x.2.2.1/\Has x.2.2.1 b x.2.1/\(∃s0,Ho st x.2.2.1 b s0\/x.2.2.1=st)/\x.1≠[]/\x.1.length+2*mu x.2.1<=400000000/\mu x.2.1<=mu s1/\Gu A x.1 x.2.1=Gu A [n1] s1) (λx=>mu x.2.1) ([n1],s1,st,.full)
  ⟨trivial,hs,⟨s1,.inr rfl⟩,GT,by grind,Nat.le_refl _,rfl⟩ Yl (St.le_refl _) ?_
 rintro ⟨l,s2,U,own⟩ ⟨j1,j2,j3,j4,j5,j6,j7⟩
 dsimp only at j1 j2 j3 j4 j5 j6 j7
 have hm2:mu s2<=100000000:=AC
 have R6:=E3 hm2
 have hl3:Has (U.Aa b (CL s2)) b s2:=.inl (St.Ai ..)
 have g3:own.BM (U.Aa b (CL s2)):=H9 j1 j2
 have up:∀{st4 s4},Ho U st4 b s4->Ho st st4 b s4:=λ{st4 s4} hu=>by
  obtain ⟨s0,h3|h3⟩:=j3
  .exact h3.trans hu
  simp_all
 have hn:l.length+2<=1000000000:=AC
 have hm4:AU s2 10 [45,62]=true->mu (Ab s2).2.1<=100000000:=λe=>by have:=Cp e Do Do;omega
 repeat' ((conv=>whnf);first|(refine Bv ?_;intros)|(refine Bw ?_ ?_<;>intro _)|refine rH j2 R6 ?_|refine FD (hl3.hw own _) R6 (Q5 g3 hl3 (GI ‹_› Do) (λst4 h4 g4=>?_))|refine hr _ (hm4 ‹_›) b _ _ (h4.1.hw own _) (Fe g4 h4.1 (F0 (λn2 s5 hq2 st5 h5 g5=>?_) (λe2 s5 hq2 st5 h5 g5=>?_)))|refine fz (l:=l) (x:=Bk (Ab s2).1) (y:=n2) g5 hn (λown' ho'=>?_)|refine BV (λ_=>?_))
 .have hp:AU s2 10 [45,62]=true:=FS
  have hd:=FP hF _ _ _ hq2
  have hd2:=Cp hp Do Do
  have hd3:mu s5<mu s2:=AC
  have hu:=(A0 (st:=U) (b:=b) (s:=s2)).trans (h4.trans h5)
  refine ⟨(l++[Bk (Ab s2).1,n2],s5,st5,own'),⟨ho',h5.1,⟨s5,.inl (up hu)⟩,GT,?_,by grind,?_⟩,hd3,Yl,St.le_refl _⟩
  .grind
  .show Gu A (l++[Bk (Ab s2).1,n2]) s5=_
   rw [<-j7,ZO (l:=l) hp hq2 hd3]
 .have hp:AU s2 10 [45,62]=true:=FS
  have hu:=(A0 (st:=U) (b:=b) (s:=s2)).trans (h4.trans h5)
  have hr:Gu A l s2=.inl (e2,s5):=by rw [Gu,if_pos hp,hq2]
  rw [<-j7,hr] at h
  exact EH (AJ.BK g5) rfl (h st5 (up hu))
 .have hr:Gu A l s2=.inr (l,s2):=by rw [Gu,if_neg (Bool.eq_false_iff.1 AC)]
  rw [<-j7,hr] at h
  dsimp only at h
  rw [if_pos (by grind)] at h
  exact EH (AJ.BK g3) rfl (h _ (up A0))
 .have hr:Gu A l s2=.inr (l,s2):=by rw [Gu,if_neg (Bool.eq_false_iff.1 AC)]
  rw [<-j7,hr] at h
  dsimp only at h
  rw [if_neg (by grind)] at h
  exact EH (AJ.BK g3) Ca (h _ (up A0))
theorem pP {d:Int} {A:Ad->Rs} (hr:De 296 d (Gq A)) (ha:XR 364 d (Dm A)) (hF:AR A):De 297 d (DQ A):=by
 intro s hm b st R hs h
 refine pB Tryz.func297 ?_
 unfold DQ at h
 have hm1:∀{n1 s1},Gq A s=.inr (n1,s1)->mu s1<=100000000:=λe=>by have:=FP hF _ _ _ e;omega
 repeat' ((conv=>whnf);first|(refine Bv ?_;intros)|(refine Bw ?_ ?_<;>intro _)|refine hr s hm b _ _ hs (DW (λn1 s1 U st1 h1=>?_) (λe1 s1 U st1 h1=>?_))|refine ha n1 s1 (hm1 U) b _ _ h1.1 (DW (λn2 s2 hq2 st2 h2=>?_) (λe2 s2 hq2 st2 h2=>?_)))
 all_goals rw [U] at h
 all_goals dsimp only at h
 .rw [hq2] at h;exact BJ rfl (h st2 (h1.trans h2))
 .rw [hq2] at h;exact fin (h st2 (h1.trans h2)) rfl
 .exact fin (h st1 h1) rfl
end
abbrev Er:={e:Int // e≠0}
abbrev Rv (α:Type):=Sum (Er×Ad) (α×Ad)
structure Rd (α:Type) where
 run:Ad->Rv α
 le:∀s v s',run s=.inr (v,s')->mu s'<=mu s
namespace Rd
variable {α β γ σ:Type}
theorem ext' {a b:Rd α} (h:∀s,a.run s=b.run s):a=b:=by
 obtain ⟨U,l1⟩:=a
 obtain ⟨r2,l2⟩:=b
 obtain rfl:U=r2:=funext h
 rfl
def ret (v:α):Rd α:=⟨λs=>.inr (v,s),λs U s' h=>by simp_all⟩
def seq (m:Rd α) (k:α->Rd β):Rd β:=⟨λs=>match m.run s with
 | .inl e=>.inl e
 | .inr p=>(k p.1).run p.2,λs v s' h=>by
 cases U:m.run s with
 |inl e=>simp_all
 |inr p=>rw [U] at h;exact Nat.le_trans ((k p.1).le _ _ _ h) (m.le _ _ _ U)⟩
def fail (e:Er):Rd α:=⟨λs=>.inl (e,s),λs v s' h=>by cases h⟩
def DL (t:Ad) (e:Er):Rd α:=⟨λ_=>.inl (e,t),λs v s' h=>by cases h⟩
def look (f:Ad->Rd α):Rd α:=⟨λs=>(f s).run s,λs v s' h=>(f s).le _ _ _ h⟩
def iter (body:σ->Rd (Sum σ β)) (x:σ) (s:Ad):Rv β:=
 match (body x).run s with
 | .inl e=>.inl e
 | .inr (.inr y,s')=>.inr (y,s')
 | .inr (.inl x',s')=>if mu s'<mu s then iter body x' s' else .inl (⟨2,Do⟩,s)
termination_by mu s
theorem aw (body:σ->Rd (Sum σ β)) (x:σ) (s:Ad):∀v s',iter body x s=.inr (v,s')->mu s'<=mu s:=by
 fun_induction iter body x s with
 |case1 x s e h=>simp_all
 |case2 x s y s1 h=>intro v s' h';cases h';exact (body x).le _ _ _ h
 |case3 x s x' s1 h U ih=>grind
 |case4 x s x' s1 h U=>simp_all
def loop (body:σ->Rd (Sum σ β)) (x:σ):Rd β:=⟨iter body x,aw body x⟩
theorem VB {body:σ->Rd (Sum σ β)} {w:σ->Nat} {w':β->Nat} {c:Nat} (h1:∀x s x' s',(body x).run s=.inr (.inl x',s')->w x'<=w x+4) (h2:∀x s y s',(body x).run s=.inr (.inr y,s')->w' y<=w x+c) (x:σ) (s:Ad):
 ∀y s',(loop body x).run s=.inr (y,s')->w' y+4*mu s'<=w x+c+4*mu s:=by
 show ∀y s',iter body x s=.inr (y,s')->_
 fun_induction iter body x s with
 |case1 x s e h=>simp_all
 |case2 x s y s1 h=>intro y s' h';cases h';have:=h2 _ _ _ _ h;have:=(body x).le _ _ _ h;omega
 |case3 x s x' s1 h U ih=>grind
 |case4 x s x' s1 h U=>simp_all
def wp (m:Rd α) (s:Ad) (Q:α->Ad->Prop) (E:Er->Ad->Prop):Prop:=match m.run s with
 | .inl p=>E p.1 p.2
 | .inr p=>Q p.1 p.2
theorem wp_ret {v:α} {s:Ad} {Q:α->Ad->Prop} {E:Er->Ad->Prop}:wp (ret v) s Q E=Q v s:=rfl
theorem wp_seq {m:Rd α} {k:α->Rd β} {s:Ad} {Q:β->Ad->Prop} {E:Er->Ad->Prop}:wp (seq m k) s Q E=wp m s (λv s'=>wp (k v) s' Q E) E:=by
 unfold wp seq
 grind
theorem D5 {e:Er} {s:Ad} {Q:α->Ad->Prop} {E:Er->Ad->Prop}:wp (fail e) s Q E=E e s:=rfl
theorem GX {e:Er} {s t:Ad} {Q:α->Ad->Prop} {E:Er->Ad->Prop}:wp (DL t e) s Q E=E e t:=rfl
theorem Al {f:Ad->Rd α} {s:Ad} {Q:α->Ad->Prop} {E:Er->Ad->Prop}:wp (look f) s Q E=wp (f s) s Q E:=rfl
theorem AD {c:Prop} [Decidable c] {a b:Rd α} {s:Ad} {Q:α->Ad->Prop} {E:Er->Ad->Prop}:wp (if c then a else b) s Q E=if c then wp a s Q E else wp b s Q E:=by grind
def again (body:σ->Rd (Sum σ β)) (s:Ad) (Q:β->Ad->Prop) (E:Er->Ad->Prop):Sum σ β->Ad->Prop
 | .inr y,s'=>Q y s'
 | .inl x,s'=>if mu s'<mu s then wp (loop body x) s' Q E else E ⟨2,Do⟩ s
theorem wp_loop {body:σ->Rd (Sum σ β)} {x:σ} {s:Ad} {Q:β->Ad->Prop} {E:Er->Ad->Prop}:wp (loop body x) s Q E=wp (body x) s (again body s Q E) E:=by
 have e:(loop body x).run s=match (body x).run s with
  | .inl e=>.inl e
  | .inr (.inr y,s')=>.inr (y,s')
  | .inr (.inl x',s')=>if mu s'<mu s then (loop body x').run s' else .inl (⟨2,Do⟩,s):=by
  show iter body x s=_
  rw [iter]
  rfl
 unfold wp
 rw [e]
 cases hb:(body x).run s with
 |inl p=>rfl
 |inr p=>
  obtain ⟨r,s'⟩:=p
  cases r with
  |inr y=>rfl
  |inl x'=>
   dsimp only [again]
   by_cases U:mu s'<mu s
   .rw [if_pos U,if_pos U];rfl
   grind
theorem Br {body:σ->Rd (Sum σ β)} {s:Ad} {Q:β->Ad->Prop} {E:Er->Ad->Prop} {y:β}:again body s Q E (.inr y) s'=Q y s':=rfl
theorem EK {body:σ->Rd (Sum σ β)} {s:Ad} {Q:β->Ad->Prop} {E:Er->Ad->Prop} {x:σ} (h:again body s Q E (.inl x) s') (U:mu s'<mu s):wp (loop body x) s' Q E:=by
 have h:if mu s'<mu s then wp (loop body x) s' Q E else E ⟨2,Do⟩ s:=h
 simp_all
theorem wp_mono {m:Rd α} {s:Ad} {Q Q':α->Ad->Prop} {E E':Er->Ad->Prop} (h:wp m s Q E) (U:∀v s',m.run s=.inr (v,s')->Q v s'->Q' v s') (he:∀e s',m.run s=.inl (e,s')->E e s'->E' e s'):wp m s Q' E':=by
 unfold wp at h |-
 grind
theorem XK {m:Rd α} {s:Ad} {Q:α->Ad->Prop} {E:Er->Ad->Prop} (U:∀v s',m.run s=.inr (v,s')->Q v s') (he:∀e s',m.run s=.inl (e,s')->E e s'):wp m s Q E:=by
 unfold wp
 grind
def AR (m:Rd α):Prop:=∀s v s',m.run s=.inr (v,s')->mu s'<mu s
theorem AR.seq {m:Rd α} {k:α->Rd β} (h:AR m):AR (seq m k):=λs v s' e=>by
 unfold Rd.seq at e
 dsimp only at e
 split at e
 .cases e
 .exact Nat.lt_of_le_of_lt ((k _).le _ _ _ e) (h _ _ _ ‹_›)
theorem AR.at {m:Rd α} {k:α->Rd β} {s s':Ad} {v:β} (h:∀v s',m.run s=.inr (v,s')->mu s'<mu s) (e:(Rd.seq m k).run s=.inr (v,s')):mu s'<mu s:=by
 unfold Rd.seq at e
 dsimp only at e
 split at e
 .cases e
 .exact Nat.lt_of_le_of_lt ((k _).le _ _ _ e) (h _ _ ‹_›)
theorem AR.fail {e:Er}:AR (fail e:Rd α):=λs v s' h=>by cases h
theorem AR.DL {t:Ad} {e:Er}:AR (DL t e:Rd α):=λs v s' h=>by cases h
theorem AR.look {f:Ad->Rd α} (h:∀s v s',(f s).run s=.inr (v,s')->mu s'<mu s):AR (look f):=λs v s' e=>h s v s' e
theorem AR.ite {c:Prop} [Decidable c] {a b:Rd α} (U:AR a) (h2:AR b):AR (if c then a else b):=by grind
end Rd
def Jf (A:Ad->Rs) (hle:∀s v s',A s=.inr (v,s')->mu s'<=mu s):Rd Nd:=⟨λs=>match A s with
 | .inl p=>if h:p.1=0 then .inl (⟨2,Do⟩,p.2) else .inl (⟨p.1,h⟩,p.2)
 | .inr p=>.inr p,λs v s' h=>by
 grind⟩
theorem VS {A:Ad->Rs} {hle:∀s v s',A s=.inr (v,s')->mu s'<=mu s} (U:E1 A) {s:Ad} {e:Int} (h:A s=.inl (e,s')):(Jf A hle).run s=.inl (⟨e,U _ _ _ h⟩,s'):=by
 unfold Jf
 grind
theorem My {A:Ad->Rs} {hle:∀s v s',A s=.inr (v,s')->mu s'<=mu s} {s:Ad} {p:Nd×Ad} (h:A s=.inr p):(Jf A hle).run s=.inr p:=by
 unfold Jf
 simp_all
def Ay:Rd Nd:=Jf Dk λs v s' h=>(Pf h).1
def IG {α:Type}:Rd α:=⟨λs=>.inl (⟨S0 s,S1 s⟩,s),λs v s' h=>by cases h⟩
def Bc (k:Int) (x:List UInt8):Rd Nd:=.look λs=>if AU s k x=true then Ay else IG
def Di (ks:List Int):Rd Nd:=.look λs=>if ks.contains (Ab s).1.kind=true then Ay else IG
def DG:Rd Unit:=.seq Ay λ_=>.ret ()
theorem lk {s:Ad} (h:AU s k x=true) (U:k≠0):Ay.run s=.inr (Bk (Ab s).1,(Ab s).2.1):=My (GI h U)
theorem Bu {s:Ad} (h:(Ab s).2.2=0):Ay.run s=.inr (Bk (Ab s).1,(Ab s).2.1):=My (by unfold Dk;simp_all)
theorem Hg {s:Ad} (h:¬(Ab s).2.2=0):Ay.run s=.inl (⟨(Ab s).2.2,h⟩,s):=by
 have e:Dk s=.inl ((Ab s).2.2,s):=by unfold Dk;rw [if_neg h]
 exact VS HX e
theorem Hf {s:Ad} {v:Nd} (h:Ay.run s=.inr (v,s')) (U:(Ab s).1.kind≠21):mu s'<mu s:=by
 by_cases e:(Ab s).2.2=0
 .rw [Bu e] at h;cases h;exact (Ep e).2 U
 .rw [Hg e] at h;cases h
theorem Dn {s:Ad} (h:(Ab s).1.kind≠0):(Ab s).2.2=0:=by
 apply Classical.byContradiction
 intro e
 rw [VM e] at h
 exact h rfl
theorem Lr (U:k≠21):Rd.AR (Bc k x):=Rd.AR.look λs v s' h=>by
 split at h
 .rename_i hi
  refine Hf h λe=>U ?_
  unfold AU at hi
  simp_all
 .cases h
theorem Yk (U:ks.contains 21=false):Rd.AR (Di ks):=Rd.AR.look λs v s' h=>by
 split at h
 .rename_i hi
  exact Hf h λe=>by simp_all
 .cases h
abbrev LU (f:FuncId) (args:List V) (st:St) (R:AA->St->Prop):Prop:=A9 Tryz.prog f args st R
def IY (x:Int):List Int->Int->Int
 |[],_=> -1
 |y::r,i=>if x=y then i else IY x r (i+1)
theorem Qf {x:Int}:∀{l:List Int} {i:Int},0<=i->(0<=IY x l i↔l.contains x=true)
 |[],i,h=>by simp [IY]
 |y::r,i,h=>by
  simp only [IY]
  split
  .simp_all
  .rename_i e
   rw [Qf AC]
   simp [e]
theorem iC {x:Int} {st:St} {own:AJ} (h:R (.ret (.int .i64 (IY x kinds 0))) st):LU 303 [.slice 1 (ints kinds) own,.int .i64 x] st R:=by
 refine pB Tryz.func303 ?_
 have hlen:(ints kinds).length=kinds.length:=by simp [ints]
 intro m hm hl
 rw [hlen] at hm
 subst hm
 conv=>whnf
 refine ⟨Nat,λk=>{tmps:=[(8,.int .i64 k),(7,.int .i64 kinds.length),(0,.slice 1 (ints kinds) own),(1,.int .i64 x)],boxes:=[],Bm:=0,sz:=19,gl:=[]},λ_=>st,
  λk=>k<=kinds.length/\IY x kinds 0=IY x (kinds.drop k) k,λk=>kinds.length - k,0,⟨Nat.zero_le _,rfl⟩,⟨rfl,⟨rfl,rfl,rfl,rfl,rfl,rfl,rfl,rfl,trivial⟩,trivial,rfl⟩,St.le_refl _,?_⟩
 rintro k ⟨hk,hi⟩
 refine Wh (λh1=>?_) (λh1=>?_)
 .have U:k<kinds.length:=AC
  have he:(ints kinds)[(k:Int).toNat]? =some [.int .i64 kinds[k]]:=by simp [ints,U]
  refine ⟨AC,_,he,?_⟩
  have hd:IY x (kinds.drop k) k=if x=kinds[k] then (k:Int) else IY x (kinds.drop (k+1)) (k+1):=by
   rw [List.drop_eq_getElem_cons U];rfl
  refine Wg (λh2=>?_) (λh2=>?_)
  .exact fin h kw
  .refine ⟨((k+1:Nat):Int),?_,?_⟩
   .simp only [C9] at hl
    rw [KX AC AC];rfl
   .refine ⟨k+1,⟨U,?_⟩,by grind,⟨rfl,⟨rfl,rfl,rfl,rfl,rfl,rfl,rfl,rfl,trivial⟩,trivial,rfl⟩,St.le_refl _⟩
    simp_all
 .refine fin h ?_
  have:k=kinds.length:=AC
  rw [hi,this,List.drop_length];rfl
section
variable {st:St} {R:AA->St->Prop}
theorem NW {x:Int} {own:AJ} (h:R (.ret (.bool (kinds.contains x))) st):LU 227 [.slice 1 (ints kinds) own,.int .i64 x] st R:=by
 refine pB Tryz.func227 ?_
 refine iC ?_
 have key:=Qf (x:=x) (l:=kinds) (i:=0) AC
 refine Wh (λU=>?_) (λU=>?_)
 .exact At h (key.1 U)
 .refine At h ?_
  simp_all
def DV (n:Nd) (kinds:List Int):Bool:=n.kind==1&&kinds.contains n.form
theorem Ie {own:AJ} (h:R (.ret (.bool (DV n kinds))) st):LU 352 [enc n,.slice 1 (ints kinds) own] st R:=by
 refine pB Tryz.func352 ?_
 unfold DV at h
 repeat' ((conv=>whnf);first|(refine K4 ?_;intros)|(refine K5 ?_ ?_<;>intro _)|refine NW ?_)
 all_goals exact At h kw
def Iu (n:Nd) (k:Int) (t:List UInt8):Bool:=DV n [k]&&n.text==t
theorem Jp (h:R (.ret (.bool (Iu n k t))) st):LU 353 [enc n,.int .i64 k,.str t] st R:=by
 refine pB Tryz.func353 ?_
 unfold Iu at h
 repeat' ((conv=>whnf);first|(refine K4 ?_;intros)|(refine K5 ?_ ?_<;>intro _)|refine Ie (kinds:=[k]) ?_)
 all_goals exact At h kw
def CY (n:Nd) (o s:List UInt8):Option (List Nd):=
 if 2<=n.kids.length/\n.kids[0]?.any (Iu · 15 o)=true/\n.kids[n.kids.length - 1]?.any (Iu · 15 s)=true then some ((n.kids.take (n.kids.length - 1)).drop 1) else none
theorem H7 (hs:∀l,CY n o s=some l->R (.ret (.Bz [.slice 6 (Ck l) .any,.bool true])) st)
 (hn:CY n o s=none->R (.ret (.Bz [.slice 6 [] .any,.bool false])) st):LU 348 [enc n,.str o,.str s] st R:=by
 refine pB Tryz.func348 ?_
 repeat' ((conv=>whnf);first|(refine K4 ?_;intros)|(refine K5 ?_ ?_<;>intro _)|refine Jp ?_)
 .exact Tr (hn (by simp [CY];omega)) rfl
 all_goals
  have e:((n.kids.length:Int) - 1).toNat=n.kids.length - 1:=AC
  simp only [e,Int.toNat_zero,Int.reduceToNat] at *
  first
   |exact Tr (hs _ (by simp_all [CY];omega)) rfl
   |exact Tr (hn (by simp_all [CY])) rfl
theorem Yr (h:CY n o s=some l):l.length+2=n.kids.length:=by
 simp only [CY] at h
 grind
theorem Tv (hs:∀l,CY n o s=some l->l.length+2=n.kids.length->R (.ret (.Bz [.slice 6 (Ck l) .any,.bool true])) st)
 (hn:CY n o s=none->R (.ret (.Bz [.slice 6 [] .any,.bool false])) st):LU 348 [enc n,.str o,.str s] st R:=
 H7 (λl h=>hs l h (Yr h)) hn
def NP:Nd:=.mk 0 0 [] 0 0 []
def OV (n:Nd):Bool:=DV n [6,8]||Iu n 10 [58]
theorem VD (h:R (.ret (.bool (OV n))) st):LU 401 [enc n] st R:=by
 refine pB Tryz.func401 ?_
 repeat' ((conv=>whnf);first|(refine K4 ?_;intros)|(refine K5 ?_ ?_<;>intro _)|refine Ie (kinds:=[6,8]) ?_|refine Jp ?_)
 all_goals conv=>whnf
 all_goals (refine At h ?_;clear h;simp_all [OV])
def Np (n:Nd):Option Nd:=if n.kind=3 then (match CY n [40] [41] with|some l=>if l.length=1 then l[0]? else none|none=>none) else none
theorem VI (hs:∀x,Np n=some x->R (.ret (.Bz [enc x,.bool true])) st) (hn:Np n=none->R (.ret (.Bz [enc NP,.bool false])) st):LU 396 [enc n] st R:=by
 refine pB Tryz.func396 ?_
 repeat' ((conv=>whnf);first|(refine K4 ?_;intros)|(refine K5 ?_ ?_<;>intro _)|refine H7 (λl U=>?_) (λU=>?_))
 all_goals conv=>whnf
 all_goals first
  |exact BJ rfl (hs _ (by clear hs hn;simp_all [Np]))
  |exact BJ rfl (hn (by clear hs hn;simp_all [Np]))
def F1 (n:Nd):Option (List UInt8):=
 if DV n [1] then some n.text else match Np n with|some x=>if DV x [5] then some x.text else none|none=>none
theorem LP (hs:∀t,F1 n=some t->R (.ret (.Bz [.str t,.bool true])) st) (hn:F1 n=none->R (.ret (.Bz [.str [],.bool false])) st):LU 349 [enc n] st R:=by
 refine pB Tryz.func349 ?_
 repeat' ((conv=>whnf);first|(refine K4 ?_;intros)|(refine K5 ?_ ?_<;>intro _)|refine VI (λl U=>?_) (λU=>?_)|refine Ie (kinds:=[1]) ?_|refine Ie (kinds:=[5]) ?_)
 all_goals conv=>whnf
 all_goals first
  |exact BJ rfl (hs _ (by clear hs hn;simp_all [F1]))
  |exact BJ rfl (hn (by clear hs hn;simp_all [F1]))
def Qn (n:Nd):Bool:=DV n [2,4]||(match Np n with|some x=>OV x|none=>false)
theorem TK (h:R (.ret (.bool (Qn n))) st):LU 357 [enc n] st R:=by
 refine pB Tryz.func357 ?_
 repeat' ((conv=>whnf);first|(refine K4 ?_;intros)|(refine K5 ?_ ?_<;>intro _)|refine VI (λl U=>?_) (λU=>?_)|refine Ie (kinds:=[2,4]) ?_|refine VD ?_)
 all_goals conv=>whnf
 all_goals (refine At h ?_;clear h;simp_all [Qn])
def DZ (n:Nd):Nd×Bool:=
 if n.kind=18 then (if n.kids.length=1 then ((n.kids[0]?.getD NP),false) else if n.kids.length=3 then (match CY n [96] [96] with|some l=>((l[0]?.getD NP),true)|none=>(NP,false)) else (NP,false)) else (NP,false)
theorem N7 (h:R (.ret (.Bz [enc (DZ n).1,.bool (DZ n).2])) st):LU 397 [enc n] st R:=by
 refine pB Tryz.func397 ?_
 repeat' ((conv=>whnf);first|(refine K4 ?_;intros)|(refine K5 ?_ ?_<;>intro _)|refine Tv (λl U hk=>?_) (λU=>?_))
 all_goals conv=>whnf
 all_goals refine BJ ?_ h
 all_goals clear h
 all_goals simp_all [DZ]
 all_goals rfl
def TL (n:Nd):Bool:=if (DZ n).2 then DV (DZ n).1 [2,4] else OV (DZ n).1
theorem aG (h:R (.ret (.bool (TL n))) st):LU 402 [enc n] st R:=by
 refine pB Tryz.func402 ?_
 repeat' ((conv=>whnf);first|(refine K4 ?_;intros)|(refine K5 ?_ ?_<;>intro _)|refine N7 ?_|refine Ie (kinds:=[2,4]) ?_|refine VD ?_)
 all_goals conv=>whnf
 all_goals (refine At h ?_;clear h;simp_all [TL])
def PE (n:Nd):Option (List UInt8):=
 if (if (DZ n).2 then DV (DZ n).1 [1] else DV (DZ n).1 [5]) then some (DZ n).1.text else none
theorem mB (hs:∀t,PE n=some t->R (.ret (.Bz [.str t,.bool true])) st) (hn:PE n=none->R (.ret (.Bz [.str [],.bool false])) st):LU 350 [enc n] st R:=by
 refine pB Tryz.func350 ?_
 repeat' ((conv=>whnf);first|(refine K4 ?_;intros)|(refine K5 ?_ ?_<;>intro _)|refine N7 ?_|refine Ie (kinds:=[1]) ?_|refine Ie (kinds:=[5]) ?_)
 all_goals conv=>whnf
 all_goals first
  |exact BJ rfl (hs _ (by clear hs hn;simp_all [PE]))
  |exact BJ rfl (hn (by clear hs hn;simp_all [PE]))
def CR (f:FuncId) (p:Nd->Bool) (x:Nd):Prop:=∀(st:St) (R:AA->St->Prop),R (.ret (.bool (p x))) st->LU f [enc x] st R
def Jh (p:Nd->Bool):Bool->List Nd->Bool
 |_,[]=>true
 |b,x::r=>(if b then Iu x 15 [44] else p x)&&Jh p (!b) r
def MC (p:Nd->Bool) (l:List Nd):Bool:=l.length % 2==1&&Jh p false l
theorem Y2 {k:Nat} {x:Nd} (h:l[k]? =some x):
 Jh p (k % 2==1) (l.drop k)=((if k % 2=1 then Iu x 15 [44] else p x)&&Jh p ((k+1) % 2==1) (l.drop (k+1))):=by
 rw [drop_at h,Jh]
 have:(!(k % 2==1))=((k+1) % 2==1):=by
  rcases Nat.mod_two_eq_zero_or_one k with e|e
  .grind
  .grind
 grind
theorem VU (U:∀x ∈ l,CR f p x) (h:R (.ret (.bool (MC p l))) st):LU 399 [.slice 6 (Ck l) .any,.func f [] []] st R:=by
 refine pB Tryz.func399 ?_
 repeat' ((conv=>whnf);first|(refine K4 ?_;intros)|(refine K5 ?_ ?_<;>intro _)|refine Jp ?_)
 .conv=>whnf
  refine At h ?_
  have:=Q7.1 ‹_›
  simp [MC,this]
 .refine Ly 13 [11,12,1] l.length (λk=>k<=l.length/\(Jh p false l=Jh p (k % 2==1) (l.drop k))) ⟨Nat.zero_le _,rfl⟩ Yl ?_
  rintro k ⟨hk,hi⟩
  repeat' ((conv=>whnf);first|(refine K4 ?_;intros)|(refine K5 ?_ ?_<;>intro _)|refine Jp ?_|refine U _ ‹_› _ _ ?_)
  all_goals conv=>whnf
  all_goals simp only [Q7,eK,Int.toNat_natCast] at *
  all_goals try (have e:=Y2 (p:=p) ‹l[k]? =some _›;rw [e] at hi;clear e)
  all_goals try omega
  all_goals first
   |(refine ⟨k+1,⟨AC,?_⟩,AC,Yl,St.le_refl _⟩;clear h;simp_all)
   |(refine At h ?_;clear h;simp_all [MC])
  rw [List.drop_eq_nil_of_le AC];rfl
def CC (p:Nd->Bool):List Nd->Int->Int
 |[],_=> -1
 |y::r,i=>if p y then i else CC p r (i+1)
theorem G9 {p:Nd->Bool}:∀{l:List Nd} {i:Int},0<=i->(0<=CC p l i↔l.any p=true)
 |[],i,h=>by simp [CC]
 |y::r,i,h=>by
  simp only [CC,List.any_cons]
  split
  .simp_all
  .rename_i e
   rw [G9 AC]
   simp [e]
theorem TA {st:St}
 (U:∀x ∈ l,CR f p x) (h:R (.ret (.int .i64 (CC p l 0))) st):LU 304 [.slice 6 (Ck l) .any,.func f [] []] st R:=by
 refine pB Tryz.func304 ?_
 repeat' ((conv=>whnf);first|(refine K4 ?_;intros)|(refine K5 ?_ ?_<;>intro _)|refine Jp ?_)
 refine Ly 8 [6,7,0,1] l.length (λk=>k<=l.length/\(CC p l 0=CC p (l.drop k) k)) ⟨Nat.zero_le _,rfl⟩ Yl ?_
 rintro k ⟨hk,hi⟩
 repeat' ((conv=>whnf);first|(refine K4 ?_;intros)|(refine K5 ?_ ?_<;>intro _)|refine U _ ‹_› _ _ ?_)
 all_goals conv=>whnf
 all_goals try (have e:=drop_at ‹l[Int.toNat k]? =some _›;rw [Int.toNat_natCast] at e;rw [e,CC] at hi;clear e)
 all_goals first
  |(refine ⟨k+1,⟨AC,?_⟩,AC,Yl,St.le_refl _⟩;clear h;simp_all)
  |(refine fin h ?_;clear h;simp_all;done)
  |(refine fin h ?_;rw [hi,List.drop_eq_nil_of_le AC];rfl)
theorem Jz (hf:∀x ∈ l,CR f p x) (h:R (.ret (.bool (l.any p))) st):LU 229 [.slice 6 (Ck l) .any,.func f [] []] st R:=by
 refine pB Tryz.func229 ?_
 refine TA hf ?_
 have key:=G9 (p:=p) (l:=l) (i:=0) AC
 refine Wh (λU=>?_) (λU=>?_)
 .exact At h (key.1 U)
 .refine At h ?_
  simp_all
theorem nH {x:Nd}:CR 398 (λx=> !Iu x 15 [44]) x:=by
 intro st R h
 refine pB Tryz.func398 ?_
 repeat' ((conv=>whnf);first|(refine K4 ?_;intros)|(refine K5 ?_ ?_<;>intro _)|refine Jp ?_)
 all_goals conv=>whnf
 all_goals (refine At h ?_;clear h;simp_all)
def iA (n:Nd):Bool:=
 (F1 n).isSome||Qn n||(match CY n [91] [93] with|some l=>l.isEmpty|none=>match CY n [40] [41] with|some l=> !l.any λx=> !Iu x 15 [44]|none=>false)
theorem rE (h:R (.ret (.bool (iA n))) st):LU 354 [enc n] st R:=by
 refine pB Tryz.func354 ?_
 repeat' ((conv=>whnf);first|(refine K4 ?_;intros)|(refine K5 ?_ ?_<;>intro _)|refine LP (λl U=>?_) (λU=>?_)|refine TK ?_|refine H7 (λl U=>?_) (λU=>?_)|refine Jz (λx _=>nH) ?_)
 all_goals conv=>whnf
 all_goals (refine At h ?_;clear h;simp_all [iA])
end
section
variable {st:St} {R:AA->St->Prop}
theorem Lv (h:CY n o s=some l):∀x ∈ l,x ∈ n.kids:=by
 simp only [CY] at h
 grind
def GZ (p:Nd->Bool) (n:Nd) (o s:List UInt8) (least:Int) (one:Bool):Bool:=
 match CY n o s with
 |some l=>decide (2*least - 1<=(l.length:Int))&&(!one||l.length==1)&&MC p l
 |none=>false
theorem UR {least:Int} {one:Bool} (h0:0<=least) (h1:least<=10) (hp:∀x ∈ n.kids,CR 291 p x)
 (h:R (.ret (.bool (GZ p n o s least one))) st):LU 355 [enc n,.str o,.str s,.int .i64 least,.bool one] st R:=by
 cases one
 all_goals refine pB Tryz.func355 ?_
 repeat' ((conv=>whnf);first|(refine K4 ?_;intros)|(refine K5 ?_ ?_<;>intro _)|refine H7 (λl U=>?_) (λU=>?_)|refine VU (λx hx=>hp x (Lv ‹_› x hx)) ?_)
 all_goals conv=>whnf
 all_goals (refine At h ?_;clear h;simp_all [GZ])
 all_goals (intros;omega)
def bZ (q:Nd->Bool):List Nd->Bool
 |[]=>true
 |x::r=>q x&&bZ q r
def L3 (p:Nd->Bool) (x:Nd):Bool:= !(x.kind==11)&& !(x.kind==17)&&p x
def L2 (p:Nd->Bool) (l:List Nd):Bool:=bZ (L3 p) l&&decide (0<l.length)
theorem UQ (hp:∀x ∈ l,CR 291 p x) (h:R (.ret (.bool (L2 p l))) st):LU 347 [.slice 6 (Ck l) .any] st R:=by
 refine pB Tryz.func347 ?_
 repeat' ((conv=>whnf);first|(refine K4 ?_;intros)|(refine K5 ?_ ?_<;>intro _)|refine Jp ?_)
 refine Ly 7 [5,6,0] l.length (λk=>k<=l.length/\bZ (L3 p) l=bZ (L3 p) (l.drop k)) ⟨Nat.zero_le _,rfl⟩ Yl ?_
 rintro k ⟨U,hi⟩
 repeat' ((conv=>whnf);first|(refine K4 ?_;intros)|(refine K5 ?_ ?_<;>intro _)|refine hp _ ‹_› _ _ ?_)
 all_goals conv=>whnf
 all_goals try (have e:=drop_at ‹l[Int.toNat k]? =some _›;rw [Int.toNat_natCast] at e;rw [e,bZ] at hi;clear e)
 all_goals first
  |(refine ⟨k+1,⟨AC,?_⟩,AC,Yl,St.le_refl _⟩;clear h;simp_all [L3];done)
  |(refine At h ?_;clear h;simp_all [L2,L3];done)
  |(refine At h ?_;clear h;rw [List.drop_eq_nil_of_le AC] at hi;simp_all [L2,bZ];done)
  |skip
def Yp (p:Nd->Bool) (n:Nd):Bool:=
 n.kind==13&&n.kids.length==3&&n.kids[0]?.any (DV · [1,3])&&n.kids[1]?.any (Iu · 10 [61])&&n.kids[2]?.any p
theorem nq (hp:∀x ∈ n.kids,CR 291 p x):CR 400 (Yp p) n:=by
 intro st R h
 refine pB Tryz.func400 ?_
 repeat' ((conv=>whnf);first|(refine K4 ?_;intros)|(refine K5 ?_ ?_<;>intro _)|refine Ie (kinds:=[1,3]) ?_|refine Jp ?_|refine hp _ ‹_› _ _ ?_)
 all_goals conv=>whnf
 all_goals (refine At h ?_;clear h;simp_all [Yp])
def O5 (p:Nd->Bool) (n:Nd):Bool:=
 decide (3<=n.kids.length)&&n.kids[0]?.any Qn&&(match CY (.mk 0 0 [] 0 0 (n.kids.drop 1)) [123] [125] with|some l=>l.isEmpty||MC (Yp p) l|none=>false)
theorem jP (hp:∀x ∈ n.kids,∀y ∈ x.kids,CR 291 p y) (h:R (.ret (.bool (O5 p n))) st):LU 356 [enc n] st R:=by
 refine pB Tryz.func356 ?_
 repeat' ((conv=>whnf);first|(refine K4 ?_;intros)|(refine K5 ?_ ?_<;>intro _)|refine TK ?_|refine H7 (n:=.mk 0 0 [] 0 0 _) (λl U=>?_) (λU=>?_)|refine VU (λx hx=>nq (hp x (List.mem_of_mem_drop (i:=1) (l:=n.kids) (Lv (n:=.mk 0 0 [] 0 0 (n.kids.drop 1)) ‹_› x hx)))) ?_)
 all_goals conv=>whnf
 all_goals (refine At h ?_;clear h;try simp only [Int.toNat_zero,Int.toNat_one] at *;simp_all [O5])
 all_goals first
  |omega
  |(have:¬3<=n.kids.length:=by omega
    simp [O5,this])
def Jo (p:Nd->Bool):Nat->List Nd->Bool
 |2,[]=>true
 |_,[]=>false
 |0,x::r=>if x.kind=19 then Jo p 1 r else (!(x.kind==17)&&p x)&&Jo p 2 r
 |1,x::r=>DV x [11,12]&&Jo p 2 r
 |_,x::r=>TL x&&Jo p 0 r
theorem qx {k:Nat} {x:Nd} (h:l[k]? =some x):Jo p 0 (l.drop k)=if x.kind=19 then Jo p 1 (l.drop (k+1)) else (!(x.kind==17)&&p x)&&Jo p 2 (l.drop (k+1)):=by
 rw [drop_at h];rfl
theorem qy {k:Nat} {x:Nd} (h:l[k]? =some x):Jo p 1 (l.drop k)=(DV x [11,12]&&Jo p 2 (l.drop (k+1))):=by
 rw [drop_at h];rfl
theorem bB {k:Nat} {x:Nd} (h:l[k]? =some x):Jo p 2 (l.drop k)=(TL x&&Jo p 0 (l.drop (k+1))):=by
 rw [drop_at h];rfl
theorem Oa {k s:Nat} (h:l.length<=k):Jo p s (l.drop k)=(s==2):=by
 rw [List.drop_eq_nil_of_le h]
 match s with
 |0=>rfl
 |1=>rfl
 |2=>rfl
 |s+3=>rfl
theorem u9:(0:Int).toNat=0:=rfl
theorem va:((0:Int)+1).toNat=1:=rfl
theorem vb:((0:Int)+1+1).toNat=2:=rfl
theorem vc {k:Nat}:((k:Int)+1).toNat=k+1:=AC
theorem ve {k:Nat}:((k:Int)+1+1).toNat=k+2:=AC
theorem kf (hp:∀x ∈ l,CR 291 p x) (h:R (.ret (.bool (Jo p 0 l))) st):LU 358 [.slice 6 (Ck l) .any] st R:=by
 refine pB Tryz.func358 ?_
 conv=>whnf
 refine ⟨Nat,λ_=>0,λk=>{tmps:=[(3,.int .i64 k),(0,.slice 6 (Ck l) .any)],boxes:=[],Bm:=0,sz:=57,gl:=[]},λ_=>st,
  λk=>k<=l.length/\Jo p 0 l=Jo p 0 (l.drop k),λk=>l.length - k,?_,?_⟩
 .have hi:Jo p 0 l=Jo p 0 (l.drop 0):=rfl
  repeat' ((conv=>whnf);first|(refine K4 ?_;intros)|(refine K5 ?_ ?_<;>intro _)|refine Ie (kinds:=[11,12]) ?_|refine aG ?_|refine hp _ ‹_› _ _ ?_)
  all_goals conv=>whnf
  all_goals try simp only [u9,va,vb,vc,ve,Int.toNat_natCast,Nat.zero_add,Nat.reduceAdd] at *
  all_goals try (have e:=qx (p:=p) ‹l[0]? =some _›;rw [e] at hi;clear e)
  all_goals (try have U:=qy (p:=p) ‹l[1]? =some _›)
  all_goals (try have e2:=bB (p:=p) ‹l[1]? =some _›)
  all_goals (try have e3:=bB (p:=p) ‹l[2]? =some _›)
  all_goals (try have f0:=Oa (p:=p) (s:=0) (l:=l) (k:=0) AC)
  all_goals (try have f1:=Oa (p:=p) (s:=1) (l:=l) (k:=1) AC)
  all_goals (try have f2:=Oa (p:=p) (s:=2) (l:=l) (k:=1) AC)
  all_goals (try have f3:=Oa (p:=p) (s:=2) (l:=l) (k:=2) AC)
  all_goals try simp only [Nat.zero_add,Nat.reduceAdd] at *
  all_goals first
   |(refine At h ?_;clear h;clear hp;simp_all;done)
   |(refine ⟨3,(by first|trivial|rfl),⟨AC,?_⟩,Yl,St.le_refl _⟩;clear h;clear hp;simp_all;done)
   |(refine ⟨2,(by first|trivial|rfl),⟨AC,?_⟩,Yl,St.le_refl _⟩;clear h;clear hp;simp_all;done)
 .rintro k ⟨hk,hi⟩
  refine ⟨_,rfl,?_⟩
  repeat' ((conv=>whnf);first|(refine K4 ?_;intros)|(refine K5 ?_ ?_<;>intro _)|refine Ie (kinds:=[11,12]) ?_|refine aG ?_|refine hp _ ‹_› _ _ ?_)
  all_goals conv=>whnf
  all_goals try simp only [u9,va,vb,vc,ve,Int.toNat_natCast,Nat.zero_add,Nat.reduceAdd] at *
  all_goals try (have e:=qx (p:=p) ‹l[k]? =some _›;rw [e] at hi;clear e)
  all_goals (try have U:=qy (p:=p) ‹l[k+1]? =some _›)
  all_goals (try have e2:=bB (p:=p) ‹l[k+1]? =some _›)
  all_goals (try have e3:=bB (p:=p) ‹l[k+2]? =some _›)
  all_goals (try have f0:=Oa (p:=p) (s:=0) (l:=l) (k:=k) AC)
  all_goals (try have f1:=Oa (p:=p) (s:=1) (l:=l) (k:=k+1) AC)
  all_goals (try have f2:=Oa (p:=p) (s:=2) (l:=l) (k:=k+1) AC)
  all_goals (try have f3:=Oa (p:=p) (s:=2) (l:=l) (k:=k+2) AC)
  all_goals try simp only [Nat.zero_add,Nat.reduceAdd] at *
  all_goals first
   |(refine At h ?_;clear h;clear hp;simp_all;done)
   |(refine ⟨k+3,(by first|trivial|rfl),⟨AC,?_⟩,AC,Yl,St.le_refl _⟩;clear h;clear hp;simp_all;done)
   |(refine ⟨k+2,(by first|trivial|rfl),⟨AC,?_⟩,AC,Yl,St.le_refl _⟩;clear h;clear hp;simp_all;done)
end
section
variable {st:St} {R:AA->St->Prop}
def Mr (p:Nd->Bool) (n:Nd):Bool:=
 if n.kind=1 then DV n [1,2,4,11,12,13,14]
 else if n.kind=14 then n.kids.length==1&&n.kids[0]?.any (Iu · 9 [95])
 else if n.kind=3 then iA n
 else if n.kind=15 then n.kids.length==3&&n.kids[0]?.any (DV · [1])&&n.kids[1]?.any (Iu · 10 [64])&&n.kids[2]?.any p
 else if n.kind=16 then n.kids.length==2&&n.kids[0]?.any (Iu · 10 [126])&&n.kids[1]?.any p
 else if n.kind=4 then GZ p n [40] [41] 1 true
 else if n.kind=5 then GZ p n [40] [41] 2 false
 else if n.kind=6 then GZ p n [91] [93] 1 false
 else if n.kind=12 then O5 p n
 else if n.kind=11 then decide (0<n.kids.length)&&n.kids[0]?.any Qn&&L2 p (n.kids.drop 1)
 else if n.kind=17 then decide (1<n.kids.length)&&Jo p 0 n.kids
 else false
theorem jc (hp:∀x,x.size<n.size->CR 291 p x):CR 291 (Mr p) n:=by
 intro st R h
 have U:∀x ∈ n.kids,CR 291 p x:=λx hx=>hp x (Gh hx)
 have hkk:∀x ∈ n.kids,∀y ∈ x.kids,CR 291 p y:=λx hx y hy=>hp y (Nat.lt_trans (Gh hy) (Gh hx))
 have hd:∀x ∈ n.kids.drop 1,CR 291 p x:=λx hx=>U x (List.mem_of_mem_drop hx)
 refine pB Tryz.func291 ?_
 repeat' ((conv=>whnf);first|(refine K4 ?_;intros)|(refine K5 ?_ ?_<;>intro _)|refine Ie (kinds:=[1,2,4,11,12,13,14]) ?_|refine Jp ?_|refine rE ?_|refine Ie (kinds:=[1]) ?_|refine U _ ‹_› _ _ ?_|refine UR (p:=p) Do Do U ?_|refine jP hkk ?_|refine TK ?_|refine UQ hd ?_|refine kf U ?_)
 all_goals conv=>whnf
 all_goals (refine At h ?_;clear h hp U hkk hd;try simp only [Int.toNat_zero,Int.toNat_one,Int.reduceToNat] at *)
 all_goals first
  |(simp_all [Mr];done)
  |(have:1<n.kids.length:=by omega
    simp_all [Mr];done)
  |(have:¬1<n.kids.length:=by omega
    simp_all [Mr];intros;omega)
def n9:Nat->Nd->Bool
 |0,_=>false
 |k+1,n=>Mr (n9 k) n
theorem size_pos (n:Nd):0<n.size:=by cases n;rw [Nd.size];omega
theorem YM:∀(k:Nat) (n:Nd),n.size<=k->CR 291 (n9 k) n
 |0,n,h=>by have:=size_pos n;omega
 |k+1,n,h=>jc λx U=>YM k x AC
def bC (p:Nd->Bool) (l:List Nd):Bool:=if l.length=1 then l[0]?.any (λx=> !(x.kind==17)&&p x) else Jo p 0 l
theorem kD (hp:∀x ∈ l,CR 291 p x) (h:R (.ret (.bool (bC p l))) st):LU 351 [.slice 6 (Ck l) .any] st R:=by
 refine pB Tryz.func351 ?_
 repeat' ((conv=>whnf);first|(refine K4 ?_;intros)|(refine K5 ?_ ?_<;>intro _)|refine hp _ ‹_› _ _ ?_|refine kf hp ?_)
 all_goals conv=>whnf
 all_goals (refine At h ?_;clear h hp;try simp only [Int.toNat_zero,Int.toNat_one,Int.reduceToNat] at *)
 all_goals first
  |(simp_all [bC];done)
  |skip
def GU (p:Nd->Bool) (l:List Nd):Nat->List Nd->List UInt8×Bool
 |_,[]=>([],false)
 |i,x::r=>match PE x with
  |some t=>(t,bC p (l.take i)&&bC p (l.drop (i+1)))
  |none=>GU p l (i+1) r
def C8 (p:Nd->Bool) (q:Nd->List UInt8×Bool) (n:Nd):List UInt8×Bool:=
 if n.kind=11 then
  if 2<=n.kids.length then (if L2 p (n.kids.drop 1) then (match n.kids[0]? with
   |none=>([],false)
   |some f=>if f.kind=4 then (match CY f [40] [41] with|some l=>if l.length=1 then (match l[0]? with|some x=>q x|none=>([],false)) else ([],false)|none=>([],false))
    else match F1 f with|some t=>(t,true)|none=>([],false)) else ([],false)) else ([],false)
 else if n.kind=17 then GU p n.kids 0 n.kids
 else ([],false)
theorem ir {f:List UInt8×Bool} {b:Bool} (h:f=(t,b)):AA.ret (.Bz [.str f.1,.bool f.2])=(AA.ret (.Bz [.str t,.bool b])).wk:=by subst h;rfl
def XS (q:Nd->List UInt8×Bool) (x:Nd):Prop:=∀(st:St) (R:AA->St->Prop),R (.ret (.Bz [.str (q x).1,.bool (q x).2])) st->LU 290 [enc x] st R
theorem Rw {q:Nd->List UInt8×Bool} (hp:∀x,x.size<n.size->CR 291 p x) (hq:∀x,x.size<n.size->XS q x):XS (C8 p q) n:=by
 intro st R h
 have hk:∀x ∈ n.kids,CR 291 p x:=λx U=>hp x (Gh U)
 have hd:∀x ∈ n.kids.drop 1,CR 291 p x:=λx U=>hk x (List.mem_of_mem_drop U)
 refine pB Tryz.func290 ?_
 repeat' ((conv=>whnf);first|(refine K4 ?_;intros)|(refine K5 ?_ ?_<;>intro _)|refine UQ hd ?_|refine H7 (λl hl=>?_) (λhl=>?_)|refine LP (λl hl=>?_) (λhl=>?_)|refine hq _ (Nat.lt_trans (Gh (Lv ‹_› _ ‹_›)) (Gh ‹_›)) _ _ ?_)
 all_goals try (refine aF 63 [1,61,62] [0] n.kids.length (λk=>k<=n.kids.length/\GU p n.kids 0 n.kids=GU p n.kids k (n.kids.drop k)) ⟨Nat.zero_le _,rfl⟩ Yl ?_;rintro k ⟨hkl,hi⟩)
 repeat' ((conv=>whnf);first|(refine K4 ?_;intros)|(refine K5 ?_ ?_<;>intro _)|refine mB (λl hl=>?_) (λhl=>?_)|refine kD (λx U=>hk x (List.mem_of_mem_take (List.mem_of_mem_drop U))) ?_|refine kD (λx U=>hk x (List.mem_of_mem_drop U)) ?_)
 all_goals conv=>whnf
 all_goals first
  |refine BJ ?_ h
  |(refine ⟨k+1,⟨AC,?_⟩,AC,Yl,St.le_refl _⟩)
  |skip
 all_goals clear h hp hq hk hd
 all_goals try (have e:=drop_at ‹n.kids[Int.toNat k]? =some _›;rw [Int.toNat_natCast] at e;rw [e,GU] at hi;clear e)
 all_goals try simp only [Int.toNat_zero,Int.toNat_one,Int.reduceToNat,Int.toNat_natCast] at *
 all_goals first
  |(simp_all;done)
  |refine ir ?_
 .have:¬2<=n.kids.length:=AC
  simp [C8, *]
 all_goals try have g:2<=n.kids.length:=AC
 .rename_i x _ _ y _ _ _
  have e:C8 p q n=q y:=by simp_all [C8]
  rw [e];exact Prod.ext rfl ‹_›
 .rename_i x _ _ y _ _ _
  have e:C8 p q n=q y:=by simp_all [C8]
  rw [e];exact Prod.ext rfl ‹_›
 all_goals try (rw [List.drop_eq_nil_of_le AC,GU] at hi)
 all_goals simp_all [C8]
def ny:Nat->Nd->List UInt8×Bool
 |0,_=>([],false)
 |k+1,n=>C8 (n9 k) (ny k) n
theorem P8:∀(k:Nat) (n:Nd),n.size<=k->XS (ny k) n
 |0,n,h=>by have:=size_pos n;omega
 |k+1,n,h=>Rw (λx U=>YM k x AC) λx U=>P8 k x AC
end
section
variable {st:St} {R:AA->St->Prop}
def JD (n:Nd):Bool:=n9 n.size n
theorem YL:CR 291 JD n:=λst R h=>YM n.size n (Nat.le_refl _) st R h
def X5 (n:Nd):Int:=if JD n then 0 else 120
theorem gb (h:R (.ret (.int .i64 (X5 n))) st):LU 422 [enc n] st R:=by
 refine pB Tryz.func422 ?_
 repeat' ((conv=>whnf);first|(refine K4 ?_;intros)|(refine K5 ?_ ?_<;>intro _)|refine YL _ _ ?_)
 all_goals conv=>whnf
 all_goals (refine fin h ?_;clear h;simp_all [X5])
def YG (n:Nd):Int×List UInt8×Int:=
 if (ny n.size n).2 then (1,(ny n.size n).1,0) else if JD n then (2,[],0) else (0,[],120)
theorem iu {f:Int×List UInt8×Int} {b:Int} (h:f=(b,t,c)):AA.ret (.Bz [.int .i64 f.1,.str f.2.1,.int .i64 f.2.2])=(AA.ret (.Bz [.int .i64 b,.str t,.int .i64 c])).wk:=by subst h;rfl
theorem tG (h:R (.ret (.Bz [.int .i64 (YG n).1,.str (YG n).2.1,.int .i64 (YG n).2.2])) st):LU 215 [enc n] st R:=by
 refine pB Tryz.func215 ?_
 repeat' ((conv=>whnf);first|(refine K4 ?_;intros)|(refine K5 ?_ ?_<;>intro _)|refine P8 _ n (Nat.le_refl _) _ _ ?_|refine YL _ _ ?_)
 all_goals conv=>whnf
 all_goals (refine BJ ?_ h;clear h;refine iu ?_;simp_all [YG])
def FV (q:Nd->List (List UInt8)) (field:Bool):Nat->List Nd->List (List UInt8)
 |_,[]=>[]
 |i,x::r=>(if 0<i\/field=false then q x else [])++FV q field (i+1) r
def CP (q:Nd->List (List UInt8)) (n:Nd):List (List UInt8):=
 match F1 n with
 |some s=>[s]
 |none=>if n.kind=18\/n.kind=19 then [] else FV q (n.kind==13) 0 n.kids
def XT (q:Nd->List (List UInt8)) (x:Nd):Prop:=∀(l:List (List UInt8)) (own:AJ) (st:St) (R:AA->St->Prop),l.length+(q x).length<=1000000000->own.BM st->
 (∀U:AJ,U.BM st->R (.ret (.slice 1 (strs (l++q x)) U)) (U.st st (l++q x).length))->LU 393 [.slice 1 (strs l) own,enc x] (own.st st l.length) R
attribute [local irreducible] Go.Aw.Ah
theorem YQ {q:Nd->List (List UInt8)} (hq:∀x,x.size<n.size->XT q x):XT (CP q) n:=by
 intro l own st R hb ho h
 refine pB Tryz.func393 ?_
 repeat' ((conv=>whnf);first|(refine K4 ?_;intros)|(refine K5 ?_ ?_<;>intro _)|refine LP (λt ht=>?_) (λht=>?_)|refine Ok (new:=[_]) ho ?_ (λown' ho'=>?_))
 .have e:CP q n=[t]:=by simp [CP,ht]
  rw [e] at hb;exact hb
 .conv=>whnf
  have e:CP q n=[t]:=by simp [CP,ht]
  rw [e] at h
  exact fin (h own' ho') rfl
 .conv=>whnf
  have e:CP q n=[]:=by simp [CP, *]
  rw [e,List.append_nil] at h
  exact fin (h own ho) rfl
 .conv=>whnf
  have e:CP q n=[]:=by simp [CP, *]
  rw [e,List.append_nil] at h
  exact fin (h own ho) rfl
 .have e:CP q n=FV q (n.kind==13) 0 n.kids:=by simp [CP, *]
  rw [e] at h hb
  conv=>whnf
  refine TI (α:=Nat×AJ×List (List UInt8)) (λx=>[(31,.int .i64 (x.1:Int)),(0,.slice 1 (strs x.2.2) x.2.1)]) [3,29,30] [0] (λx=>AJ.st st x.2.2.length x.2.1)
   (λx=>x.1<=n.kids.length/\AJ.BM st x.2.1/\l++FV q (n.kind==13) 0 n.kids=x.2.2++FV q (n.kind==13) x.1 (n.kids.drop x.1)) (λx=>n.kids.length - x.1) (0,own,l) ⟨Nat.zero_le _,ho,rfl⟩ Yl (St.le_refl _) ?_
  rintro ⟨k,own1,U⟩ ⟨hk,ho1,hi⟩
  simp only at hk ho1 hi
  have hlen:=congrArg List.length hi
  simp only [List.length_append] at hlen
  repeat' ((conv=>whnf);first|(refine K4 ?_;intros)|(refine K5 ?_ ?_<;>intro _)|refine hq _ (Gh ‹_›) U own1 st _ ?_ ho1 (λown2 ho2=>?_))
  all_goals try conv=>whnf
  all_goals try (have e:=drop_at ‹n.kids[_]? =some _›;simp only [Int.toNat_natCast] at e;rw [e,FV] at hi hlen;clear e)
  all_goals simp only [Int.toNat_natCast] at *
  .rw [if_pos (.inl AC)] at hlen
   rw [List.length_append] at hlen
   show U.length+_<=1000000000
   omega
  .refine ⟨(k+1,own2,U++_),⟨by show k+1<=_;omega,ho2,?_⟩,by show _ - (k+1)<_ - k;omega,Yl,St.le_refl _⟩
   rw [if_pos (.inl AC)] at hi
   rw [hi,List.append_assoc]
  .refine ⟨(k+1,own1,U),⟨by show k+1<=_;omega,ho1,?_⟩,by show _ - (k+1)<_ - k;omega,Yl,St.le_refl _⟩
   rw [if_neg (by rintro (g|g)<;>first|omega|simp_all)] at hi
   rw [hi];rfl
  .have g:(n.kind==13)=false:=kw
   rw [if_pos (.inr g),List.length_append] at hlen
   show U.length+_<=1000000000
   omega
  .refine ⟨(k+1,own2,U++_),⟨by show k+1<=_;omega,ho2,?_⟩,by show _ - (k+1)<_ - k;omega,Yl,St.le_refl _⟩
   have g:(n.kind==13)=false:=kw
   rw [if_pos (.inr g)] at hi
   rw [hi,List.append_assoc]
  .rw [List.drop_eq_nil_of_le AC,FV,List.append_nil] at hi
   rw [hi] at h
   exact fin (h own1 ho1) rfl
def HS:Nat->Nd->List (List UInt8)
 |0,_=>[]
 |k+1,n=>CP (HS k) n
theorem VJ:∀(k:Nat) (n:Nd),n.size<=k->XT (HS k) n
 |0,n,h=>by have:=size_pos n;omega
 |k+1,n,h=>YQ λx U=>VJ k x AC
def Gm (n:Nd):List (List UInt8)×Int:=if JD n then (HS n.size n,0) else ([],120)
theorem dp (hb:(HS n.size n).length<=1000000000) (h:R (.ret (.Bz [.slice 1 (strs (Gm n).1) .any,.int .i64 (Gm n).2])) st):LU 344 [enc n] st R:=by
 refine pB Tryz.func344 ?_
 repeat' ((conv=>whnf);first|(refine K4 ?_;intros)|(refine K5 ?_ ?_<;>intro _)|refine YL _ _ ?_|refine VJ _ n (Nat.le_refl _) [] .full st _ ?_ trivial (λown2 U=>?_))
 all_goals try conv=>whnf
 .show 0+_<=_
  omega
 .have e:Gm n=(HS n.size n,0):=by simp_all [Gm]
  rw [e] at h
  exact ⟨_,st,.inr rfl,AJ.BK U,h⟩
 .have e:Gm n=([],120):=by simp_all [Gm]
  rw [e] at h
  exact BJ rfl h
end
theorem Qs {q:Nd->List (List UInt8)} {b:Bool}:∀{l:List Nd} {i:Nat},(∀x ∈ l,(q x).length<=x.size)->(FV q b i l).length<=Dj l
 |[],_,_=>by simp [FV,Dj]
 |x::r,i,h=>by
  have:=Qs (b:=b) (l:=r) (i:=i+1) λy hy=>h y (List.mem_cons_of_mem _ hy)
  have:=h x List.mem_cons_self
  rw [FV,List.length_append,Dj]
  grind
theorem Qt:∀{k:Nat} {n:Nd},(HS k n).length<=n.size
 |0,n=>Nat.zero_le _
 |k+1,n=>by
  rw [HS,CP]
  have:=size_pos n
  split
  .grind
  .split
   .simp
   .have:=Qs (b:=n.kind==13) (l:=n.kids) (i:=0) (q:=HS k) λx _=>Qt
    cases n with
    |mk a b c d e ks=>rw [Nd.size];show (FV _ _ 0 ks).length<=_;have:(FV (HS k) (a==13) 0 ks).length<=Dj ks:=this;show (FV (HS k) (a==13) 0 ks).length<=_;omega
section
variable {st:St} {R:AA->St->Prop}
theorem jf (U:n.size<=1000000000) (h:R (.ret (.Bz [.slice 1 (strs (Gm n).1) .any,.int .i64 (Gm n).2])) st):LU 344 [enc n] st R:=
 dp (Nat.le_trans Qt U) h
theorem gO {f:Int} {l:Int} {ks:List Nd}:enc (.mk k f t l c ks)=.agg [.int .i64 k,.int .i64 f,.str t,.int .i64 l,.int .i64 c,.slice 6 (ks.map AP) .any]:=by
 rw [enc,AP,BR];rfl
end
end Go.Proofs.Z
namespace Go.Proofs
open Go.Shelf
def Tryz.Vs:Go.Shelf.Ren:=⟨λ|160=>198|232=>261|231=>260|227=>262|234=>264|233=>263|236=>266|235=>265|228=>322|271=>324|151=>323|197=>125|120=>373|152=>372|260=>196|137=>407|119=>408|224=>384|225=>383|217=>382|266=>412|n=>n,λ|9=>9|4=>4|3=>3|5=>5|117=>198|116=>197|0=>0|124=>201|21=>21|105=>130|46=>191|119=>190|139=>194|138=>193|n=>n,λ|3=>0|4=>1|n=>n⟩
theorem Tryz.nV:Go.Proofs.Lays.n160 Tryz.prog Tryz.Vs:={
 mixed:=EQ
 f119:=Tryz.func408.trans (congrArg some EQ)
 f120:=Tryz.func373.trans (congrArg some EQ)
 f137:=Tryz.func407.trans (congrArg some EQ)
 f151:=Tryz.func323.trans (congrArg some EQ)
 f152:=Tryz.func372.trans (congrArg some EQ)
 f160:=Tryz.func198.trans (congrArg some EQ)
 f197:=Tryz.func125.trans (congrArg some EQ)
 f217:=Tryz.func382.trans (congrArg some EQ)
 f224:=Tryz.func384.trans (congrArg some EQ)
 f225:=Tryz.func383.trans (congrArg some EQ)
 f227:=Tryz.func262.trans (congrArg some EQ)
 f228:=Tryz.func322.trans (congrArg some EQ)
 f231:=Tryz.func260.trans (congrArg some EQ)
 f232:=Tryz.func261.trans (congrArg some EQ)
 f233:=Tryz.func263.trans (congrArg some EQ)
 f234:=Tryz.func264.trans (congrArg some EQ)
 f235:=Tryz.func265.trans (congrArg some EQ)
 f236:=Tryz.func266.trans (congrArg some EQ)
 f260:=Tryz.func196.trans (congrArg some EQ)
 f266:=Tryz.func412.trans (congrArg some EQ)
 f271:=Tryz.func324.trans (congrArg some EQ)
 t0:=Tryz.underlying0
 a0:=Tryz.isAgg0
 z0:=Tryz.sizeOf0
 v0:=Tryz.zeroValue0
 t3:=Tryz.underlying3
 a3:=Tryz.isAgg3
 z3:=Tryz.sizeOf3
 v3:=Tryz.zeroValue3
 t4:=Tryz.underlying4
 a4:=Tryz.isAgg4
 z4:=Tryz.sizeOf4
 v4:=Tryz.zeroValue4
 t5:=Tryz.underlying5
 a5:=Tryz.isAgg5
 z5:=Tryz.sizeOf5
 v5:=Tryz.zeroValue5
 t9:=Tryz.underlying9
 a9:=Tryz.isAgg9
 z9:=Tryz.sizeOf9
 v9:=Tryz.zeroValue9
 t21:=Tryz.underlying21
 a21:=Tryz.isAgg21
 z21:=Tryz.sizeOf21
 v21:=Tryz.zeroValue21
 t46:=Tryz.underlying191
 a46:=Tryz.isAgg191
 z46:=Tryz.sizeOf191
 v46:=Tryz.zeroValue191
 t105:=Tryz.underlying130
 a105:=Tryz.isAgg130
 z105:=Tryz.sizeOf130
 v105:=Tryz.zeroValue130
 t116:=Tryz.underlying197
 a116:=Tryz.isAgg197
 z116:=Tryz.sizeOf197
 t117:=Tryz.underlying198
 a117:=Tryz.isAgg198
 z117:=Tryz.sizeOf198
 v117:=Tryz.zeroValue198
 t119:=Tryz.underlying190
 a119:=Tryz.isAgg190
 z119:=Tryz.sizeOf190
 t124:=Tryz.underlying201
 a124:=Tryz.isAgg201
 z124:=Tryz.sizeOf201
 v124:=Tryz.zeroValue201
 t138:=Tryz.underlying193
 a138:=Tryz.isAgg193
 z138:=Tryz.sizeOf193
 v138:=Tryz.zeroValue193
 t139:=Tryz.underlying194
 a139:=Tryz.isAgg194
 z139:=Tryz.sizeOf194
 v139:=Tryz.zeroValue194
 g3:=EQ
 g4:=by kernel_rfl}
open Go.RowKit in
theorem Tryz.strings_Trim_one (s:ByteArray) (c:UInt8) (hc:c.toNat<128) (w:World) (hs:s.size<=9223372036854775807):
 Calls Tryz.prog 198 #[.string s,.string ⟨#[c]⟩] w λe w'=>e=.returned (.string ⟨(Lib.trimB s.data.toList c).toArray⟩)/\(w'=w\/w'=w.drew):=Any.strings_Trim_one Tryz.nV s c hc w hs
def Tryz.Vp:Go.Shelf.Ren:=⟨λ|137=>407|217=>382|266=>412|n=>n,λ|9=>9|5=>5|3=>3|n=>n,λ|n=>n⟩
theorem Tryz.nS:Go.Proofs.Lays.n137 Tryz.prog Tryz.Vp:={
 mixed:=EQ
 f137:=Tryz.func407.trans (congrArg some EQ)
 f217:=Tryz.func382.trans (congrArg some EQ)
 f266:=Tryz.func412.trans (congrArg some EQ)
 t3:=Tryz.underlying3
 a3:=Tryz.isAgg3
 z3:=Tryz.sizeOf3
 v3:=Tryz.zeroValue3
 t5:=Tryz.underlying5
 a5:=Tryz.isAgg5
 z5:=Tryz.sizeOf5
 v5:=Tryz.zeroValue5
 t9:=Tryz.underlying9
 a9:=Tryz.isAgg9
 z9:=Tryz.sizeOf9
 v9:=Tryz.zeroValue9}
open Go.RowKit in
theorem Tryz.strings_IndexByte (s:ByteArray) (c:Int) (w:World):
 Calls Tryz.prog 407 #[.string s,.int .u8 c] w λe w'=>e=.returned (.int .i64 (Lib.indexByte s.data.toList c.toNat.toUInt8))/\w'=w:=Any.strings_IndexByte Tryz.nS s c w
def Tryz.Vq:Go.Shelf.Ren:=⟨λ|144=>205|143=>272|219=>334|217=>382|225=>383|224=>384|267=>385|266=>412|314=>413|n=>n,λ|9=>9|4=>4|3=>3|5=>5|46=>191|146=>256|51=>255|n=>n,λ|1=>2|n=>n⟩
theorem Tryz.nT:Go.Proofs.Lays.n144 Tryz.prog Tryz.Vq:={
 mixed:=EQ
 f143:=Tryz.func272.trans (congrArg some EQ)
 f144:=Tryz.func205.trans (congrArg some EQ)
 f217:=Tryz.func382.trans (congrArg some EQ)
 f219:=Tryz.func334.trans (congrArg some EQ)
 f224:=Tryz.func384.trans (congrArg some EQ)
 f225:=Tryz.func383.trans (congrArg some EQ)
 f266:=Tryz.func412.trans (congrArg some EQ)
 f267:=Tryz.func385.trans (congrArg some EQ)
 f314:=Tryz.func413.trans (congrArg some EQ)
 t3:=Tryz.underlying3
 a3:=Tryz.isAgg3
 z3:=Tryz.sizeOf3
 v3:=Tryz.zeroValue3
 t4:=Tryz.underlying4
 a4:=Tryz.isAgg4
 z4:=Tryz.sizeOf4
 v4:=Tryz.zeroValue4
 t5:=Tryz.underlying5
 a5:=Tryz.isAgg5
 z5:=Tryz.sizeOf5
 v5:=Tryz.zeroValue5
 t9:=Tryz.underlying9
 a9:=Tryz.isAgg9
 z9:=Tryz.sizeOf9
 v9:=Tryz.zeroValue9
 t46:=Tryz.underlying191
 a46:=Tryz.isAgg191
 z46:=Tryz.sizeOf191
 v46:=Tryz.zeroValue191
 t51:=Tryz.underlying255
 a51:=Tryz.isAgg255
 z51:=Tryz.sizeOf255
 v51:=Tryz.zeroValue255
 t146:=Tryz.underlying256
 a146:=Tryz.isAgg256
 z146:=Tryz.sizeOf256
 v146:=Tryz.zeroValue256
 g1:=by kernel_rfl}
open Go.RowKit Go.Lib in
theorem Tryz.strings_Contains (s sub:ByteArray) (m:Int) (w:World) (hs:s.size<4294967281) (U:w.cell? ⟨2,0,none⟩=some (.int .i64 m)):
 Calls Tryz.prog 205 #[.string s,.string sub] w λe w'=>e=.returned (.bool (Lib.contains s.data.toList sub.data.toList))/\w'=w:=Any.strings_Contains Tryz.nT s sub m w hs U
def Tryz.TD:Go.Shelf.Ren:=⟨λ|15=>56|20=>126|n=>n,λ|9=>9|23=>84|3=>3|4=>4|0=>0|21=>21|n=>n,λ|n=>n⟩
theorem Tryz.iL:Go.Proofs.LaysGw.n15 Tryz.prog Tryz.TD:={
 mixed:=EQ
 f15:=Tryz.func56.trans (congrArg some EQ)
 f20:=Tryz.func126.trans (congrArg some EQ)
 t0:=Tryz.underlying0
 a0:=Tryz.isAgg0
 z0:=Tryz.sizeOf0
 v0:=Tryz.zeroValue0
 i0:=EQ
 t3:=Tryz.underlying3
 a3:=Tryz.isAgg3
 z3:=Tryz.sizeOf3
 v3:=Tryz.zeroValue3
 i3:=EQ
 t4:=Tryz.underlying4
 a4:=Tryz.isAgg4
 z4:=Tryz.sizeOf4
 v4:=Tryz.zeroValue4
 i4:=EQ
 t9:=Tryz.underlying9
 a9:=Tryz.isAgg9
 z9:=Tryz.sizeOf9
 v9:=Tryz.zeroValue9
 i9:=EQ
 t21:=Tryz.underlying21
 a21:=Tryz.isAgg21
 z21:=Tryz.sizeOf21
 v21:=Tryz.zeroValue21
 i21:=EQ
 t23:=Tryz.underlying84
 a23:=Tryz.isAgg84
 z23:=Tryz.sizeOf84
 v23:=Tryz.zeroValue84
 i23:=by kernel_rfl}
def Tryz.YC:Go.Shelf.Ren:=⟨λ|99=>130|206=>197|n=>n,λ|9=>9|4=>4|3=>3|n=>n,λ|n=>n⟩
theorem Tryz.rO:Go.Proofs.Lays.n99 Tryz.prog Tryz.YC:={
 mixed:=EQ
 f99:=Tryz.func130.trans (congrArg some EQ)
 f206:=Tryz.func197.trans (congrArg some EQ)
 t3:=Tryz.underlying3
 a3:=Tryz.isAgg3
 z3:=Tryz.sizeOf3
 v3:=Tryz.zeroValue3
 t4:=Tryz.underlying4
 a4:=Tryz.isAgg4
 z4:=Tryz.sizeOf4
 v4:=Tryz.zeroValue4
 t9:=Tryz.underlying9
 a9:=Tryz.isAgg9
 z9:=Tryz.sizeOf9
 v9:=Tryz.zeroValue9}
open Go.RowKit Go.Lib in
theorem Tryz.strings_HasPrefix (s p:ByteArray) (w:World):
 Calls Tryz.prog 130 #[.string s,.string p] w λe w'=>e=.returned (.bool (Lib.hasPrefix s.data.toList p.data.toList))/\w'=w:=Any.strings_HasPrefix Tryz.rO s p w
def Tryz.Vr:Go.Shelf.Ren:=⟨λ|157=>428|229=>429|199=>430|261=>431|311=>432|312=>433|n=>n,λ|9=>9|31=>172|3=>3|5=>5|4=>4|119=>190|0=>0|40=>84|152=>267|21=>21|154=>269|51=>255|141=>271|196=>275|193=>272|198=>278|49=>276|194=>273|201=>281|226=>283|46=>191|227=>284|n=>n,λ|0=>3|6=>4|n=>n⟩
theorem Tryz.nU:Go.Proofs.Lays.n157 Tryz.prog Tryz.Vr:={
 mixed:=EQ
 f157:=Tryz.func428.trans (congrArg some EQ)
 f199:=Tryz.func430.trans (congrArg some EQ)
 f229:=Tryz.func429.trans (congrArg some EQ)
 f261:=Tryz.func431.trans (congrArg some EQ)
 f311:=Tryz.func432.trans (congrArg some EQ)
 f312:=Tryz.func433.trans (congrArg some EQ)
 t0:=Tryz.underlying0
 a0:=Tryz.isAgg0
 z0:=Tryz.sizeOf0
 v0:=Tryz.zeroValue0
 t3:=Tryz.underlying3
 a3:=Tryz.isAgg3
 z3:=Tryz.sizeOf3
 v3:=Tryz.zeroValue3
 t4:=Tryz.underlying4
 a4:=Tryz.isAgg4
 z4:=Tryz.sizeOf4
 v4:=Tryz.zeroValue4
 t5:=Tryz.underlying5
 a5:=Tryz.isAgg5
 z5:=Tryz.sizeOf5
 v5:=Tryz.zeroValue5
 t9:=Tryz.underlying9
 a9:=Tryz.isAgg9
 z9:=Tryz.sizeOf9
 v9:=Tryz.zeroValue9
 t21:=Tryz.underlying21
 a21:=Tryz.isAgg21
 z21:=Tryz.sizeOf21
 v21:=Tryz.zeroValue21
 t31:=Tryz.underlying172
 a31:=Tryz.isAgg172
 z31:=Tryz.sizeOf172
 v31:=Tryz.zeroValue172
 t40:=Tryz.underlying84
 a40:=Tryz.isAgg84
 z40:=Tryz.sizeOf84
 v40:=Tryz.zeroValue84
 t46:=Tryz.underlying191
 a46:=Tryz.isAgg191
 z46:=Tryz.sizeOf191
 v46:=Tryz.zeroValue191
 t49:=Tryz.underlying276
 a49:=Tryz.isAgg276
 z49:=Tryz.sizeOf276
 v49:=Tryz.zeroValue276
 t51:=Tryz.underlying255
 a51:=Tryz.isAgg255
 z51:=Tryz.sizeOf255
 v51:=Tryz.zeroValue255
 t119:=Tryz.underlying190
 a119:=Tryz.isAgg190
 z119:=Tryz.sizeOf190
 t141:=Tryz.underlying271
 a141:=Tryz.isAgg271
 z141:=Tryz.sizeOf271
 v141:=Tryz.zeroValue271
 t152:=Tryz.underlying267
 a152:=Tryz.isAgg267
 z152:=Tryz.sizeOf267
 v152:=Tryz.zeroValue267
 t154:=Tryz.underlying269
 a154:=Tryz.isAgg269
 z154:=Tryz.sizeOf269
 v154:=Tryz.zeroValue269
 t193:=Tryz.underlying272
 a193:=Tryz.isAgg272
 z193:=Tryz.sizeOf272
 v193:=Tryz.zeroValue272
 t194:=Tryz.underlying273
 a194:=Tryz.isAgg273
 z194:=Tryz.sizeOf273
 v194:=Tryz.zeroValue273
 t196:=Tryz.underlying275
 a196:=Tryz.isAgg275
 z196:=Tryz.sizeOf275
 v196:=Tryz.zeroValue275
 t198:=Tryz.underlying278
 a198:=Tryz.isAgg278
 z198:=Tryz.sizeOf278
 v198:=Tryz.zeroValue278
 t201:=Tryz.underlying281
 a201:=Tryz.isAgg281
 z201:=Tryz.sizeOf281
 v201:=Tryz.zeroValue281
 t226:=Tryz.underlying283
 a226:=Tryz.isAgg283
 z226:=Tryz.sizeOf283
 v226:=Tryz.zeroValue283
 t227:=Tryz.underlying284
 a227:=Tryz.isAgg284
 z227:=Tryz.sizeOf284
 v227:=Tryz.zeroValue284
 g0:=EQ
 g6:=by kernel_rfl}
open Go.RowKit Go.Lib in
theorem Tryz.strings_Fields (s : ByteArray) (w : World) (hs : s.size < 4294967281) (U : ∀ (j : Nat) b, s.data.toList[j]? = some b -> b.toNat < 128) (htab : Lib.TabIs Tryz.prog w "strings.asciiSpace" .u8 Lib.asciiSpaceTab) :
 Calls Tryz.prog 428 #[.string s] w λe w'=>
  e=.returned (.slice (some ⟨w.heap.size,0,none⟩) (Lib.fields s.data.toList).length (Lib.fields s.data.toList).length)/\w'=w.alloc (.cells ((Lib.fields s.data.toList).map λl=>Value.string ⟨l.toArray⟩).toArray 9):=Any.strings_Fields Tryz.nU EQ EQ s w hs U htab
def Tryz.Vt:Go.Shelf.Ren:=⟨λ|197=>125|260=>196|n=>n,λ|9=>9|21=>21|3=>3|4=>4|5=>5|105=>130|119=>190|0=>0|46=>191|139=>194|138=>193|n=>n,λ|3=>0|4=>1|n=>n⟩
theorem Tryz.nW:Go.Proofs.Lays.n197 Tryz.prog Tryz.Vt:={
 mixed:=EQ
 f197:=Tryz.func125.trans (congrArg some EQ)
 f260:=Tryz.func196.trans (congrArg some EQ)
 t0:=Tryz.underlying0
 a0:=Tryz.isAgg0
 z0:=Tryz.sizeOf0
 v0:=Tryz.zeroValue0
 t3:=Tryz.underlying3
 a3:=Tryz.isAgg3
 z3:=Tryz.sizeOf3
 v3:=Tryz.zeroValue3
 t4:=Tryz.underlying4
 a4:=Tryz.isAgg4
 z4:=Tryz.sizeOf4
 v4:=Tryz.zeroValue4
 t5:=Tryz.underlying5
 a5:=Tryz.isAgg5
 z5:=Tryz.sizeOf5
 v5:=Tryz.zeroValue5
 t9:=Tryz.underlying9
 a9:=Tryz.isAgg9
 z9:=Tryz.sizeOf9
 v9:=Tryz.zeroValue9
 t21:=Tryz.underlying21
 a21:=Tryz.isAgg21
 z21:=Tryz.sizeOf21
 v21:=Tryz.zeroValue21
 t46:=Tryz.underlying191
 a46:=Tryz.isAgg191
 z46:=Tryz.sizeOf191
 v46:=Tryz.zeroValue191
 t105:=Tryz.underlying130
 a105:=Tryz.isAgg130
 z105:=Tryz.sizeOf130
 v105:=Tryz.zeroValue130
 t119:=Tryz.underlying190
 a119:=Tryz.isAgg190
 z119:=Tryz.sizeOf190
 t138:=Tryz.underlying193
 a138:=Tryz.isAgg193
 z138:=Tryz.sizeOf193
 v138:=Tryz.zeroValue193
 t139:=Tryz.underlying194
 a139:=Tryz.isAgg194
 z139:=Tryz.sizeOf194
 v139:=Tryz.zeroValue194
 g3:=EQ
 g4:=by kernel_rfl}
open Go.RowKit Go.Lib in
theorem Tryz.utf8_DecodeRuneInString (s:ByteArray) (w:World) (U:Lib.Utf8Tabs 0 1 w):
 Calls Tryz.prog 125 #[.string s] w λe w'=>e=.returned (.tuple #[.int .i32 (Lib.decodeGo s).1,.int .i64 (Lib.decodeGo s).2])/\Below w.heap.size w w':=Any.utf8_DecodeRuneInString Tryz.nW s w U
open Go.RowKit Go.Lib in
theorem Tryz.strings_IndexFunc_grows (g:Nat) (U:Array Value) (eg:∀args w,(callFunc g args).run Tryz.prog w=.ok (.enter g args) w) (p:Nat->Bool) (s:ByteArray) (w:World) (hp:PredGrows Tryz.prog g U p w):
 Calls Tryz.prog 56 #[.string s,.func (.func g) #[] U] w λe w'=>e=.returned (.int .i64 (Lib.idxFunc p true s))/\Below w.heap.size w w':=Any.strings_IndexFunc_grows Tryz.iL g U eg p s w hp
end Go.Proofs
namespace Go.Aw
open Go
theorem Ct.below {st:St} {w w':World} (h:Ct I st w) (b:RowKit.Below w.heap.size w w'):Fr I st w I st w'/\Ct I st w':=by
 refine ⟨⟨b.os,b.tape,b.output,b.size,λx hx _ _=>b.block x hx,Mem.le_refl _,λ_ _ h k=>absurd h k,λ_ h k=>absurd h k,λ_ h=>.inr h⟩,?_,?_,?_,h.HJ,?_,h.SJ⟩
 .intro x o v e
  have e:=h.cell x o v e
  rw [Gv (b.block x (Lz e))];exact e
 .intro x n e
  obtain ⟨c,ty,U,h2⟩:=h.shape x n e
  exact ⟨c,ty,by rw [b.block x (Ha U)];exact U,h2⟩
 .intro x cs e
  obtain ⟨vs,ty,U,h2⟩:=h.box x cs e
  exact ⟨vs,ty,by rw [b.block x (Ha U)];exact U,h2⟩
 .intro x n e
  exact ⟨Nat.lt_of_lt_of_le (h.hw x n e).1 b.size,(h.hw x n e).2⟩
theorem C3 {P:Program} {args:List V} {st:St} (hf:Plain P f) (v:V)
 (h:∀(I:Mem) (w:World) (U:List Value),Ct I st w->Aj I args U->Calls P f U.toArray w λe w'=>(∃c,e=.returned c/\AK I v c)/\RowKit.Below w.heap.size w w')
 (k:R (.ret v) st):A9 P f args st R:=
 ⟨λI w U hs ha=>(h I w U hs ha).mono λe w' ⟨⟨c,he,hc⟩,hb⟩=>⟨I,st,.ret v,(hs.below hb).1,(hs.below hb).2,by subst he;exact hc,k⟩,hf⟩
theorem Ct.row {st:St} {w:World} (h:Ct I st w) (vs:List Value) (ty:TypeId):
 Fr I st w (I.add w.heap.size 0 vs vs.length) st (w.alloc (.cells vs.toArray ty))/\Ct (I.add w.heap.size 0 vs vs.length) st (w.alloc (.cells vs.toArray ty))/\I.le (I.add w.heap.size 0 vs vs.length):=by
 have hr:Rel [] I st w I (λ_=>none) {tmps:=[],boxes:=[],Bm:=0,sz:=0,gl:=[]} st {tmps:=#[],defers:=[]} w:=
  Qy h rfl (λt v e=>by cases e) rfl rfl
 have h1:=hr.newRow vs [] ty
 rw [List.append_nil,List.length_nil,Nat.add_zero] at h1
 have U:=h1.Hn (St.Ig (St.le_refl st) (Dw h).2 vs.length)
 exact ⟨U.fr,U.s,U.fr.le⟩
theorem jR {n:Nat} (l:List (List UInt8)) (hl:∀x ∈ l,x.length<C9) (hn:l.length<C9)
 (hle:I.le (I.add b 0 (l.map λx=>Value.string ⟨x.toArray⟩) n)):
 AK (I.add b 0 (l.map λx=>Value.string ⟨x.toArray⟩) n) (.slice 1 (l.map λx=>[.str x]) .any) (.slice (some ⟨b,0,none⟩) l.length l.length):=by
 simp only [AK]
 refine ⟨some ⟨b,0,none⟩,l.length,GT,GT,kw,Do,trivial,.inr rfl,?_⟩
 refine Cg.add _ (l.map λx=>Value.string ⟨x.toArray⟩) 0 ?_ hle (λj c U=>Mem.Pp U)
 clear hle hn
 induction l with
 |nil=>rfl
 |cons a r ih=>
  simp only [List.map_cons,B1]
  refine ⟨[Value.string ⟨a.toArray⟩],r.map λx=>Value.string ⟨x.toArray⟩,rfl,rfl,?_,ih λx hx=>hl x (List.mem_cons_of_mem _ hx)⟩
  simp only [Aj,AK]
  simp_all
end Go.Aw
namespace Go.Proofs.Z
open Go Go.Aw
def UU (s:List UInt8):Int×Int:=match s with
 |[]=>(65533,0)
 |a::r=>(((AL (a::r)).1:Nat),((AL (a::r)).2:Nat))
theorem NX (s:List UInt8):(((Lib.decodeGo ⟨s.toArray⟩).1:Nat):Int)=(UU s).1/\(((Lib.decodeGo ⟨s.toArray⟩).2:Nat):Int)=(UU s).2:=by
 cases s with
 |nil=>exact ⟨rfl,rfl⟩
 |cons a r=>
  have U:¬(⟨(a::r).toArray⟩:ByteArray).size=0:=by show ¬(a::r).toArray.size=0;simp
  unfold Lib.decodeGo
  rw [if_neg U,Ta GT,List.drop_zero]
  exact ⟨rfl,rfl⟩
section
variable {st:St} {R:AA->St->Prop}
theorem qa (h:R (.ret (.Bz [.int .i32 (UU s).1,.int .i64 (UU s).2])) st):PC 125 [.str s] st R:=by
 refine C3 ⟨_,Tryz.func125,Do,Do⟩ _ (λI w U hs ha=>?_) h
 simp only [Aj,AK] at ha
 obtain ⟨c,r,rfl,⟨rfl,hl⟩,rfl⟩:=ha
 refine (Tryz.utf8_DecodeRuneInString ⟨s.toArray⟩ w ⟨λi hi=>hs.cell _ _ _ (hs.SJ.first i hi),λi hi=>⟨hs.cell _ _ _ (hs.SJ.accept i hi).1,hs.cell _ _ _ (hs.SJ.accept i hi).2⟩⟩).mono λe w' ⟨he,hb⟩=>⟨⟨_,he,?_⟩,hb⟩
 rw [(NX s).1,(NX s).2]
 simp only [AK,Aj]
 exact ⟨_,rfl,_,_,rfl,rfl,_,_,rfl,rfl,rfl⟩
theorem Ip {p:List UInt8} (h:R (.ret (.bool (p.isPrefixOf s))) st):PC 130 [.str s,.str p] st R:=by
 refine C3 ⟨_,Tryz.func130,Do,Do⟩ _ (λI w U hs ha=>?_) h
 simp only [Aj,AK] at ha
 obtain ⟨c,r,rfl,⟨rfl,hl⟩,c2,r2,rfl,⟨rfl,hl2⟩,rfl⟩:=ha
 refine (Tryz.strings_HasPrefix ⟨s.toArray⟩ ⟨p.toArray⟩ w).mono λe w' ⟨he,hw⟩=>⟨⟨_,he,?_⟩,hw ▸ RowKit.Below.refl _ _⟩
 simp only [AK]
 rfl
theorem sP {c:UInt8} (hc:c.toNat<128) (h:R (.ret (.str (Lib.trimB s c))) st):PC 198 [.str s,.str [c]] st R:=by
 refine C3 ⟨_,Tryz.func198,Do,Do⟩ _ (λI w U hs ha=>?_) h
 simp only [Aj,AK] at ha
 obtain ⟨c1,r,rfl,⟨rfl,hl⟩,c2,r2,rfl,⟨rfl,hl2⟩,rfl⟩:=ha
 have hsz:(⟨s.toArray⟩:ByteArray).size<=9223372036854775807:=by show s.toArray.size<=_;unfold C9 at hl;simp;omega
 refine (Tryz.strings_Trim_one ⟨s.toArray⟩ c hc w hsz).mono λe w' ⟨he,hw⟩=>⟨⟨_,he,?_⟩,?_⟩
 .simp only [AK]
  refine ⟨trivial,?_⟩
  have:(Lib.trimB s c).length<=s.length:=by
   unfold Lib.trimB Lib.trimLeftB Lib.trimRightB
   refine Nat.le_trans (List.dropWhile_sublist _).length_le ?_
   rw [List.length_reverse]
   refine Nat.le_trans (List.dropWhile_sublist _).length_le ?_
   simp
  unfold C9 at hl |-;omega
 .rcases hw with rfl|rfl
  .exact RowKit.Below.refl _ _
  .exact (RowKit.Below.refl _ _).drew
theorem rb {c:UInt8} (h:R (.ret (.int .i64 (Lib.indexByte s c))) st):PC 407 [.str s,.int .u8 c.toNat] st R:=by
 refine C3 ⟨_,Tryz.func407,Do,Do⟩ _ (λI w U hs ha=>?_) h
 simp only [Aj,AK] at ha
 obtain ⟨c1,r,rfl,⟨rfl,hl⟩,c2,r2,rfl,rfl,rfl⟩:=ha
 refine (Tryz.strings_IndexByte ⟨s.toArray⟩ c.toNat w).mono λe w' ⟨he,hw⟩=>⟨⟨_,he,?_⟩,hw ▸ RowKit.Below.refl _ _⟩
 simp [AK]
theorem X9 (hz:s.length<4294967281) (h:R (.ret (.bool (Lib.contains s t))) st):PC 205 [.str s,.str t] st R:=by
 refine C3 ⟨_,Tryz.func205,Do,Do⟩ _ (λI w U hs ha=>?_) h
 simp only [Aj,AK] at ha
 obtain ⟨c1,r,rfl,⟨rfl,hl⟩,c2,r2,rfl,⟨rfl,hl2⟩,rfl⟩:=ha
 obtain ⟨m,hm⟩:=hs.SJ.maxLen
 refine (Tryz.strings_Contains ⟨s.toArray⟩ ⟨t.toArray⟩ m w (by show s.toArray.size<_;simpa using hz) (hs.cell _ _ _ hm)).mono λe w' ⟨he,hw⟩=>⟨⟨_,he,?_⟩,hw ▸ RowKit.Below.refl _ _⟩
 simp [AK]
end
end Go.Proofs.Z
namespace Go.Aw
open Go
noncomputable def Env.OI (env:Env) (U:List (Nat×V)) (bx:List (Nat×List V)) (keep kb:List Nat):Env:=match env with
 |⟨ts,bs,n,sz,gl⟩=>⟨Env.ts ⟨ts,bs,n,sz,gl⟩ U keep,List.rec (motive:=λ_=>List (Nat×List V)) (Env.bx ⟨ts,bs,n,sz,gl⟩ kb) (λp _ ih=>p::ih) bx,n,sz,gl⟩
theorem Qm {st:St} (f:α->List (Nat×V)) (g:α->List (Nat×List V)) (keep kb:List Nat) (S:α->St) (J:α->Prop) (U:α->Nat) (x0:α) (h0:J x0)
 (he:(env.OI (f x0) (g x0) keep kb).Ff env) (hs:St.le (S x0) st)
 (hb:∀x,J x->ih (B4 (λenv' st'=>∃y,J y/\U y<U x/\(env.OI (f y) (g y) keep kb).Ff env'/\St.le (S y) st') Q) (env.OI (f x) (g x) keep kb) (S x)):
 ∃(α:Type) (E:α->Env) (S:α->St) (J:α->Prop) (U:α->Nat) (x0:α),J x0/\(E x0).Ff env/\St.le (S x0) st/\
  ∀x,J x->ih (B4 (λenv' st'=>∃y,J y/\U y<U x/\(E y).Ff env'/\St.le (S y) st') Q) (E x) (S x):=
 ⟨α,λk=>env.OI (f k) (g k) keep kb,S,J,U,x0,h0,he,hs,hb⟩
theorem YJ {st:St} (f:α->β->List (Nat×V)) (g:α->β->List (Nat×List V)) (keep kb:List Nat) (S:α->β->St) (J:α->β->Prop) (U:α->β->Nat) (x0:α) (y0:β) (h0:J x0 y0)
 (he:(env.OI (f x0 y0) (g x0 y0) keep kb).Ff env) (hs:St.le (S x0 y0) st)
 (hb:∀x y,J x y->ih (B4 (λenv' st'=>∃p:α×β,J p.1 p.2/\U p.1 p.2<U x y/\(env.OI (f p.1 p.2) (g p.1 p.2) keep kb).Ff env'/\St.le (S p.1 p.2) st') Q) (env.OI (f x y) (g x y) keep kb) (S x y)):
 ∃(α:Type) (E:α->Env) (S:α->St) (J:α->Prop) (U:α->Nat) (x0:α),J x0/\(E x0).Ff env/\St.le (S x0) st/\
  ∀x,J x->ih (B4 (λenv' st'=>∃y,J y/\U y<U x/\(E y).Ff env'/\St.le (S y) st') Q) (E x) (S x):=
 ⟨α×β,λp=>env.OI (f p.1 p.2) (g p.1 p.2) keep kb,λp=>S p.1 p.2,λp=>J p.1 p.2,λp=>U p.1 p.2,(x0,y0),h0,he,hs,λp h=>hb p.1 p.2 h⟩
theorem TH {st:St} {γ:Type} (f:α->β->γ->List (Nat×V)) (g:α->β->γ->List (Nat×List V)) (keep kb:List Nat) (S:α->β->γ->St) (J:α->β->γ->Prop) (U:α->β->γ->Nat) (x0:α) (y0:β) (z0:γ) (h0:J x0 y0 z0)
 (he:(env.OI (f x0 y0 z0) (g x0 y0 z0) keep kb).Ff env) (hs:St.le (S x0 y0 z0) st)
 (hb:∀x y z,J x y z->ih (B4 (λenv' st'=>∃p:α×β×γ,J p.1 p.2.1 p.2.2/\U p.1 p.2.1 p.2.2<U x y z/\(env.OI (f p.1 p.2.1 p.2.2) (g p.1 p.2.1 p.2.2) keep kb).Ff env'/\St.le (S p.1 p.2.1 p.2.2) st') Q) (env.OI (f x y z) (g x y z) keep kb) (S x y z)):
 ∃(α:Type) (E:α->Env) (S:α->St) (J:α->Prop) (U:α->Nat) (x0:α),J x0/\(E x0).Ff env/\St.le (S x0) st/\
  ∀x,J x->ih (B4 (λenv' st'=>∃y,J y/\U y<U x/\(E y).Ff env'/\St.le (S y) st') Q) (E x) (S x):=
 ⟨α×β×γ,λp=>env.OI (f p.1 p.2.1 p.2.2) (g p.1 p.2.1 p.2.2) keep kb,λp=>S p.1 p.2.1 p.2.2,λp=>J p.1 p.2.1 p.2.2,λp=>U p.1 p.2.1 p.2.2,(x0,y0,z0),h0,he,hs,λp h=>hb p.1 p.2.1 p.2.2 h⟩
theorem BS {k:IntKind} {a b:Int} (e:a=b):AA.ret (.int k a)=AA.ret (.int k b):=by rw [e]
theorem WJ {n:Nat} {p:Prop} (k:n<4611686018427387904->p):n<C9->p:=k
theorem WK {l:List UInt8} {K:Nat->Nat->Prop} (k:∀c m,(c,m)=AL l->K c m):∀c m,(c,m)=AL l->K c m:=k
theorem WN {a:Int} {K:List UInt8->Prop} (U:0<=a) (h1:a<=s.length) (k:K (s.drop a.toNat)):
 (0<=a/\a<=(s.length:Int)/\(s.length:Int)<=s.length)/\∀s',s'=(s.take (s.length:Int).toNat).drop a.toNat->K s':=
 ⟨⟨U,h1,Int.le_refl _⟩,λs' e=>by
   simp_all⟩
theorem WO {b:Int} {K:List UInt8->Prop} (U:0<=b) (h1:b<=s.length) (k:K (s.take b.toNat)):
 ((0:Int)<=0/\0<=b/\b<=s.length)/\∀s',s'=(s.take b.toNat).drop (0:Int).toNat->K s':=
 ⟨⟨Int.le_refl _,U,h1⟩,λs' e=>by
   simp_all⟩
theorem WP {a b:Int} {K:List UInt8->Prop} (U:0<=a) (h1:a<=b) (h2:b<=s.length) (k:K ((s.take b.toNat).drop a.toNat)):
 (0<=a/\a<=b/\b<=s.length)/\∀s',s'=(s.take b.toNat).drop a.toNat->K s':=⟨⟨U,h1,h2⟩,λs' e=>e ▸ k⟩
theorem WM {K:UInt8->Prop} (U:0<=i) (h1:i<s.length) (k:∀e,s[i.toNat]? =some e->K e):0<=i/\∃e,s[i.toNat]? =some e/\K e:=kw
theorem WL {e:UInt8} {K:UInt8->Prop} (h:s[i.toNat]? =some e) (U:0<=i) (k:K e):0<=i/\∃e,s[i.toNat]? =some e/\K e:=⟨U,e,h,k⟩
theorem DC (h:P:=by with_reducible first|(show _/\_;first|exact Wa)|(show Bn _ _ _;first|exact Wb|exact Wc)|fail):P:=h
theorem BX {A:Prop} (k:A) (h:A->P:=by intro k;with_reducible first|(show _/\_;first|exact Wd EQ k|exact Wm ‹_› AC k|exact Wn AC AC k|exact Wo AC AC k|exact Wp AC AC AC k|exact Wr Do AC AC k|exact Ws Do k|exact WB ‹_› AC k|exact WC AC AC k|exact WD AC AC k|exact WE AC AC AC k|exact WL ‹_› AC k|exact WM AC AC k|exact WN AC AC k|exact WO AC AC k|exact WP AC AC AC k)|(show Bn _ _ _;first|exact Wt IR k|exact Wu IR k|exact Wv AC k|exact Ww AC k|exact Wi k|exact Wj k)|(intro x y z;exact Wl k x y z)|(intro x y z;exact Wz k x y z)|(intro x y z;exact WA k x y z)|(intro x;exact WJ k x)|(intro x y z;exact WK k x y z)|(show Exists _;first|exact Wq AC AC k)|fail):P:=h k
theorem DD {B C:V->Prop} (k:V) (l:B k) (m:C k) (h:∀k,B k->C k->P:=by intro k l m;with_reducible first|(show Exists _;first|exact We k l m|exact W8 GE k l m|exact W0 GE k l m|exact W9 k l m)|fail):P:=h k l m
theorem BZ {A B:Prop} (k:A) (l:B) (h:A->B->P:=by intro k l;with_reducible first|(show Bn _ _ _;first|exact Wf Do k l|exact Wg k l|exact Wh k l|exact Wk k l)|fail):P:=h k l
theorem uW {A B:Prop} (k:A) (l:B) (h:A->B->P:=by intro k l;with_reducible first|(intro x y;exact Wx k l x y)|(intro x y;exact Wy k l x y)|fail):P:=h k l
def ED (c:Int):Int:=
 if c=40\/c=41\/c=44\/c=59\/c=91\/c=93\/c=96\/c=123\/c=125 then 6
 else if c=34\/c=39 then 7
 else if 32<c/\c<127 then 5
 else 0
def L4 (c:Int):Int:=
 if c=215\/c=247 then 5
 else if 223<=c/\c<=255\/945<=c/\c<=969 then 2
 else if 192<=c/\c<=222\/913<=c/\c<=937/\c≠930 then 3
 else if c<160\/c=173\/55296<=c/\c<=57343\/1114111<c then 0
 else if 160<c/\c<=191\/8592<=c/\c<=8959 then 5
 else 8
def AF (c:Int):Int:=
 if c=32\/9<=c/\c<=13 then 1
 else if 48<=c/\c<=57 then 4
 else if 97<=c/\c<=122\/c=95 then 2
 else if 65<=c/\c<=90 then 3
 else if c<128 then ED c else L4 c
def BH (c base:Int):Int:=
 let v:=if 48<=c/\c<=57 then c - 48 else if 97<=c/\c<=102 then c - 87 else if 65<=c/\c<=70 then c - 55 else 16
 if base<2\/16<base\/base<=v then -1 else v
theorem D9 (l:List UInt8):1<=(AL l).2:=by
 unfold AL
 grind
theorem Gw {l:List UInt8} (h:l≠[]):(AL l).2<=l.length:=by
 cases l with
 |nil=>simp_all
 |cons a l=>
  have hc:∀k:Nat,(match l[k]? with|some b=>b.toNat / 64==2|none=>false)=true->k+2<=(a::l).length:=λk e=>by grind
  unfold AL
  grind
def Bs (p:Nat×Nat->Bool) (l:List UInt8):Nat:=
 match l with
 |[]=>0
 |a::r=>if p (AL (a::r)) then (AL (a::r)).2+Bs p ((a::r).drop (AL (a::r)).2) else 0
termination_by l.length
decreasing_by
 have:=D9 (a::r)
 grind
theorem Ey (p:Nat×Nat->Bool):Bs p []=0:=by rw [Bs]
theorem CA {p:Nat×Nat->Bool} {l:List UInt8} (h:l≠[]) (hp:p (AL l)=true):Bs p l=(AL l).2+Bs p (l.drop (AL l).2):=by
 cases l with
 |nil=>simp_all
 |cons a r=>rw [Bs,if_pos hp]
theorem EU {p:Nat×Nat->Bool} {l:List UInt8} (hp:p (AL l)=false):Bs p l=0:=by
 cases l with
 |nil=>exact Ey p
 |cons a r=>rw [Bs,if_neg kw]
theorem MN (p:Nat×Nat->Bool) (l:List UInt8):Bs p l<=l.length:=by
 fun_induction Bs p l with
 |case1=>omega
 |case2 a r h U=>
  have:=Gw (l:=a::r) GT
  grind
 |case3 a r h=>omega
theorem Zm (p:Nat×Nat->Bool) (l:List UInt8) (h:Bs p l<l.length):p (AL (l.drop (Bs p l)))=false:=by
 fun_induction Bs p l with
 |case1=>simp at h
 |case2 a r hp U=>
  rw [List.length_drop] at U
  have:=Gw (l:=a::r) GT
  rw [<-List.drop_drop]
  grind
 |case3 a r hp=>simp_all
def BW (p:Int->Bool) (l:List UInt8):Nat:=Bs (λd=>p (d.1:Nat)) l
theorem SB (p:Int->Bool):BW p []=0:=Ey _
theorem dQ {p:Int->Bool} {l:List UInt8} (h:l≠[]) (hp:p ((AL l).1:Nat)=true):BW p l=(AL l).2+BW p (l.drop (AL l).2):=CA h hp
theorem QP {p:Int->Bool} {l:List UInt8} (hp:p ((AL l).1:Nat)=false):BW p l=0:=EU hp
theorem FA (p:Int->Bool) (l:List UInt8):BW p l<=l.length:=MN _ l
theorem QQ (p:Int->Bool) (l:List UInt8) (h:BW p l<l.length):p ((AL (l.drop (BW p l))).1:Nat)=false:=Zm _ l h
theorem rune_le {c:Nat} (h:pos<t.length) (hd:(c,m)=AL (t.drop pos)):pos+m<=t.length/\1<=m:=by
 have U:=D9 (t.drop pos)
 have h2:=Gw (l:=t.drop pos) (λe=>by have:=congrArg List.length e;grind)
 grind
theorem O9 {p:Nat×Nat->Bool} {c n:Nat} (h:pos<t.length) (hd:(c,m)=AL (t.drop pos)) (hp:p (c,m)=true) (hi:n=pos+Bs p (t.drop pos)):n=pos+m+Bs p (t.drop (pos+m)):=by
 rw [hi,CA (λe=>by have:=congrArg List.length e;grind) kw,<-hd,List.drop_drop]
 grind
theorem Uk {p:Nat×Nat->Bool} {c n:Nat} (hd:(c,m)=AL (t.drop pos)) (hp:p (c,m)=false) (hi:n=pos+Bs p (t.drop pos)):n=pos:=by
 rw [hi,EU kw];rfl
theorem QR {p:Nat×Nat->Bool} {n:Nat} (h:¬pos<t.length) (hi:n=pos+Bs p (t.drop pos)):n=pos:=by
 rw [hi,List.drop_eq_nil_iff.2 AC,Ey];rfl
def Dh (d:Nat×Nat):Bool:= !(d.1==65533&&d.2==1)
end Go.Aw
namespace Go.Proofs.Z
open Go Go.Aw
def Mu (s:List UInt8) (i:Int):Int×Int:=if i<0\/s.length<=i then (0,0) else UU (s.drop i.toNat)
def oH (s:List UInt8) (i U:Int):Int:=if i<0\/s.length<i then 0 else i+BW (λc=>AF c==U) (s.drop i.toNat)
def M8 (s:List UInt8):Int×Int:=if Bs Dh s<s.length then (Bs Dh s,10) else (s.length,0)
theorem Sh (h:i<0\/s.length<=i):Mu s i=(0,0):=if_pos h
theorem Mv (h:0<=i) (k:i<s.length):Mu s i=UU (s.drop i.toNat):=if_neg AC
theorem kt (h:i<0\/s.length<i):oH s i k=0:=if_pos h
theorem O6 (h:0<=i) (U:i<=s.length):oH s i k=i+BW (λc=>AF c==k) (s.drop i.toNat):=if_neg AC
theorem ZZ (h:s≠[]):UU s=((((AL s).1:Nat):Int),(((AL s).2:Nat):Int)):=by
 cases s with
 |nil=>exact absurd rfl h
 |cons a r=>rfl
theorem ON {c:Nat} (h:pos<s.length) (hd:(c,m)=AL (s.drop pos)):UU (s.drop (pos:Int).toNat)=((c:Int),(m:Int)):=by
 rw [show (pos:Int).toNat=pos by omega,ZZ (λe=>by have:=congrArg List.length e;rw [List.length_drop,List.length_nil] at this;omega),<-hd]
theorem gh (h:pos<s.length) (k:Bs Dh s=pos):M8 s=(((pos:Nat):Int),10):=by
 unfold M8;rw [k,if_pos h]
theorem mE (h:¬pos<s.length) (k:Bs Dh s=pos):M8 s=((s.length:Int),0):=by
 unfold M8;rw [k,if_neg h]
section
variable {st:St} {R:AA->St->Prop}
theorem rY (h:R (.ret (.int .i64 (ED c))) st):PC 127 [.int .i32 c] st R:=by
 refine pB Tryz.func127 ?_
 repeat' ((conv=>whnf);first|(refine BX ?_;intros)|(refine BZ ?_ ?_<;>intro _)|fail)
 all_goals exact fin h (BS (by unfold ED;(repeat' split)<;>first|omega|rfl))
theorem fM (h:R (.ret (.int .i64 (L4 c))) st):PC 128 [.int .i32 c] st R:=by
 refine pB Tryz.func128 ?_
 repeat' ((conv=>whnf);first|(refine BX ?_;intros)|(refine BZ ?_ ?_<;>intro _)|fail)
 all_goals exact fin h (BS (by unfold L4;(repeat' split)<;>first|omega|rfl))
theorem Ku (h:R (.ret (.int .i64 (AF c))) st):PC 58 [.int .i32 c] st R:=by
 refine pB Tryz.func58 ?_
 repeat' ((conv=>whnf);first|(refine BX ?_;intros)|(refine BZ ?_ ?_<;>intro _)|refine rY ?_|refine fM ?_)
 all_goals exact fin h (BS (by unfold AF;(repeat' split)<;>first|omega|rfl))
theorem jo (U:s.length<4611686018427387904) (h:R (.ret (.Bz [.int .i32 (Mu s i).1,.int .i64 (Mu s i).2])) st):PC 325 [.str s,.int .i64 i] st R:=by
 refine pB Tryz.func325 ?_
 repeat' ((conv=>whnf);first|(refine BX ?_;intros)|(refine BZ ?_ ?_<;>intro _)|refine qa ?_)
 all_goals exact fin h (by first|rw [Sh AC]|rw [Mv AC AC])
theorem qB (hl:s.length<4611686018427387904) (h:R (.ret (.int .i64 (oH s i k))) st):PC 129 [.str s,.int .i64 i,.int .i64 k] st R:=by
 refine pB Tryz.func129 ?_
 repeat' ((conv=>whnf);first|(refine BX ?_;intros)|(refine BZ ?_ ?_<;>intro _)|refine Ku ?_)
 all_goals try exact fin h (BS (kt AC))
 have hlen:(s.drop i.toNat).length=s.length - i.toNat:=List.length_drop
 generalize ht:s.drop i.toNat=t at hlen
 refine Qm (α:=Nat) (λ_=>[]) (λpos=>[(0,[.Oz t pos])]) [0,1,2,20] [] (λ_=>st) (λpos=>pos<=t.length/\BW (λc=>AF c==k) t=pos+BW (λc=>AF c==k) (t.drop pos)) (λpos=>t.length - pos) 0 ⟨Nat.zero_le _,GT⟩ Yl (St.le_refl _) ?_
 rintro pos ⟨hp,hi⟩
 repeat' ((conv=>whnf);first|(refine BX ?_;intros)|(refine BZ ?_ ?_<;>intro _)|refine Ku ?_)
 .rename_i U c m hd hk
  have hr:=rune_le U hd
  conv=>whnf
  exact ⟨pos+m,⟨hr.1,O9 U hd (beq_iff_eq.2 hk) hi⟩,AC,Yl,St.le_refl _⟩
 .rename_i U c m hd hk
  have:=Uk (p:=λd=>AF (d.1:Nat)==k) hd (beq_eq_false_iff_ne.2 hk) hi
  exact fin h (BS (by rw [O6 AC AC,ht,this]))
 .rename_i U hls
  have:=QR U hi
  exact fin h (BS (by rw [O6 AC AC,ht,this];omega))
theorem S8 (h:R (.ret (.Bz [.int .i64 (M8 s).1,.int .i64 (M8 s).2])) st):PC 55 [.str s] st R:=by
 refine pB Tryz.func55 ?_
 repeat' ((conv=>whnf);first|(refine BX ?_;intros)|(refine BZ ?_ ?_<;>intro _)|fail)
 refine Qm (α:=Nat) (λ_=>[]) (λpos=>[(0,[.Oz s pos])]) [0,9] [] (λ_=>st) (λpos=>pos<=s.length/\Bs Dh s=pos+Bs Dh (s.drop pos)) (λpos=>s.length - pos) 0 ⟨Nat.zero_le _,GT⟩ Yl (St.le_refl _) ?_
 rintro pos ⟨hp,hi⟩
 repeat' ((conv=>whnf);first|(refine BX ?_;intros)|(refine BZ ?_ ?_<;>intro _)|refine qa ?_)
 .rename_i U c m hd hc hm
  rw [ON U hd] at hm
  have hk:=Uk hd (by simp only [Dh];have h1:c=65533:=hc;have h2:m=1:=Int.ofNat.inj hm;rw [h1,h2];rfl) hi
  exact fin h (by rw [gh U hk])
 .rename_i U c m hd hc hm
  rw [ON U hd] at hm
  have hr:=rune_le U hd
  conv=>whnf
  exact ⟨pos+m,⟨hr.1,O9 U hd (by simp only [Dh];have:¬m=1:=λe=>hm (by subst e;rfl);simp [this]) hi⟩,AC,Yl,St.le_refl _⟩
 .rename_i U c m hd hc
  have hr:=rune_le U hd
  conv=>whnf
  exact ⟨pos+m,⟨hr.1,O9 U hd (by simp only [Dh];have:¬c=65533:=hc;simp [this]) hi⟩,AC,Yl,St.le_refl _⟩
 .rename_i U hls
  exact fin h (by rw [mE U (QR U hi)])
end
end Go.Proofs.Z
namespace Go.Aw
open Go
def AY:List UInt8->Int
 |[]=> -1
 |a::_=>(a.toNat:Nat)
theorem iz (l:List UInt8): -1<=AY l/\AY l<=255:=by
 cases l with
 |nil=>exact ⟨Do,Do⟩
 |cons a r=>have:=a.toNat_lt;simp only [AY];omega
def Hl (l:List UInt8):Nat:=if AY l=13/\AY (l.drop 1)=10 then 2 else if AY l=13\/AY l=10\/AY l=12 then 1 else 0
def Xm (Cu:Int):Int:=(Cu - 1) / 8*8+9
def AX (l:List UInt8):Nat:=if 0<Hl l then Hl l else (AL l).2
def EE (l:List UInt8) (line:Int):Int:=if 0<Hl l then line+1 else line
def FB (l:List UInt8) (Cu:Int):Int:=if 0<Hl l then 1 else if AY l=9 then Xm Cu else Cu+1
theorem Ec {i:Nat} {e:UInt8} (h:s[i]? =some e):AY (s.drop i)=(e.toNat:Nat):=by rw [drop_at h];rfl
theorem G6 {i:Nat} (h:s.length<=i):AY (s.drop i)= -1:=by rw [List.drop_eq_nil_iff.2 h];rfl
theorem YT (l:List UInt8):Hl l<=l.length:=by
 rcases l with _|⟨a,_|⟨b,r⟩⟩
 .decide
 .have e:¬(AY [a]=13/\AY ([a].drop 1)=10):=λh=>absurd (show (-1:Int)=10 from h.2) Do
  unfold Hl
  rw [if_neg e,List.length_singleton]
  by_cases h:AY [a]=13\/AY [a]=10\/AY [a]=12
  .rw [if_pos h];omega
  .rw [if_neg h];omega
 .unfold Hl
  simp only [List.length_cons]
  by_cases U:AY (a::b::r)=13/\AY ((a::b::r).drop 1)=10
  .rw [if_pos U];omega
  .rw [if_neg U]
   by_cases h:AY (a::b::r)=13\/AY (a::b::r)=10\/AY (a::b::r)=12
   .rw [if_pos h];omega
   .rw [if_neg h];omega
theorem FC {l:List UInt8} (h:l≠[]):AX l<=l.length/\1<=AX l:=by
 unfold AX
 split
 .exact ⟨YT l,FS⟩
 .exact ⟨Gw h,D9 l⟩
theorem bL (s:List UInt8) (pos:Nat):¬pos<s.length\/(pos+AX (s.drop pos)<=s.length/\1<=AX (s.drop pos)):=by
 by_cases h:pos<s.length
 .have:=FC (l:=s.drop pos) (λe=>by have:=congrArg List.length e;rw [List.length_drop,List.length_nil] at this;omega)
  rw [List.length_drop] at this
  exact .inr ⟨AC,this.2⟩
 .exact .inl h
end Go.Aw
namespace Go.Proofs.Z
open Go Go.Aw
def spot (pos:Nat) (line Cu:Int):V:=.agg [.int .i64 pos,.int .i64 line,.int .i64 Cu]
theorem QS {p:Nat} {p' l l' U:Int} (e1:(p:Int)=p') (e2:l=l') (e3:c=U):AA.ret (spot p l c)=AA.ret (.agg [.int .i64 p',.int .i64 l',.int .i64 U]):=by subst e1;subst e2;subst e3;rfl
section
variable {st:St} {R:AA->St->Prop}
theorem aN {c:Nat} (U:s.length<4611686018427387904) (hx:Mu s i=((c:Int),(m:Int))) (h:R (.ret (.Bz [.int .i32 c,.int .i64 m])) st):PC 325 [.str s,.int .i64 i] st R:=jo U (by rw [hx];exact h)
theorem Sg (hl:s.length<4611686018427387904) (hp:pos<s.length) (h:R (.ret (.int .i64 (Hl (s.drop pos):Nat))) st):PC 267 [.str s,.int .i64 pos] st R:=by
 obtain ⟨e,he⟩:∃e,s[pos]? =some e:=⟨s[pos],List.getElem?_eq_getElem hp⟩
 have he':s[(pos:Int).toNat]? =some e:=he
 have h0:=Ec he
 have U:AY ((s.drop pos).drop 1)=AY (s.drop (pos+1)):=by rw [List.drop_drop]
 refine pB Tryz.func267 ?_
 repeat' ((conv=>whnf);first|(refine BX ?_;intros)|(refine BZ ?_ ?_<;>intro _)|fail)
 all_goals try have h2:=Ec (show s[pos+1]? =some _ by assumption)
 all_goals try have h3:=G6 (s:=s) (i:=pos+1) AC
 all_goals exact fin h (BS (by unfold Hl;rw [U];(repeat' split)<;>omega))
theorem sJ {Cu:Int} (U:1<=Cu) (h1:Cu<=4000000000000000000) (h:R (.ret (.int .i64 (Xm Cu))) st):PC 326 [.int .i64 Cu] st R:=by
 refine pB Tryz.func326 ?_
 repeat' ((conv=>whnf);first|(refine BX ?_;intros)|(refine BZ ?_ ?_<;>intro _)|fail)
 exact fin h (BS (by unfold Xm;omega))
theorem bf {line Cu:Int} (hl:s.length<4611686018427387904) (hp:pos<s.length) (h0:1<=line) (h1:line<=4000000000000000000) (h2:1<=Cu) (h3:Cu<=4000000000000000000)
 (h:R (.ret (spot (pos+AX (s.drop pos)) (EE (s.drop pos) line) (FB (s.drop pos) Cu))) st):PC 268 [.str s,spot pos line Cu] st R:=by
 obtain ⟨e,he⟩:∃e,s[pos]? =some e:=⟨s[pos],List.getElem?_eq_getElem hp⟩
 have he':s[(pos:Int).toNat]? =some e:=he
 have hh:=Ec he
 have hn:=YT (s.drop pos)
 rw [List.length_drop] at hn
 rcases hd:AL (s.drop pos) with ⟨c,m⟩
 have hr:=rune_le hp hd.symm
 have hx:Mu s pos=((c:Int),(m:Int)):=by rw [Mv AC AC,ON hp hd.symm]
 refine pB Tryz.func268 ?_
 repeat' ((conv=>whnf);first|(refine BX ?_;intros)|(refine BZ ?_ ?_<;>intro _)|refine Sg hl hp ?_|refine aN hl hx ?_|refine sJ h2 h3 ?_)
 .have U:0<Hl (s.drop pos):=AC
  exact fin h (QS (by unfold AX;rw [if_pos U];omega) (by unfold EE;rw [if_pos U]) (by unfold FB;rw [if_pos U]))
 .have U:¬0<Hl (s.drop pos):=AC
  exact fin h (QS (by unfold AX;rw [if_neg U,hd];omega) (by unfold EE;rw [if_neg U]) (by unfold FB;rw [if_neg U,if_pos AC]))
 .have U:¬0<Hl (s.drop pos):=AC
  exact fin h (QS (by unfold AX;rw [if_neg U,hd];omega) (by unfold EE;rw [if_neg U]) (by unfold FB;rw [if_neg U,if_neg AC]))
end
end Go.Proofs.Z
namespace Go.Aw
open Go
def BQ (l:List UInt8) (k:Nat) (p:Int×Int):Int×Int:=
 match l with
 |[]=>p
 |a::r=>if k<AX (a::r) then p else BQ ((a::r).drop (AX (a::r))) (k - AX (a::r)) (EE (a::r) p.1,FB (a::r) p.2)
termination_by l.length
decreasing_by
 have:=FC (l:=a::r) GT
 simp only [List.length_drop,List.length_cons]
 omega
theorem F2 (k:Nat) (p:Int×Int):BQ [] k p=p:=by rw [BQ]
theorem E5 {l:List UInt8} {k:Nat} {p:Int×Int} (h:k<AX l):BQ l k p=p:=by
 cases l with
 |nil=>exact F2 k p
 |cons a r=>rw [BQ,if_pos h]
theorem Ek {l:List UInt8} {k:Nat} {p:Int×Int} (U:l≠[]) (h:¬k<AX l):BQ l k p=BQ (l.drop (AX l)) (k - AX l) (EE l p.1,FB l p.2):=by
 cases l with
 |nil=>exact absurd rfl U
 |cons a r=>rw [BQ,if_neg h]
theorem E6 {l:List UInt8} {p:Int×Int}:BQ l 0 p=p:=by
 cases l with
 |nil=>exact F2 0 p
 |cons a r=>exact E5 (FC GT).2
theorem Tj (h:pos<s.length):s.drop pos≠[]:=λe=>by
 have:=congrArg List.length e;rw [List.length_drop,List.length_nil] at this;omega
theorem Rk {k:Nat} {line Cu:Int} (h:pos<s.length) (U:¬pos+k<pos+AX (s.drop pos)):
 BQ (s.drop pos) k (line,Cu)=BQ (s.drop (pos+AX (s.drop pos))) (k - AX (s.drop pos)) (EE (s.drop pos) line,FB (s.drop pos) Cu):=by
 rw [Ek (Tj h) AC,List.drop_drop]
theorem Uq (l:List UInt8) (line:Int):line<=EE l line/\EE l line<=line+1:=by unfold EE;split<;>omega
theorem Pb (l:List UInt8) {Cu:Int} (h:1<=Cu):1<=FB l Cu/\FB l Cu<=Cu+8:=by
 unfold FB Xm
 by_cases U:0<Hl l
 .rw [if_pos U];omega
 .rw [if_neg U]
  by_cases h2:AY l=9
  .rw [if_pos h2];omega
  .rw [if_neg h2];omega
end Go.Aw
namespace Go.Proofs.Z
open Go Go.Aw
section
variable {st:St} {R:AA->St->Prop}
theorem uI {k:Nat} (hl:s.length<=100000000) (hk:k<=s.length) (h:R (.ret (.Bz [.int .i64 (BQ s k (1,1)).1,.int .i64 (BQ s k (1,1)).2,.int .i64 0])) st):PC 200 [.str s,.int .i64 k] st R:=by
 refine pB Tryz.func200 ?_
 repeat' ((conv=>whnf);first|exact DC|(refine BX ?_;intros)|(refine DD ?_ ?_ ?_;rotate_left)|(refine BZ ?_ ?_<;>intro _)|with_reducible refine WF ?_)
 refine TH (α:=Nat) (β:=Int) (γ:=Int) (λ_ _ _=>[]) (λpos line Cu=>[(0,[.int .i64 (pos:Int),.int .i64 line,.int .i64 Cu])]) [0,1,7] [] (λ_ _ _=>st)
  (λpos line Cu=>pos<=k/\1<=line/\line<=1+(pos:Int)/\1<=Cu/\Cu<=1+8*(pos:Int)/\BQ s k (1,1)=BQ (s.drop pos) (k - pos) (line,Cu)) (λpos _ _=>k - pos) 0 1 1 ⟨AC,AC,AC,AC,AC,rfl⟩ Yl (St.le_refl _) ?_
 rintro pos line Cu ⟨h1,h2,h3,h4,h5,U⟩
 have hr:=bL s pos
 have hL:=Uq (s.drop pos) line
 have hC:=Pb (s.drop pos) h4
 repeat' ((conv=>whnf);first|exact DC|(refine BX ?_;intros)|(refine DD ?_ ?_ ?_;rotate_left)|(refine BZ ?_ ?_<;>intro _)|refine bf AC AC AC AC AC AC ?_|with_reducible refine WF ?_)
 .exact fin h (by rw [U,E5 AC])
 .conv=>whnf
  exact ⟨(pos+AX (s.drop pos),EE (s.drop pos) line,FB (s.drop pos) Cu),⟨bl,bl,bl,bl,bl,by dsimp only;rw [U,Rk AC AC,Nat.sub_sub]⟩,bl,Yl,St.le_refl _⟩
 .have hz:k - pos=0:=AC
  exact fin h (by rw [U,hz,E6])
theorem pQ {U:Int} (hl:s.length<=100000000) (h0:1<=U) (h1:U<=2147483648) (h:R (.ret (.Bz [.int .i64 (BQ s s.length (1,U)).2,.int .i64 0])) st):PC 201 [.str s,.int .i64 U] st R:=by
 refine pB Tryz.func201 ?_
 repeat' ((conv=>whnf);first|(refine BX ?_;intros)|(refine BZ ?_ ?_<;>intro _)|fail)
 refine TH (α:=Nat) (β:=Int) (γ:=Int) (λ_ _ _=>[]) (λpos line Cu=>[(0,[.int .i64 (pos:Int),.int .i64 line,.int .i64 Cu])]) [0,6] [] (λ_ _ _=>st)
  (λpos line Cu=>pos<=s.length/\1<=line/\line<=1+(pos:Int)/\1<=Cu/\Cu<=U+8*(pos:Int)/\BQ s s.length (1,U)=BQ (s.drop pos) (s.length - pos) (line,Cu)) (λpos _ _=>s.length - pos) 0 1 U ⟨AC,AC,AC,AC,AC,rfl⟩ Yl (St.le_refl _) ?_
 rintro pos line Cu ⟨h1,h2,h3,h4,h5,h6⟩
 have hr:=bL s pos
 have hL:=Uq (s.drop pos) line
 have hC:=Pb (s.drop pos) h4
 repeat' ((conv=>whnf);first|(refine BX ?_;intros)|(refine BZ ?_ ?_<;>intro _)|refine bf AC AC AC AC AC AC ?_)
 .conv=>whnf
  exact ⟨(pos+AX (s.drop pos),EE (s.drop pos) line,FB (s.drop pos) Cu),⟨bl,bl,bl,bl,bl,by dsimp only;rw [h6,Rk AC AC,Nat.sub_sub]⟩,bl,Yl,St.le_refl _⟩
 .have hz:s.length - pos=0:=AC
  exact fin h (by rw [h6,hz,E6])
end
end Go.Proofs.Z
namespace Go.Aw
open Go
theorem rW {st:St} {γ δ:Type} (f:α->β->γ->δ->List (Nat×V)) (g:α->β->γ->δ->List (Nat×List V)) (keep kb:List Nat) (S:α->β->γ->δ->St) (J:α->β->γ->δ->Prop) (U:α->β->γ->δ->Nat) (x0:α) (y0:β) (z0:γ) (u0:δ) (h0:J x0 y0 z0 u0)
 (he:(env.OI (f x0 y0 z0 u0) (g x0 y0 z0 u0) keep kb).Ff env) (hs:St.le (S x0 y0 z0 u0) st)
 (hb:∀x y z u,J x y z u->ih (B4 (λenv' st'=>∃p:α×β×γ×δ,J p.1 p.2.1 p.2.2.1 p.2.2.2/\U p.1 p.2.1 p.2.2.1 p.2.2.2<U x y z u/\(env.OI (f p.1 p.2.1 p.2.2.1 p.2.2.2) (g p.1 p.2.1 p.2.2.1 p.2.2.2) keep kb).Ff env'/\St.le (S p.1 p.2.1 p.2.2.1 p.2.2.2) st') Q) (env.OI (f x y z u) (g x y z u) keep kb) (S x y z u)):
 ∃(α:Type) (E:α->Env) (S:α->St) (J:α->Prop) (U:α->Nat) (x0:α),J x0/\(E x0).Ff env/\St.le (S x0) st/\
  ∀x,J x->ih (B4 (λenv' st'=>∃y,J y/\U y<U x/\(E y).Ff env'/\St.le (S y) st') Q) (E x) (S x):=
 ⟨α×β×γ×δ,λp=>env.OI (f p.1 p.2.1 p.2.2.1 p.2.2.2) (g p.1 p.2.1 p.2.2.1 p.2.2.2) keep kb,λp=>S p.1 p.2.1 p.2.2.1 p.2.2.2,λp=>J p.1 p.2.1 p.2.2.1 p.2.2.2,λp=>U p.1 p.2.1 p.2.2.1 p.2.2.2,(x0,y0,z0,u0),h0,he,hs,λp h=>hb p.1 p.2.1 p.2.2.1 p.2.2.2 h⟩
def DM (s:List UInt8) (U pos:Nat):List (List UInt8):=
 if h:pos<s.length then
  if 0<Hl (s.drop pos) then (s.take pos).drop U::DM s (pos+Hl (s.drop pos)) (pos+Hl (s.drop pos)) else DM s U (pos+1)
 else [s.drop U]
termination_by s.length - pos
decreasing_by all_goals omega
theorem tJ {a b:Int} {K:Int->Prop} (h:¬a<b) (k:K a):∃r,r=(if a<b then b else a)/\K r:=⟨a,(if_neg h).symm,k⟩
theorem tK {a b:Int} {K:Int->Prop} (h:a<b) (k:K b):∃r,r=(if a<b then b else a)/\K r:=⟨b,(if_pos h).symm,k⟩
theorem fA {l:List (List UInt8)} {own:AJ} {st:St} (h:own.BM st) (hb:l.length<=999999999)
 (k:∀U:AJ,U.BM st->K (.slice 1 (strs (l++[x])) U) (U.st st (l++[x]).length)):Ah 1 16 (strs l) own [[.str x]] (own.st st l.length) K:=
 Ok (new:=[x]) h kw k
theorem de {U:Nat} (h:pos<s.length) (k:0<Hl (s.drop pos)):DM s U pos=(s.take pos).drop U::DM s (pos+Hl (s.drop pos)) (pos+Hl (s.drop pos)):=by
 rw [DM,dif_pos h,if_pos k]
theorem dc {U:Nat} (h:pos<s.length) (k:¬0<Hl (s.drop pos)):DM s U pos=DM s U (pos+1):=by
 rw [DM,dif_pos h,if_neg k]
theorem YH {U:Nat} (h:¬pos<s.length):DM s U pos=[s.drop U]:=by
 rw [DM,dif_neg h]
end Go.Aw
namespace Go.Proofs.Z
open Go Go.Aw
section
variable {st:St} {R:AA->St->Prop}
attribute [local irreducible] Go.Aw.Ah
theorem aE (hl:s.length<=100000000) (h:∀own:AJ,own.BM st->R (.ret (.slice 1 (strs (DM s 0 0)) own)) (own.st st (DM s 0 0).length)):PC 199 [.str s] st R:=by
 refine pB Tryz.func199 ?_
 repeat' ((conv=>whnf);first|(refine BX ?_;intros)|(refine BZ ?_ ?_<;>intro _)|refine uW (λ_=>?_) ?_|fail)
 refine rW (α:=Nat) (β:=Nat) (γ:=List (List UInt8)) (δ:=AJ) (λpos U l own=>[(5,.int .i64 (pos:Int)),(4,.int .i64 (U:Int)),(3,.slice 1 (strs l) own)]) (λ_ _ _ _=>[]) [0] [] (λ_ _ l own=>own.st st l.length)
  (λpos U l own=>U<=pos/\pos<=s.length/\l.length<=pos/\own.BM st/\DM s 0 0=l++DM s U pos) (λpos _ _ _=>s.length - pos) 0 0 [] .full ⟨AC,AC,GT,trivial,rfl⟩ Yl (St.le_refl _) ?_
 rintro pos U l own ⟨h1,h2,h3,h4,h5⟩
 have hn:=YT (s.drop pos)
 rw [List.length_drop] at hn
 repeat' ((conv=>whnf);first|(refine BX ?_;intros)|(refine BZ ?_ ?_<;>intro _)|refine uW (λ_=>?_) ?_|refine Sg AC AC ?_|refine tJ AC ?_|refine tK AC ?_|refine fA h4 AC (λown' ho=>?_))
 .conv=>whnf
  exact ⟨(pos+Hl (s.drop pos),pos+Hl (s.drop pos),l++[(s.take pos).drop U],own'),⟨Nat.le_refl _,AC,by grind,ho,by dsimp only;rw [h5,de AC AC,List.append_assoc];rfl⟩,AC,Yl,St.le_refl _⟩
 .conv=>whnf
  exact ⟨(pos+1,U,l,own),⟨by grind,AC,by grind,h4,by dsimp only;rw [h5,dc AC AC]⟩,AC,Yl,St.le_refl _⟩
 .exact fin (by have:=h own' ho;rw [h5,YH AC] at this;grind) rfl
end
end Go.Proofs.Z
namespace Go.Aw
open Go
def tS:List (List UInt8):=[[95],[99,97,115,101],[99,108,97,115,115],[100,97,116,97],[100,101,102,97,117,108,116],[100,101,114,105,118,105,110,103],[100,111],[101,108,115,101],[102,111,114,101,105,103,110],[105,102],[105,109,112,111,114,116],[105,110],[105,110,102,105,120],[105,110,102,105,120,108],[105,110,102,105,120,114],[105,110,115,116,97,110,99,101],[108,101,116],[109,111,100,117,108,101],[110,101,119,116,121,112,101],[111,102],[116,104,101,110],[116,121,112,101],[119,104,101,114,101]]
def jb:List (List UInt8):=[[46,46],[58],[58,58],[61],[92],[124],[60,45],[45,62],[64],[126],[61,62]]
def sv (w:List UInt8):Bool:=tS.contains w
def lh (w:List UInt8):Int:=if jb.contains w then 10 else if AY w=58 then 6 else 5
def HP (c:Int):Bool:=AF c==2||AF c==3||AF c==4||c==39
def Lc (l:List UInt8):Nat:=BW HP l
def G4 (l:List UInt8):Int:=match l with
 |[]=>0
 |a::r=>AF ((AL (a::r)).1:Nat)
def Bt (l:List UInt8):Int×Nat:=
 if G4 l=6 then (15,1)
 else if G4 l=5 then (lh (l.take (BW (λc=>AF c==5) l)),BW (λc=>AF c==5) l)
 else if G4 l=3 then (2,Lc l)
 else if G4 l=2 then (if sv (l.take (Lc l)) then 9 else 1,Lc l)
 else (0,0)
def Kc (k:Int):Int:=if k=1 then 3 else if k=2 then 4 else if k=5 then 7 else if k=6 then 8 else 0
theorem C1 (c:UInt8) (l:List UInt8):[c].isPrefixOf l=decide (AY l=(c.toNat:Nat)):=by
 cases l with
 |nil=>exact (decide_eq_false (λe=>by have h:(-1:Int)=(c.toNat:Nat):=e;omega)).symm
 |cons a r=>
  show (c==a&&true)=decide (((a.toNat:Nat):Int)=(c.toNat:Nat))
  rw [Bool.and_true,Bool.eq_iff_iff,beq_iff_eq,decide_eq_true_iff]
  exact ⟨λe=>by rw [e],λe=>UInt8.toNat_inj.1 AC⟩
end Go.Aw
namespace Go.Proofs.Z
open Go Go.Aw
section
variable {st:St} {R:AA->St->Prop}
theorem Y9 (h:R (.ret (.bool (sv w))) st):PC 381 [.str w] st R:=by
 refine pB Tryz.func381 ?_
 repeat' ((conv=>whnf);first|(refine BX ?_;intros)|(refine BZ ?_ ?_<;>intro _)|fail)
 all_goals exact fin h (congrArg (λb=>AA.ret (V.bool b)) (by first|(subst_vars;decide)|(simp only [sv,tS];simp_all)))
theorem er (h:R (.ret (.int .i64 (lh w))) st):PC 379 [.str w] st R:=by
 refine pB Tryz.func379 ?_
 repeat' ((conv=>whnf);first|(refine BX ?_;intros)|(refine BZ ?_ ?_<;>intro _)|refine Ip ?_)
 all_goals try rename_i hp
 all_goals try rw [C1,decide_eq_true_eq] at hp
 all_goals try rw [C1,decide_eq_false_iff_not] at hp
 all_goals exact fin h (BS (by first|(subst_vars;decide)|(have hp:AY w=58:=hp;simp only [lh,jb];simp_all)|(have hp:¬AY w=58:=hp;simp only [lh,jb];simp_all)))
theorem lU (h:R (.ret (.bool (HP c))) st):PC 411 [.int .i32 c] st R:=by
 refine pB Tryz.func411 ?_
 repeat' ((conv=>whnf);first|(refine BX ?_;intros)|(refine BZ ?_ ?_<;>intro _)|refine Ku ?_)
 all_goals exact fin h (congrArg (λb=>AA.ret (V.bool b)) (by simp only [HP];simp_all))
theorem VX (h:R (.ret (.int .i64 (Kc k))) st):PC 333 [.int .i64 k] st R:=by
 refine pB Tryz.func333 ?_
 repeat' ((conv=>whnf);first|(refine BX ?_;intros)|(refine BZ ?_ ?_<;>intro _)|fail)
 all_goals exact fin h (BS (by unfold Kc;(repeat' split)<;>omega))
end
theorem N1 (s:List UInt8):G4 s=if (Mu s 0).2=0 then 0 else AF (Mu s 0).1:=by
 cases s with
 |nil=>rw [Sh GT];rfl
 |cons a r=>
  have U:=D9 (a::r)
  rw [Mv AC GT,show (0:Int).toNat=0 from rfl,List.drop_zero,ZZ GT,if_neg bl]
  rfl
section
variable {st:St} {R:AA->St->Prop}
theorem sd (hl:s.length<4611686018427387904) (h:R (.ret (.str (s.take (Lc s)))) st):PC 380 [.str s] st R:=by
 refine pB Tryz.func380 ?_
 repeat' ((conv=>whnf);first|(refine BX ?_;intros)|(refine BZ ?_ ?_<;>intro _)|fail)
 refine Qm (α:=Nat) (λ_=>[]) (λpos=>[(0,[.Oz s pos])]) [0,6] [] (λ_=>st) (λpos=>pos<=s.length/\Lc s=pos+BW HP (s.drop pos)) (λpos=>s.length - pos) 0 ⟨Nat.zero_le _,by simp [Lc]⟩ Yl (St.le_refl _) ?_
 rintro pos ⟨hp,hi⟩
 repeat' ((conv=>whnf);first|(refine BX ?_;intros)|(refine BZ ?_ ?_<;>intro _)|refine lU ?_)
 .rename_i U c m hd hk
  have hr:=rune_le U hd
  conv=>whnf
  exact ⟨pos+m,⟨hr.1,O9 U hd hk hi⟩,AC,Yl,St.le_refl _⟩
 .rename_i U c m hd hk
  have:=Uk (p:=λd=>HP (d.1:Nat)) hd hk hi
  exact fin h (by rw [this];rfl)
 .rename_i U
  have:=QR U hi
  exact fin h (by rw [this,List.take_of_length_le AC])
theorem nw (U:s.length<4611686018427387904) (h:R (.ret (.int .i64 (G4 s))) st):PC 378 [.str s] st R:=by
 refine pB Tryz.func378 ?_
 repeat' ((conv=>whnf);first|(refine BX ?_;intros)|(refine BZ ?_ ?_<;>intro _)|refine jo U ?_|refine Ku ?_)
 .exact fin h (BS (by rw [N1,if_pos ‹_›]))
 .exact fin h (BS (by rw [N1,if_neg ‹_›]))
end
theorem uK:oH s 0 k=(BW (λc=>AF c==k) s:Nat):=by
 rw [O6 AC AC];simp
theorem cS (h:¬G4 s=0):0<s.length:=by
 cases s with
 |nil=>exact absurd rfl h
 |cons a r=>simp
section
variable {st:St} {R:AA->St->Prop}
theorem qD (U:s.length<4611686018427387904) (h:R (.ret (.int .i64 (BW (λc=>AF c==k) s:Nat))) st):PC 129 [.str s,.int .i64 0,.int .i64 k] st R:=qB U (by rw [uK];exact h)
theorem bb (U:s.length<4611686018427387904) (h:R (.ret (.Bz [.int .i64 (Bt s).1,.str (s.take (Bt s).2)])) st):PC 332 [.str s] st R:=by
 have hr:=FA (λc=>AF c==5) s
 have hne:G4 s=0\/0<s.length:=by
  by_cases h0:G4 s=0
  .exact .inl h0
  .exact .inr (cS h0)
 refine pB Tryz.func332 ?_
 repeat' ((conv=>whnf);first|exact DC|(refine BX ?_;intros)|(refine DD ?_ ?_ ?_;rotate_left)|(refine BZ ?_ ?_<;>intro _)|refine nw U ?_|refine qD U ?_|refine er ?_|refine sd U ?_|refine Y9 ?_|with_reducible refine WF ?_)
 .exact fin h (by unfold Bt;rw [if_pos ‹_›];rfl)
 .exact fin h (by unfold Bt;rw [if_neg AC,if_pos AC];rfl)
 .exact fin h (by unfold Bt;rw [if_neg AC,if_neg AC,if_pos AC])
 .exact fin h (by unfold Bt;rw [if_neg AC,if_neg AC,if_neg AC,if_pos AC,if_pos ‹_›])
 .exact fin h (by unfold Bt;rw [if_neg AC,if_neg AC,if_neg AC,if_pos AC,if_neg kw])
 .exact fin h (by unfold Bt;rw [if_neg AC,if_neg AC,if_neg AC,if_neg AC];rfl)
end
end Go.Proofs.Z
namespace Go.Aw
open Go
def Gg (s:List UInt8) (n:Nat) (k:Int):Int×Nat:=
 if h:n<s.length then
  if (k=2\/k=4)/\AY (s.drop n)=46/\Kc (Bt (s.drop (n+1))).1≠0 then Gg s (n+1+(Bt (s.drop (n+1))).2) (Kc (Bt (s.drop (n+1))).1) else (k,n)
 else (k,n)
termination_by s.length - n
decreasing_by omega
def FE (s:List UInt8):Int×Nat:=Gg s (Bt s).2 (Bt s).1
theorem WI {n:Nat} (h:¬(n<s.length/\(k=2\/k=4)/\AY (s.drop n)=46/\Kc (Bt (s.drop (n+1))).1≠0)):Gg s n k=(k,n):=by
 rw [Gg]
 split
 .rw [if_neg (λe=>h ⟨FS,e⟩)]
 .rfl
theorem kx {n:Nat} (h:n<s.length) (e:(k=2\/k=4)/\AY (s.drop n)=46/\Kc (Bt (s.drop (n+1))).1≠0):Gg s n k=Gg s (n+1+(Bt (s.drop (n+1))).2) (Kc (Bt (s.drop (n+1))).1):=by
 rw [Gg,dif_pos h,if_pos e]
theorem KG (s:List UInt8):(Bt s).2<=s.length:=by
 have hf:G4 s=0\/0<s.length:=by
  cases s with
  |nil=>exact .inl rfl
  |cons a r=>exact .inr GT
 have U:=FA (λc=>AF c==5) s
 have h2:Lc s<=s.length:=FA _ s
 unfold Bt
 (repeat' split)<;>first|omega|(dsimp only;omega)
end Go.Aw
namespace Go.Proofs.Z
open Go Go.Aw
section
variable {st:St} {R:AA->St->Prop}
theorem tj {n:Nat} (U:w.length=n) (h:R (.ret (.bool (decide (AY (s.drop n)=46)))) st):PC 130 [.str (s.drop ((w.length:Nat):Int).toNat),.str [46]] st R:=by
 refine Ip ?_
 rw [C1,U,show ((n:Nat):Int).toNat=n by omega]
 exact h
theorem jJ {n:Nat} (hl:s.length<=100000000) (U:w.length=n) (h:R (.ret (.Bz [.int .i64 (Bt (s.drop (n+1))).1,.str ((s.drop (n+1)).take (Bt (s.drop (n+1))).2)])) st):PC 332 [.str (s.drop (((w.length:Nat):Int)+1).toNat)] st R:=by
 rw [U,show (((n:Nat):Int)+1).toNat=n+1 by omega]
 exact bb M2 h
theorem oN {v:List UInt8} {n:Nat} {K:List UInt8->Prop} (U:w.length=n) (h2:v.length=m) (h:n+1+m<=s.length) (k:K (s.take (n+1+m))):
 ((0:Int)<=0/\0<=((w.length:Nat):Int)+1+((v.length:Nat):Int)/\((w.length:Nat):Int)+1+((v.length:Nat):Int)<=s.length)/\∀s',s'=(s.take (((w.length:Nat):Int)+1+((v.length:Nat):Int)).toNat).drop (0:Int).toNat->K s':=by
 subst U;subst h2
 refine WO AC AC ?_
 rw [show (((w.length:Nat):Int)+1+((v.length:Nat):Int)).toNat=w.length+1+v.length by omega]
 exact k
theorem gx (s:List UInt8) (n:Nat):¬AY (s.drop n)=46\/n<s.length:=by
 by_cases h:n<s.length
 .exact .inr h
 .rw [G6 AC];exact .inl Do
theorem pS (hl:s.length<=100000000) (h:∀ahead:Int,R (.ret (.Bz [.int .i64 (FE s).1,.str (s.take (FE s).2),.int .i64 ahead])) st):PC 271 [.str s] st R:=by
 refine pB Tryz.func271 ?_
 repeat' ((conv=>whnf);first|exact DC|(refine BX ?_;intros)|(refine DD ?_ ?_ ?_;rotate_left)|(refine BZ ?_ ?_<;>intro _)|refine bb AC ?_|with_reducible refine WF ?_)
 refine TH (α:=Nat) (β:=Int) (γ:=Int) (λn k a=>[(2,.int .i64 k),(3,.str (s.take n)),(4,.int .i64 a)]) (λ_ _ _=>[]) [0] [] (λ_ _ _=>st) (λn k _=>n<=s.length/\FE s=Gg s n k) (λn _ _=>s.length - n) (Bt s).2 (Bt s).1 0 ⟨KG s,rfl⟩ Yl (St.le_refl _) ?_
 rintro n k a ⟨h1,h2⟩
 have U:(s.take n).length=n:=Pi
 have hp:=KG (s.drop (n+1))
 rw [List.length_drop] at hp
 have hdl:=gx s n
 have ht2:((s.drop (n+1)).take (Bt (s.drop (n+1))).2).length=(Bt (s.drop (n+1))).2:=by rw [List.length_take,List.length_drop];omega
 repeat' ((conv=>whnf);first|with_reducible refine oN U ht2 AC ?_|exact DC|(refine BX ?_;intros)|(refine DD ?_ ?_ ?_;rotate_left)|(refine BZ ?_ ?_<;>intro _)|refine tj U ?_|refine jJ hl U ?_|refine VX ?_|with_reducible refine WF ?_)
 all_goals first
  |exact fin (by have:=h a;rw [h2,WI AC] at this;exact this) rfl
  |(conv=>whnf
    exact ⟨(n+1+(Bt (s.drop (n+1))).2,Kc (Bt (s.drop (n+1))).1,(((s.take n).length:Nat):Int)+1),⟨bl,by dsimp only;rw [h2,kx AC ⟨AC,AC,AC⟩]⟩,bl,Yl,St.le_refl _⟩)
end
end Go.Proofs.Z
namespace Go.Aw
open Go
def FF (s:List UInt8) (pos:Nat):Int×Int:=if (FE (s.drop pos)).1=0 then (0,0) else ((FE (s.drop pos)).1,(pos+(FE (s.drop pos)).2:Nat))
theorem kz {n:Nat} (h:n<=s.length):(Gg s n k).2<=s.length:=by
 fun_induction Gg s n k with
 |case1 n k hn hc U=>
  have:=KG (s.drop (n+1))
  rw [List.length_drop] at this
  exact U AC
 |case2 n k hn hc=>exact h
 |case3 n k hn=>exact h
theorem XI (s:List UInt8):(FE s).2<=s.length:=kz (KG s)
end Go.Aw
namespace Go.Proofs.Z
open Go Go.Aw
section
variable {st:St} {R:AA->St->Prop}
theorem lX (hl:s.length<=100000000) (hp:pos<s.length) (h:R (.ret (.Bz [.int .i64 (FF s pos).1,.int .i64 (FF s pos).2])) st):PC 204 [.str s,.int .i64 pos] st R:=by
 have ht:((s.drop pos).take (FE (s.drop pos)).2).length=(FE (s.drop pos)).2:=by rw [List.length_take];have:=XI (s.drop pos);omega
 have hw:=XI (s.drop pos)
 rw [List.length_drop] at hw
 have U:(s.drop pos).length<=100000000:=M2
 refine pB Tryz.func204 ?_
 repeat' ((conv=>whnf);first|(refine BX ?_;intros)|(refine BZ ?_ ?_<;>intro _)|refine pS U (λ_=>?_))
 .exact fin h (by unfold FF;rw [if_pos ‹_›];simp_all)
 .exact fin h (by unfold FF;rw [if_neg ‹_›];simp only [];rw [show (pos:Int).toNat=pos by omega] at *;rw [ht];rfl)
end
end Go.Proofs.Z
namespace Go.Aw
open Go
def BD (base:Int):List UInt8->Nat
 |[]=>0
 |a::r=>if BH ((a.toNat:Nat):Int) base<0 then 0 else BD base r+1
def EB (l:List UInt8):Int:=if AY (l.drop 1)=111\/AY (l.drop 1)=79 then 8 else if AY (l.drop 1)=120\/AY (l.drop 1)=88 then 16 else 10
def Cz (l:List UInt8):Int×Nat:=if AY l=48/\EB l≠10/\BD (EB l) (l.drop 2)≠0 then (EB l,2) else (10,0)
def Lg (l:List UInt8):Nat:=if AY l=43\/AY l=45 then 1 else 0
def Mf (l:List UInt8):Nat:=
 if (AY l=101\/AY l=69)/\BD 10 (l.drop (1+Lg (l.drop 1)))≠0 then 1+Lg (l.drop 1)+BD 10 (l.drop (1+Lg (l.drop 1))) else 0
def H6 (l:List UInt8):Nat:=if AY l=46/\BD 10 (l.drop 1)≠0 then 1+BD 10 (l.drop 1) else 0
def D6 (l:List UInt8):Int×Nat:=
 if (Cz l).1≠10 then (11,2+BD (Cz l).1 (l.drop 2))
 else if BD 10 l=0 then (0,0)
 else
  (if 0<H6 (l.drop (BD 10 l))\/0<Mf (l.drop (BD 10 l+H6 (l.drop (BD 10 l)))) then 12 else 11,
    BD 10 l+H6 (l.drop (BD 10 l))+Mf (l.drop (BD 10 l+H6 (l.drop (BD 10 l)))))
theorem Ch {l:List UInt8} {k:Nat} (h:0<=AY (l.drop k)):k<l.length:=by
 by_cases U:k<l.length
 .exact U
 .rw [List.drop_eq_nil_iff.2 AC] at h;exact absurd h Do
theorem Fk {a:UInt8} (h:a.toNat<128):AL (a::r)=(a.toNat,1):=by
 unfold AL;simp_all
theorem OO {a:UInt8} (h:¬a.toNat<128):128<=(AL (a::r)).1:=by
 unfold AL;grind
theorem H2 (h:128<=c):BH c base<0:=by
 have U:(if 48<=c/\c<=57 then c - 48 else if 97<=c/\c<=102 then c - 87 else if 65<=c/\c<=70 then c - 55 else 16)=16:=by
  rw [if_neg AC,if_neg AC,if_neg AC]
 unfold BH;grind
theorem Ex (base:Int) (l:List UInt8):BD base l<=l.length:=by
 induction l with
 |nil=>exact Nat.le_refl _
 |cons a r U=>unfold BD;grind
theorem MK {c:Nat} (h:pos<s.length) (hd:(c,m)=AL (s.drop pos)) (k:¬BH (c:Int) base<0):m=1/\BD base (s.drop pos)=BD base (s.drop (pos+1))+1:=by
 rw [List.drop_eq_getElem_cons h] at hd |-
 by_cases hb:s[pos].toNat<128
 .rw [Fk hb] at hd
  injection hd with U h2
  subst U;subst h2
  exact ⟨rfl,by rw [BD,if_neg k]⟩
 .have:=OO (r:=s.drop (pos+1)) hb
  rw [<-hd] at this
  exact absurd (H2 (c:=(c:Int)) (base:=base) AC) k
theorem HC {c:Nat} (h:pos<s.length) (hd:(c,m)=AL (s.drop pos)) (k:BH (c:Int) base<0):BD base (s.drop pos)=0:=by
 rw [List.drop_eq_getElem_cons h] at hd |-
 by_cases hb:s[pos].toNat<128
 .rw [Fk hb] at hd
  injection hd with U h2
  subst U
  rw [BD,if_pos k]
 .rw [BD,if_pos (H2 AC)]
theorem KK (h:s.length<=pos):BD base (s.drop pos)=0:=by rw [List.drop_eq_nil_iff.2 h];rfl
theorem Vf (l:List UInt8):H6 l<=l.length:=by
 have:=Ex 10 (l.drop 1)
 rw [List.length_drop] at this
 unfold H6;grind
theorem ah (l:List UInt8):Mf l<=l.length:=by
 have:=Ex 10 (l.drop (1+Lg (l.drop 1)))
 rw [List.length_drop] at this
 unfold Mf;grind
theorem TV (l:List UInt8):(D6 l).2<=l.length:=by
 have h1:=Ex 10 l
 have U:=Ex (Cz l).1 (l.drop 2)
 have h3:=Vf (l.drop (BD 10 l))
 have h4:=ah (l.drop (BD 10 l+H6 (l.drop (BD 10 l))))
 rw [List.length_drop] at U h3 h4
 have h5:(Cz l).1≠10->2<=l.length:=λe=>by
  unfold Cz at e
  split at e
  .rename_i hc
   have:=Ex (EB l) (l.drop 2)
   grind
  omega
 unfold D6
 grind
theorem cM {a:Int} {K:Int->Prop} (U: -2147483648<=a) (h2:a<=2147483647) (k:K a):∃r,r=IntKind.i32.wrap a/\K r:=⟨a,(IntWalk.i32_in _ ⟨U,h2⟩).symm,k⟩
end Go.Aw
namespace Go.Proofs.Z
open Go Go.Aw
section
variable {st:St} {R:AA->St->Prop}
theorem Mb {b:Int} (h:R (.ret (.int .i64 (BH c b))) st):PC 374 [.int .i32 c,.int .i64 b] st R:=by
 refine pB Tryz.func374 ?_
 repeat' ((conv=>whnf);first|(refine BX ?_;intros)|(refine BZ ?_ ?_<;>intro _)|refine cM AC AC ?_)
 all_goals exact fin h (BS (by unfold BH;dsimp only;(repeat' split)<;>omega))
theorem qz {b:Int} (hl:s.length<4611686018427387904) (h:R (.ret (.int .i64 (BD b s:Nat))) st):PC 328 [.str s,.int .i64 b] st R:=by
 refine pB Tryz.func328 ?_
 repeat' ((conv=>whnf);first|(refine BX ?_;intros)|(refine BZ ?_ ?_<;>intro _)|fail)
 refine Qm (α:=Nat) (λ_=>[]) (λpos=>[(0,[.Oz s pos])]) [0,1,8] [] (λ_=>st) (λpos=>pos<=s.length/\BD b s=pos+BD b (s.drop pos)) (λpos=>s.length - pos) 0 ⟨Nat.zero_le _,GT⟩ Yl (St.le_refl _) ?_
 rintro pos ⟨hp,hi⟩
 repeat' ((conv=>whnf);first|(refine BX ?_;intros)|(refine BZ ?_ ?_<;>intro _)|refine Mb ?_)
 .rename_i U c m hd hk
  have:=HC U hd hk
  exact fin h (BS AC)
 .rename_i U c m hd hk
  obtain ⟨e1,e2⟩:=MK U hd hk
  conv=>whnf
  exact ⟨pos+m,⟨AC,by grind⟩,AC,Yl,St.le_refl _⟩
 .rename_i U hls
  have:=KK (base:=b) (s:=s) (pos:=pos) AC
  exact fin h (BS AC)
end
end Go.Proofs.Z
namespace Go.Aw
open Go
theorem ZS {l:List UInt8} (h:AY (l.drop 1)=111\/AY (l.drop 1)=79):EB l=8:=if_pos h
theorem UN {l:List UInt8} (h:AY (l.drop 1)=120\/AY (l.drop 1)=88):EB l=16:=by unfold EB;rw [if_neg AC,if_pos h]
theorem fH {l:List UInt8} (h:AY (l.drop 1)≠111/\AY (l.drop 1)≠79/\AY (l.drop 1)≠120/\AY (l.drop 1)≠88):EB l=10:=by unfold EB;rw [if_neg AC,if_neg AC]
theorem fI (l:List UInt8):EB l=8\/EB l=16\/EB l=10:=by
 unfold EB
 split
 .exact .inl rfl
 .split
  .exact .inr (.inl rfl)
  .exact .inr (.inr rfl)
theorem KH {l:List UInt8} {b:Int} (h:AY l=48) (hb:EB l=b) (hn:b≠10) (U:BD b (l.drop 2)≠0):Cz l=(b,2):=by
 subst hb
 exact if_pos ⟨h,hn,U⟩
theorem ME {l:List UInt8} (h:AY l≠48\/EB l=10\/BD (EB l) (l.drop 2)=0):Cz l=(10,0):=if_neg AC
theorem MG (l:List UInt8):Cz l=(10,0)\/(Cz l=(8,2)/\EB l=8)\/(Cz l=(16,2)/\EB l=16):=by
 by_cases h:AY l=48/\EB l≠10/\BD (EB l) (l.drop 2)≠0
 .rcases fI l with hb|hb|hb
  .exact .inr (.inl ⟨KH h.1 hb Do (hb ▸ h.2.2),hb⟩)
  .exact .inr (.inr ⟨KH h.1 hb Do (hb ▸ h.2.2),hb⟩)
  .exact absurd hb h.2.1
 .exact .inl (if_neg h)
theorem bE {l:List UInt8} (h:AY l=43\/AY l=45):Lg l=1:=if_pos h
theorem bD {l:List UInt8} (h:¬(AY l=43\/AY l=45)):Lg l=0:=if_neg h
theorem nj {l:List UInt8} (h:¬(AY l=101\/AY l=69)):Mf l=0:=if_neg λe=>h e.1
theorem hZ {l:List UInt8} (h:AY l=101\/AY l=69) (hk:1+Lg (l.drop 1)=j) (U:BD 10 (l.drop j)=0):Mf l=0:=by
 subst hk
 exact if_neg λe=>e.2 U
theorem ia {l:List UInt8} (h:AY l=101\/AY l=69) (hk:1+Lg (l.drop 1)=j) (U:BD 10 (l.drop j)≠0):Mf l=j+BD 10 (l.drop j):=by
 subst hk
 exact if_pos ⟨h,U⟩
end Go.Aw
namespace Go.Proofs.Z
open Go Go.Aw
section
variable {st:St} {R:AA->St->Prop}
theorem kn {n:Nat} {b:Int} (U:s.length<=4611686018427387903) (h:R (.ret (.int .i64 (BD b (s.drop n):Nat))) st):PC 328 [.str (s.drop (n:Int).toNat),.int .i64 b] st R:=
 qz M2 h
theorem Y4 (hl:s.length<=4611686018427387903) (h:R (.ret (.Bz [.int .i64 (Cz s).1,.int .i64 (Cz s).2])) st):PC 327 [.str s] st R:=by
 refine pB Tryz.func327 ?_
 repeat' ((conv=>whnf);first|(refine BX ?_;intros)|(refine BZ ?_ ?_<;>intro _)|refine kn (n:=2) hl ?_)
 all_goals try have U:=Ec (show s[0]? =some _ by assumption)
 all_goals try rw [List.drop_zero] at U
 all_goals try have h1:=Ec (show s[1]? =some _ by assumption)
 all_goals try have h1:=G6 (s:=s) (i:=1) AC
 all_goals first
  |exact fin h (by rw [ME (.inl AC)];rfl)
  |exact fin h (by rw [ME (.inr (.inl (fH AC)))];rfl)
  |exact fin h (by rw [ME (.inr (.inr (by rw [ZS AC];assumption)))];rfl)
  |exact fin h (by rw [ME (.inr (.inr (by rw [UN AC];assumption)))];rfl)
  |exact fin h (by rw [KH AC (ZS AC) Do ‹_›];rfl)
  |exact fin h (by rw [KH AC (UN AC) Do ‹_›];rfl)
theorem Yg (U:s.length<=4611686018427387903) (h:R (.ret (.int .i64 (Mf s:Nat))) st):PC 329 [.str s] st R:=by
 refine pB Tryz.func329 ?_
 by_cases he:s=[]
 .subst he
  repeat' ((conv=>whnf);first|(refine BX ?_;intros)|(refine BZ ?_ ?_<;>intro _)|fail)
  .exact fin h rfl
  .rename_i hn;exact absurd rfl hn
 have hlen:=List.length_pos_iff.2 he
 have r1:BD 10 (s.drop 1)<=s.length:=Nat.le_trans (Ex 10 _) M2
 have r2:BD 10 (s.drop 2)<=s.length:=Nat.le_trans (Ex 10 _) M2
 repeat' ((conv=>whnf);first|(refine BX ?_;intros)|(refine BZ ?_ ?_<;>intro _)|refine kn (n:=1) U ?_|refine kn (n:=2) U ?_)
 all_goals try have h0:=Ec (show s[0]? =some _ by assumption)
 all_goals try rw [List.drop_zero] at h0
 all_goals try have h1:=Ec (show s[1]? =some _ by assumption)
 all_goals try have h1:=G6 (s:=s) (i:=1) AC
 all_goals first
  |(have e:=nj (l:=s) AC;exact fin h (BS AC))
  |(have e:=hZ (l:=s) (j:=1) AC (by rw [bD AC]) ‹_›;exact fin h (BS AC))
  |(have e:=ia (l:=s) (j:=1) AC (by rw [bD AC]) ‹_›;exact fin h (BS AC))
  |(have e:=hZ (l:=s) (j:=2) AC (by rw [bE AC]) ‹_›;exact fin h (BS AC))
  |(have e:=ia (l:=s) (j:=2) AC (by rw [bE AC]) ‹_›;exact fin h (BS AC))
end
end Go.Proofs.Z
namespace Go.Proofs.Z
open Go Go.Aw
open Rd (ret seq fail DL look loop)
def Kp (base:Int):List UInt8->Int->Int×Int
 |[],v=>(v,0)
 |a::r,v=>if (4611686018427387904 - BH (a.toNat:Nat) base) / base<v then (0,3) else Kp base r (v*base+BH (a.toNat:Nat) base)
def Ko (s:List UInt8):Int×Int:=if (D6 s).1=11/\(D6 s).2=s.length then Kp (Cz s).1 (s.drop (Cz s).2) 0 else (0,40)
def CG (t:Tk):Bool:=t.kind==19||(t.kind==15&&t.text==[59])
def B5 (t:Tk):Bool:=t.kind==1||t.kind==2||t.kind==3||t.kind==4||t.kind==11||t.kind==12||t.kind==13||t.kind==14||
 (t.kind==9&&t.text==[95])||(t.kind==10&&t.text==[126])||(t.kind==15&&(t.text==[40]||t.text==[91]))
abbrev lQ:List UInt8:=[108,101,116]
abbrev uv:List UInt8:=[105,102]
abbrev bU:List UInt8:=[99,97,115,101]
abbrev uu:List UInt8:=[100,111]
abbrev vg:List UInt8:=[105,110]
abbrev vw:List UInt8:=[111,102]
abbrev ue:List UInt8:=[116,104,101,110]
abbrev ud:List UInt8:=[101,108,115,101]
abbrev Rj:List UInt8:=[119,104,101,114,101]
def Cw (t:Tk):Bool:=(t.kind==9&&(t.text==lQ||t.text==uv||t.text==bU||t.text==uu))||(t.kind==10&&t.text==[92])||(t.kind==5&&t.text==[45])||B5 t
def Eb (t:Tk):Bool:=t.kind==9&&(t.text==[105,110,102,105,120,108]||t.text==[105,110,102,105,120,114]||t.text==[105,110,102,105,120])
def Iw (t:Tk):Bool:=t.kind==5||t.kind==6||t.kind==7||t.kind==8||(t.kind==10&&t.text==[58])
def IZ (t:Tk):Bool:=Iw t||(t.kind==15&&t.text==[96])
def LC (k:Int) (l:List Nd):Nd:=if l.length=1 then l.headD Hz else Aq k l
def Hu:Er:=⟨2,Do⟩
def G1:Er:=⟨120,Do⟩
def XE (n:Nd):Bool:=(n.kind==1||n.kind==3)&&((Gm n).2==0&&(Gm n).1.length==1)
def CX (m:Rd Nd) (may:Nd->Bool):Rd Nd:=.look λs0=>.seq m λn=>if may n=true then .ret n else .DL s0 G1
def HA:Rd Nd:=.look λs=>if Iw (Ab s).1=true then .seq Ay λt=>.ret (Aq 18 [t])
 else .seq (Bc 15 [96]) λo=>.seq (Di [1,2,3,4]) λn=>.seq (Bc 15 [96]) λc=>.ret (Aq 18 [o,n,c])
def YO (l:List Nd):Rd (Sum (List Nd) (List Nd)):=.look λs=>if AU s 5 [45]=true then .seq Ay λt=>.ret (.inl (l++[Aq 19 [t]])) else .ret (.inr l)
def Qp (l:List Nd):Rd (List Nd):=.loop YO l
def jX (U:Rd Nd) (br:Bool) (l:List Nd):Rd (Sum (List Nd) (List Nd×Bool)):=.seq (Qp l) λl=>.seq U λn=>.look λs=>
 if IZ (Ab s).1=true then .seq HA λo=>
  if br=true then .look λs=>if AU s 15 [41]=true then .ret (.inr (l++[n]++[o],true)) else .ret (.inl (l++[n]++[o]))
  else .ret (.inl (l++[n]++[o]))
 else .ret (.inr (l++[n],false))
def N0 (U:Rd Nd) (br:Bool):Rd (List Nd×Bool):=.loop (jX U br) []
def Y0 (U:Rd Nd):Rd Nd:=.seq (N0 U false) λp=>.ret (LC 17 p.1)
def Km (full:Rd Nd) (n:Nd):Rd Nd:=.look λs=>if AU s 10 [58,58]=true then .seq Ay λc=>.seq full λt=>.ret (Aq 22 [n,c,t]) else .ret n
def cN (U full:Rd Nd):Rd Nd:=.seq (Y0 U) λn=>Km full n
structure EX where
 atom:Rd Nd
 exp:Rd Nd
 ops:Rd Nd
 decls:Rd Nd
 stmts:Rd Nd
 alts:Rd Nd
 DT:Nd->Rd Nd
 list:Nd->Rd Nd
def J5 (L:EX) (lt block:Nd):Rd Nd:=.seq (Bc 9 vg) λi=>.seq L.exp λe=>.ret (Aq 24 [lt,block,i,e])
def c9 (L:EX):Rd Nd:=.seq Ay λt=>.seq L.decls λb=>J5 L t b
def KE (atom:Rd Nd) (l:List Nd):Rd (Sum (List Nd) (List Nd)):=.seq (CX atom JD) λn=>.ret (.inl (l++[n]))
def TC (atom:Rd Nd) (l:List Nd):Rd (Sum (List Nd) (List Nd)):=
 if ((l.length:Int)==1)=true then KE atom l else .look λs=>if B5 (Ab s).1=true then KE atom l else .ret (.inr l)
def I7 (L:EX) (atom:Rd Nd):Rd Nd:=.seq Ay λb=>.seq (.loop (TC atom) [b]) λl=>.seq (Bc 10 [45,62]) λa=>.seq L.exp λe=>.ret (Aq 23 (l++[a]++[e]))
def Sv (w:List UInt8):Rd Unit:=.look λs=>if CG (Ab s).1=true then (if AU (Ab s).2.1 9 w=true then DG else .ret ()) else .ret ()
def Le (L:EX) (l:List Nd) (w:List UInt8):Rd (List Nd):=.seq (Sv w) λ_=>.seq (Bc 9 w) λa=>.seq L.exp λe=>.ret (l++[a]++[e])
def II (L:EX):Rd Nd:=.seq Ay λi=>.seq L.exp λc=>.seq (Le L [i,c] ue) λl=>.seq (Le L l ud) λl=>.ret (Aq 25 l)
def RQ (L:EX):Rd Nd:=.seq Ay λc=>.seq L.exp λe=>.seq (Bc 9 vw) λo=>.seq L.alts λa=>.ret (Aq 26 ([c,e,o]++[a]))
def GC (b:Nd):Bool:=match b.kids.getLast? with
 |none=>true
 |some x=>x.kind==32||x.kind==33
def LK (L:EX):Rd Nd:=.seq Ay λd=>.seq L.stmts λb=>if GC b=true then .fail G1 else .ret (Aq 27 [d,b])
def X0 (atom:Rd Nd) (l:List Nd):Rd (Sum (List Nd) (List Nd)):=.look λs=>if B5 (Ab s).1=true then .seq atom λn=>.ret (.inl (l++[n])) else .ret (.inr l)
def Ln (atom:Rd Nd):Rd Nd:=.seq atom λn=>.seq (.loop (X0 atom) [n]) λl=>.ret (LC 11 l)
def Ik (L:EX) (atom:Rd Nd):Rd Nd:=.look λs=>
 if ((Ab s).1.kind==10)=true then (if ((Ab s).1.text==[92])=true then I7 L atom else Ln atom)
 else if ((Ab s).1.kind==9)=true then
  (if ((Ab s).1.text==lQ)=true then c9 L
  else if ((Ab s).1.text==uv)=true then II L
  else if ((Ab s).1.text==bU)=true then RQ L
  else if ((Ab s).1.text==uu)=true then LK L
  else Ln atom)
 else Ln atom
def S9 (l:List Nd):Rd (Sum (List Nd) (List Nd)):=.look λs=>if AU s 15 [44]=true then .seq Ay λc=>.ret (.inl (l++[c])) else .ret (.inr l)
def Qd (o:Nd):Rd Nd:=.seq (.loop S9 [o]) λl=>.seq (Bc 15 [41]) λc=>.ret (Aq 3 (l++[c]))
def LG (L:EX) (o:Nd):Rd Nd:=.look λs=>if IZ (Ab s).1=true then
 (if AU s 5 [45]=true then L.DT o else .seq HA λp=>.seq L.ops λe=>.seq (Bc 15 [41]) λc=>.ret (Aq 10 [o,p,e,c]))
 else L.DT o
def Nw (L:EX) (o:Nd):Rd Nd:=.look λs=>if Iw (Ab s).1=true then
 (if AU (Ab s).2.1 15 [41]=true then .seq Ay λp=>.seq Ay λc=>.ret (Aq 3 [o,p,c]) else LG L o)
 else LG L o
def LH (L:EX):Rd Nd:=.seq Ay λo=>.look λs=>if AU s 15 [41]=true then Qd o else if AU s 15 [44]=true then Qd o else Nw L o
def Jr (L:EX):Rd Nd:=.seq Ay λo=>.look λs=>if AU s 15 [93]=true then .seq Ay λc=>.ret (Aq 3 [o,c]) else L.list o
def Py (L:EX):Rd Nd:=.look λs=>if B5 (Ab s).1=true then
 (if ((Ab s).1.kind==15)=true then (if ((Ab s).1.text==[40])=true then LH L else Jr L)
 else if ((Ab s).1.kind==9)=true then .seq Ay λw=>.ret (Aq 14 [w])
 else if ((Ab s).1.kind==10)=true then .seq Ay λw=>.seq L.atom λa=>.ret (Aq 16 [w,a])
 else .seq Ay λn=>if ((Ab s).1.kind==1)=true then .look λs=>if AU s 10 [64]=true then .seq Ay λw=>.seq L.atom λa=>.ret (Aq 15 [n,w,a]) else .ret n
  else .ret n)
 else IG
def Nh (L:EX) (l:List Nd):Rd (Sum (List Nd) (List Nd)):=.seq (Di [1,3]) λU=>.seq (Bc 10 [61]) λq=>.seq L.exp λe=>.look λs=>
 if AU s 15 [44]=true then .seq Ay λc=>.ret (.inl (l++[Aq 13 [U,q,e]]++[c])) else .ret (.inr (l++[Aq 13 [U,q,e]]))
def T6 (L:EX) (l:List Nd):Rd (Sum (List Nd) (List Nd)):=.look λs=>if AU s 15 [125]=true then (if 2<(l.length:Int) then Nh L l else .ret (.inr l)) else Nh L l
def HB (L:EX) (n:Nd):Rd Nd:=.seq Ay λb=>.seq (.loop (T6 L) [n,b]) λl=>.seq (Bc 15 [125]) λc=>.ret (Aq 12 (l++[c]))
def fE (L:EX) (n:Nd):Rd (Sum Nd Nd):=.look λs=>if AU s 15 [123]=true then .seq (HB L n) λn=>.ret (.inl n) else .ret (.inr n)
def LX (L:EX):Rd Nd:=.seq (Py L) λn=>.loop (fE L) n
def Zw (exp:Rd Nd) (p:Int×List Nd):Rd (Sum (Int×List Nd) (Int×List Nd)):=.look λs=>if AU s 15 [44]=true then .seq Ay λc=>.seq exp λe=>.ret (.inl (5,p.2++[c]++[e])) else .ret (.inr p)
def D8 (U full exp:Rd Nd) (o:Nd):Rd Nd:=.seq (N0 U true) λp=>if p.2=true then
 .seq Ay λc=>.ret (Aq 9 [o,LC 17 (p.1.take (p.1.length - 1)),p.1.getLastD Hz,c])
 else .seq (Km full (LC 17 p.1)) λe=>.seq (.loop (Zw exp) (4,[o,e])) λq=>.seq (Bc 15 [41]) λc=>.ret (Aq q.1 (q.2++[c]))
def Nu (stmt:Rd Nd) (l:List Nd):Rd (Sum (List Nd) (List Nd)):=.look λs=>if AU s 15 [44]=true then .seq Ay λc=>.seq stmt λt=>.ret (.inl (l++[c]++[t])) else .ret (.inr l)
def E4 (stmt:Rd Nd) (l:List Nd):Rd (List Nd):=.seq (Bc 10 [124]) λb=>.seq stmt λt=>.loop (Nu stmt) (l++[b]++[t])
def Sc (exp:Rd Nd) (l:List Nd):Rd (Sum (List Nd) (Int×List Nd)):=.look λs=>if AU s 15 [44]=true then .seq Ay λc=>.seq exp λe=>.ret (.inl (l++[c]++[e])) else .ret (.inr (6,l))
def iW (exp:Rd Nd) (l:List Nd):Rd (Sum (List Nd) (Int×List Nd)):=if (l.length:Int)<5 then
 .look λs=>if AU s 10 [46,46]=true then .seq Ay λd=>.look λs=>if AU s 15 [93]=true then .ret (.inr (7,l++[d])) else .seq exp λe=>.ret (.inr (7,l++[d]++[e]))
  else Sc exp l
 else Sc exp l
def N5 (exp stmt:Rd Nd) (o:Nd):Rd Nd:=.seq exp λe=>.look λs=>if AU s 10 [124]=true then
 .seq (E4 stmt [o,e]) λl=>.seq (Bc 15 [93]) λc=>.ret (Aq 8 (l++[c]))
 else .seq (.loop (iW exp) [o,e]) λq=>.seq (Bc 15 [93]) λc=>.ret (Aq q.1 (q.2++[c]))
def Pz (exp:Rd Nd) (n:Nd):Rd Nd:=.look λs=>if AU s 10 [60,45]=true then (if JD n=true then .seq Ay λa=>.seq exp λe=>.ret (Aq 32 [n,a,e]) else .fail G1) else .ret n
def SF (L:EX) (exp:Rd Nd):Rd Nd:=.look λs=>if AU s 9 lQ=true then
 .seq Ay λt=>.seq L.decls λb=>.look λs=>if AU s 9 vg=true then .seq (J5 L t b) λn=>Pz exp n else .ret (Aq 33 [t,b])
 else .seq exp λn=>Pz exp n
def Lw (exp stmt:Rd Nd) (m:List UInt8) (l:List Nd):Rd (Sum (List Nd) (List Nd)):=.seq (E4 stmt []) λg=>.seq (Bc 10 m) λq=>.seq exp λe=>.ret (.inl (l++[Aq 30 (g++[q]++[e])]))
def Tz (exp stmt:Rd Nd) (m:List UInt8) (l:List Nd):Rd (Sum (List Nd) (List Nd)):=if ((l.length:Int)==0)=true then Lw exp stmt m l
 else if ((l.headD Hz).kind==30)=true then .look λs=>if AU s 10 [124]=true then Lw exp stmt m l else .ret (.inr l)
 else .ret (.inr l)
def Za (L:EX) (exp stmt:Rd Nd) (m:List UInt8) (l:List Nd):Rd Nd:=.seq (.loop (Tz exp stmt m) l) λl=>.look λs=>if AU s 9 Rj=true then
 .seq Ay λw=>.seq L.decls λb=>.ret (Aq 29 (l++[Aq 31 [w,b]]))
 else .ret (Aq 29 l)
def Zb (L:EX) (exp stmt:Rd Nd) (m:List UInt8):Rd Nd:=.look λs=>if AU s 10 m=true then .seq Ay λa=>.seq exp λe=>Za L exp stmt m ([]++[a,e])
 else if AU s 10 [124]=true then Za L exp stmt m [] else IG
def ca (L:EX) (ops exp stmt:Rd Nd):Rd Nd:=.seq ops λn=>if JD n=true then .seq (Zb L exp stmt [45,62]) λr=>.ret (Aq 28 [n,r]) else .fail G1
def Nb (n:Nd):Bool:=(Ko n.text).2==0&&decide ((Ko n.text).1<=9)
def HU (n:Nd):Bool:=match n.kids[n.kids.length / 2]? with
 |some x=> !(x.form==7||x.form==8||x.form==3||x.form==4)
 |none=>false
def Tt (l:List Nd):Rd (Sum (List Nd) (List Nd)):=.look λs=>if AU s 15 [44]=true then .seq Ay λc=>.seq (CX HA HU) λo=>.ret (.inl (l++[c]++[o])) else .ret (.inr l)
def IQ (l:List Nd):Rd Nd:=.seq (CX HA HU) λo=>.seq (.loop Tt (l++[o])) λl=>.ret (Aq 35 l)
def IU:Rd Nd:=.seq Ay λf=>.look λs=>if ((Ab s).1.kind==11)=true then .seq (CX Ay Nb) λd=>IQ ([f]++[d]) else IQ [f]
def sE (atom:Rd Nd) (l:List Nd):Rd (Sum (List Nd) (List Nd)):=.look λs=>if AU s 15 [44]=true then .seq Ay λc=>.seq (CX atom XE) λo=>.ret (.inl (l++[c]++[o])) else .ret (.inr l)
def WS (atom full:Rd Nd) (n:Nd):Rd Nd:=if XE n=true then .seq (.loop (sE atom) [n]) λl=>.seq (Bc 10 [58,58]) λc=>.seq full λt=>.ret (Aq 34 (l++[c]++[t])) else .fail G1
def RX (L:EX) (atom ops exp stmt full:Rd Nd):Rd Nd:=.look λs=>if Eb (Ab s).1=true then IU
 else .seq ops λn=>.look λs=>if AU s 15 [44]=true then WS atom full n else if AU s 10 [58,58]=true then WS atom full n
  else if ((YG n).2.2==0)=true then .seq (Zb L exp stmt [61]) λr=>.ret (Aq 36 [n,r]) else .fail G1
def C0 (s:Ad):Ad×Bool:=if K1 s=true/\¬s.wait=1/\¬FJ s=0 then (EY s,true) else (EV,false)
theorem Na {s:Ad} (h:(C0 s).2=true):mu (C0 s).1<=mu s:=by
 unfold C0 at h |-
 split
 .rename_i hc
  have U:s.CF≠[]:=λe=>hc.2.2 (by unfold FJ;rw [e];rfl)
  have:=IK U
  simp only [mu,EY] at *
  omega
 .rename_i hc;rw [if_neg hc] at h;cases h
def PG:Rd Unit:=⟨λs=>if (C0 s).2=true then .inr ((),(C0 s).1) else .inl (⟨S0 s,S1 s⟩,s),λs v s' h=>by
 split at h
 .cases h;exact Na ‹_›
 .cases h⟩
def Fz (_:Unit):Rd (Sum Unit Unit):=.look λs=>if CG (Ab s).1=true then .seq DG λ_=>.ret (.inl ()) else .ret (.inr ())
def Ci:Rd Unit:=.loop Fz ()
def Dg (f:Bool) (U:Bool):Rd Bool:=.look λs=>if (if f then AU s 15 [125] else (Ab s).1.kind==20)=true then .seq DG λ_=>.ret true
 else if U=true then (if f=true then IG else .seq PG λ_=>.ret true) else .ret false
def S3 (starts:Tk->Bool) (item:Rd Nd) (f:Bool) (l:List Nd):Rd (Sum (List Nd) (List Nd)):=.seq Ci λ_=>.look λs=>.seq (Dg f (!starts (Ab s).1)) λe=>
 if e=true then .ret (.inr l) else .seq item λn=>.look λs=>.seq (Dg f (!CG (Ab s).1)) λe=>if e=true then .ret (.inr (l++[n])) else .ret (.inl (l++[n]))
def BB (f:Bool) (l:List Nd):Nd:=.mk 2 (if f then 1 else 0) [] 0 0 l
def Ds (starts:Tk->Bool) (item:Rd Nd):Rd Nd:=.look λs=>if ((Ab s).1.kind==18)=true then .seq DG λ_=>.seq (.loop (S3 starts item false) []) λl=>.ret (BB false l)
 else .seq (Bc 15 [123]) λ_=>.seq (.loop (S3 starts item true) []) λl=>.ret (BB true l)
def p6 (L:EX):Rd Nd:=LX L
def jB (L:EX):Rd Nd:=Ik L (LX L)
def opsL (L:EX):Rd Nd:=Y0 (jB L)
def PX (full:Rd Nd) (L:EX):Rd Nd:=cN (jB L) full
def MQ (full:Rd Nd) (L:EX):Rd Nd:=SF L (PX full L)
def me (full:Rd Nd) (L:EX):Rd Nd:=ca L (opsL L) (PX full L) (MQ full L)
def FK (full:Rd Nd) (L:EX):Rd Nd:=RX L (LX L) (opsL L) (PX full L) (MQ full L) full
def EF (t:Tk):Bool:=Cw t||Eb t
def uP (full:Rd Nd) (L:EX):EX where
 atom:=p6 L
 exp:=PX full L
 ops:=opsL L
 decls:=Ds EF (FK full L)
 stmts:=Ds Cw (MQ full L)
 alts:=Ds Cw (me full L)
 DT:=λo=>D8 (jB L) full (PX full L) o
 list:=λo=>N5 (PX full L) (MQ full L) o
def uF:EX:=⟨.fail Hu,.fail Hu,.fail Hu,.fail Hu,.fail Hu,.fail Hu,λ_=>.fail Hu,λ_=>.fail Hu⟩
theorem PZ {A:Ad->Rs} (U:AR A):AR (Gc A):=λs n s' h=>by
 unfold Gc at h
 split at h
 .cases h
 .rename_i p h1
  have h2:=FP U _ _ _ h1
  split at h
  .rename_i h3
   have h4:=Cp h3 Do Do
   split at h
   .cases h
   .rename_i q h5
    have:=E8 U _ _ _ h5
    cases h
    omega
  .have:=Ks h
   omega
def C7 (d:Nat):Rd Nd:=Jf (Gc (C5 (Dz (d - 1)))) λs v s' h=>Nat.le_of_lt (PZ (BI (Bo _)) _ _ _ h)
def JL:Nat->EX
 |0=>uF
 |d+1=>uP (C7 (d+1)) (JL d)
def gp (item:Rd Nd) (l:List Nd):Rd (Sum (List Nd) (List Nd)):=.seq item λn=>.look λs=>if AU s 15 [44]=true then .seq Ay λc=>.ret (.inl (l++[n]++[c])) else .ret (.inr (l++[n]))
def X7 (item:Rd Nd) (shut:List UInt8) (p:Bool×List Nd):Rd (Sum (Bool×List Nd) (List Nd)):=
 if p.1=true then .look λs=>if AU s 15 shut=true then .ret (.inr p.2) else .seq item λn=>.look λs=>if AU s 15 [44]=true then .seq Ay λc=>.ret (.inl (false,p.2++[n]++[c])) else .ret (.inr (p.2++[n]))
 else .seq item λn=>.look λs=>if AU s 15 [44]=true then .seq Ay λc=>.ret (.inl (false,p.2++[n]++[c])) else .ret (.inr (p.2++[n]))
def D2 (item:Rd Nd) (shut:List UInt8) (l:List Nd):Rd (List Nd):=.seq (.loop (X7 item shut) (true,l)) λl=>.seq (Bc 15 shut) λc=>.ret (l++[c])
def F9 (ks:List Int):Rd Nd:=.seq (Bc 15 [40]) λo=>.seq (Di ks) λn=>.seq (Bc 15 [41]) λc=>.ret (Aq 3 [o,n,c])
def iw (n:Nd):Int:=match n.kids[1]? with
 |some x=>x.form
 |none=>0
def NA:Rd Nd:=.look λs=>if AU s 15 [40]=true then .look λs0=>.seq (F9 [5,6]) λn=>if (iw n==5)=true then .ret n else .DL s0 G1 else Di [1]
def OW:Rd Nd:=.look λs=>if AU s 15 [40]=true then F9 [5,6] else Di [1,2]
def Zg (own:Bool):List Int:=if own then [1] else [1,3]
def Qa (own:Bool):List Int:=if own then [2] else [2,4]
def sK (own:Bool):List Int:=if own then [5,6] else [5,6,7,8]
abbrev pM:List UInt8:=[109,111,100,117,108,101]
abbrev ZE:List UInt8:=[113,117,97,108,105,102,105,101,100]
abbrev vv:List UInt8:=[97,115]
abbrev pL:List UInt8:=[104,105,100,105,110,103]
abbrev Ph:List UInt8:=[105,109,112,111,114,116]
abbrev pK:List UInt8:=[101,120,112,111,114,116]
abbrev lR:List UInt8:=[115,97,102,101]
abbrev Uz:List UInt8:=[117,110,115,97,102,101]
abbrev lS:List UInt8:=[116,121,112,101]
abbrev lP:List UInt8:=[100,97,116,97]
abbrev Ri:List UInt8:=[110,101,119,116,121,112,101]
abbrev ZD:List UInt8:=[99,108,97,115,115]
abbrev NM:List UInt8:=[105,110,115,116,97,110,99,101]
abbrev Rf:List UInt8:=[100,101,102,97,117,108,116]
abbrev Rh:List UInt8:=[102,111,114,101,105,103,110]
abbrev eU:List UInt8:=[100,101,114,105,118,105,110,103]
def VH (l:List Nd):Rd Nd:=.look λs=>if AU s 15 [40]=true then .seq Ay λo=>.look λs=>if AU s 10 [46,46]=true then .seq Ay λd=>.seq (Bc 15 [41]) λc=>.ret (Aq 52 (l++[o]++[d,c]))
 else .seq (D2 OW [41] (l++[o])) λl=>.ret (Aq 52 l)
 else .ret (Aq 52 l)
def aK (own:Bool):Rd Nd:=.look λs=>if AU s 15 [40]=true then .seq (F9 (sK own)) λn=>.ret (Aq 52 [n])
 else if ((Ab s).1.kind==2)=true then .seq (Di (Qa own)) λn=>VH [n]
 else if ((Ab s).1.kind==4)=true then .seq (Di (Qa own)) λn=>VH [n]
 else .seq (Di (Zg own)) λn=>.ret (Aq 52 [n])
def aL (own:Bool):Rd Nd:=if own=true then aK own else .look λs=>if AU s 9 pM=true then .seq Ay λm=>.seq (Di (Qa own)) λn=>.ret (Aq 52 [m,n]) else aK own
def jg (own:Bool) (l:List Nd):Rd (Sum (List Nd) (List Nd)):=.look λs=>if AU s 15 [41]=true then .ret (.inr l) else gp (aL own) l
def TQ (own:Bool):Rd Nd:=.seq (Bc 15 [40]) λo=>.seq (.loop (jg own) [o]) λl=>.seq (Bc 15 [41]) λc=>.ret (Aq 51 (l++[c]))
def Mm (l:List Nd):Rd Nd:=.seq (TQ true) λn=>.ret (Aq 50 (l++[n]))
def Ml (l:List Nd):Rd Nd:=.look λs=>if AU s 1 pL=true then .seq Ay λh=>Mm (l++[h])
 else if AU s 15 [40]=true then Mm l else .ret (Aq 50 l)
def Mk (l:List Nd):Rd Nd:=.seq (Di [2,4]) λn=>.look λs=>if AU s 1 vv=true then .seq Ay λa=>.seq (Di [2,4]) λm=>Ml (l++[n]++[a]++[m]) else Ml (l++[n])
def Ic:Rd Nd:=.seq Ay λi=>.look λs=>if AU s 1 ZE=true then .seq Ay λq=>Mk ([i]++[q]) else Mk [i]
def J1 (full:Rd Nd) (l:List Nd):Rd Nd:=.seq NA λn=>.seq (Bc 10 [58,58]) λc=>.seq full λt=>.ret (Aq 47 (l++[n]++[c]++[t]))
def H4 (full:Rd Nd) (l:List Nd):Rd Nd:=.look λs=>if ((Ab s).1.kind==14)=true then .seq Ay λt=>J1 full (l++[t]) else J1 full l
def Mj (full:Rd Nd) (l:List Nd):Rd Nd:=.look λs=>if (if AU s 1 lR=true then true else AU s 1 Uz)=true then
 (if AU (Ab s).2.1 10 [58,58]=true then H4 full l else .seq Ay λt=>H4 full (l++[t]))
 else H4 full l
def J0 (full:Rd Nd) (l:List Nd):Rd Nd:=.seq Ay λw=>.seq (Di [1]) λn=>Mj full (l++[w]++[n])
def H5 (full:Rd Nd):Rd Nd:=.seq Ay λf=>.look λs=>if AU s 9 Ph=true then J0 full [f] else if AU s 1 pK=true then J0 full [f] else IG
def GR (whole:Rd Nd):Rd Nd:=.seq Ay λd=>.seq (Bc 15 [40]) λo=>.seq (D2 whole [41] [d,o]) λl=>.ret (Aq 46 l)
def DP (n:Nd):Bool:=if n.kind==39 then n.kids.head?.all (DV · [2])&&n.kids.tail.all (DV · [1]) else DV n [2]
def JB (row:Rd Nd) (l:List Nd):Rd (List Nd×Nd):=.seq row λr=>.look λs=>if AU s 10 [61,62]=true then .seq Ay λa=>.seq row λq=>.ret (l++[r]++[a],q) else .ret (l,r)
def Gs (b:Bool):Rd Unit:=if b=true then .ret () else .fail G1
def Iy (row whole:Rd Nd):Rd Nd:=.seq Ay λt=>.seq row λr=>.seq (Gs (DP r)) λ_=>.seq (Bc 10 [61]) λe=>.seq whole λw=>.ret (Aq 41 ([t,r]++[e]++[w]))
def Js (atom:Rd Nd):Rd Nd:=.seq Ay λb=>.seq atom λa=>.ret (Aq 40 [b,a])
def Ju (atom:Rd Nd):Rd Nd:=.look λs=>if AU s 5 [33]=true then Js atom
 else if AU s 15 [40]=true then (if ((Ab (Ab s).2.1).1.kind==6)=true then F9 [6] else atom)
 else atom
def Kk (t:Tk):Bool:=if t.kind==5 then t.text==[33] else if t.kind==15 then t.text==[40]||t.text==[91] else t.kind==2||t.kind==4||t.kind==1
def Y3 (atom:Rd Nd) (l:List Nd):Rd (Sum (List Nd) (List Nd)):=.look λs=>if Kk (Ab s).1=true then .seq (Ju atom) λn=>.ret (.inl (l++[n])) else .ret (.inr l)
def Ka (atom:Rd Nd):Rd (List Nd):=.seq (Ju atom) λn=>.loop (Y3 atom) [n]
def EA (n:Nd):Bool:=n.kind==40
def Sw (l:List Nd):Rd Nd:=if l.length=1 then .ret (l.headD Hz) else .seq (Gs (!l.any EA)) λ_=>.ret (Aq 39 l)
def FT (n:Nd):Bool:=DV n [2]||(n.kind==3&&n.kids.length==3&&n.kids[1]?.any (DV · [6]))
def il (l:List Nd):Rd (Sum (List Nd) (List Nd)):=.look λs=>if AU s 15 [44]=true then .seq Ay λc=>.seq NA λn=>.ret (.inl (l++[c]++[n])) else .ret (.inr l)
def KU (atom whole:Rd Nd):Rd Nd:=.seq NA λn=>.seq (.loop il [n]) λl=>.seq (Bc 10 [58,58]) λc=>.look λs=>
 if AU s 5 [33]=true then .seq (Js atom) λt=>.ret (Aq 13 (l++[c]++[t])) else .seq whole λt=>.ret (Aq 13 (l++[c]++[t]))
def Q9:Rd Nd:=.look λs=>if ((Ab s).1.kind==6)=true then .seq Ay λt=>.ret (Aq 18 [t])
 else .look λs0=>.seq Ay λo=>.seq (Di [1,2,3,4]) λn=>.seq (Bc 15 [96]) λc=>if (n.form==2)=true then .ret (Aq 18 [o,n,c]) else .DL s0 G1
def Hr (atom:Rd Nd) (l:List Nd):Rd Nd:=.seq (Sw l) λa=>.seq Q9 λo=>.seq (Ka atom) λr=>.seq (Sw r) λb=>.ret (Aq 48 [a,o,b])
def IL (atom:Rd Nd) (l:List Nd):Rd Nd:=.look λs=>if ((Ab s).1.kind==6)=true then Hr atom l else if AU s 15 [96]=true then Hr atom l
 else .seq (Gs (FT (l.headD Hz))) λ_=>.ret (Aq 48 l)
def Hs (atom whole:Rd Nd):Rd Nd:=.seq (Ka atom) λl=>if (l.length==1&&FT (l.headD Hz))=true then
 .look λs=>if AU s 15 [123]=true then .seq Ay λo=>.seq (D2 (KU atom whole) [125] (l++[o])) λl=>.ret (Aq 48 l) else IL atom l
 else IL atom l
def GS:Rd Nd:=.seq Ay λd=>.look λs=>if AU s 15 [40]=true then .seq Ay λo=>.seq (D2 (Di [2,4]) [41] ([d]++[o])) λl=>.ret (Aq 49 l) else .seq (Di [2,4]) λc=>.ret (Aq 49 ([d]++[c]))
def H0 (k:Int) (l:List Nd):Rd Nd:=.look λs=>if AU s 9 eU=true then .seq GS λd=>.ret (Aq k (l++[d])) else .ret (Aq k l)
def p9 (atom whole:Rd Nd) (p:List UInt8×List Nd):Rd (Sum (List UInt8×List Nd) (List Nd)):=.look λs=>if AU s 10 p.1=true then .seq Ay λe=>.seq (Hs atom whole) λc=>.ret (.inl ([124],p.2++[e]++[c])) else .ret (.inr p.2)
def RT (atom row whole:Rd Nd):Rd Nd:=.seq Ay λd=>.seq (JB row [d]) λp=>.seq (Gs (DP p.2)) λ_=>.seq (.loop (p9 atom whole) ([61],p.1++[p.2])) λl=>H0 42 l
def Ms (n:Nd):Bool:=if FT (n.kids.headD Hz) then
 (if n.kids.length=2 then !EA (n.kids[1]?.getD Hz)
 else if n.kids.length=4/\(n.kids[2]?.getD Hz).kind=13 then decide ((n.kids[2]?.getD Hz).kids.length=3)&& !EA ((n.kids[2]?.getD Hz).kids[2]?.getD Hz) else false)
 else false
def Ii (atom row whole:Rd Nd):Rd Nd:=.seq Ay λd=>.seq (JB row [d]) λp=>.seq (Gs (DP p.2)) λ_=>.seq (Bc 10 [61]) λe=>.seq (Hs atom whole) λc=>.seq (Gs (Ms c)) λ_=>H0 43 (p.1++[p.2]++[e]++[c])
def RO (decls:Rd Nd) (k:Int) (l:List Nd) (may:Nd->Bool):Rd Nd:=.look λs=>if AU s 9 Rj=true then .seq Ay λw=>.seq decls λb=>.seq (Gs (b.kids.all may)) λ_=>.ret (Aq k (l++[Aq 31 [w,b]])) else .ret (Aq k l)
def Gk (n:Nd):Bool:=n.kind==39&&n.kids.length==2&&DV (n.kids[0]?.getD Hz) [2]&&DV (n.kids[1]?.getD Hz) [1]
def J3 (n:Nd):Bool:=n.kind==39&&n.kids.length==2&&DV (n.kids[0]?.getD Hz) [2,4]
def M9 (row decls:Rd Nd):Rd Nd:=.seq Ay λc=>.seq (JB row [c]) λp=>.seq (Gs (Gk p.2)) λ_=>RO decls 44 (p.1++[p.2]) λ_=>true
def GV (row decls:Rd Nd):Rd Nd:=.seq Ay λc=>.seq (JB row [c]) λp=>.seq (Gs (J3 p.2)) λ_=>RO decls 45 (p.1++[p.2]) λn=>n.kind==36
def Q8 (atom row whole full decl decls:Rd Nd):Rd Nd:=.look λs=>if ((Ab s).1.kind==9)=true then
 (if ((Ab s).1.text==Ph)=true then Ic
 else if ((Ab s).1.text==lS)=true then Iy row whole
 else if ((Ab s).1.text==lP)=true then RT atom row whole
 else if ((Ab s).1.text==Ri)=true then Ii atom row whole
 else if ((Ab s).1.text==ZD)=true then M9 row decls
 else if ((Ab s).1.text==NM)=true then GV row decls
 else if ((Ab s).1.text==Rf)=true then GR whole
 else if ((Ab s).1.text==Rh)=true then H5 full
 else decl)
 else decl
def Gt (t:Tk):Bool:=(t.kind==9&&(t.text==Ph||t.text==lS||t.text==lP||t.text==Ri||t.text==ZD||t.text==NM||t.text==Rf||t.text==Rh))||(Cw t||Eb t)
def HV (d:Nat):Rd Nd:=Jf (C5 (Dz (d - 1))) λs v s' h=>Nat.le_of_lt (BI (Bo _) _ _ _ h)
def MX (d:Nat):Rd Nd:=Jf (Gq (C5 (Dz (d - 1)))) λs v s' h=>Nat.le_of_lt (FP (BI (Bo _)) _ _ _ h)
def GN (d:Nat):Rd Nd:=Jf (DQ (C5 (Dz (d - 1)))) λs v s' h=>Nat.le_of_lt (E8 (BI (Bo _)) _ _ _ h)
end Go.Proofs.Z
namespace Go.Proofs.Z
open Go Go.Aw
def mY (n:Nd) (s:Ad) (e:Int):V:=.agg [.int .i64 n.kind,.int .i64 n.form,.str n.text,.int .i64 n.line,.int .i64 n.Cu,.slice 6 (Ck n.kids) .any,
 .slice 4 (Az s.Ag) .any,.int .i64 s.pos,.slice 1 (ints s.CF) .any,.int .i64 s.wait,.int .i64 e]
section
variable {st:St} {R:AA->St->Prop}
attribute [local irreducible] Go.Aw.Ah
def gM:Rs->V
 | .inr (n,s)=>mY n s 0
 | .inl (e,s)=>mY Hz s e
end
section
variable {st:St} {R:AA->St->Prop}
attribute [local irreducible] Go.Aw.Ah
theorem Zz {deep:Int} {A:Ad->Rs} (U:¬deep<1->De 297 (if 100<deep then 100 else deep) A):Dd 220 deep A:=by
 intro s hm st R h
 refine pB Tryz.func220 ?_
 repeat' ((conv=>whnf);first|(refine Bv ?_;intros)|(refine Bw ?_ ?_<;>intro _)|refine OM (s:=s) (q:=A s) (λhd=>U hd s hm) ?_)
 all_goals exact BJ rfl h
theorem mg {deep:Int} {A:Ad->Rs} (U:¬deep<1->De 362 (if 100<deep then 100 else deep) A):Dd 406 deep A:=by
 intro s hm st R h
 refine pB Tryz.func406 ?_
 repeat' ((conv=>whnf);first|(refine Bv ?_;intros)|(refine Bw ?_ ?_<;>intro _)|refine OM (s:=s) (q:=A s) (λhd=>U hd s hm) ?_)
 all_goals exact BJ rfl h
theorem sw {deep:Int} {A:Ad->Rs} (U:¬deep<1->De 296 (if 100<deep then 100 else deep) A):Dd 219 deep A:=by
 intro s hm st R h
 refine pB Tryz.func219 ?_
 repeat' ((conv=>whnf);first|(refine Bv ?_;intros)|(refine Bw ?_ ?_<;>intro _)|refine OM (s:=s) (q:=A s) (λhd=>U hd s hm) ?_)
 all_goals exact BJ rfl h
theorem nx {deep:Int} {A:Ad->Rs} (U:¬deep<1->De 305 (if 100<deep then 100 else deep) A):Dd 231 deep A:=by
 intro s hm st R h
 refine pB Tryz.func231 ?_
 repeat' ((conv=>whnf);first|(refine Bv ?_;intros)|(refine Bw ?_ ?_<;>intro _)|refine OM (s:=s) (q:=A s) (λhd=>U hd s hm) ?_)
 all_goals exact BJ rfl h
end
def LO (Y:Ad->Rs) (n:Nd) (s:Ad):Ls:=match Y s with
 | .inl e=>.inl e
 | .inr q=>CD Y [n,q.1] q.2
def ft (st:St) (b:Nat) (R:AA->St->Prop):Ls->Prop
 | .inr (l,s')=>∀st' U,Ho st st' b s'->U.BM st'->R (.ret (.slice 6 (l.map AP) U)) (U.st st' (l.length*6))
 | .inl (e,s')=>∀st',Ho st st' b s'->R (.B0 (fault e)) st'
theorem SO {Y:Ad->Rs} {s:Ad} (h:AU s 15 [44]=true) (U:Y (Ab s).2.1=.inr (n,s')) (hm:mu s'<mu s):CD Y l s=CD Y (l++[Bk (Ab s).1,n]) s':=by
 rw [CD,if_pos h,U]
 dsimp only
 rw [if_pos hm]
section
variable {st:St} {R:AA->St->Prop}
attribute [local irreducible] Go.Aw.Ah
theorem pJ {Y:Ad->Rs} (hY:Dd 220 d Y) (h0:d=0->∀s,Y s=.inl (2,s)) (hB:E1 Y) (hF:AR Y) {n1:Nd} {s:Ad} {x:Int} (hx:x=(d:Int)) (hm:mu s<=100000000) (hs:Has st b s) (h:ft st b R (LO Y n1 s)):
 PC 423 [.ptr b 0,.slice 6 [AP n1] .full,.int .i64 x] st R:=by
 refine pB Tryz.func423 ?_
 unfold LO at h
 have hn1:[n1].length+1<=1000000000:=by show 1+1<=1000000000;decide
 repeat' ((conv=>whnf);first|(refine Bv ?_;intros)|(refine Bw ?_ ?_<;>intro _)|refine JP (λ_=>?_) ?_|refine Qg hx hY h0 hB hm hs (DW (λn2 s2 hq2 st2 h2=>?_) (λe2 s2 hq2 st2 h2=>?_))|refine NT (l:=[n1]) (x:=n2) (own:=.full) trivial hn1 (λown1 ho1=>?_))
 .rw [hq2] at h
  have hd2:=hF _ _ _ hq2
  dsimp only at h
  refine Qk (α:=List Nd×Ad×St×AJ) (λx=>[(1,.slice 6 (x.1.map AP) x.2.2.2)]) [0,2,6] (λx=>[]) [] (λx=>x.2.2.2.st x.2.2.1 (x.1.length*6))
   (λx=>x.2.2.2.BM x.2.2.1/\Ho st x.2.2.1 b x.2.1/\x.1.length+2*mu x.2.1<=400000000/\mu x.2.1<=mu s/\CD Y x.1 x.2.1=CD Y [n1,n2] s2) (λx=>mu x.2.1) ([n1]++[n2],s2,st2,own1)
   ⟨ho1,h2,by show 2+2*mu s2<=_;omega,by show mu s2<=_;omega,rfl⟩ Yl (St.le_refl _) ?_
  rintro ⟨l,U,st3,own⟩ ⟨j1,j2,j5,j6,j7⟩
  dsimp only at j1 j2 j5 j6 j7
  have hm3:mu U<=100000000:=AC
  have hb3:=E3 hm3
  have hl3:Has (st3.Aa b (CL U)) b U:=.inl (St.Ai ..)
  have g3:own.BM (st3.Aa b (CL U)):=H9 j1 j2.1
  have hn:l.length+2<=1000000000:=AC
  have hm4:AU U 15 [44]=true->mu (Ab U).2.1<=100000000:=λe=>by have:=Cp e Do Do;omega
  repeat' ((conv=>whnf);first|(refine Bv ?_;intros)|(refine Bw ?_ ?_<;>intro _)|refine JP (λ_=>?_) ?_|refine rH j2.1 hb3 ?_|refine FD (hl3.hw own _) hb3 (Q5 g3 hl3 (GI ‹_› Do) (λst4 h4 g4=>?_))|refine Qg hx hY h0 hB (hm4 ‹_›) (h4.1.hw own _) (Fe g4 h4.1 (F0 (λn5 s5 hq5 st5 h5 g5=>?_) (λe5 s5 hq5 st5 h5 g5=>?_)))|refine fz (l:=l) (x:=Bk (Ab U).1) (y:=n5) g5 hn (λown' ho'=>?_))
  all_goals conv=>whnf
  .have hp:AU U 15 [44]=true:=FS
   have hd:=hF _ _ _ hq5
   have hd3:=Cp hp Do Do
   have hd4:mu s5<mu U:=AC
   have hu:=(A0 (st:=st3) (b:=b) (s:=U)).trans (h4.trans h5)
   refine ⟨(l++[Bk (Ab U).1,n5],s5,st5,own'),⟨ho',j2.trans hu,?_,by show mu s5<=_;omega,?_⟩,hd4,Yl,St.le_refl _⟩
   .show (l++[Bk (Ab U).1,n5]).length+2*mu s5<=_
    rw [List.length_append]
    show l.length+2+2*mu s5<=_
    omega
   .show CD Y (l++[Bk (Ab U).1,n5]) s5=_
    rw [<-j7,SO (l:=l) hp hq5 hd4]
  .have hp:AU U 15 [44]=true:=FS
   have hu:=(A0 (st:=st3) (b:=b) (s:=U)).trans (h4.trans h5)
   have hr:CD Y l U=.inl (e5,s5):=by rw [CD,if_pos hp,hq5]
   rw [<-j7,hr] at h
   exact EH (AJ.BK g5) rfl (h st5 (j2.trans hu))
  .have hr:CD Y l U=.inr (l,U):=by rw [CD,if_neg (Bool.eq_false_iff.1 ‹_›)]
   rw [<-j7,hr] at h
   exact fin (h _ own (j2.trans A0) g3) rfl
 .rw [hq2] at h
  exact fin (h st2 h2) rfl
end
section
variable {st:St} {R:AA->St->Prop}
attribute [local irreducible] Go.Aw.Ah
theorem rI {s:Ad} (e:AU s k x=true) (hs:Has st b s) (hb:s.CF.length<=500000000) (h:R (.ret (.bool true)) (st.Aa b (CL s))):PC 156 [.ptr b 0,.int .i64 k,.str x] st R:=Yz hs hb kw
theorem cY {s:Ad} (e:AU s k x=false) (hs:Has st b s) (hb:s.CF.length<=500000000) (h:R (.ret (.bool false)) (st.Aa b (CL s))):PC 156 [.ptr b 0,.int .i64 k,.str x] st R:=Yz hs hb kw
theorem EP {st:St} {s:Ad}:Has (st.Aa b (CL s)) b s:=.inl (St.Ai ..)
theorem cu {s:Ad} (h:AU s 15 [44]=true):Cc l s=Cc (l++[Bk (Ab s).1]) (Ab s).2.1:=by
 rw [Cc,if_pos h,if_pos (Cp h Do Do)]
theorem X8 {s:Ad} (h:AU s 15 [44]=false):Cc l s=(l,s):=by
 rw [Cc,if_neg kw]
theorem ZB {Y:Ad->Rs} (l:List Nd) (s:Ad):∀q s',CD Y l s=.inr (q,s')->q.length+2*mu s'<=l.length+2*mu s:=by
 fun_induction CD Y l s with
 |case1 l s U e1 h2=>simp_all
 |case2 l s U p h2 h3 ih=>
  grind
 |case3 l s U p h2 h3=>simp_all
 |case4 l s U=>simp_all
theorem eT {Y:Ad->Rs} (hF:AR Y) {s:Ad} (h:LO Y n s=.inr (l,s')):mu s'<=mu s/\l.length<=2+2*mu s:=by
 unfold LO at h
 split at h
 .cases h
 .rename_i U
  have h2:=hF _ _ _ U
  have h3:=IA _ _ _ _ h
  have h4:=ZB _ _ _ _ h
  grind
theorem eC {st:St} {K:AA->St->Prop} {q:Ls} (h:∀l s',q=.inr (l,s')->∀st' U,Ho st st' b s'->U.BM st'->K (.ret (.slice 6 (l.map AP) U)) (U.st st' (l.length*6)))
 (k:∀e s',q=.inl (e,s')->∀st',Ho st st' b s'->K (.B0 (fault e)) st'):ft st b K q:=by
 match q with
 | .inr (l,s')=>exact h l s' rfl
 | .inl (e,s')=>exact k e s' rfl
theorem oF {x:Int} (hx:x=((d+1:Nat):Int)) (hd:d<=1000000) {Y:Ad->Rs} (hY:Dd 220 d Y) (h0:d=0->∀s,Y s=.inl (2,s)) (hB:E1 Y) (hF:AR Y):De 404 x (Fy Y):=by
 intro s hm b st R hs h
 refine pB Tryz.func404 ?_
 have hb:=E3 hm
 unfold Fy at h
 cases hq1:Dk s with
 |inl q=>
  rw [hq1] at h
  obtain ⟨e,s'⟩:=q
  repeat' ((conv=>whnf);first|(refine Bv ?_;intros)|(refine Bw ?_ ?_<;>intro _)|refine FD hs hb (Uu hq1 (λst1 h1=>?_)))
  all_goals exact fin (h st1 h1) rfl
 |inr q=>
  obtain ⟨n1,s1⟩:=q
  rw [hq1] at h
  have hm1:mu s1<=100000000:=by have:=(Pf hq1).1;omega
  have hb1:=E3 hm1
  have hn1:[n1].length+1<=1000000000:=by show 1+1<=1000000000;decide
  dsimp only at h
  cases hA:AU s1 10 [45,62] with
  |true=>
   rw [if_pos hA] at h
   have R6:(Ab s1).2.1.CF.length<=500000000:=E3 (by have:=Cp hA Do Do;omega)
   have hn2:∀n2:Nd,([n1]++[n2]).length+1<=1000000000:=λ_=>by simp_all
   repeat' ((conv=>whnf);first|(refine Bv ?_;intros)|(refine Bw ?_ ?_<;>intro _)|refine FD hs hb (GL hq1 (λst1 h1=>?_))|refine rI hA h1.1 hb1 ?_|refine FD EP hb1 (GL (GI hA Do) (λst2 h2=>?_))|refine NT (l:=[n1]) (x:=Bk (Ab s1).1) (own:=.full) trivial hn1 (λown1 ho1=>?_)|refine Rm (h2.1.hw own1 _) R6 (Fe ho1 h2.1 (F0 (λn3 s3 hq3 U h3 hg3=>?_) (λe3 s3 hq3 U h3 hg3=>?_)))|refine NT (l:=[n1]++[Bk (Ab s1).1]) (x:=n3) hg3 (hn2 _) (λown2 ho2=>?_))
   all_goals unfold Hk at h
   all_goals rw [hq3] at h
   .exact EH (AJ.BK ho2) Ca (h U ((h1.trans A0).trans (h2.trans h3)))
   .exact EH (AJ.BK hg3) rfl (h U ((h1.trans A0).trans (h2.trans h3)))
  |false=>
  rw [if_neg kw] at h
  cases hC:AU s1 15 [41] with
  |true=>
   rw [if_pos hC] at h
   repeat' ((conv=>whnf);first|(refine Bv ?_;intros)|(refine Bw ?_ ?_<;>intro _)|refine FD hs hb (GL hq1 (λst1 h1=>?_))|refine cY hA h1.1 hb1 ?_|refine rI hC EP hb1 ?_|refine Rm EP hb1 (DW (λn3 s3 hq3 U h3=>?_) (λe3 s3 hq3 U h3=>?_))|refine NT (l:=[n1]) (x:=n3) (own:=.full) trivial hn1 (λown2 ho2=>?_))
   all_goals unfold Hk at h
   all_goals rw [hq3] at h
   .exact EH (AJ.BK ho2) Ca (h U (((h1.trans A0).trans A0).trans h3))
   .exact fin (h U (((h1.trans A0).trans A0).trans h3)) rfl
  |false=>
  rw [if_neg kw] at h
  cases hE:AU s1 15 [44] with
  |true=>
   rw [if_pos hE] at h
   repeat' ((conv=>whnf);first|(refine Bv ?_;intros)|(refine Bw ?_ ?_<;>intro _)|refine FD hs hb (GL hq1 (λst1 h1=>?_))|refine cY hA h1.1 hb1 ?_|refine cY hC EP hb1 ?_|refine rI hE EP hb1 ?_)
   refine Qk (α:=List Nd×Ad×St×AJ) (λx=>[(5,.slice 6 (x.1.map AP) x.2.2.2)]) [0,1,4,6] (λx=>[]) [0] (λx=>x.2.2.2.st x.2.2.1 (x.1.length*6))
    (λx=>x.2.2.2.BM x.2.2.1/\Ho st x.2.2.1 b x.2.1/\x.1.length+mu x.2.1<=200000000/\mu x.2.1<=mu s1/\Cc x.1 x.2.1=Cc [n1] s1) (λx=>mu x.2.1) ([n1],s1,_,.full)
    ⟨trivial,((h1.trans A0).trans A0).trans A0,by grind,Nat.le_refl _,rfl⟩ Yl (St.le_refl _) ?_
   rintro ⟨l,s3,U,own⟩ ⟨j1,j2,j5,j6,j7⟩
   dsimp only at j1 j2 j5 j6 j7
   have hm3:mu s3<=100000000:=AC
   have hb3:=E3 hm3
   have hl3:Has (U.Aa b (CL s3)) b s3:=.inl (St.Ai ..)
   have g3:own.BM (U.Aa b (CL s3)):=H9 j1 j2.1
   have hn:l.length+1<=1000000000:=AC
   repeat' ((conv=>whnf);first|(refine Bv ?_;intros)|(refine Bw ?_ ?_<;>intro _)|refine rH j2.1 hb3 ?_|refine FD (hl3.hw own _) hb3 (Q5 g3 hl3 (GI ‹_› Do) (λst4 h4 g4=>?_))|refine NT (l:=l) (x:=Bk (Ab s3).1) g4 hn (λown' ho'=>?_)|refine Rm (hl3.hw own _) hb3 (Fe g3 hl3 (F0 (λn5 s5 hq5 st5 h5 g5=>?_) (λe5 s5 hq5 st5 h5 g5=>?_)))|refine NT (l:=l) (x:=n5) g5 hn (λown' ho'=>?_))
   all_goals conv=>whnf
   .have hp:AU s3 15 [44]=true:=FS
    have hd3:=Cp hp Do Do
    refine ⟨(l++[Bk (Ab s3).1],(Ab s3).2.1,st4,own'),⟨ho',j2.trans (A0.trans h4),?_,by grind,?_⟩,hd3,Yl,St.le_refl _⟩
    .grind
    .show Cc (l++[Bk (Ab s3).1]) (Ab s3).2.1=_
     rw [<-j7,cu (l:=l) hp]
   all_goals rw [<-j7,X8 ‹_›] at h
   all_goals unfold Hk at h
   all_goals dsimp only at h
   all_goals rw [hq5] at h
   .exact EH (AJ.BK ho') Ca (h st5 (j2.trans (A0.trans h5)))
   .exact EH (AJ.BK g5) rfl (h st5 (j2.trans (A0.trans h5)))
  |false=>
   rw [if_neg kw] at h
   replace h:EJ st b R (match LO Y n1 s1 with
    | .inl e=>(.inl e:Rs)
    | .inr r=>Hk (if 2<r.1.length then 5 else 4) r.1 r.2 [41]):=by
    unfold LO
    cases hy:Y s1 with
    |inl e=>simp_all
    |inr q=>grind
   have hbl:∀{l s2},LO Y n1 s1=.inr (l,s2)->s2.CF.length<=500000000/\l.length+1<=1000000000:=λe=>by
    have:=eT hF e
    exact ⟨E3 AC,AC⟩
   repeat' ((conv=>whnf);first|(refine Bv ?_;intros)|(refine Bw ?_ ?_<;>intro _)|refine FD hs hb (GL hq1 (λst1 h1=>?_))|refine cY hA h1.1 hb1 ?_|refine cY hC EP hb1 ?_|refine cY hE EP hb1 ?_|refine pJ hY h0 hB hF (n1:=n1) AC hm1 EP (eC (λl s2 hq2 st2 own1 h2 g2=>?_) (λe2 s2 hq2 st2 h2=>?_))|refine BV (λ_=>?_)|refine Rm (h2.1.hw own1 _) (hbl hq2).1 (Fe g2 h2.1 (F0 (λn3 s3 hq3 U h3 hg3=>?_) (λe3 s3 hq3 U h3 hg3=>?_)))|refine NT (l:=l) (x:=n3) hg3 (hbl hq2).2 (λown2 ho2=>?_))
   all_goals rw [hq2] at h
   all_goals dsimp only at h
   all_goals try unfold Hk at h
   all_goals try rw [hq3] at h
   all_goals have hu:=(((h1.trans A0).trans A0).trans A0).trans h2
   .rw [if_pos AC] at h
    exact EH (AJ.BK ho2) Ca (h U (hu.trans h3))
   .exact EH (AJ.BK hg3) rfl (h U (hu.trans h3))
   .rw [if_neg AC] at h
    exact EH (AJ.BK ho2) Ca (h U (hu.trans h3))
   .exact EH (AJ.BK hg3) rfl (h U (hu.trans h3))
   .exact fin (h st2 hu) rfl
end
theorem SN (h:d=0) (s:Ad):Dz d s=.inl (2,s):=by subst h;rfl
theorem UJ (hd:d+1<=1000000) (h:Dd 220 (d:Int) (Dz d)):De 362 ((d+1:Nat):Int) (C5 (Dz d)):=
 qY (oF rfl AC h (λe s=>SN e s) (E7 d) (Bo d)) (kK AC h (λe s=>SN e s) (E7 d) (Bo d))
theorem ML (hd:d+1<=1000000) (h:Dd 220 (d:Int) (Dz d)):De 296 ((d+1:Nat):Int) (Gq (C5 (Dz d))):=
 sx (UJ hd h) (BI (Bo d))
theorem NN (hd:d+1<=1000000) (h:Dd 220 (d:Int) (Dz d)):De 297 ((d+1:Nat):Int) (DQ (C5 (Dz d))):=
 pP (ML hd h) (UI (ML hd h) (BI (Bo d))) (BI (Bo d))
theorem Kl:∀d:Nat,d<=100->Dd 220 (d:Int) (Dz d)
 |0,_=>Zz λh=>absurd Do h
 |d+1,hd=>Zz λ_=>by
  rw [if_neg AC]
  exact NN AC (Kl d AC)
def Dt (deep:Int):Nat:=(if 100<deep then 100 else deep).toNat
theorem Tg (deep:Int):Dt deep<=100:=by unfold Dt;split<;>omega
theorem Tf {deep:Int} (h:¬deep<1):(if 100<deep then 100 else deep)=((Dt deep - 1+1:Nat):Int):=by unfold Dt;split<;>omega
theorem ub {deep:Int}:Dd 220 deep (DQ (C5 (Dz (Dt deep - 1)))):=Zz λh=>by
 rw [Tf h]
 have:=Tg deep
 exact NN AC (Kl _ AC)
theorem te {deep:Int}:Dd 406 deep (C5 (Dz (Dt deep - 1))):=mg λh=>by
 rw [Tf h]
 have:=Tg deep
 exact UJ AC (Kl _ AC)
theorem uJ {deep:Int}:Dd 219 deep (Gq (C5 (Dz (Dt deep - 1)))):=sw λh=>by
 rw [Tf h]
 have:=Tg deep
 exact ML AC (Kl _ AC)
def rn:Rs->Nd
 | .inr p=>p.1
 | .inl _=>Hz
def rs:Rs->Ad
 | .inr p=>p.2
 | .inl p=>p.2
def re:Rs->Int
 | .inr _=>0
 | .inl p=>p.1
theorem gN (q:Rs):gM q=mY (rn q) (rs q) (re q):=by cases q<;>rfl
def SU (f:FuncId) (d:Int) (A:Ad->Rs):Prop:=∀s,mu s<=100000000->∀(st:St) (R:AA->St->Prop),R (.ret (gM (A s))) st->PC f [DJ s,.int .i64 d] st R
theorem SU.e {f:FuncId} {d x:Int} {A:Ad->Rs} (h:SU f d A) (hx:x=d) {s:Ad} {q:Rs} (e:A s=q) (U:mu s<=100000000) {st:St} {R:AA->St->Prop} (k:R (.ret (gM q)) st):PC f [DJ s,.int .i64 x] st R:=by
 subst hx;subst e;exact h s U st R k
theorem SU.q {d x:Int} {A:Ad->Rs} (h:SU f d A) (hx:x=d) {s:Ad} (U:mu s<=100000000) {st:St} (k:R (.ret (mY (rn (A s)) (rs (A s)) (re (A s)))) st):PC f [DJ s,.int .i64 x] st R:=by
 subst hx;exact h s U st R (by rw [gN];exact k)
section
variable {st:St} {R:AA->St->Prop}
attribute [local irreducible] Go.Aw.Ah
theorem rB {d:Int} {A:Ad->Rs} (hr:De 296 d (Gq A)) (ha:XR 364 d (Dm A)) (hw:De 297 d (DQ A)) (hF:AR A):De 305 d (Gc A):=by
 intro s hm b st R hs h
 refine pB Tryz.func305 ?_
 unfold Gc at h
 have hm1:∀{n1 s1},Gq A s=.inr (n1,s1)->mu s1<=100000000:=λe=>by have:=FP hF _ _ _ e;omega
 have hm2:∀{n1 s1},Gq A s=.inr (n1,s1)->AU s1 10 [61,62]=true->mu (Ab s1).2.1<=100000000:=λe i=>by have:=hm1 e;have:=Cp i Do Do;omega
 repeat' ((conv=>whnf);first|exact Db|(refine Bv ?_;intros)|(refine Dc ?_ ?_ ?_;rotate_left)|(refine Bw ?_ ?_<;>intro _)|refine hr s hm b _ _ hs (DW (λn1 s1 U st1 h1=>?_) (λe1 s1 U st1 h1=>?_))|refine Yz h1.1 (E3 (hm1 U)) ?_|refine ha n1 s1 (hm1 U) b _ _ EP (DW (λn2 s2 hq2 st2 h2=>?_) (λe2 s2 hq2 st2 h2=>?_))|refine Af [(0,true),(1,true),(3,true),(4,true),(2,false),(5,false),(6,true),(7,true),(8,false)] [0] EQ ?_|refine FD EP (E3 (hm1 U)) (GL (GI ‹_› Do) (λst2 h2=>?_))|refine hw (Ab s1).2.1 (hm2 U ‹_›) b _ _ h2.1 (DW (λn3 s3 hq3 st3 h3=>?_) (λe3 s3 hq3 st3 h3=>?_))|with_reducible refine WF ?_)
 all_goals rw [U] at h
 all_goals dsimp only at h
 .rw [if_pos ‹_›,hq3] at h
  exact EH (St.le_refl _) (Ca (l:=[n1,Bk (Ab s1).1,n3])) (h st3 ((h1.trans A0).trans (h2.trans h3)))
 .rw [if_pos ‹_›,hq3] at h
  intro e'
  exact fin (h st3 ((h1.trans A0).trans (h2.trans h3))) rfl
 .rw [if_neg (Bool.eq_false_iff.1 ‹_›),hq2] at h
  exact BJ rfl (h st2 ((h1.trans A0).trans h2))
 .rw [if_neg (Bool.eq_false_iff.1 ‹_›),hq2] at h
  exact fin (h st2 ((h1.trans A0).trans h2)) rfl
 .exact fin (h st1 h1) rfl
theorem ix (hd:d+1<=1000000) (h:Dd 220 (d:Int) (Dz d)):De 305 ((d+1:Nat):Int) (Gc (C5 (Dz d))):=
 rB (ML hd h) (UI (ML hd h) (BI (Bo d))) (NN hd h) (BI (Bo d))
theorem qe {deep:Int}:Dd 231 deep (Gc (C5 (Dz (Dt deep - 1)))):=nx λh=>by
 rw [Tf h]
 have:=Tg deep
 exact ix AC (Kl _ AC)
end
mutual
def GD:Nd->List Tk
 | .mk k f t l c ks=>if k=1 then [⟨f,t,l,c⟩] else Cq ks
def Cq:List Nd->List Tk
 |[]=>[]
 |n::r=>GD n++Cq r
end
theorem Gl:∀{a b:List Nd},Cq (a++b)=Cq a++Cq b
 |[],b=>rfl
 |n::r,b=>by rw [List.cons_append,Cq,Cq,Gl,List.append_assoc]
theorem TF (t:Tk):GD (Bk t)=[t]:=rfl
theorem Mo (h:¬k=1):GD (Aq k l)=Cq l:=by unfold Aq;rw [GD,if_neg h]
theorem Ft:Cq [n]=GD n:=by rw [Cq,Cq,List.append_nil]
inductive Path:Ad->List Tk->Ad->Prop where
 |nil (s:Ad):Path s [] s
 |cons {s:Ad} {l:List Tk} {t:Ad}:(Ab s).2.2=0->mu (Ab s).2.1<mu s->Path (Ab s).2.1 l t->Path s ((Ab s).1::l) t
theorem Path.trans {s t u:Ad} {l m:List Tk} (h:Path s l t) (k:Path t m u):Path s (l++m) u:=by
 induction h with
 |nil s=>exact k
 |cons U h2 _ ih=>exact .cons U h2 (ih k)
theorem Path.one {s:Ad} (U:(Ab s).2.2=0) (h2:mu (Ab s).2.1<mu s):Path s [(Ab s).1] (Ab s).2.1:=.cons U h2 (.nil _)
theorem Path.is {s:Ad} (h:AU s k x=true) (U:k≠0) (h1:k≠21):Path s [(Ab s).1] (Ab s).2.1:=.one (CS h U) (Cp h U h1)
variable {A:Ad->Rs}
theorem jZ (l:List Nd) (s:Ad):∀q s',Gf A l s=.inr (q,s')->∃r,q=l++r:=by
 fun_induction Gf A l s with
 |case1 l s U e1 h2=>simp_all
 |case2 l s U p h2 h3 ih=>grind
 |case3 l s U p h2 h3=>simp_all
 |case4 l s U=>simp_all
section
variable {st:St} {R:AA->St->Prop}
attribute [local irreducible] Go.Aw.Ah
theorem Uc {a b:List Nd}:Dj (a++b)=Dj a+Dj b:=by
 induction a with
 |nil=>simp [Dj]
 |cons x r U=>rw [List.cons_append,Dj,Dj,U];omega
end
def l7 (k:Int):Nat:=if k=1 then 3 else if k=30 then 2 else 1
def OA:List Nd->Nat
 |[]=>0
 |n::r=>l7 n.kind+OA r
theorem oO (k:Int):1<=l7 k:=by
 unfold l7
 grind
theorem Jq:∀{a b:List Nd},OA (a++b)=OA a+OA b
 |[],b=>by rw [List.nil_append,OA,Nat.zero_add]
 |n::r,b=>by rw [List.cons_append,OA,OA,Jq];omega
theorem O8:∀{l:List Nd},l.length<=OA l
 |[]=>Nat.le_refl _
 |n::r=>by have:=O8 (l:=r);have:=oO n.kind;rw [OA,List.length_cons];omega
def Gr (t:Tk):Bool:=t.kind==18||t.kind==19||t.kind==20||(t.kind==15&&(t.text==[123]||t.text==[125]||t.text==[59]))
inductive Ba:List Nd->Ad->Ad->Prop where
 |nil (s:Ad):Ba [] s s
 |app {l m:List Nd} {s s1 s2:Ad}:Ba l s s1->Ba m s1 s2->Ba (l++m) s s2
 |tok {s:Ad}:(Ab s).2.2=0->(Ab s).1.kind<18->(Ab s).1.kind≠0->Ba [Bk (Ab s).1] s (Ab s).2.1
 |skip {s:Ad}:(Ab s).2.2=0->Gr (Ab s).1=true->Ba [] s (Ab s).2.1
 |close {s:Ad}:(C0 s).2=true->Ba [] s (C0 s).1
 |node {k:Int} {l:List Nd} {s s':Ad}:Ba l s s'->k≠1->1+l7 k<=OA l->Ba [Aq k l] s s'
 |block {f:Bool} {l:List Nd} {s s':Ad}:(Ab s).2.2=0->Gr (Ab s).1=true->Ba l (Ab s).2.1 s'->Ba [BB f l] s s'
theorem OR {t:Tk} (h:Gr t=true):t.kind≠0/\t.kind≠21:=by
 unfold Gr at h
 grind
theorem Ba.size {l:List Nd} {s s':Ad} (h:Ba l s s'):Dj l+OA l+4*mu s'<=4*mu s:=by
 induction h with
 |nil s=>simp only [Dj,OA];omega
 |app _ _ U h2=>rw [Uc,Jq];omega
 |tok U h2 h3=>
  rename_i s
  have:=(Ep U).2 AC
  have e:Dj [Bk (Ab s).1]+OA [Bk (Ab s).1]=4:=rfl
  omega
 |skip U h2=>have:=(Ep U).1;simp only [Dj,OA];omega
 |close U=>have:=Na U;simp only [Dj,OA];omega
 |node U h2 h3 ih=>
  rename_i k l s s'
  have e:Dj [Aq k l]+OA [Aq k l]=(1+Dj l+0)+(l7 k+0):=by simp only [Aq,Dj,Nd.size,OA];rfl
  omega
 |block U h2 h3 ih=>
  rename_i f l s s'
  have:=(Ep U).2 (OR h2).2
  have e:Dj [BB f l]+OA [BB f l]=(1+Dj l+0)+(1+0):=by simp only [BB,Dj,Nd.size,OA];rfl
  omega
theorem Ba.tU {s:Ad} (h:Ba [n] s s'):n.size+4*mu s'<=4*mu s:=by
 have:=h.size
 simp only [Dj] at this
 omega
theorem Ba.two {s:Ad} (h:Ba l s s') (hk:k≠1) (U:k≠30) (hl:2<=l.length):Ba [Aq k l] s s':=
 .node h hk (by have:=O8 (l:=l);unfold l7;grind)
theorem Ba.is {s:Ad} (h:AU s k x=true) (U:k≠0) (h1:k<18):Ba [Bk (Ab s).1] s (Ab s).2.1:=by
 have e:(Ab s).1.kind=k:=by
  unfold AU at h
  simp only [Bool.and_eq_true,beq_iff_eq] at h
  exact h.1
 exact .tok (CS h U) AC AC
theorem Ba.cons {s s1 s2:Ad} (h:Ba [n] s s1) (k:Ba l s1 s2):Ba (n::l) s s2:=.app h k
theorem Ba.snoc {s s1 s2:Ad} (h:Ba l s s1) (k:Ba [n] s1 s2):Ba (l++[n]) s s2:=.app h k
theorem Ba.one {s:Ad} (h:Ba l s s') (hk:k≠1) (U:k≠30) (hl:1<=l.length):Ba [LC k l] s s':=by
 unfold LC
 split
 .match l,‹l.length=1› with
  |[x],_=>exact h
 .exact h.two hk U AC
def Dl (A:Ad->Rs):Prop:=∀s n s',A s=.inr (n,s')->Ba [n] s s'
variable {A:Ad->Rs}
theorem KR {t:Tk} (h:BE t=true):t.kind≠0/\t.kind<18:=by
 unfold BE at h
 grind
theorem Tl {s:Ad} (hs:BE (Ab s).1=true) (h:Dk s=.inr (n,s')):Ba [n] s s':=by
 have U:=KR hs
 unfold Dk at h
 split at h
 .rename_i e;cases h;exact .tok e U.2 U.1
 grind
theorem mQ {s:Ad} (U:k≠0) (h1:k<18) (h:Kn s k x=.inr (n,s')):Ba [n] s s':=by
 unfold Kn at h
 split at h
 .rename_i e
  rw [GI e U] at h
  cases h
  exact .is e U h1
 .cases h
theorem PO {s:Ad} {s0:Ad} (hk:k≠1) (U:k≠30) (hl:1<=l.length) (h0:Ba l s0 s) (h:Hk k l s x=.inr (n,s')):Ba [n] s0 s':=by
 unfold Hk at h
 split at h
 .cases h
 .rename_i p hp
  cases h
  exact (h0.snoc (mQ Do Do hp)).two hk U kw
theorem mP (hA:Dl A) (l:List Nd) (s:Ad):∀s0 q s',Ba l s0 s->Gf A l s=.inr (q,s')->Ba q s0 s':=by
 fun_induction Gf A l s with
 |case1 l s U e1 h2=>simp_all
 |case2 l s U p h2 h3 ih=>intro s0 q s' h0 h;exact ih s0 q s' (h0.snoc (hA s p.1 p.2 h2)) h
 |case3 l s U p h2 h3=>simp_all
 |case4 l s U=>simp_all
theorem Ya (U:Dl A):Dl (Gq A):=λs n s' h=>by
 unfold Gq at h
 split at h
 .cases h
 .rename_i p hp
  have h1:=U s p.1 p.2 hp
  split at h
  .cases h
  .rename_i q hq
   have h2:=mP U _ _ _ _ _ h1 hq
   obtain ⟨r,hr⟩:=jZ _ _ _ _ hq
   split at h
   .simp_all
   .rename_i hl
    cases h
    exact h2.two Do Do (by grind)
theorem mN (hA:Dl A) (l:List Nd) (s:Ad):∀s0 q s',Ba l s0 s->Gu A l s=.inr (q,s')->Ba q s0 s'/\∃r,q=l++r:=by
 fun_induction Gu A l s with
 |case1 l s U e1 h2=>simp_all
 |case2 l s U p h2 h3 ih=>
  intro s0 q s' h0 h
  obtain ⟨k1,r,k2⟩:=ih s0 q s' (.app h0 (.cons (.is U Do Do) (Ya hA _ p.1 p.2 h2))) h
  simp_all
 |case3 l s U p h2 h3=>simp_all
 |case4 l s U=>simp_all
theorem R3 (hA:Dl A) {U:Nd} {s0 s:Ad} (h0:Ba [n] s0 s) (h:Dm A n s=.inr (U,s')):Ba [U] s0 s':=by
 unfold Dm at h
 split at h
 .cases h
 .rename_i q hq
  obtain ⟨k1,r,k3⟩:=mN hA _ _ _ _ _ h0 hq
  split at h
  .simp_all
  .rename_i hl
   cases h
   exact k1.two Do Do (by grind)
theorem UY (U:Dl A):Dl (DQ A):=λs n s' h=>by
 unfold DQ at h
 split at h
 .cases h
 .rename_i p hp
  exact R3 U (Ya U _ p.1 p.2 hp) h
theorem mO (U:Dl A):Dl (Gc A):=λs n s' h=>by
 unfold Gc at h
 split at h
 .cases h
 .rename_i p hp
  have h1:=Ya U _ p.1 p.2 hp
  split at h
  .rename_i hi
   split at h
   .cases h
   .rename_i q hq
    cases h
    exact (h1.cons (.cons (.is hi Do Do) (UY U _ q.1 q.2 hq))).two Do Do (Nat.le_of_ble_eq_true rfl)
  .exact R3 U h1 h
theorem cB (hA:Dl A) (l:List Nd) (s:Ad):∀s0 q s',Ba l s0 s->1<=l.length->CD A l s=.inr (q,s')->Ba q s0 s'/\1<=q.length:=by
 fun_induction CD A l s with
 |case1 l s U e1 h2=>simp_all
 |case2 l s U p h2 h3 ih=>
  intro s0 q s' h0 hl h
  exact ih s0 q s' (.app h0 (.cons (.is U Do Do) (hA _ p.1 p.2 h2))) kw h
 |case3 l s U p h2 h3=>simp_all
 |case4 l s U=>grind
theorem gz (l:List Nd) (s:Ad):∀s0,Ba l s0 s->1<=l.length->Ba (Cc l s).1 s0 (Cc l s).2/\1<=(Cc l s).1.length:=by
 fun_induction Cc l s with
 |case1 l s U h2 ih=>intro s0 h0 hl;exact ih s0 (h0.snoc (.is U Do Do)) kw
 |case2 l s U h2=>simp_all
 |case3 l s U=>simp_all
theorem gA (hA:Dl A) {s:Ad} (hs:BE (Ab s).1=true) (h:Fy A s=.inr (n,s')):Ba [n] s s':=by
 unfold Fy at h
 split at h
 .cases h
 .rename_i p hp
  have U:=Tl hs (n:=p.1) (s':=p.2) hp
  split at h
  .rename_i hi
   exact PO Do Do (Nat.le_of_ble_eq_true rfl) (U.cons (.is hi Do Do)) h
  split at h
  .exact PO Do Do (Nat.le_of_ble_eq_true rfl) U h
  split at h
  .obtain ⟨k1,k2⟩:=gz [p.1] p.2 s U (Nat.le_of_ble_eq_true rfl)
   exact PO Do Do k2 k1 h
  split at h
  .cases h
  .rename_i q hq
   have h2:=hA _ q.1 q.2 hq
   split at h
   .cases h
   .rename_i r hr
    obtain ⟨k1,k2⟩:=cB hA _ _ _ _ _ (U.cons h2) (Nat.le_of_ble_eq_true rfl) hr
    exact PO AC AC k2 k1 h
theorem cA (hA:Dl A) {s:Ad} (hs:BE (Ab s).1=true) (h:D4 A s=.inr (n,s')):Ba [n] s s':=by
 unfold D4 at h
 split at h
 .cases h
 .rename_i p hp
  have U:=Tl hs (n:=p.1) (s':=p.2) hp
  split at h
  .rename_i hi
   cases h
   exact (U.cons (.is hi Do Do)).two Do Do (Nat.le_of_ble_eq_true rfl)
  split at h
  .cases h
  .rename_i q hq
   exact PO Do Do (Nat.le_of_ble_eq_true rfl) (U.cons (hA _ q.1 q.2 hq)) h
theorem Z1 (U:Dl A):Dl (C5 A):=λs n s' h=>by
 unfold C5 at h
 split at h
 .rename_i hs
  split at h
  .split at h
   .exact gA U hs h
   .exact cA U hs h
  .exact Tl hs h
 .cases h
theorem Z2:∀d,Dl (Dz d)
 |0=>λs n s' h=>by cases h
 |d+1=>UY (Z1 (Z2 d))
namespace Rd
variable {α β γ σ:Type}
def Ap (a b:Rd α):Prop:=∀s,(∃e t,a.run s=.inl (e,t)/\e.1=2)\/b.run s=a.run s
theorem Ap.dF {a:Rd α}:Ap a a:=λ_=>.inr rfl
theorem Ap.trans {a b c:Rd α} (h:Ap a b) (k:Ap b c):Ap a c:=λs=>by
 rcases h s with h|h
 .exact .inl h
 .rcases k s with ⟨e,t,k,U⟩|k
  .exact .inl ⟨e,t,h ▸ k,U⟩
  .exact .inr (k.trans h)
theorem Ap.seq {m m':Rd α} {k U:α->Rd β} (h:Ap m m') (hk:∀v,Ap (k v) (U v)):Ap (seq m k) (seq m' U):=λs=>by
 unfold Rd.seq
 dsimp only
 rcases h s with ⟨e,t,h,he⟩|h
 .left;rw [h];exact ⟨e,t,rfl,he⟩
 .rw [h]
  cases m.run s with
  |inl e=>exact .inr rfl
  |inr p=>exact hk p.1 p.2
theorem Ap.look {f U:Ad->Rd α} (h:∀s,Ap (f s) (U s)):Ap (look f) (look U):=λs=>h s s
theorem Ap.ite {c:Prop} [Decidable c] {a b U b':Rd α} (h1:Ap a U) (h2:Ap b b'):Ap (if c then a else b) (if c then U else b'):=by split<;>assumption
theorem Ap.deep {b:Rd α}:Ap (fail Hu) b:=λs=>.inl ⟨Hu,s,rfl,rfl⟩
theorem Ap.loop {body U:σ->Rd (Sum σ β)} (h:∀x,Ap (body x) (U x)) (x:σ):Ap (loop body x) (loop U x):=λs=>by
 show (∃e t,iter body x s=.inl (e,t)/\e.1=2)\/iter U x s=iter body x s
 fun_induction iter body x s with
 |case1 x s e h1=>
  rcases h x s with ⟨e',t,h2,he⟩|h2
  .rw [h1] at h2;cases h2;exact .inl ⟨_,_,rfl,he⟩
  .right;rw [iter,h2,h1]
 |case2 x s y s1 h1=>
  rcases h x s with ⟨e',t,h2,he⟩|h2
  .rw [h1] at h2;cases h2
  .right;rw [iter,h2,h1]
 |case3 x s x' s1 h1 hlt ih=>
  rcases h x s with ⟨e',t,h2,he⟩|h2
  .rw [h1] at h2;cases h2
  .have e:iter U x s=iter U x' s1:=by
    rw [iter,h2,h1];dsimp only;rw [if_pos hlt]
   rw [e];exact ih
 |case4 x s x' s1 h1 hlt=>exact .inl ⟨_,_,rfl,rfl⟩
end Rd
open Rd (Ap)
structure uT (L L':EX):Prop where
 atom:Ap L.atom L'.atom
 exp:Ap L.exp L'.exp
 ops:Ap L.ops L'.ops
 decls:Ap L.decls L'.decls
 stmts:Ap L.stmts L'.stmts
 alts:Ap L.alts L'.alts
 DT:∀o,Ap (L.DT o) (L'.DT o)
 list:∀o,Ap (L.list o) (L'.list o)
def Fg:Er->Ad->Prop:=λ_ _=>True
def Dv (A:Rd Nd):Prop:=∀s,Rd.wp A s (λn s'=>Ba [n] s s') Fg
theorem Dv.at {A:Rd Nd} (h:Dv A) {s s':Ad} {n:Nd} (e:A.run s=.inr (n,s')):Ba [n] s s':=by
 have:=h s
 unfold Rd.wp at this
 simp_all
theorem Dv.of {A:Rd Nd} (h:∀s n s',A.run s=.inr (n,s')->Ba [n] s s'):Dv A:=λs=>Rd.XK (λn s' e=>h s n s' e) (λ_ _ _=>trivial)
theorem Dv.size {A:Rd Nd} (h:Dv A) {s s':Ad} {n:Nd} (e:A.run s=.inr (n,s')):n.size+4*mu s'<=4*mu s:=(h.at e).tU
theorem BN {c:Prop} [Decidable c] {Q:Prop} (U:c->P) (h2:¬c->Q):if c then P else Q:=kw
structure Real (s:Ad):Prop where
 ok:(Ab s).2.2=0
 lt:(Ab s).1.kind<18
 ne:(Ab s).1.kind≠0
section
variable {A B C:Rd Nd} {s s0 s1 s2 s':Ad} {Q:Nd->Ad->Prop} {L:EX}
theorem BA (h:AU s k x=true) (U:k≠0) (h1:k<18):Real s:=by
 have e:(Ab s).1.kind=k:=by
  unfold AU at h
  simp only [Bool.and_eq_true,beq_iff_eq] at h
  exact h.1
 exact ⟨CS h U,AC,AC⟩
theorem MH (h:(Ab s).1.kind≠0) (U:(Ab s).1.kind<18):Real s:=⟨Dn h,U,h⟩
theorem DN (h:((Ab s).1.kind==k)=true) (U:k≠0) (h1:k<18):Real s:=by
 rw [beq_iff_eq] at h;exact MH AC AC
theorem Et (h:B5 (Ab s).1=true):Real s:=by
 unfold B5 at h
 simp only [Bool.or_eq_true,Bool.and_eq_true,beq_iff_eq] at h
 exact MH AC AC
theorem Ev (h:Iw (Ab s).1=true):Real s:=by
 unfold Iw at h
 simp only [Bool.or_eq_true,Bool.and_eq_true,beq_iff_eq] at h
 exact MH AC AC
theorem Eu (h:Eb (Ab s).1=true):Real s:=by
 unfold Eb at h
 simp only [Bool.or_eq_true,Bool.and_eq_true,beq_iff_eq] at h
 exact MH AC AC
theorem R8 {t:Tk} (h:CG t=true):Gr t=true:=by
 unfold CG at h
 unfold Gr
 grind
theorem HW (U:Dv A) (k:∀n s1,Ba [n] s s1->Q n s1):Rd.wp A s Q Fg:=Rd.wp_mono (U s) (λn s1 _ h=>k n s1 h) (λ_ _ _ _=>trivial)
theorem CH (U:Real s) (k:Ba [Bk (Ab s).1] s (Ab s).2.1->Q (Bk (Ab s).1) (Ab s).2.1):Rd.wp Ay s Q Fg:=by
 unfold Rd.wp
 rw [Bu U.ok]
 exact k (.tok U.ok U.lt U.ne)
theorem Rt (U:k≠0) (h1:k<18) (kk:∀n s1,Ba [n] s s1->Q n s1):Rd.wp (Bc k x) s Q Fg:=by
 unfold Bc
 rw [Rd.Al,Rd.AD]
 exact BN (λe=>CH (BA e U h1) (kk _ _)) (λ_=>trivial)
theorem cC (U:(ks.all λk=>decide (k≠0)&&decide (k<18))=true) (kk:∀n s1,Ba [n] s s1->Q n s1):Rd.wp (Di ks) s Q Fg:=by
 unfold Di
 rw [Rd.Al,Rd.AD]
 refine BN (λe=>?_) (λ_=>trivial)
 have:=List.all_eq_true.1 U _ (List.contains_iff_mem.1 e)
 simp only [Bool.and_eq_true,decide_eq_true_eq] at this
 exact CH (MH this.1 this.2) (kk _ _)
theorem uq {Q:Unit->Ad->Prop} (hi:Gr (Ab s).1=true) (k:Ba [] s (Ab s).2.1->Q () (Ab s).2.1):Rd.wp DG s Q Fg:=by
 have e:=Dn (OR hi).1
 unfold DG
 rw [Rd.wp_seq]
 unfold Rd.wp
 rw [Bu e]
 exact k (.skip e hi)
theorem E2 {σ:Type} {body:σ->Rd (Sum σ β)} {P:σ->Ad->Prop} {Q:β->Ad->Prop} (hb:∀x s,P x s->Rd.wp (body x) s (λr s'=>match r with| .inl x'=>P x' s'| .inr y=>Q y s') Fg) {x:σ} {s:Ad} (h0:P x s):Rd.wp (Rd.loop body x) s Q Fg:=by
 have:∀y s',(Rd.loop body x).run s=.inr (y,s')->Q y s':=by
  show ∀y s',Rd.iter body x s=.inr (y,s')->Q y s'
  fun_induction Rd.iter body x s with
  |case1 x s e h=>simp_all
  |case2 x s y s1 h=>
   intro y' s' h';cases h'
   have:=hb x s h0
   unfold Rd.wp at this
   simp_all
  |case3 x s x' s1 h U ih=>
   have:=hb x s h0
   unfold Rd.wp at this
   simp_all
  |case4 x s x' s1 h U=>simp_all
 exact Rd.XK this (λ_ _ _=>trivial)
theorem Ba.iM {t:Tk} (h:Ba [Bk t] s s') (hk:k≠1) (U:k≠30):Ba [Aq k [Bk t]] s s':=.node h hk (by
 have:OA [Bk t]=3:=rfl
 unfold l7;simp_all)
theorem Ba.gd (h:Ba l s s') (U:3<=l.length):Ba [Aq 30 l] s s':=.node h Do (by have:=O8 (l:=l);have:l7 30=2:=rfl;omega)
theorem Ba.Hq {m:Nd} (h:Ba [n] s s1) (k:Ba (m::l) s1 s2):Ba (n::m::l) s s2:=.app h k
theorem Ba.pass (h:Ba l s s1) (k:Ba [] s1 s2):Ba l s s2:=by
 have:=Ba.app h k
 simp_all
theorem Ba.pre (h:Ba [] s s1) (k:Ba l s1 s2):Ba l s s2:=Ba.app h k
theorem Ce {l:List α} {a b:α}:2<=(l++[a]++[b]).length:=kw
structure LR (L:EX):Prop where
 atom:Dv L.atom
 exp:Dv L.exp
 ops:Dv L.ops
 decls:Dv L.decls
 stmts:Dv L.stmts
 alts:Dv L.alts
 DT:∀o s,Rd.wp (L.DT o) s (λn s'=>∀s0,Ba [o] s0 s->Ba [n] s0 s') Fg
 list:∀o s,Rd.wp (L.list o) s (λn s'=>∀s0,Ba [o] s0 s->Ba [n] s0 s') Fg
theorem uY {o:Nd} {B:Nd->Rd Nd} (hB:∀o s,Rd.wp (B o) s (λn s'=>∀s0,Ba [o] s0 s->Ba [n] s0 s') Fg) (U:Ba [o] s0 s) (k:∀n s1,Ba [n] s0 s1->Q n s1):Rd.wp (B o) s Q Fg:=
 Rd.wp_mono (hB o s) (λn s1 _ h=>k n s1 (h s0 U)) (λ_ _ _ _=>trivial)
theorem Tn:Dv HA:=λs=>by
 simp only [HA,Rd.Al,Rd.AD,Rd.wp_seq,Rd.wp_ret]
 repeat' (first
  |exact trivial
  |assumption
  |refine BN (λe=>?_) (λe=>?_)
  |refine CH (BA ‹_› Do Do) (λhn=>?_)
  |refine CH (DN ‹_› Do Do) (λhn=>?_)
  |refine CH (Et ‹_›) (λhn=>?_)
  |refine CH (Ev ‹_›) (λhn=>?_)
  |refine CH (Eu ‹_›) (λhn=>?_)
  |refine CH ‹_› (λhn=>?_)
  |refine Rt Do Do (λn s1 hn=>?_)
  |refine cC Do (λn s1 hn=>?_)
  |refine HW ‹_› (λn s1 hn=>?_)
  |exact Ba.iM ‹_› Do Do
  |refine Ba.two ?_ Do Do (by first|exact Nat.le_of_ble_eq_true rfl|exact Ce|(simp only [List.length_append,List.length_cons,List.length_nil];omega))
  |apply Ba.Hq
  |apply Ba.app)
theorem Nc (U:Dv A):Dv (CX A p):=λs=>by
 simp only [CX,Rd.Al,Rd.AD,Rd.wp_seq,Rd.wp_ret,Rd.GX]
 repeat' (first
  |exact trivial
  |assumption
  |refine BN (λe=>?_) (λe=>?_)
  |refine CH (BA ‹_› Do Do) (λhn=>?_)
  |refine CH (DN ‹_› Do Do) (λhn=>?_)
  |refine CH (Et ‹_›) (λhn=>?_)
  |refine CH (Ev ‹_›) (λhn=>?_)
  |refine CH (Eu ‹_›) (λhn=>?_)
  |refine CH ‹_› (λhn=>?_)
  |refine Rt Do Do (λn s1 hn=>?_)
  |refine cC Do (λn s1 hn=>?_)
  |refine HW ‹_› (λn s1 hn=>?_)
  |refine Ba.two ?_ Do Do (by first|exact Nat.le_of_ble_eq_true rfl|exact Ce|(simp only [List.length_append,List.length_cons,List.length_nil];omega))
  |apply Ba.Hq
  |apply Ba.app)
theorem gD {Q:List Nd->Ad->Prop} (U:Ba l s0 s) (k:∀l s1,Ba l s0 s1->Q l s1):Rd.wp (Qp l) s Q Fg:=by
 refine E2 (P:=λl s=>Ba l s0 s) (λl s U=>?_) U
 simp only [YO,Rd.Al,Rd.AD,Rd.wp_seq,Rd.wp_ret]
 repeat' (first
  |exact trivial
  |assumption
  |refine BN (λe=>?_) (λe=>?_)
  |refine CH (BA ‹_› Do Do) (λhn=>?_)
  |refine CH (DN ‹_› Do Do) (λhn=>?_)
  |refine CH (Et ‹_›) (λhn=>?_)
  |refine CH (Ev ‹_›) (λhn=>?_)
  |refine CH (Eu ‹_›) (λhn=>?_)
  |refine CH ‹_› (λhn=>?_)
  |refine Rt Do Do (λn s1 hn=>?_)
  |refine cC Do (λn s1 hn=>?_)
  |refine HW ‹_› (λn s1 hn=>?_)
  |exact Ba.snoc U (Ba.iM ‹_› Do Do)
  |exact k _ _ U
  |refine Ba.two ?_ Do Do (by first|exact Nat.le_of_ble_eq_true rfl|exact Ce|(simp only [List.length_append,List.length_cons,List.length_nil];omega))
  |apply Ba.Hq
  |apply Ba.app)
theorem gG {b:Bool} {Q:List Nd×Bool->Ad->Prop} (hA:Dv A) (k:∀l b s1,1<=l.length->(b=true->2<=l.length/\AU s1 15 [41]=true)->Ba l s s1->Q (l,b) s1):Rd.wp (N0 A b) s Q Fg:=by
 refine E2 (P:=λl s1=>Ba l s s1) (λl s1 h0=>?_) (Ba.nil s)
 simp only [jX,Rd.Al,Rd.AD,Rd.wp_seq,Rd.wp_ret]
 refine gD h0 (λl s1 h0=>?_)
 have ho:=Tn
 refine HW hA (λn s2 hn=>?_)
 refine BN (λe=>?_) (λe=>k _ _ _ kw (λh=>by cases h) (h0.snoc hn))
 refine HW ho (λo s3 U=>?_)
 exact BN (λ_=>BN (λe=>k _ _ _ (Nat.le_trans Do Ce) (λ_=>⟨Ce,e⟩) ((h0.snoc hn).snoc U)) λe=>(h0.snoc hn).snoc U) λe=>(h0.snoc hn).snoc U
theorem PT (hA:Dv A):Dv (Y0 A):=λs=>by
 simp only [Y0,Rd.wp_seq,Rd.wp_ret]
 exact gG hA λl b s1 U _ h=>h.one Do Do U
theorem U2 (hA:Dv A) (U:Ba [n] s0 s) (k:∀n s1,Ba [n] s0 s1->Q n s1):Rd.wp (Km A n) s Q Fg:=by
 simp only [Km,Rd.Al,Rd.AD,Rd.wp_seq,Rd.wp_ret]
 repeat' (first
  |exact trivial
  |assumption
  |refine BN (λe=>?_) (λe=>?_)
  |refine CH (BA ‹_› Do Do) (λhn=>?_)
  |refine CH (DN ‹_› Do Do) (λhn=>?_)
  |refine CH (Et ‹_›) (λhn=>?_)
  |refine CH (Ev ‹_›) (λhn=>?_)
  |refine CH (Eu ‹_›) (λhn=>?_)
  |refine CH ‹_› (λhn=>?_)
  |refine Rt Do Do (λn s1 hn=>?_)
  |refine cC Do (λn s1 hn=>?_)
  |refine HW ‹_› (λn s1 hn=>?_)
  |refine k _ _ ?_
  |refine Ba.two ?_ Do Do (by first|exact Nat.le_of_ble_eq_true rfl|exact Ce|(simp only [List.length_append,List.length_cons,List.length_nil];omega))
  |apply Ba.Hq
  |apply Ba.app)
theorem rj (U:Dv A) (hB:Dv B):Dv (cN A B):=λs=>by
 simp only [cN,Rd.wp_seq]
 exact HW (PT U) λn s1 h=>U2 hB h λn s1 h=>h
theorem U0 {a b:Nd} (hL:LR L) (U:Ba [a,b] s0 s) (k:∀n s1,Ba [n] s0 s1->Q n s1):Rd.wp (J5 L a b) s Q Fg:=by
 have h1:=hL.exp
 simp only [J5,Rd.wp_seq,Rd.wp_ret]
 repeat' (first
  |exact trivial
  |assumption
  |refine BN (λe=>?_) (λe=>?_)
  |refine CH (BA ‹_› Do Do) (λhn=>?_)
  |refine CH (DN ‹_› Do Do) (λhn=>?_)
  |refine CH (Et ‹_›) (λhn=>?_)
  |refine CH (Ev ‹_›) (λhn=>?_)
  |refine CH (Eu ‹_›) (λhn=>?_)
  |refine CH ‹_› (λhn=>?_)
  |refine Rt Do Do (λn s1 hn=>?_)
  |refine cC Do (λn s1 hn=>?_)
  |refine HW ‹_› (λn s1 hn=>?_)
  |exact k _ _ (Ba.two (l:=[a,b,_,_]) (Ba.app U (Ba.Hq ‹_› ‹_›)) Do Do (Nat.le_of_ble_eq_true rfl))
  |refine Ba.two ?_ Do Do (by first|exact Nat.le_of_ble_eq_true rfl|exact Ce|(simp only [List.length_append,List.length_cons,List.length_nil];omega))
  |apply Ba.Hq
  |apply Ba.app)
theorem cF (hL:LR L) (hA:Dv A) (hr:Real s) (k:∀n s1,Ba [n] s s1->Q n s1):Rd.wp (I7 L A) s Q Fg:=by
 have h1:=hL.exp
 simp only [I7,Rd.wp_seq]
 refine CH hr λU=>?_
 refine E2 (P:=λl s1=>Ba l s s1) (λl s1 U=>?_) U
 .have h2:=Nc (p:=JD) hA
  simp only [TC,KE,Rd.Al,Rd.AD,Rd.wp_seq,Rd.wp_ret]
  repeat' (first
   |exact trivial
   |assumption
   |refine BN (λe=>?_) (λe=>?_)
   |refine CH (BA ‹_› Do Do) (λhn=>?_)
   |refine CH (DN ‹_› Do Do) (λhn=>?_)
   |refine CH (Et ‹_›) (λhn=>?_)
   |refine CH (Ev ‹_›) (λhn=>?_)
   |refine CH (Eu ‹_›) (λhn=>?_)
   |refine CH ‹_› (λhn=>?_)
   |refine Rt Do Do (λn s1 hn=>?_)
   |refine cC Do (λn s1 hn=>?_)
   |refine HW ‹_› (λn s1 hn=>?_)
   |exact k _ _ (Ba.two (Ba.snoc (Ba.snoc U ‹_›) ‹_›) Do Do Ce)
   |refine Ba.two ?_ Do Do (by first|exact Nat.le_of_ble_eq_true rfl|exact Ce|(simp only [List.length_append,List.length_cons,List.length_nil];omega))
   |apply Ba.Hq
   |apply Ba.app)
theorem mV {Q:Unit->Ad->Prop} (k:∀s1,Ba [] s s1->Q () s1):Rd.wp (Sv w) s Q Fg:=by
 simp only [Sv,Rd.Al,Rd.AD,Rd.wp_ret]
 exact BN (λe=>BN (λ_=>uq (R8 e) (k _)) λ_=>k _ (.nil _)) λ_=>k _ (.nil _)
theorem Z7 {Q:List Nd->Ad->Prop} (hL:LR L) (U:Ba l s0 s) (k:∀a e s1,Ba (l++[a]++[e]) s0 s1->Q (l++[a]++[e]) s1):Rd.wp (Le L l w) s Q Fg:=by
 have h1:=hL.exp
 simp only [Le,Rd.wp_seq,Rd.wp_ret]
 refine mV λs1 hs=>?_
 have U:=U.pass hs
 repeat' (first
  |exact trivial
  |assumption
  |refine BN (λe=>?_) (λe=>?_)
  |refine CH (BA ‹_› Do Do) (λhn=>?_)
  |refine CH (DN ‹_› Do Do) (λhn=>?_)
  |refine CH (Et ‹_›) (λhn=>?_)
  |refine CH (Ev ‹_›) (λhn=>?_)
  |refine CH (Eu ‹_›) (λhn=>?_)
  |refine CH ‹_› (λhn=>?_)
  |refine Rt Do Do (λn s1 hn=>?_)
  |refine cC Do (λn s1 hn=>?_)
  |refine HW ‹_› (λn s1 hn=>?_)
  |refine k _ _ _ ?_
  |refine Ba.two ?_ Do Do (by first|exact Nat.le_of_ble_eq_true rfl|exact Ce|(simp only [List.length_append,List.length_cons,List.length_nil];omega))
  |apply Ba.Hq
  |apply Ba.app)
theorem cD (hL:LR L) (hr:Real s) (k:∀n s1,Ba [n] s s1->Q n s1):Rd.wp (II L) s Q Fg:=by
 have h1:=hL.exp
 simp only [II,Rd.wp_seq,Rd.wp_ret]
 refine CH hr λU=>?_
 refine HW h1 λc s1 hc=>?_
 exact Z7 hL (U.cons hc) λa e s2 h2=>Z7 hL h2 λa e s3 h3=>k _ _ (h3.two Do Do Ce)
theorem mS (hL:LR L) (U:Real s) (k:∀n s1,Ba [n] s s1->Q n s1):Rd.wp (RQ L) s Q Fg:=by
 have h1:=hL.exp
 have h2:=hL.alts
 simp only [RQ,Rd.wp_seq,Rd.wp_ret]
 refine CH U λh0=>?_
 repeat' (first
  |exact trivial
  |assumption
  |refine BN (λe=>?_) (λe=>?_)
  |refine CH (BA ‹_› Do Do) (λhn=>?_)
  |refine CH (DN ‹_› Do Do) (λhn=>?_)
  |refine CH (Et ‹_›) (λhn=>?_)
  |refine CH (Ev ‹_›) (λhn=>?_)
  |refine CH (Eu ‹_›) (λhn=>?_)
  |refine CH ‹_› (λhn=>?_)
  |refine Rt Do Do (λn s1 hn=>?_)
  |refine cC Do (λn s1 hn=>?_)
  |refine HW ‹_› (λn s1 hn=>?_)
  |refine k _ _ ?_
  |refine Ba.two ?_ Do Do (by first|exact Nat.le_of_ble_eq_true rfl|exact Ce|(simp only [List.length_append,List.length_cons,List.length_nil];omega))
  |apply Ba.Hq
  |apply Ba.app)
theorem gJ (hL:LR L) (U:Real s) (k:∀n s1,Ba [n] s s1->Q n s1):Rd.wp (LK L) s Q Fg:=by
 have h1:=hL.stmts
 simp only [LK,Rd.wp_seq,Rd.wp_ret,Rd.AD,Rd.D5]
 refine CH U λh0=>?_
 repeat' (first
  |exact trivial
  |assumption
  |refine BN (λe=>?_) (λe=>?_)
  |refine CH (BA ‹_› Do Do) (λhn=>?_)
  |refine CH (DN ‹_› Do Do) (λhn=>?_)
  |refine CH (Et ‹_›) (λhn=>?_)
  |refine CH (Ev ‹_›) (λhn=>?_)
  |refine CH (Eu ‹_›) (λhn=>?_)
  |refine CH ‹_› (λhn=>?_)
  |refine Rt Do Do (λn s1 hn=>?_)
  |refine cC Do (λn s1 hn=>?_)
  |refine HW ‹_› (λn s1 hn=>?_)
  |refine k _ _ ?_
  |refine Ba.two ?_ Do Do (by first|exact Nat.le_of_ble_eq_true rfl|exact Ce|(simp only [List.length_append,List.length_cons,List.length_nil];omega))
  |apply Ba.Hq
  |apply Ba.app)
theorem rk (hL:LR L) (hr:Real s) (k:∀n s1,Ba [n] s s1->Q n s1):Rd.wp (c9 L) s Q Fg:=by
 have h1:=hL.decls
 simp only [c9,Rd.wp_seq]
 refine CH hr λU=>?_
 exact HW h1 λb s1 hb=>U0 hL (U.cons hb) k
theorem gB (hA:Dv A) (k:∀n s1,Ba [n] s s1->Q n s1):Rd.wp (Ln A) s Q Fg:=by
 simp only [Ln,Rd.wp_seq,Rd.wp_ret]
 refine HW hA λn s1 hn=>?_
 refine E2 (P:=λl s1=>Ba l s s1/\1<=l.length) (λl s1 U=>?_) ⟨hn,Nat.le_refl _⟩
 obtain ⟨U,hl⟩:=U
 simp only [X0,Rd.Al,Rd.AD,Rd.wp_seq,Rd.wp_ret]
 exact BN (λ_=>HW hA λn s1 hn=>⟨U.snoc hn,kw⟩) λ_=>k _ _ (U.one Do Do hl)
theorem Yb (hL:LR L) (hA:Dv A):Dv (Ik L A):=λs=>by
 simp only [Ik,Rd.Al,Rd.AD]
 have U:=gB (s:=s) (Q:=λn s'=>Ba [n] s s') hA λ_ _ h=>h
 refine BN (λe=>BN (λ_=>cF hL hA (DN e Do Do) λ_ _ h=>h) λ_=>U) λ_=>BN (λe=>?_) λ_=>U
 have hr:=DN e Do Do
 exact BN (λ_=>rk hL hr λ_ _ h=>h) λ_=>BN (λ_=>cD hL hr λ_ _ h=>h) λ_=>BN (λ_=>mS hL hr λ_ _ h=>h) λ_=>BN (λ_=>gJ hL hr λ_ _ h=>h) λ_=>U
theorem Z6 {o:Nd} (U:Ba [o] s0 s) (k:∀n s1,Ba [n] s0 s1->Q n s1):Rd.wp (Qd o) s Q Fg:=by
 simp only [Qd,Rd.wp_seq,Rd.wp_ret]
 refine E2 (P:=λl s1=>Ba l s0 s1/\1<=l.length) (λl s1 U=>?_) ⟨U,Nat.le_refl _⟩
 obtain ⟨U,hl⟩:=U
 simp only [S9,Rd.Al,Rd.AD,Rd.wp_seq,Rd.wp_ret]
 exact BN (λe=>CH (BA e Do Do) λh=>⟨U.snoc h,kw⟩) λ_=>Rt Do Do λn s1 h=>k _ _ ((U.snoc h).two Do Do kw)
theorem cI {o:Nd} (hL:LR L) (U:Ba [o] s0 s) (k:∀n s1,Ba [n] s0 s1->Q n s1):Rd.wp (LG L o) s Q Fg:=by
 have h1:=hL.ops
 have h2:=Tn
 simp only [LG,Rd.Al,Rd.AD,Rd.wp_seq,Rd.wp_ret]
 repeat' (first
  |exact trivial
  |assumption
  |refine BN (λe=>?_) (λe=>?_)
  |refine CH (BA ‹_› Do Do) (λhn=>?_)
  |refine CH (DN ‹_› Do Do) (λhn=>?_)
  |refine CH (Et ‹_›) (λhn=>?_)
  |refine CH (Ev ‹_›) (λhn=>?_)
  |refine CH (Eu ‹_›) (λhn=>?_)
  |refine CH ‹_› (λhn=>?_)
  |refine Rt Do Do (λn s1 hn=>?_)
  |refine cC Do (λn s1 hn=>?_)
  |refine HW ‹_› (λn s1 hn=>?_)
  |exact uY hL.DT U k
  |refine k _ _ ?_
  |refine Ba.two ?_ Do Do (by first|exact Nat.le_of_ble_eq_true rfl|exact Ce|(simp only [List.length_append,List.length_cons,List.length_nil];omega))
  |apply Ba.Hq
  |apply Ba.app)
theorem cH {o:Nd} (hL:LR L) (U:Ba [o] s0 s) (k:∀n s1,Ba [n] s0 s1->Q n s1):Rd.wp (Nw L o) s Q Fg:=by
 simp only [Nw,Rd.Al,Rd.AD,Rd.wp_seq,Rd.wp_ret]
 have hc:=cI (Q:=Q) hL U k
 refine BN (λe=>BN (λe2=>?_) λ_=>hc) λ_=>hc
 exact CH (Ev e) λh1=>CH (BA e2 Do Do) λh2=>k _ _ ((U.cons (h1.cons h2)).two Do Do (Nat.le_of_ble_eq_true rfl))
theorem gF (hL:LR L) (hr:Real s) (k:∀n s1,Ba [n] s s1->Q n s1):Rd.wp (LH L) s Q Fg:=by
 simp only [LH,Rd.Al,Rd.AD,Rd.wp_seq]
 exact CH hr λU=>BN (λ_=>Z6 U k) λ_=>BN (λ_=>Z6 U k) λ_=>cH hL U k
theorem cJ (hL:LR L) (hr:Real s) (k:∀n s1,Ba [n] s s1->Q n s1):Rd.wp (Jr L) s Q Fg:=by
 simp only [Jr,Rd.Al,Rd.AD,Rd.wp_seq,Rd.wp_ret]
 refine CH hr λU=>?_
 repeat' (first
  |exact trivial
  |assumption
  |refine BN (λe=>?_) (λe=>?_)
  |refine CH (BA ‹_› Do Do) (λhn=>?_)
  |refine CH (DN ‹_› Do Do) (λhn=>?_)
  |refine CH (Et ‹_›) (λhn=>?_)
  |refine CH (Ev ‹_›) (λhn=>?_)
  |refine CH (Eu ‹_›) (λhn=>?_)
  |refine CH ‹_› (λhn=>?_)
  |refine Rt Do Do (λn s1 hn=>?_)
  |refine cC Do (λn s1 hn=>?_)
  |refine HW ‹_› (λn s1 hn=>?_)
  |exact uY hL.list U k
  |refine k _ _ ?_
  |refine Ba.two ?_ Do Do (by first|exact Nat.le_of_ble_eq_true rfl|exact Ce|(simp only [List.length_append,List.length_cons,List.length_nil];omega))
  |apply Ba.Hq
  |apply Ba.app)
theorem mR (hL:LR L):Dv (Py L):=λs=>by
 have h1:=hL.atom
 simp only [Py,Rd.Al,Rd.AD,Rd.wp_seq,Rd.wp_ret]
 refine BN (λe=>?_) λ_=>trivial
 have U:=Et e
 repeat' (first
  |exact trivial
  |assumption
  |refine BN (λe=>?_) (λe=>?_)
  |refine CH (BA ‹_› Do Do) (λhn=>?_)
  |refine CH (DN ‹_› Do Do) (λhn=>?_)
  |refine CH (Et ‹_›) (λhn=>?_)
  |refine CH (Ev ‹_›) (λhn=>?_)
  |refine CH (Eu ‹_›) (λhn=>?_)
  |refine CH ‹_› (λhn=>?_)
  |refine Rt Do Do (λn s1 hn=>?_)
  |refine cC Do (λn s1 hn=>?_)
  |refine HW ‹_› (λn s1 hn=>?_)
  |exact gF hL U λ_ _ h=>h
  |exact cJ hL U λ_ _ h=>h
  |exact Ba.iM ‹_› Do Do
  |refine Ba.two ?_ Do Do (by first|exact Nat.le_of_ble_eq_true rfl|exact Ce|(simp only [List.length_append,List.length_cons,List.length_nil];omega))
  |apply Ba.Hq
  |apply Ba.app)
theorem cG (hL:LR L) (hr:Real s) (U:Ba [n] s0 s) (k:∀n s1,Ba [n] s0 s1->Q n s1):Rd.wp (HB L n) s Q Fg:=by
 have h1:=hL.exp
 simp only [HB,Rd.wp_seq,Rd.wp_ret]
 refine CH hr λhb=>?_
 refine E2 (P:=λl s1=>Ba l s0 s1/\1<=l.length) (λl s1 U=>?_) ⟨U.cons hb,Nat.le_of_ble_eq_true rfl⟩
 obtain ⟨U,hl⟩:=U
 have hend:∀{l:List Nd} {s:Ad},Ba l s0 s->1<=l.length->Rd.wp (Bc 15 [125]) s (λc s'=>Q (Aq 12 (l++[c])) s') Fg:=λU hl=>Rt Do Do λn s1 h=>k _ _ ((U.snoc h).two Do Do kw)
 simp only [T6,Nh,Rd.Al,Rd.AD,Rd.wp_seq,Rd.wp_ret]
 have hf:Rd.wp (Di [1,3]) s1 (λnm s'=>Rd.wp (Bc 10 [61]) s' (λq s'=>Rd.wp L.exp s' (λe s'=>if AU s' 15 [44]=true then Rd.wp Ay s' (λc s'=>Ba (l++[Aq 13 [nm,q,e]]++[c]) s0 s'/\1<=(l++[Aq 13 [nm,q,e]]++[c]).length) Fg
  else Rd.wp (Bc 15 [125]) s' (λc s'=>Q (Aq 12 (l++[Aq 13 [nm,q,e]]++[c])) s') Fg) Fg) Fg) Fg:=by
  refine cC Do λnm s2 g1=>Rt Do Do λq s3 g2=>HW h1 λe s4 g3=>?_
  have h2:=U.snoc ((g1.cons (g2.cons g3)).two (k:=13) Do Do (Nat.le_of_ble_eq_true rfl))
  exact BN (λe=>CH (BA e Do Do) λh=>⟨h2.snoc h,Nat.le_trans Do Ce⟩) λ_=>hend h2 kw
 simp_all
theorem Mc (hL:LR L):Dv (LX L):=λs=>by
 simp only [LX,Rd.wp_seq]
 refine HW (mR hL) λn s1 hn=>?_
 refine E2 (P:=λn s1=>Ba [n] s s1) (λn s1 U=>?_) hn
 simp only [fE,Rd.Al,Rd.AD,Rd.wp_seq,Rd.wp_ret]
 exact BN (λe=>cG hL (BA e Do Do) U λ_ _ h=>h) λ_=>U
end
end Go.Proofs.Z
