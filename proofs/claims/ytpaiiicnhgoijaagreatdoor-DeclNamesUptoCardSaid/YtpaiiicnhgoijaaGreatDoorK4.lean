/-
  Parts of a proof: lemmas that the last text uses.
-/
import Derived.Test.YtpaiiicnhgoijaaGreatDoorK3
set_option linter.unusedVariables false
set_option linter.unusedSimpArgs false
set_option maxHeartbeats 16000000
variable {s l t r:List UInt8} {i v k c base ln Di:Int} {b n1 n2 p pos m n:Nat} {st0:Go.Aw.St} {w1 w2:Go.Aw.AB} {K:Go.Aw.V->Go.Aw.St->Prop} {o:List Int} {g:List (Nat×Nat)} {cs:List Go.Aw.V} {tx j:Bool} {R:Go.Aw.Ay->Go.Aw.St->Prop} {f:Go.FuncId} {X:Type} {AD notes:List (List Go.Aw.V)} {s':Go.Proofs.Z.Af}
namespace Go.Aw
open Go
def JX (l:List UInt8):Int:=if AQ l<0 then 0 else AQ l
theorem mN {i:Nat} {e:UInt8} (h:s[i]? =some e):JX (s.drop i)=(e.toNat:Nat):=by unfold JX;rw [DL h,if_neg AC]
theorem cA {i:Nat} (h:s.length<=i):JX (s.drop i)=0:=by unfold JX;rw [Gv h];rfl
theorem IU (l:List UInt8):(AQ l= -1/\JX l=0)\/(0<=AQ l/\JX l=AQ l):=by
 have:=dN l
 unfold JX
 split
 .exact .inl ⟨AC,rfl⟩
 .exact .inr ⟨AC,rfl⟩
def hX (l:List (Nat×Nat)):List (List V):=l.map λp=>[V.int .i64 (p.1:Int),V.int .i64 (p.2:Int)]
def Qi (st:St) (n:Nat):AB->Prop
 | .full=>True
 | .tok b=>st.hw b=some n
 | .any=>False
def bQ (st0:St):AB->Prop
 | .tok b=>st0.fresh b
 |_=>True
def XC:AB->AB->Prop
 | .tok b,.tok c=>b≠c
 |_,_=>True
structure BW (st0 st:St) (w1:AB) (n1:Nat) (w2:AB) (n2:Nat):Prop where
 o1:Qi st n1 w1
 o2:Qi st n2 w2
 f1:bQ st0 w1
 f2:bQ st0 w2
 ne:XC w1 w2
 le:st0.le st
theorem XC.symm {a b:AB} (h:XC a b):XC b a:=by
 cases a<;>cases b<;>first|exact h|exact Ne.symm h
theorem BW.swap {st:St} (h:BW st0 st w1 n1 w2 n2):BW st0 st w2 n2 w1 n1:=⟨h.o2,h.o1,h.f2,h.f1,h.ne.symm,h.le⟩
theorem BW.set {st:St} (h:BW st0 st w1 n1 w2 n2) (hb:st0.box b=none) (cs:List V):BW st0 (st.Aa b cs) w1 n1 w2 n2:=
 ⟨by have:=h.o1;cases w1<;>exact this,by have:=h.o2;cases w2<;>exact this,h.f1,h.f2,h.ne,St.Aq h.le hb cs⟩
theorem JP {st:St} {sz bytes:Nat} {es new:List (List V)} (h:BW st0 st w1 n1 w2 n2) (hn:n1=es.length*sz)
 (h1:(es.length+new.length)*bytes<=140737488355328) (h2:es.length+new.length<EF) (h3:(new.all λv=>v.all V.sc)=true) (hne:new≠[])
 (k:∀w1' st',BW st0 st' w1' ((es.length+new.length)*sz) w2 n2->st'.box=st.box->K (.slice sz (es++new.map (·.map V.IM)) w1') st'):Ag sz bytes es w1 new st K:=by
 subst hn
 have frs:∀{x:Nat},st.fresh x->st0.fresh x:=λ{x} hx=>by
  refine ⟨?_,?_⟩
  .cases e:st0.box x with
   |none=>rfl
   |some c=>have:=h.le.1 _ _ e;rw [hx.1] at this;cases this
  .cases e:st0.hw x with
   |none=>rfl
   |some c=>have:=h.le.2 _ _ e;rw [hx.2] at this;cases this
 refine ⟨h1,h2,AM h3 ?_⟩
 cases hw:w1 with
 |any=>have:=h.o1;rw [hw] at this;exact this
 |full=>
  refine ⟨λe=>absurd e hne,λ_=>.inl λb hb=>k (.tok b) _ ⟨?_,?_,frs hb,h.f2,?_,St.HI h.le (frs hb).2 _⟩ rfl⟩
  .simp [Qi,St.BZ]
  .have:=h.o2
   cases w2 with
   |tok c=>
    have hc:st.hw c=some n2:=this
    have:c≠b:=λe=>by subst e;rw [hb.2] at hc;cases hc
    simp [Qi,St.BZ,this,hc]
   |_=>exact this
  .cases w2 with
   |tok c=>
    have hc:st.hw c=some n2:=h.o2
    exact λe=>by subst e;rw [hb.2] at hc;cases hc
   |_=>trivial
 |tok b=>
  subst hw
  have hb:st.hw b=some (es.length*sz):=h.o1
  have hb0:st0.fresh b:=h.f1
  refine ⟨hb,.inl λb' U=>k (.tok b') _ ⟨?_,?_,?_,h.f2,?_,?_⟩ rfl⟩
  .simp [Qi,St.BZ]
  .have:=h.o2
   cases w2 with
   |tok c=>
    have hc:st.hw c=some n2:=this
    have hcb:b≠c:=h.ne
    have hcb':c≠b':=λe=>by
     subst e
     rcases U with e|U
     .exact hcb e.symm
     .rw [U.2] at hc;cases hc
    simp [Qi,St.BZ,St.Eh,hcb',hcb.symm,hc]
   |_=>exact this
  .rcases U with rfl|U
   .exact hb0
   .exact frs U
  .cases w2 with
   |tok c=>
    have hc:st.hw c=some n2:=h.o2
    have hcb:b≠c:=h.ne
    refine λ(e:b'=c)=>?_
    subst e
    rcases U with e|U
    .exact hcb e.symm
    .rw [U.2] at hc;cases hc
   |_=>trivial
  .refine ⟨λx cs e=>h.le.1 x cs e,λx n e=>?_⟩
   have e1:=h.le.2 x n e
   have hx:x≠b:=λhx=>by subst hx;rw [hb0.2] at e;cases e
   have hx':x≠b':=λhx=>by
    subst hx
    rcases U with e'|U
    .exact hx e'
    .rw [U.2] at e1;cases e1
   simp [St.BZ,St.Eh,hx,hx',e1]
theorem G3 (l:List Int):(ints l).length=l.length:=by simp [ints]
theorem Ij (l:List (Nat×Nat)):(hX l).length=l.length:=by simp [hX]
theorem Uh {st:St} (h:BW st0 st w1 o.length w2 n2) (hl:o.length<=1000000000)
 (k:∀U st',BW st0 st' U (o++[v]).length w2 n2->st'.box=st.box->K (.slice 1 (ints (o++[v])) U) st'):Ag 1 8 (ints o) w1 [[.int .i64 v]] st K:=by
 refine JP h (by rw [G3];omega) (by rw [G3,List.length_singleton];omega) (by rw [G3,List.length_singleton];unfold EF;omega) rfl GT (λU st' hr hb=>?_)
 have:=k U st' (by rw [G3] at hr;rw [List.length_append];simpa using hr) hb
 rwa [show ints (o++[v])=ints o++([[V.int .i64 v]]:List (List V)).map (·.map V.IM) by simp [ints,V.IM]] at this
theorem aG {st:St} {p:Nat×Nat} {a b:Int} (h:BW st0 st w1 n1 w2 (2*g.length)) (hl:g.length<=1000000000) (ha:a=(p.1:Int)) (hb:b=(p.2:Int))
 (k:∀U st',BW st0 st' w1 n1 U (2*(g++[p]).length)->st'.box=st.box->K (.slice 2 (hX (g++[p])) U) st'):Ag 2 16 (hX g) w2 [[.int .i64 a,.int .i64 b]] st K:=by
 subst ha;subst hb
 refine JP h.swap (by rw [Ij];omega) (by rw [Ij,List.length_singleton];omega) (by rw [Ij,List.length_singleton];unfold EF;omega) rfl GT (λw1' st' hr hb=>?_)
 have:=k w1' st' (by rw [Ij] at hr;rw [List.length_append];have:=hr.swap;simpa [Nat.mul_comm] using this) hb
 rwa [show hX (g++[p])=hX g++([[V.int .i64 (p.1:Int),V.int .i64 (p.2:Int)]]:List (List V)).map (·.map V.IM) by simp [hX,V.IM]] at this
theorem St.AL (st:St) (b:Nat) (cs:List V):(st.Aa b cs).box b=some cs:=by simp [St.Aa]
theorem Am {st:St} {K:List V->Prop} (h:st.box b=some cs) (k:K cs):∃cs,st.box b=some cs/\K cs:=⟨cs,h,k⟩
end Go.Aw
namespace Go.Proofs.Z
open Go Go.Aw
def Kl (c:Int):Int:=if c=97 then 0 else if c=98 then 1 else if c=116 then 2 else if c=110 then 3 else if c=118 then 4 else if c=102 then 5 else if c=114 then 6 else -1
theorem mD (u:UInt8):Lib.indexByte [97,98,116,110,118,102,114] u=Kl (u.toNat:Nat):=by
 have key:∀k:UInt8,((u.toNat:Nat):Int)=((k.toNat:Nat):Int)->u=k:=λk e=>UInt8.toNat_inj.1 AC
 unfold Kl
 by_cases U:((u.toNat:Nat):Int)=97
 .rw [key 97 U];rfl
 by_cases h2:((u.toNat:Nat):Int)=98
 .rw [key 98 h2];rfl
 by_cases h3:((u.toNat:Nat):Int)=116
 .rw [key 116 h3];rfl
 by_cases h4:((u.toNat:Nat):Int)=110
 .rw [key 110 h4];rfl
 by_cases h5:((u.toNat:Nat):Int)=118
 .rw [key 118 h5];rfl
 by_cases h6:((u.toNat:Nat):Int)=102
 .rw [key 102 h6];rfl
 by_cases h7:((u.toNat:Nat):Int)=114
 .rw [key 114 h7];rfl
 rw [if_neg U,if_neg h2,if_neg h3,if_neg h4,if_neg h5,if_neg h6,if_neg h7]
 have ne:∀k:UInt8,¬((u.toNat:Nat):Int)=((k.toNat:Nat):Int)->(k==u)=false:=λk e=>beq_eq_false_iff_ne.2 (λx=>e (by rw [x]))
 simp only [Lib.indexByte,ne 97 U,ne 98 h2,ne 116 h3,ne 110 h4,ne 118 h5,ne 102 h6,ne 114 h7]
 rfl
def qC (s:List UInt8) (p:Nat) (tx:Bool) (o:List Int) (w1:AB) (g:List (Nat×Nat)) (w2:AB):List V:=[.str s,.int .i64 (p:Int),.bool tx,.slice 1 (ints o) w1,.slice 2 (hX g) w2]
def Ik (p:Int) (e:Int):V:=.iface 232 (.agg [.int .i64 p,.int .i64 e])
section
variable {st:St} {R:Ay->St->Prop}
theorem FF {v:V} {p e:Int} (h:R (.BU (Ik p e)) st):PC 377 [v,.int .i64 p,.int .i64 e] st R:=by
 refine pB Tryz.func377 ?_
 repeat' ((conv=>whnf);first|(refine BR ?_;intros)|(refine BS ?_ ?_<;>intro _)|fail)
 all_goals exact fin h rfl
theorem Em {k:Nat} (hl:s.length<=100000000) (hp:p<=s.length) (hk:k<=10) (hb:st.box b=some (qC s p tx o w1 g w2))
 (h:R (.ret (.int .u8 (JX (s.drop (p+k))))) st):PC 375 [.ptr b 0,.int .i64 k] st R:=by
 refine pB Tryz.func375 ?_
 have e0:((p:Int)+(k:Int)).toNat=p+k:=AC
 by_cases U:p+k<s.length
 .obtain ⟨e,he⟩:∃e,s[p+k]? =some e:=⟨s[p+k],List.getElem?_eq_getElem U⟩
  have he':s[((p:Int)+(k:Int)).toNat]? =some e:=by rw [e0];exact he
  rw [mN he] at h
  repeat' ((conv=>whnf);first|exact Df|(refine BR ?_;intros)|(refine Dg ?_ ?_ ?_;rotate_left)|(refine BS ?_ ?_<;>intro _)|refine Am hb ?_|with_reducible refine WF ?_)
  all_goals exact fin h rfl
 .rw [cA AC] at h
  repeat' ((conv=>whnf);first|exact Df|(refine BR ?_;intros)|(refine Dg ?_ ?_ ?_;rotate_left)|(refine BS ?_ ?_<;>intro _)|refine Am hb ?_|with_reducible refine WF ?_)
  all_goals exact fin h rfl
theorem oM (U:0<=c) (h1:c<=255) (h:R (.ret (.int .i64 (Kl c))) st):PC 407 [.str [97,98,116,110,118,102,114],.int .u8 c] st R:=by
 obtain ⟨u,rfl⟩:∃u:UInt8,c=((u.toNat:Nat):Int):=⟨UInt8.ofNat c.toNat,by rw [UInt8.toNat_ofNat'];omega⟩
 exact mO (by rw [mD];exact h)
def oi:Option Int->V
 |some v=>.Bq [.int .i64 v,.bool true]
 |none=>.Bq [.int .i64 0,.bool false]
theorem fW (U:0<=c) (h1:c<=255) (h:R (.ret (oi (GP c))) st):PC 424 [.int .u8 c] st R:=by
 have ha:(Kl c= -1/\¬(c=97\/c=98\/c=116\/c=110\/c=118\/c=102\/c=114))\/(0<=Kl c/\Kl c<=6/\((c=97/\Kl c=0)\/(c=98/\Kl c=1)\/(c=116/\Kl c=2)\/(c=110/\Kl c=3)\/(c=118/\Kl c=4)\/(c=102/\Kl c=5)\/(c=114/\Kl c=6))):=by
  unfold Kl
  (repeat' split)<;>first|(left;omega)|(right;omega)
 refine pB Tryz.func424 ?_
 repeat' ((conv=>whnf);first|(refine BR ?_;intros)|(refine BS ?_ ?_<;>intro _)|refine oM U h1 ?_)
 all_goals first
  |exact fin h (by rw [show GP c=some c by unfold GP;rw [if_pos AC]];rfl)
  |(have e:GP c=some (7+Kl c):=by
     unfold GP
     rw [if_neg AC]
     (repeat' split)<;>first|(congr 1;omega)|(exfalso;omega)
    exact fin h (by rw [e];rfl))
  |(have e:GP c=none:=by
     unfold GP
     rw [if_neg AC]
     (repeat' split)<;>first|rfl|(exfalso;omega)
    exact fin h (by rw [e];rfl))
end
end Go.Proofs.Z
namespace Go.Proofs.Z
open Go Go.Aw Go.Shelf
theorem aM {I : Mem} {st : St} {w : World} (hs : Ci I st w) : Lib.TabIs Tryz.prog w "strings.asciiSpace" .u8 Lib.asciiSpaceTab := by
 obtain ⟨c,ty,h1,h2⟩:=hs.shape 3 256 hs.QV.fY
 have hg : Tryz.prog.globalNamed "strings.asciiSpace" = some 3 := by kernel_rfl
 unfold Lib.TabIs World.var?
 rw [hg]
 simp only [Option.bind_some,h1,Option.some.injEq]
 have hlen:Lib.asciiSpaceTab.length=256:=GE
 refine Array.ext (by rw [h2];simp [hlen]) λi hi hi'=>?_
 have U:=hs.cell _ _ _ (hs.QV.space i AC)
 simp only [World.cell?,h1,Option.isSome_none,Bool.false_eq_true,if_false] at U
 rw [Array.getElem?_eq_getElem hi] at U
 injection U with U
 rw [U]
 have hi2:i<Lib.asciiSpaceTab.length:=by rw [hlen];omega
 simp [List.getD_eq_getElem?_getD,List.getElem?_eq_getElem hi2]
section
variable {st:St} {R:Ay->St->Prop}
theorem dG (hz:s.length<4294967281) (ha:∀b ∈ s,b.toNat<128) (h:R (.ret (.slice 1 (strs (Lib.fields s)) .any)) st) (hl:∀x ∈ Lib.fields s,x.length<EF) (hn:(Lib.fields s).length<EF):PC 428 [.str s] st R:=by
 refine ⟨λI w U hs hc=>?_,⟨_,Tryz.func428,Do,Do⟩⟩
 simp only [Ak,AG] at hc
 obtain ⟨c,r,rfl,⟨rfl,_⟩,rfl⟩:=hc
 refine (Tryz.strings_Fields ⟨s.toArray⟩ w (by show s.toArray.size<_;simpa using hz) (λj b e=>ha b (List.mem_of_getElem? (by simpa using e))) (aM hs)).mono λe w' ⟨he,hw⟩=>?_
 subst hw
 obtain ⟨h1,h2,h3⟩:=hs.row ((Lib.fields s).map λl=>Value.string ⟨l.toArray⟩) 9
 refine ⟨_,_,.ret _,h1,h2,?_,h⟩
 subst he
 exact fu (Lib.fields s) hl hn h3
end
def ZS (p:Nat->Bool) (s:List UInt8):Int:=if Br (λd=> !(p d.1)) s<s.length then (Br (λd=> !(p d.1)) s:Nat) else -1
theorem idx_eq (p:Nat->Bool) (s:List UInt8):∀(f pos:Nat),pos<=s.length->s.length - pos<=f->Lib.idxFuncFrom p true ⟨s.toArray⟩ f pos=if Br (λd=> !(p d.1)) (s.drop pos)<s.length - pos then ((pos+Br (λd=> !(p d.1)) (s.drop pos):Nat):Int) else -1
 |0,pos,h1,h2=>by
  rw [if_neg AC];rfl
 |f+1,pos,h1,h2=>by
  unfold Lib.idxFuncFrom
  have hz:(⟨s.toArray⟩:ByteArray).size=s.length:=by simp [ByteArray.size]
  rw [hz]
  by_cases U:pos<s.length
  .rw [if_pos U,Rq U]
   rcases hd:AK (s.drop pos) with ⟨c,m⟩
   have hr:=rune_le U hd.symm
   dsimp only
   by_cases hc:p c=true
   .rw [if_pos hc,Ev (p:=λd=> !(p d.1)) (by rw [hd];simp [hc]),if_pos AC];rfl
   .rw [if_neg hc,idx_eq p s f (pos+m) hr.1 AC]
    have e:=Cn (p:=λd=> !(p d.1)) (Rz U) (by rw [hd];simpa using hc)
    rw [hd,List.drop_drop] at e
    dsimp only at e
    rw [e]
    by_cases hk:Br (λd=> !(p d.1)) (s.drop (pos+m))<s.length - (pos+m)
    .rw [if_pos hk,if_pos AC];congr 1;omega
    .rw [if_neg hk,if_neg AC]
  .rw [if_neg U,if_neg AC]
section
variable {st:St} {R:Ay->St->Prop}
def nM:St:=⟨λ_=>none,λ_=>none⟩
theorem Yb {g:FuncId} {p:Nat->Bool} (hg:∀c:Nat,c<=1114111->PC g [.int .i32 (c:Int)] nM λr _=>r=.ret (.bool (p c))) (h:R (.ret (.int .i64 (ZS p s))) st):PC 56 [.str s,.func g [] []] st R:=by
 refine CR ⟨_,Tryz.func56,Do,Do⟩ _ (λI w cargs hs hc=>?_) h
 simp only [Ak,AG] at hc
 obtain ⟨c1,r1,rfl,⟨rfl,hl⟩,c2,r2,rfl,⟨az,cs,rfl,rfl,rfl⟩,rfl⟩:=hc
 obtain ⟨fn,p1,p2,p3⟩:=(hg 0 Do).b
 have eg:∀args w,(callFunc g args).run Tryz.prog w=.ok (.enter g args) w:=λargs w=>by
  have hb:fn.body.isNone=false:=by cases hb:fn.body<;>simp_all
  simp only [callFunc,Sem.run_bind,Result.andThen_ok,run_program,p1]
  rw [p3]
  simp [hb]
 have hp:PredGrows Tryz.prog g #[] p w:=λW x hx hb=>by
  obtain ⟨_,hW⟩:=hs.below hb
  have hW0:Ci I nM W:=⟨hW.cell,hW.shape,λb cs e=>(by cases e),λb e=>absurd rfl e,λb n e=>(by cases e),hW.QV⟩
  refine ((hg x hx).a I W [.int .i32 x] hW0 (by simp only [Ak,AG];exact ⟨_,_,rfl,rfl,rfl⟩)).mono ?_
  rintro e w' ⟨I',st',r,k1,k2,U,rfl⟩
  refine ⟨?_,⟨k1.os,k1.tape,k1.output,k1.size,λk hk=>k1.Kc k hk rfl rfl⟩⟩
  cases e with
  |returned c=>
   have U:AG I' (.bool (p x)) c:=U
   simp only [AG] at U
   rw [U]
  |panicked _=>exact U.elim
  |outgrown=>exact U.elim
 refine (Tryz.strings_IndexFunc_grows g #[] eg p ⟨s.toArray⟩ w hp).mono λe w' ⟨he,hb⟩=>⟨⟨_,he,?_⟩,hb⟩
 simp only [AG]
 unfold Lib.idxFunc ZS
 rw [idx_eq p s _ 0 (Nat.zero_le _) (by simp [ByteArray.size]),List.drop_zero,Nat.sub_zero,Nat.zero_add]
end
end Go.Proofs.Z
namespace Go.Aw
open Go
def Pk:List UInt8:=[78,85,76,32,83,79,72,32,83,84,88,32,69,84,88,32,69,79,84,32,69,78,81,32,65,67,75,32,66,69,76,32,66,83,32,72,84,32,76,70,32,86,84,32,70,70,32,67,82,32,83,79,32,83,73,32,68,76,69,32,68,67,49,32,68,67,50,32,68,67,51,32,68,67,52,32,78,65,75,32,83,89,78,32,69,84,66,32,67,65,78,32,69,77,32,83,85,66,32,69,83,67,32,70,83,32,71,83,32,82,83,32,85,83,32,83,80,32,68,69,76]
theorem RH:Lib.fields Pk=Et:=GE
theorem eG:∀b ∈ Pk,b.toNat<128:=by
 have h:Pk.all (λb=>decide (b.toNat<128))=true:=GE
 simp_all
theorem QF:∀w ∈ Et,1<=w.length/\w.length<=3:=by
 have h:Et.all (λw=>decide (1<=w.length)&&decide (w.length<=3))=true:=GE
 simp_all
theorem jS:Et.length=34:=H1
theorem SM {c:Nat} (h:pos<s.length) (U:(c,m)=AK (s.drop pos)) (k:¬BA (c:Int) base<0):HT base v (s.drop pos)=HT base (min (v*base+BA (c:Int) base) 1114112) (s.drop (pos+1)):=by
 rw [List.drop_eq_getElem_cons h] at U |-
 by_cases hb:s[pos].toNat<128
 .rw [EV hb] at U
  injection U with h1 h2
  subst h1
  rw [HT,if_neg k]
 .have:=NL (r:=s.drop (pos+1)) hb
  rw [<-U] at this
  exact absurd (Hz (c:=(c:Int)) (base:=base) AC) k
theorem JU {c:Nat} (h:pos<s.length) (U:(c,m)=AK (s.drop pos)) (k:BA (c:Int) base<0):HT base v (s.drop pos)=v:=by
 rw [List.drop_eq_getElem_cons h] at U |-
 by_cases hb:s[pos].toNat<128
 .rw [EV hb] at U
  injection U with h1 h2
  subst h1
  rw [HT,if_pos k]
 .rw [HT,if_pos (Hz AC)]
theorem MH (h:s.length<=pos):HT base v (s.drop pos)=v:=by rw [List.drop_eq_nil_iff.2 h];rfl
theorem Jz {b:Int}:BA c b<0\/BA c b<b:=by
 unfold BA
 grind
theorem VA {b:Int} {K:Int->Prop} (h0:0<=v) (h1:v<=1114112) (hb:0<=b) (U:b<=16) (hk:¬BA c b<0) (k:K (v*b+BA c b)):∃r,r=IntKind.i64.wrap (v*b+BA c b)/\K r:=by
 have h2:0<=v*b:=Int.mul_nonneg h0 hb
 have h3:v*b<=1114112*16:=Int.mul_le_mul h1 U hb Do
 have h4:=Jz (c:=c) (b:=b)
 exact Wq AC AC k
theorem eF:Pk.length<1000:=GE
theorem eC {a b:Int} {K:Int->Prop} (k:K (min a b)):∃r,r=(if b<a then b else a)/\K r:=⟨min a b,AC,k⟩
theorem Z7 {x:List UInt8} {i c:Nat} (h:Et[i]? =some x):Ml l (Et.drop i) i (c,n)=Ml l (Et.drop (i+1)) (i+1) (if n<x.length/\x.isPrefixOf l=true then (i,x.length) else (c,n)):=by
 rw [drop_at h,Ml]
theorem jR {c:Nat} (h:Ml l Et 0 (0,0)=(c,n)):IK l=(if c=33 then 127 else (c:Int),n):=by
 have key:∀p:Nat×Nat,p=(c,n)->((if p.1=33 then 127 else (p.1:Int),p.2):Int×Nat)=(if c=33 then 127 else (c:Int),n):=λp U=>by simp_all
 exact key _ h
end Go.Aw
namespace Go.Proofs.Z
open Go Go.Aw
theorem E5 {b:Int} {t:Bool} (U:Bx b s=n) (e2:HT b 0 s=v) (e3:decide (n≠0/\v<=1114111)=t):Ay.ret (.Bq [.int .i64 (HT b 0 s),.int .i64 (Bx b s:Nat),.bool (decide (Bx b s≠0/\HT b 0 s<=1114111))])=Ay.ret (.Bq [.int .i64 v,.int .i64 (n:Int),.bool t]):=ke
section
variable {st:St} {R:Ay->St->Prop}
theorem dH {l:List (List UInt8)} (e:Lib.fields s=l) (hz:s.length<1000) (U:∀b ∈ s,b.toNat<128) (hl:∀x ∈ l,x.length<=3) (hn:l.length<=1000) (h:R (.ret (.slice 1 (strs l) .any)) st):PC 428 [.str s] st R:=by
 subst e
 exact dG AC U h (λx hx=>by have:=hl x hx;unfold EF;omega) (by unfold EF;omega)
theorem jV (h:R (.ret (.slice 1 (strs Et) .any)) st):PC 428 [.str Pk] st R:=
 dH RH eF eG (λx U=>(QF x U).2) (Nat.le_trans (Nat.le_of_eq jS) Do) h
set_option maxRecDepth 100000 in
theorem jT (hl:s.length<=100000000) (h:R (.ret (.Bq [.int .i64 (IK s).1,.int .i64 (IK s).2])) st):PC 426 [.str s] st R:=by
 refine pB Tryz.func426 ?_
 repeat' ((conv=>whnf);first|(refine BR ?_;intros)|(refine BS ?_ ?_<;>intro _)|refine jV ?_|refine ec (λ_=>?_))
 refine R1 (α:=Nat) (β:=Nat) (γ:=Nat) (λi c n=>[(8,.int .i64 (i:Int)),(2,.int .i64 (c:Int)),(3,.int .i64 (n:Int))]) (λ_ _ _=>[]) [0,6,7] [] (λ_ _ _=>st)
  (λi c n=>i<=Et.length/\n<=3/\Ml s Et 0 (0,0)=Ml s (Et.drop i) i (c,n)) (λi _ _=>Et.length - i) 0 0 0 ⟨Nat.zero_le _,Do,rfl⟩ Yl (St.le_refl _) ?_
 rintro i c n ⟨h1,h2,U⟩
 rcases hx:Et[i]? with _|x
 .have hge:=List.getElem?_eq_none_iff.1 hx
  rw [List.drop_eq_nil_iff.2 hge] at U
  have e:=jR U
  repeat' ((conv=>whnf);first|(refine BR ?_;intros)|(refine BS ?_ ?_<;>intro _)|fail)
  all_goals first
   |exact fin h (by rw [e,if_pos AC])
   |exact fin h (by rw [e,if_neg AC])
 .have hlt:=(List.getElem?_eq_some_iff.1 hx).1
  have hm:=QF x (List.mem_of_getElem? hx)
  rw [Z7 hx] at U
  have hx':Et[((i:Int)).toNat]? =some x:=hx
  repeat' ((conv=>whnf);first|(refine BR ?_;intros)|(refine BS ?_ ?_<;>intro _)|refine XG hx' AC ?_|refine HK ?_)
  .rw [if_pos ⟨AC,AC⟩] at U
   conv=>whnf
   exact ⟨(i+1,i,x.length),⟨AC,ke,U⟩,AC,Yl,St.le_refl _⟩
  .have hp:x.isPrefixOf s=false:=FS
   rw [if_neg (λy=>by simp_all)] at U
   conv=>whnf
   exact ⟨(i+1,c,n),⟨AC,AC,U⟩,AC,Yl,St.le_refl _⟩
  .rw [if_neg (λy=>by omega)] at U
   conv=>whnf
   exact ⟨(i+1,c,n),⟨AC,AC,U⟩,AC,Yl,St.le_refl _⟩
theorem T3 {b:Int} (hl:s.length<=100000000) (hb:b=8\/b=10\/b=16) (h:R (.ret (.Bq [.int .i64 (HT b 0 s),.int .i64 (Bx b s:Nat),.bool (decide (Bx b s≠0/\HT b 0 s<=1114111))])) st):PC 427 [.str s,.int .i64 b] st R:=by
 refine pB Tryz.func427 ?_
 repeat' ((conv=>whnf);first|(refine BR ?_;intros)|(refine BS ?_ ?_<;>intro _)|fail)
 refine V0 (α:=Nat) (β:=Int) (λpos v=>[(4,.int .i64 v),(5,.int .i64 (pos:Int))]) (λpos _=>[(0,[.Ns s pos])]) [0,1,11] [] (λ_ _=>st)
  (λpos v=>pos<=s.length/\0<=v/\v<=1114112/\Bx b s=pos+Bx b (s.drop pos)/\HT b 0 s=HT b v (s.drop pos)) (λpos _=>s.length - pos) 0 0 ⟨Nat.zero_le _,Do,Do,GT,rfl⟩ Yl (St.le_refl _) ?_
 rintro pos v ⟨h1,h2,h3,h4,h5⟩
 rcases hb with rfl|rfl|rfl
 .skip
  have hdl:=λc=>Jz (c:=c) (b:=8)
  repeat' ((conv=>whnf);first|(refine BR ?_;intros)|(refine BS ?_ ?_<;>intro _)|refine K1 ?_|refine eC ?_|refine VA h2 h3 Do Do ‹_› ?_)
  all_goals first
   |(rename_i U c m hd hk _ _
     have e1:=G5 U hd hk
     have e2:=JU (v:=v) U hd hk
     exact fin h (E5 AC (h5.trans e2) (by first|exact decide_eq_true ⟨AC,AC⟩|exact decide_eq_false AC)))
   |(rename_i U c m hd hk _
     have e1:=G5 U hd hk
     have e2:=JU (v:=v) U hd hk
     exact fin h (E5 AC (h5.trans e2) (by first|exact decide_eq_true ⟨AC,AC⟩|exact decide_eq_false AC)))
   |(have e1:=JO (base:=8) (s:=s) (pos:=pos) AC
     have e2:=MH (base:=8) (v:=v) (s:=s) (pos:=pos) AC
     exact fin h (E5 AC (h5.trans e2) (by first|exact decide_eq_true ⟨AC,AC⟩|exact decide_eq_false AC)))
   |(rename_i U c m hd hk
     obtain ⟨e1,e2⟩:=LI U hd hk
     have e3:=SM (v:=v) U hd hk
     have e4:=hdl (c:Int)
     subst e1
     conv=>whnf
     exact ⟨(pos+1,min (v*8+BA (c:Int) 8) 1114112),⟨UV,UV,UV,UV,h5.trans e3⟩,UV,Yl,St.le_refl _⟩)
 .skip
  have hdl:=λc=>Jz (c:=c) (b:=10)
  repeat' ((conv=>whnf);first|(refine BR ?_;intros)|(refine BS ?_ ?_<;>intro _)|refine K1 ?_|refine eC ?_|refine VA h2 h3 Do Do ‹_› ?_)
  all_goals first
   |(rename_i U c m hd hk _ _
     have e1:=G5 U hd hk
     have e2:=JU (v:=v) U hd hk
     exact fin h (E5 AC (h5.trans e2) (by first|exact decide_eq_true ⟨AC,AC⟩|exact decide_eq_false AC)))
   |(rename_i U c m hd hk _
     have e1:=G5 U hd hk
     have e2:=JU (v:=v) U hd hk
     exact fin h (E5 AC (h5.trans e2) (by first|exact decide_eq_true ⟨AC,AC⟩|exact decide_eq_false AC)))
   |(have e1:=JO (base:=10) (s:=s) (pos:=pos) AC
     have e2:=MH (base:=10) (v:=v) (s:=s) (pos:=pos) AC
     exact fin h (E5 AC (h5.trans e2) (by first|exact decide_eq_true ⟨AC,AC⟩|exact decide_eq_false AC)))
   |(rename_i U c m hd hk
     obtain ⟨e1,e2⟩:=LI U hd hk
     have e3:=SM (v:=v) U hd hk
     have e4:=hdl (c:Int)
     subst e1
     conv=>whnf
     exact ⟨(pos+1,min (v*10+BA (c:Int) 10) 1114112),⟨UV,UV,UV,UV,h5.trans e3⟩,UV,Yl,St.le_refl _⟩)
 .skip
  have hdl:=λc=>Jz (c:=c) (b:=16)
  repeat' ((conv=>whnf);first|(refine BR ?_;intros)|(refine BS ?_ ?_<;>intro _)|refine K1 ?_|refine eC ?_|refine VA h2 h3 Do Do ‹_› ?_)
  all_goals first
   |(rename_i U c m hd hk _ _
     have e1:=G5 U hd hk
     have e2:=JU (v:=v) U hd hk
     exact fin h (E5 AC (h5.trans e2) (by first|exact decide_eq_true ⟨AC,AC⟩|exact decide_eq_false AC)))
   |(rename_i U c m hd hk _
     have e1:=G5 U hd hk
     have e2:=JU (v:=v) U hd hk
     exact fin h (E5 AC (h5.trans e2) (by first|exact decide_eq_true ⟨AC,AC⟩|exact decide_eq_false AC)))
   |(have e1:=JO (base:=16) (s:=s) (pos:=pos) AC
     have e2:=MH (base:=16) (v:=v) (s:=s) (pos:=pos) AC
     exact fin h (E5 AC (h5.trans e2) (by first|exact decide_eq_true ⟨AC,AC⟩|exact decide_eq_false AC)))
   |(rename_i U c m hd hk
     obtain ⟨e1,e2⟩:=LI U hd hk
     have e3:=SM (v:=v) U hd hk
     have e4:=hdl (c:Int)
     subst e1
     conv=>whnf
     exact ⟨(pos+1,min (v*16+BA (c:Int) 16) 1114112),⟨UV,UV,UV,UV,h5.trans e3⟩,UV,Yl,St.le_refl _⟩)
end
end Go.Proofs.Z
namespace Go.Aw
open Go
theorem ak {b:Int} (h:IL b l=some (v,n)):HT b 0 l=v/\Bx b l=n/\n≠0/\v<=1114111:=by
 unfold IL at h
 split at h
 .cases h
 .injection h with h;injection h with U h2
  exact ⟨U,h2,AC,AC⟩
theorem aj {b:Int} (h:IL b l=none):decide (Bx b l≠0/\HT b 0 l<=1114111)=false:=by
 unfold IL at h
 split at h
 .exact decide_eq_false AC
 .cases h
theorem Hi {r r':Ay} {st st':St} (es:st'=st) (h:R r st) (e:r=r'):∃r2 U,(r2=r'\/r2=r'.wk)/\St.le U st'/\R r2 U:=by subst es;exact ⟨r,st',.inl e,St.le_refl _,h⟩
theorem St.Jk (st:St) (b:Nat) (cs cs':List V):(st.Aa b cs).Aa b cs'=st.Aa b cs':=by
 simp only [St.Aa,St.mk.injEq,and_true]
 funext x
 split<;>rfl
end Go.Aw
namespace Go.Proofs.Z
open Go Go.Aw
theorem QP {q:Nat} (e:i=(q:Int)):[V.str s,.int .i64 i,.bool tx,.slice 1 (ints o) w1,.slice 2 (hX g) w2]=qC s q tx o w1 g w2:=by subst e;rfl
section
variable {st:St} {R:Ay->St->Prop}
theorem eS {b:Int} (e:i.toNat=m) (hn:IL b (s.drop m)=some (v,n)) (hl:s.length<=100000000) (hb:b=8\/b=10\/b=16) (h:R (.ret (.Bq [.int .i64 v,.int .i64 n,.bool true])) st):PC 427 [.str (s.drop i.toNat),.int .i64 b] st R:=by
 rw [e]
 obtain ⟨U,e2,e3,e4⟩:=ak hn
 exact T3 M2 hb (by rw [U,e2,decide_eq_true ⟨e3,e4⟩];exact h)
theorem eT {b:Int} (e:i.toNat=m) (hn:IL b (s.drop m)=none) (U:s.length<=100000000) (hb:b=8\/b=10\/b=16) (h:R (.ret (.Bq [.int .i64 (HT b 0 (s.drop m)),.int .i64 (Bx b (s.drop m):Nat),.bool false])) st):PC 427 [.str (s.drop i.toNat),.int .i64 b] st R:=by
 rw [e]
 exact T3 M2 hb (by rw [aj hn];exact h)
theorem OB {k:Nat} {frm:Int} (hl:s.length<=100000000) (hp:p+k<=s.length) (U:base=8\/base=10\/base=16) (hb:st.box b=some (qC s p tx o w1 g w2))
 (h:∀v n,IL base (s.drop (p+k))=some (v,n)->R (.ret (.int .i64 v)) (st.Aa b (qC s (p+k+n) tx o w1 g w2))) (h0:IL base (s.drop (p+k))=none->R (.BU (Ik frm 51)) st):
 PC 425 [.ptr b 0,.int .i64 frm,.int .i64 k,.int .i64 base] st R:=by
 refine pB Tryz.func425 ?_
 rcases hn:IL base (s.drop (p+k)) with _|⟨v,n⟩
 .have h0:=h0 hn
  repeat' ((conv=>whnf);first|exact Df|(refine BR ?_;intros)|(refine Dg ?_ ?_ ?_;rotate_left)|(refine BS ?_ ?_<;>intro _)|refine Am hb ?_|refine eT (m:=p+k) AC hn hl U ?_|refine FF ?_|with_reducible refine WF ?_)
  all_goals exact fin h0 rfl
 .have h:=h v n hn
  have hle:=NW hn
  rw [List.length_drop] at hle
  dsimp only at hle
  repeat' ((conv=>whnf);first|exact Df|(refine BR ?_;intros)|(refine Dg ?_ ?_ ?_;rotate_left)|(refine BS ?_ ?_<;>intro _)|refine Am hb ?_|refine eS (m:=p+k) AC hn hl U ?_|refine FF ?_|with_reducible refine WF ?_)
  exact Hi (congrArg (st.Aa b) (QP AC)) h rfl
theorem X9:En (s.drop p)=if AQ (s.drop p)=92/\BQ (λc=>AJ c==1) (s.drop (p+1))≠0/\AQ (s.drop (p+1+BQ (λc=>AJ c==1) (s.drop (p+1))))=92 then BQ (λc=>AJ c==1) (s.drop (p+1))+2 else 0:=by
 have U:(s.drop p).drop 1=s.drop (p+1):=List.drop_drop
 unfold En;rw [U,List.drop_drop,Nat.add_assoc]
theorem JQ {q k:Nat} (hl:s.length<=100000000) (hq:q<=s.length) (U:BQ (λc=>AJ c==1) (s.drop q)=k) (e:i=(q:Int)) (h:R (.ret (.int .i64 (q+k:Nat))) st):PC 129 [.str s,.int .i64 i,.int .i64 1] st R:=by
 subst e;exact mi AC (by rw [N2 AC AC,show (q:Int).toNat=q by omega,U];exact h)
theorem nq (U:s.length<=100000000) (hp:p<=s.length) (hb:st.box b=some (qC s p tx o w1 g w2)) (hg:tx=false\/En (s.drop p)=0) (h:R (.ret (.bool false)) st):PC 409 [.ptr b 0] st R:=by
 refine pB Tryz.func409 ?_
 have hby:=IU (s.drop p)
 cases tx with
 |false=>
  repeat' ((conv=>whnf);first|exact Df|(refine BR ?_;intros)|(refine Dg ?_ ?_ ?_;rotate_left)|(refine BS ?_ ?_<;>intro _)|refine Am hb ?_|refine Em (k:=0) U hp Do hb ?_|with_reducible refine WF ?_)
  all_goals exact fin h rfl
 |true=>
  have hg:En (s.drop p)=0:=hg.resolve_left Do
  by_cases h1:AQ (s.drop p)=92
  .have hp1:p<s.length:=Cc (k:=p) AC
   have hr:=E6 (λc=>AJ c==1) (s.drop (p+1))
   have hgn:=X9 (s:=s) (p:=p)
   rw [List.length_drop] at hr
   generalize hk:BQ (λc=>AJ c==1) (s.drop (p+1))=k at hr hgn
   have hno:k≠0->¬AQ (s.drop (p+1+k))=92:=λe1 e2=>by rw [if_pos ⟨h1,e1,e2⟩] at hgn;omega
   have hb0:JX (s.drop p)=92:=AC
   by_cases hlt:p+1+k<s.length
   .obtain ⟨e,he⟩:∃e,s[p+1+k]? =some e:=⟨s[p+1+k],List.getElem?_eq_getElem hlt⟩
    have he':s[((p+1+k:Nat):Int).toNat]? =some e:=he
    have hv:=DL he
    repeat' ((conv=>whnf);first|exact Df|(refine BR ?_;intros)|(refine Dg ?_ ?_ ?_;rotate_left)|(refine BS ?_ ?_<;>intro _)|refine Am hb ?_|refine Em (k:=0) U hp Do hb ?_|refine JQ (q:=p+1) U AC hk AC ?_|with_reducible refine WF ?_)
    all_goals exact fin h rfl
   .skip
    repeat' ((conv=>whnf);first|exact Df|(refine BR ?_;intros)|(refine Dg ?_ ?_ ?_;rotate_left)|(refine BS ?_ ?_<;>intro _)|refine Am hb ?_|refine Em (k:=0) U hp Do hb ?_|refine JQ (q:=p+1) U AC hk AC ?_|with_reducible refine WF ?_)
    all_goals exact fin h rfl
  .have hb0:¬JX (s.drop p)=92:=AC
   repeat' ((conv=>whnf);first|exact Df|(refine BR ?_;intros)|(refine Dg ?_ ?_ ?_;rotate_left)|(refine BS ?_ ?_<;>intro _)|refine Am hb ?_|refine Em (k:=0) U hp Do hb ?_|with_reducible refine WF ?_)
   all_goals exact fin h rfl
attribute [local irreducible] Go.Aw.Ag
theorem jo (hl:s.length<=100000000) (hb:st.box b=some (qC s p true o w1 g w2)) (hg:0<En (s.drop p)) (hr2:BW st0 st w1 o.length w2 (2*g.length)) (hgl:g.length<=100000000)
 (h:∀w2' st',BW st0 st' w1 o.length w2' (2*(g++[(p,p+En (s.drop p))]).length)->st'.box=st.box->R (.ret (.bool true)) (st'.Aa b (qC s (p+En (s.drop p)) true o w1 (g++[(p,p+En (s.drop p))]) w2'))):PC 409 [.ptr b 0] st R:=by
 have hby:=IU (s.drop p)
 have U:=X9 (s:=s) (p:=p)
 have hr:=E6 (λc=>AJ c==1) (s.drop (p+1))
 rw [List.length_drop] at hr
 generalize hk:BQ (λc=>AJ c==1) (s.drop (p+1))=k at hr U
 have hc:AQ (s.drop p)=92/\k≠0/\AQ (s.drop (p+1+k))=92:=by
  by_cases hc:AQ (s.drop p)=92/\k≠0/\AQ (s.drop (p+1+k))=92
  .exact hc
  .rw [if_neg hc] at U;omega
 rw [if_pos hc] at U
 obtain ⟨h1,h2,h3⟩:=hc
 have hp1:p<s.length:=Cc (k:=p) AC
 have hp2:p+1+k<s.length:=Cc (k:=p+1+k) AC
 obtain ⟨e,he⟩:∃e,s[p+1+k]? =some e:=⟨s[p+1+k],List.getElem?_eq_getElem hp2⟩
 have he':s[((p+1+k:Nat):Int).toNat]? =some e:=he
 have hv:=DL he
 have hb0:JX (s.drop p)=92:=AC
 have hpk:((p+1+k:Nat):Int)+1=((p+(k+2):Nat):Int):=AC
 rw [U] at h
 refine pB Tryz.func409 ?_
 repeat' ((conv=>whnf);first|refine Ac [(0,true),(1,true),(2,true),(3,true),(4,true),(5,true),(6,true),(7,true),(8,true),(9,true),(10,true),(11,true),(12,true),(13,false),(14,true),(15,true),(16,false)] [] GE ?_|exact Df|(refine BR ?_;intros)|(refine Dg ?_ ?_ ?_;rotate_left)|(refine BS ?_ ?_<;>intro _)|refine Am hb ?_|refine Em (k:=0) hl AC Do hb ?_|refine JQ (q:=p+1) hl AC hk AC ?_|refine aG (p:=(p,p+(k+2))) hr2 AC rfl hpk (λw2' st1 hr3 hb3=>?_)|refine Am ((congrFun hb3 b).trans hb) ?_|refine Am (St.AL _ _ _) ?_|with_reducible refine WF ?_)
 exact Hi ((St.Jk _ _ _ _).trans (congrArg (st1.Aa b) (QP AC))) (h w2' st1 hr3 hb3) rfl
end
end Go.Proofs.Z
namespace Go.Aw
open Go
theorem kF (l:List UInt8):GP (JX l)=GP (AQ l):=by
 rcases IU l with ⟨U,h2⟩|⟨U,h2⟩
 .rw [U,h2];rfl
 grind
theorem kG (h:GP c=none):c≠92/\c≠34/\c≠39:=by
 refine ⟨λe=>?_,λe=>?_,λe=>?_⟩<;>(subst e;cases h)
theorem u8_in {a:Int} (U:0<=a) (h2:a<=255):IntKind.u8.wrap a=a:=IntWalk.u8_in _ ⟨U,h2⟩
theorem du (h:GP (AQ (l.drop 1))=some v):Hf tx l=some (v,2):=by unfold Hf;rw [h]
theorem dm (h:AQ (l.drop 1)=38):Hf true l=some (-1,2):=by
 unfold Hf;rw [show GP (AQ (l.drop 1))=none by rw [h];rfl]
 simp_all
theorem dn (h:AQ (l.drop 1)=94) (U:64<=AQ (l.drop 2)) (h2:AQ (l.drop 2)<=95):Hf tx l=some (AQ (l.drop 2) - 64,3):=by
 unfold Hf;rw [show GP (AQ (l.drop 1))=none by rw [h];rfl]
 simp_all
theorem dt (h:AQ (l.drop 1)=111):Hf tx l=(IL 8 (l.drop 2)).map λp=>(p.1,2+p.2):=by
 unfold Hf;rw [show GP (AQ (l.drop 1))=none by rw [h];rfl]
 simp_all
theorem dq (h:AQ (l.drop 1)=120):Hf tx l=(IL 16 (l.drop 2)).map λp=>(p.1,2+p.2):=by
 unfold Hf;rw [show GP (AQ (l.drop 1))=none by rw [h];rfl]
 simp_all
theorem dp (h:48<=AQ (l.drop 1)) (U:AQ (l.drop 1)<=57):Hf tx l=(IL 10 (l.drop 1)).map λp=>(p.1,1+p.2):=by
 have hs:GP (AQ (l.drop 1))=none:=by
  unfold GP
  (repeat' split)<;>first|rfl|(exfalso;omega)
 unfold Hf;grind
theorem dr (h:GP (AQ (l.drop 1))=none) (U:¬(AQ (l.drop 1)=38/\tx=true)) (h2:¬(AQ (l.drop 1)=94/\64<=AQ (l.drop 2)/\AQ (l.drop 2)<=95)) (h3:AQ (l.drop 1)≠111) (h4:AQ (l.drop 1)≠120) (h5:¬(48<=AQ (l.drop 1)/\AQ (l.drop 1)<=57)):
 Hf tx l=if 0<(IK (l.drop 1)).2 then some ((IK (l.drop 1)).1,1+(IK (l.drop 1)).2) else none:=by
 unfold Hf;grind
end Go.Aw
namespace Go.Proofs.Z
open Go Go.Aw
section
variable {st:St} {R:Ay->St->Prop}
theorem jU (e:i.toNat=n) (U:s.length<=100000000) (h:R (.ret (.Bq [.int .i64 (IK (s.drop n)).1,.int .i64 (IK (s.drop n)).2])) st):PC 426 [.str (s.drop i.toNat)] st R:=by
 rw [e];exact jT (by grind) h
theorem Tm (hl:s.length<=100000000) (hp:p<s.length) (hb:st.box b=some (qC s p tx o w1 g w2))
 (h:∀v n,Hf tx (s.drop p)=some (v,n)->R (.ret (.int .i64 v)) (st.Aa b (qC s (p+n) tx o w1 g w2))) (h0:Hf tx (s.drop p)=none->∀q,R (.BU (Ik p 51)) (st.Aa b (qC s q tx o w1 g w2))):
 PC 410 [.ptr b 0] st R:=by
 have d1:(s.drop p).drop 1=s.drop (p+1):=List.drop_drop
 have d2:(s.drop p).drop 2=s.drop (p+1+1):=List.drop_drop
 refine AV Ad [] Tryz.func410 rfl Do rfl ?_
 refine Aj (Ai Ad ?_)
 repeat' ((conv=>whnf);first|exact Df|(refine BR ?_;intros)|(refine Dg ?_ ?_ ?_;rotate_left)|(refine BS ?_ ?_<;>intro _)|with_reducible refine WF ?_)
 refine Aj (Ai Ad ?_)
 repeat' ((conv=>whnf);first|exact Df|(refine BR ?_;intros)|(refine Dg ?_ ?_ ?_;rotate_left)|(refine BS ?_ ?_<;>intro _)|refine Am hb ?_|with_reducible refine WF ?_)
 refine Aj (Ai Ad ?_)
 repeat' ((conv=>whnf);first|exact Df|(refine BR ?_;intros)|(refine Dg ?_ ?_ ?_;rotate_left)|(refine BS ?_ ?_<;>intro _)|refine Am hb ?_|with_reducible refine WF ?_)
 refine Xz (st':=st.Aa b (qC s (p+1) tx o w1 g w2)) rfl ?_
 have endq:∀{i:Int} {q:Nat},i=(q:Int)->(st.Aa b (qC s (p+1) tx o w1 g w2)).Aa b [V.str s,.int .i64 i,.bool tx,.slice 1 (ints o) w1,.slice 2 (hX g) w2]=st.Aa b (qC s q tx o w1 g w2):=λe=>by rw [St.Jk,QP e]
 have endp:∀{q:Nat},(st.Aa b (qC s (p+1) tx o w1 g w2)).Aa b (qC s q tx o w1 g w2)=st.Aa b (qC s q tx o w1 g w2):=St.Jk _ _ _ _
 have U:(st.Aa b (qC s (p+1) tx o w1 g w2)).box b=some (qC s (p+1) tx o w1 g w2):=St.AL _ _ _
 have h0':=λe=>h0 e (p+1)
 generalize hst:st.Aa b (qC s (p+1) tx o w1 g w2)=st1 at U endq endp h0'
 have hx1:=IU (s.drop (p+1))
 have hx2:=IU (s.drop (p+1+1))
 have hxl:=dN (s.drop (p+1))
 have hby0:∀{R:Ay->St->Prop},R (.ret (.int .u8 (JX (s.drop (p+1))))) st1->PC 375 [.ptr b 0,.int .i64 0] st1 R:=λh=>Em (k:=0) hl AC Do U h
 have hby1:∀{R:Ay->St->Prop},R (.ret (.int .u8 (JX (s.drop (p+1+1))))) st1->PC 375 [.ptr b 0,.int .i64 1] st1 R:=λh=>Em (k:=1) hl AC Do U h
 have l1:=λh=>Cc (l:=s) (k:=p+1) h
 have l2:=λh=>Cc (l:=s) (k:=p+1+1) h
 cases hsg:GP (AQ (s.drop (p+1))) with
 |some v=>
  have hv:=Up hsg
  have h1:=h v 2 (du ke)
  have hsn:∀{R:Ay->St->Prop},R (.ret (oi (some v))) st1->PC 424 [.int .u8 (JX (s.drop (p+1)))] st1 R:=λh=>fW AC AC (by grind)
  refine Ai Ad ?_
  repeat' ((conv=>whnf);first|exact Df|(refine BR ?_;intros)|(refine Dg ?_ ?_ ?_;rotate_left)|(refine BS ?_ ?_<;>intro _)|refine hby0 ?_|refine hsn ?_|refine Am U ?_|with_reducible refine WF ?_)
  exact Hi (endq AC) h1 rfl
 |none=>
  have hne:=kG hsg
  have hsn:∀{R:Ay->St->Prop},R (.ret (oi none)) st1->PC 424 [.int .u8 (JX (s.drop (p+1)))] st1 R:=λh=>fW AC AC (by rw [kF,hsg];exact h)
  refine Aj (Ai Ad ?_)
  repeat' ((conv=>whnf);first|exact Df|(refine BR ?_;intros)|(refine Dg ?_ ?_ ?_;rotate_left)|(refine BS ?_ ?_<;>intro _)|refine hby0 ?_|with_reducible refine WF ?_)
  refine Aj (Ai Ad ?_)
  repeat' ((conv=>whnf);first|exact Df|(refine BR ?_;intros)|(refine Dg ?_ ?_ ?_;rotate_left)|(refine BS ?_ ?_<;>intro _)|refine hsn ?_|with_reducible refine WF ?_)
  by_cases c1:AQ (s.drop (p+1))=38/\tx=true
  .obtain ⟨c1,rfl⟩:=c1
   have h1:=h (-1) 2 (dm ke)
   refine Ai Ad ?_
   repeat' ((conv=>whnf);first|exact Df|(refine BR ?_;intros)|(refine Dg ?_ ?_ ?_;rotate_left)|(refine BS ?_ ?_<;>intro _)|refine Am U ?_|with_reducible refine WF ?_)
   exact Hi (endq AC) h1 rfl
  by_cases c2:AQ (s.drop (p+1))=94/\64<=AQ (s.drop (p+1+1))/\AQ (s.drop (p+1+1))<=95
  .obtain ⟨c2,c3,c4⟩:=c2
   have h1:=h _ 3 (dn ke ke ke)
   rw [d2] at h1
   have hp2:=l2 AC
   obtain ⟨e,he⟩:∃e,s[p+1+1]? =some e:=⟨s[p+1+1],List.getElem?_eq_getElem hp2⟩
   have he':s[(((p+1:Nat):Int)+2 - 1).toNat]? =some e:=by rw [show (((p+1:Nat):Int)+2 - 1).toNat=p+1+1 by omega];exact he
   have hv:=DL he
   have hew:∀{K:Int->Prop},K (AQ (s.drop (p+1+1)) - 64)->∃r,r=IntKind.u8.wrap ((e.toNat:Nat) - 64:Int)/\K r:=λk=>⟨_,by rw [hv];exact (u8_in AC AC).symm,k⟩
   refine Ai Ad ?_
   repeat' ((conv=>whnf);first|exact Df|(refine BR ?_;intros)|(refine Dg ?_ ?_ ?_;rotate_left)|(refine BS ?_ ?_<;>intro _)|refine hby1 ?_|refine Am U ?_|refine Am (St.AL _ _ _) ?_|refine hew ?_|with_reducible refine WF ?_)
   exact Hi (endq AC) h1 rfl
  by_cases c3:AQ (s.drop (p+1))=111
  .have he:=dt (tx:=tx) (l:=s.drop p) ke
   rw [d2] at he
   have hp1:=l1 AC
   refine Ai Ad ?_
   repeat' ((conv=>whnf);first|exact Df|(refine BR ?_;intros)|(refine Dg ?_ ?_ ?_;rotate_left)|(refine BS ?_ ?_<;>intro _)|refine Am U ?_|refine OB (k:=1) hl AC (.inl rfl) U (λv n hv=>?_) (λhv=>?_)|with_reducible refine WF ?_)
   all_goals try rw [hv] at he
   .have h1:=h v (2+n) he
    exact Hi (endp.trans (by grind)) h1 rfl
   .exact fin (h0' he) rfl
  by_cases c4:AQ (s.drop (p+1))=120
  .have he:=dq (tx:=tx) (l:=s.drop p) ke
   rw [d2] at he
   have hp1:=l1 AC
   refine Ai Ad ?_
   repeat' ((conv=>whnf);first|exact Df|(refine BR ?_;intros)|(refine Dg ?_ ?_ ?_;rotate_left)|(refine BS ?_ ?_<;>intro _)|refine Am U ?_|refine OB (k:=1) hl AC (.inr (.inr rfl)) U (λv n hv=>?_) (λhv=>?_)|with_reducible refine WF ?_)
   all_goals try rw [hv] at he
   .have h1:=h v (2+n) he
    exact Hi (endp.trans (by grind)) h1 rfl
   .exact fin (h0' he) rfl
  by_cases c5:48<=AQ (s.drop (p+1))/\AQ (s.drop (p+1))<=57
  .have he:=dp (tx:=tx) (l:=s.drop p) ke ke
   rw [d1] at he
   have hp1:=l1 AC
   refine Ai Ad ?_
   repeat' ((conv=>whnf);first|exact Df|(refine BR ?_;intros)|(refine Dg ?_ ?_ ?_;rotate_left)|(refine BS ?_ ?_<;>intro _)|refine Am U ?_|refine OB (k:=0) hl AC (.inr (.inl rfl)) U (λv n hv=>?_) (λhv=>?_)|with_reducible refine WF ?_)
   all_goals try rw [show IL 10 (s.drop (p+1))=_ from hv] at he
   .have h1:=h v (1+n) he
    exact Hi (endp.trans (by grind)) h1 rfl
   .exact fin (h0' he) rfl
  .have he:=dr (tx:=tx) (l:=s.drop p) ke ke ke ke ke ke
   rw [d1] at he
   have hc1:JX (s.drop (p+1))=38->tx=false:=λe=>by simp_all
   have hnl:=R8 (s.drop (p+1)) Et 0 (0,0) (Nat.zero_le _)
   have hnn:(IK (s.drop (p+1))).2<=s.length - (p+1):=by simp only [IK];rw [List.length_drop] at hnl;omega
   have f2:¬(JX (s.drop (p+1))=94/\64<=JX (s.drop (p+1+1))/\JX (s.drop (p+1+1))<=95):=λe=>c2 ⟨AC,AC,AC⟩
   have f3:¬JX (s.drop (p+1))=111:=AC
   have f4:¬JX (s.drop (p+1))=120:=AC
   have f5:¬(48<=JX (s.drop (p+1))/\JX (s.drop (p+1))<=57):=AC
   have e1:=λ(n:Nat) (hn:(IK (s.drop (p+1))).2=n) (h0:0<n)=>h _ (1+n) (by rw [he,hn,if_pos h0])
   have e2:=λ(h0:¬0<(IK (s.drop (p+1))).2)=>h0' ke
   generalize JX (s.drop (p+1))=x1 at hby0 hc1 f2 f3 f4 f5 hx1 hsn
   generalize JX (s.drop (p+1+1))=x2 at hby1 f2 hx2
   generalize hN:IK (s.drop (p+1))=N at e1 e2 hnn
   obtain ⟨v,n⟩:=N
   have e1:=e1 n rfl
   dsimp only at e1 e2 hnn
   have hnam:∀{i:Int} {R:Ay->St->Prop},i.toNat=p+1->R (.ret (.Bq [.int .i64 v,.int .i64 (n:Int)])) st1->PC 426 [.str (s.drop i.toNat)] st1 R:=λe h=>jU e hl ke
   clear he h h0 h0' hsg hne hsn c1 c2 c3 c4 c5 hx1 hx2 hxl l1 l2 d1 d2 hnl hby0 endp hb hN
   by_cases h38:x1=38
   .have e:=hc1 h38
    subst e
    refine Ai Ad ?_
    repeat' ((conv=>whnf);first|exact Df|(refine BR ?_;intros)|(refine Dg ?_ ?_ ?_;rotate_left)|(refine BS ?_ ?_<;>intro _)|refine hby1 ?_|refine Am U ?_|refine hnam AC ?_|refine FF ?_|with_reducible refine WF ?_)
    all_goals first
     |exact Hi (endq AC) (e1 AC) rfl
     |exact fin (e2 AC) rfl
   .clear hc1
    refine Ai Ad ?_
    repeat' ((conv=>whnf);first|exact Df|(refine BR ?_;intros)|(refine Dg ?_ ?_ ?_;rotate_left)|(refine BS ?_ ?_<;>intro _)|refine hby1 ?_|refine Am U ?_|refine hnam AC ?_|refine FF ?_|with_reducible refine WF ?_)
    all_goals first
     |exact Hi (endq AC) (e1 AC) rfl
     |exact fin (e2 AC) rfl
end
end Go.Proofs.Z
namespace Go.Aw
open Go
theorem eV (h:0<En l):Ig true l=.inr (-1,En l):=by
 cases l with
 |nil=>exact absurd h Do
 |cons a r=>
  have U:AQ (a::r)=92:=by
   by_cases U:AQ (a::r)=92
   .exact U
   .unfold En at h;simp_all
  unfold Ig
  simp_all
theorem eU (U:AQ l=92) (h:tx=false\/En l=0):Ig tx l=match Hf tx l with|none=>.inl 51|some p=>.inr p:=by
 cases l with
 |nil=>exact absurd U Do
 |cons a r=>
  unfold Ig
  grind
theorem al (U:l≠[]) (h1:AQ l≠92):Ig tx l=if KN (AK l) then .inl 50 else .inr (((AK l).1:Nat),(AK l).2):=by
 cases l with
 |nil=>rfl
 |cons a r=>
  unfold Ig
  simp_all
theorem Vr (h:AJ c≠0):c<=1114111:=by
 by_cases hc:c<=1114111
 .exact hc
 .refine absurd ?_ h
  unfold AJ KS
  omega
theorem XH {c:Nat}:KN (c,m)=true↔AJ (c:Int)=0\/(AJ (c:Int)=1/\¬c=32)\/(c=65533/\m=1):=by
 simp only [KN,Bool.or_eq_true,Bool.and_eq_true,Bool.not_eq_true',beq_iff_eq,beq_eq_false_iff_ne,ne_eq]
 omega
def Sj (o:List Int) (v:Int):List Int:=if v= -1 then o else o++[v]
end Go.Aw
namespace Go.Proofs.Z
open Go Go.Aw
def QB (st0 st:St) (b:Nat) (s:List UInt8) (tx:Bool):Prop:=∃q o w1 g w2,st.box b=some (qC s q tx o w1 g w2)/\BW st0 st w1 o.length w2 (2*g.length)
section
variable {st:St} {R:Ay->St->Prop}
attribute [local irreducible] Go.Aw.Ag
theorem oY (hl:s.length<=100000000) (hp:p<=s.length) (hb:st.box b=some (qC s p tx o w1 g w2)) (hr:BW st0 st w1 o.length w2 (2*g.length)) (hgl:g.length<=100000000)
 (h0:(tx=false\/En (s.drop p)=0)->R (.ret (.bool false)) st)
 (h:tx=true->0<En (s.drop p)->∀w2' st',BW st0 st' w1 o.length w2' (2*(g++[(p,p+En (s.drop p))]).length)->st'.box=st.box->R (.ret (.bool true)) (st'.Aa b (qC s (p+En (s.drop p)) true o w1 (g++[(p,p+En (s.drop p))]) w2'))):PC 409 [.ptr b 0] st R:=by
 by_cases hg:tx=false\/En (s.drop p)=0
 .exact nq hl hp hb hg (h0 hg)
 .have ht:tx=true:=by cases tx;· simp_all
                      rfl
  subst ht
  have U:0<En (s.drop p):=by
   rcases Nat.eq_zero_or_pos (En (s.drop p)) with e|e
   .omega
   .exact e
  exact jo hl hb U hr hgl (h rfl U)
theorem l4 (hl:s.length<=100000000) (hp:p<=s.length) (hb0:st0.box b=none) (hb:st.box b=some (qC s p tx o w1 g w2)) (hr:BW st0 st w1 o.length w2 (2*g.length))
 (ho:o.length<=100000000) (hgl:g.length<=100000000)
 (h0:∀e,Ig tx (s.drop p)=.inl e->∀st',QB st0 st' b s tx->R (.BU (Ik p e)) st')
 (h:∀v n,Ig tx (s.drop p)=.inr (v,n)->∀w1' w2' st' g',BW st0 st' w1' (Sj o v).length w2' (2*g'.length)->st'.box b=some (qC s (p+n) tx (Sj o v) w1' g' w2')->g'=(if tx=true/\0<En (s.drop p) then g++[(p,p+n)] else g)->R (.ret (.Bq [])) st'):
 PC 376 [.ptr b 0] st R:=by
 have hqb:QB st0 st b s tx:=⟨p,o,w1,g,w2,hb,hr⟩
 refine AV Ad [] Tryz.func376 rfl Do rfl ?_
 by_cases U:s.length<=p
 .have hd:s.drop p=[]:=List.drop_eq_nil_iff.2 AC
  have h0:=h0 50 (by rw [hd];rfl) st hqb
  refine Ai Ad ?_
  repeat' ((conv=>whnf);first|exact Df|(refine BR ?_;intros)|(refine Dg ?_ ?_ ?_;rotate_left)|(refine BS ?_ ?_<;>intro _)|refine Am hb ?_|refine FF ?_|with_reducible refine WF ?_)
  exact fin h0 rfl
 have U:p<s.length:=AC
 obtain ⟨e,he⟩:∃e,s[p]? =some e:=⟨s[p],List.getElem?_eq_getElem U⟩
 have he':s[(p:Int).toNat]? =some e:=he
 have hv:=DL he
 refine Aj (Ai Ad ?_)
 repeat' ((conv=>whnf);first|exact Df|(refine BR ?_;intros)|(refine Dg ?_ ?_ ?_;rotate_left)|(refine BS ?_ ?_<;>intro _)|refine Am hb ?_|refine FF ?_|with_reducible refine WF ?_)
 refine Aj (Ai Ad ?_)
 repeat' ((conv=>whnf);first|exact Df|(refine BR ?_;intros)|(refine Dg ?_ ?_ ?_;rotate_left)|(refine BS ?_ ?_<;>intro _)|refine oY hl hp hb hr hgl (λhg=>?_) (λht hg w2' st1 hr1 hb1=>?_)|with_reducible refine WF ?_)
 .by_cases h92:AQ (s.drop p)=92
  .have h1:=eU h92 hg
   have hng:¬(tx=true/\0<En (s.drop p)):=λx=>by simp_all
   rcases hesc:Hf tx (s.drop p) with _|⟨v,n⟩
   .rw [hesc] at h1
    have h0:=h0 51 h1
    have hE:∀{R:Ay->St->Prop},(∀q,R (.BU (Ik p 51)) (st.Aa b (qC s q tx o w1 g w2)))->PC 410 [.ptr b 0] st R:=λh=>Tm hl U hb (λv n x=>by simp_all) (λ_=>h)
    refine Ai Ad ?_
    repeat' ((conv=>whnf);first|exact Df|(refine BR ?_;intros)|(refine Dg ?_ ?_ ?_;rotate_left)|(refine BS ?_ ?_<;>intro _)|refine Am hb ?_|refine hE (λq=>?_)|with_reducible refine WF ?_)
    exact fin (h0 _ ⟨_,_,_,_,_,St.AL _ _ _,hr.set hb0 _⟩) rfl
   .rw [hesc] at h1
    have hn:=X4 hesc
    rw [List.length_drop] at hn
    dsimp only at hn
    have h:=h v n h1
    rw [if_neg hng] at h
    have hb2:=St.AL st b (qC s (p+n) tx o w1 g w2)
    have hr2:=hr.set hb0 (qC s (p+n) tx o w1 g w2)
    have hE:∀{R:Ay->St->Prop},R (.ret (.int .i64 v)) (st.Aa b (qC s (p+n) tx o w1 g w2))->PC 410 [.ptr b 0] st R:=λh=>Tm hl U hb (λv' n' x=>by simp_all) (λx=>by simp_all)
    generalize st.Aa b (qC s (p+n) tx o w1 g w2)=st2 at hb2 hr2 hE
    unfold Sj at h
    by_cases hv1:v= -1
    .rw [if_pos hv1] at h
     refine Ai Ad ?_
     repeat' ((conv=>whnf);first|exact Df|(refine BR ?_;intros)|(refine Dg ?_ ?_ ?_;rotate_left)|(refine BS ?_ ?_<;>intro _)|refine Am hb ?_|refine hE ?_|with_reducible refine WF ?_)
     all_goals first
      |exact fin (h w1 w2 st2 g hr2 hb2 rfl) rfl
      |(exfalso;omega)
    .rw [if_neg hv1] at h
     refine Ai Ad ?_
     repeat' ((conv=>whnf);first|exact Df|(refine BR ?_;intros)|(refine Dg ?_ ?_ ?_;rotate_left)|(refine BS ?_ ?_<;>intro _)|refine Am hb ?_|refine Am hb2 ?_|refine hE ?_|refine Uh hr2 AC (λw1' st3 hr3 hb3=>?_)|refine Am ((congrFun hb3 b).trans hb2) ?_|with_reducible refine WF ?_)
     exact fin (h w1' w2 _ g (hr3.set hb0 _) (St.AL _ _ _) rfl) rfl
  .have h1:=al (tx:=tx) (Rz U) h92
   have hng:¬(tx=true/\0<En (s.drop p)):=λx=>by simp_all
   rcases hd:AK (s.drop p) with ⟨c,m⟩
   have hrn:=rune_le U hd.symm
   have hx:Lr s p=((c:Int),(m:Int)):=by rw [Lt AC AC,NK U hd.symm]
   rw [hd] at h1
   refine Aj (Ai Ad ?_)
   repeat' ((conv=>whnf);first|exact Df|(refine BR ?_;intros)|(refine Dg ?_ ?_ ?_;rotate_left)|(refine BS ?_ ?_<;>intro _)|refine Am hb ?_|with_reducible refine WF ?_)
   refine Aj (Ai Ad ?_)
   repeat' ((conv=>whnf);first|exact Df|(refine BR ?_;intros)|(refine Dg ?_ ?_ ?_;rotate_left)|(refine BS ?_ ?_<;>intro _)|refine Am hb ?_|refine Yp AC hx ?_|with_reducible refine WF ?_)
   refine Aj (Ai Ad ?_)
   repeat' ((conv=>whnf);first|exact Df|(refine BR ?_;intros)|(refine Dg ?_ ?_ ?_;rotate_left)|(refine BS ?_ ?_<;>intro _)|refine Ju ?_|with_reducible refine WF ?_)
   cases hbad:KN (c,m) with
   |true=>
    rw [if_pos hbad] at h1
    have h0:=h0 50 h1 st hqb
    refine Ai Ad ?_
    have hbi:=XH.1 hbad
    repeat' ((conv=>whnf);first|exact Df|(refine BR ?_;intros)|(refine Dg ?_ ?_ ?_;rotate_left)|(refine BS ?_ ?_<;>intro _)|refine Am hb ?_|refine FF ?_|with_reducible refine WF ?_)
    all_goals first|exact fin h0 rfl|(exfalso;omega)
   |false=>
    rw [if_neg ke] at h1
    have h:=h (c:Int) m h1
    rw [if_neg hng] at h
    unfold Sj at h
    rw [if_neg AC] at h
    have hbi:¬(AJ (c:Int)=0\/(AJ (c:Int)=1/\¬c=32)\/(c=65533/\m=1)):=λx=>by rw [XH.2 x] at hbad;grind
    have hcm:=Vr (c:=(c:Int)) AC
    refine Ai Ad ?_
    repeat' ((conv=>whnf);first|exact Df|(refine BR ?_;intros)|(refine Dg ?_ ?_ ?_;rotate_left)|(refine BS ?_ ?_<;>intro _)|refine Am hb ?_|refine FF ?_|refine Uh hr AC (λw1' st3 hr3 hb3=>?_)|refine Am ((congrFun hb3 b).trans hb) ?_|refine Am (St.AL _ _ _) ?_|with_reducible refine WF ?_)
    all_goals exact fin (h w1' w2 _ g ((hr3.set hb0 _).set hb0 _) ((St.AL _ _ _).trans (congrArg some (QP AC))) rfl) rfl
 .subst ht
  have h1:=eV hg
  have h:=h _ _ h1 w1 w2' (st1.Aa b (qC s (p+En (s.drop p)) true o w1 (g++[(p,p+En (s.drop p))]) w2')) _ (hr1.set hb0 _) (St.AL _ _ _) (if_pos ⟨rfl,hg⟩).symm
  repeat' ((conv=>whnf);first|exact Df|(refine BR ?_;intros)|(refine Dg ?_ ?_ ?_;rotate_left)|(refine BS ?_ ?_<;>intro _)|with_reducible refine WF ?_)
  exact fin h rfl
end
end Go.Proofs.Z
namespace Go.Aw
open Go
theorem p7 {b:Bool} {p q:Prop} (h:b=false) (k:q):Bc b p q:=by subst h;exact Wj k
theorem p8 {b:Bool} {p q:Prop} (h:b=true) (k:p):Bc b p q:=by subst h;exact Wi k
theorem bg (h:AQ l=34):Ex l=.inr 1:=by rw [Ex,if_pos h]
theorem bf {e:Int} (h:AQ l≠34) (k:Ig true l=.inl e):Ex l=.inl (0,e):=by
 rw [Ex,if_neg h]
 split
 .rename_i e' U;rw [k] at U;injection U with U;rw [U]
 .rename_i p hp;rw [k] at hp;cases hp
theorem gr (h:AQ l≠34) (k:Ig true l=.inr (v,n)):Ex l=match Ex (l.drop n) with| .inl q=>.inl (q.1+n,q.2)| .inr m=>.inr (m+n):=by
 rw [Ex,if_neg h]
 split
 .rename_i e' he;rw [k] at he;cases he
 .rename_i p U;rw [k] at U;injection U with U;subst U;rfl
theorem bh (h:AQ l=34):IC l=[]:=by rw [IC,if_pos h]
theorem gu (h:AQ l≠34) (k:Ig true l=.inr (v,n)):IC l=if v= -1 then IC (l.drop n) else v::IC (l.drop n):=by
 rw [IC,if_neg h]
 split
 .rename_i e' he;rw [k] at he;cases he
 .rename_i p U;rw [k] at U;injection U with U;subst U;rfl
theorem bj {q:Nat} (h:AQ l=34):ID q l=[]:=by rw [ID,if_pos h]
theorem gv {q:Nat} (h:AQ l≠34) (k:Ig true l=.inr (v,n)):ID q l=if 0<En l then (q,q+n)::ID (q+n) (l.drop n) else ID (q+n) (l.drop n):=by
 rw [ID,if_neg h]
 split
 .rename_i e' he;rw [k] at he;cases he
 .rename_i p U;rw [k] at U;injection U with U;subst U;rfl
def Y7 (q:Nat):Sum (Nat×Int) Nat->Sum (Nat×Int) Nat
 | .inl k=>.inl (q+k.1,k.2)
 | .inr n=>.inr (q+n)
theorem ib {q:Nat} (h:AQ l≠34) (k:Ig true l=.inr (v,n)):Y7 q (Ex l)=Y7 (q+n) (Ex (l.drop n)):=by
 rw [gr h k]
 cases Ex (l.drop n) with
 |inl k=>simp only [Y7];congr 2;omega
 |inr m=>simp only [Y7];congr 1;omega
structure qq where
 q:Nat
 o:List Int
 g:List (Nat×Nat)
 w1:AB
 w2:AB
 m:St
end Go.Aw
namespace Go.Proofs.Z
open Go Go.Aw
section
variable {st:St} {R:Ay->St->Prop}
theorem Z2 (hl:s.length<=100000000) (hp:AQ (s.drop p)=34) (hb0:st0.box b=none) (hb:st.box b=some (qC s p tx [] w1 [] w2)) (hr:BW st0 st w1 0 w2 0)
 (h0:∀k e,Ex (s.drop (p+1))=.inl (k,e)->∀st',QB st0 st' b s true->R (.BU (Ik (p+1+k:Nat) e)) st')
 (h:∀n,Ex (s.drop (p+1))=.inr n->∀w1' w2' st',BW st0 st' w1' (IC (s.drop (p+1))).length w2' (2*(ID (p+1) (s.drop (p+1))).length)->st'.box b=some (qC s (p+1+n) true (IC (s.drop (p+1))) w1' (ID (p+1) (s.drop (p+1))) w2')->R (.ret (.int .i64 14)) st'):
 PC 331 [.ptr b 0] st R:=by
 have hpl:p<s.length:=Cc (k:=p) AC
 obtain ⟨e,he⟩:∃e,s[p]? =some e:=⟨s[p],List.getElem?_eq_getElem hpl⟩
 have he':s[(p:Int).toNat]? =some e:=he
 have hv:=DL he
 have hv34:((e.toNat:Nat):Int)=34:=AC
 refine AV Ad [] Tryz.func331 rfl Do rfl ?_
 refine Aj (Ai Ad ?_)
 repeat' ((conv=>whnf);first|exact Df|(refine BR ?_;intros)|(refine Dg ?_ ?_ ?_;rotate_left)|(refine BS ?_ ?_<;>intro _)|with_reducible refine WF ?_)
 refine Aj (Ai Ad ?_)
 repeat' ((conv=>whnf);first|exact Df|(refine BR ?_;intros)|(refine Dg ?_ ?_ ?_;rotate_left)|(refine BS ?_ ?_<;>intro _)|refine Am hb ?_|with_reducible refine WF ?_)
 refine Aj (Ai Ad ?_)
 repeat' ((conv=>whnf);first|exact Df|(refine BR ?_;intros)|(refine Dg ?_ ?_ ?_;rotate_left)|(refine BS ?_ ?_<;>intro _)|refine Am hb ?_|with_reducible refine WF ?_)
 refine Aj (Ai Ad ?_)
 repeat' ((conv=>whnf);first|exact Df|(refine BR ?_;intros)|(refine Dg ?_ ?_ ?_;rotate_left)|(refine BS ?_ ?_<;>intro _)|refine Am (St.AL _ _ _) ?_|with_reducible refine WF ?_)
 refine Xz (st':=st.Aa b (qC s (p+1) true [] w1 [] w2)) (St.Jk _ _ _ _).symm ?_
 have hb1:=St.AL st b (qC s (p+1) true [] w1 [] w2)
 have hr1:=hr.set hb0 (qC s (p+1) true [] w1 [] w2)
 generalize st.Aa b (qC s (p+1) true [] w1 [] w2)=st1 at hb1 hr1
 refine Ai Ad ?_
 repeat' ((conv=>whnf);first|exact Df|(refine BR ?_;intros)|(refine Dg ?_ ?_ ?_;rotate_left)|(refine BS ?_ ?_<;>intro _)|refine Am hb1 ?_|with_reducible refine WF ?_)
 refine R2 (α:=qq) (λ_=>[]) [0,3] [] (λx=>x.m) (λx=>x.m.box b=some (qC s x.q true x.o x.w1 x.g x.w2)/\BW st0 x.m x.w1 x.o.length x.w2 (2*x.g.length)/\x.q<=s.length/\p+1<=x.q/\x.o.length<=x.q/\x.g.length<=x.q/\
  Y7 (p+1) (Ex (s.drop (p+1)))=Y7 x.q (Ex (s.drop x.q))/\IC (s.drop (p+1))=x.o++IC (s.drop x.q)/\ID (p+1) (s.drop (p+1))=x.g++ID x.q (s.drop x.q))
  (λx=>s.length - x.q) ⟨p+1,[],[],w1,w2,st1⟩ ⟨hb1,hr1,by simp only [];omega,Nat.le_refl _,GT,GT,rfl,rfl,rfl⟩ Yl (St.le_refl _) ?_
 rintro ⟨q,o,g,v1,v2,m⟩ ⟨j1,j2,j3,j4,j5,j6,U,j8,j9⟩
 dsimp only at j1 j2 j3 j4 j5 j6 U j8 j9 |-
 have hx:=IU (s.drop q)
 have hbt:∀{R:Ay->St->Prop},R (.ret (.int .u8 (JX (s.drop q)))) m->PC 375 [.ptr b 0,.int .i64 0] m R:=λh=>Em (k:=0) hl j3 Do j1 h
 by_cases hq:AQ (s.drop q)=34
 .have hql:q<s.length:=Cc (k:=q) AC
  rw [bg hq] at U
  rw [bh hq,List.append_nil] at j8
  rw [bj hq,List.append_nil] at j9
  clear h0
  have hcd:(!JX (s.drop q)==((e.toNat:Nat):Int))=false:=by rw [show JX (s.drop q)=((e.toNat:Nat):Int) by omega];simp
  repeat' ((conv=>whnf);first|refine p7 hcd ?_|exact Df|(refine BR ?_;intros)|(refine Dg ?_ ?_ ?_;rotate_left)|(refine BS ?_ ?_<;>intro _)|refine hbt ?_|refine Am j1 ?_|with_reducible refine WF ?_)
  rw [j8,j9] at h
  cases hT:Ex (s.drop (p+1)) with
  |inl k=>rw [hT] at U;cases U
  |inr n=>
   rw [hT] at U
   have e7:p+1+n=q+1:=by injection U
   exact fin (h n hT v1 v2 _ (j2.set hb0 _) ((St.AL _ _ _).trans (congrArg some (QP AC)))) rfl
 .have hne:¬JX (s.drop q)=((e.toNat:Nat):Int):=AC
  have hcd:(!JX (s.drop q)==((e.toNat:Nat):Int))=true:=by rw [beq_eq_false_iff_ne.2 hne];rfl
  repeat' ((conv=>whnf);first|refine p8 hcd ?_|exact Df|(refine BR ?_;intros)|(refine Dg ?_ ?_ ?_;rotate_left)|(refine BS ?_ ?_<;>intro _)|refine hbt ?_|refine l4 hl j3 hb0 j1 j2 AC AC (λe' hE st' hQ=>?_) (λv n hO u1 u2 st' g' hR hB hG=>?_)|with_reducible refine WF ?_)
  .rw [bf hq hE] at U
   cases hT:Ex (s.drop (p+1)) with
   |inl k=>
    rw [hT] at U
    injection U with U
    injection U with e7 e8
    have:=h0 k.1 k.2 hT st' hQ
    rw [show p+1+k.1=q by simpa using e7,e8] at this
    exact fin this rfl
   |inr n=>rw [hT] at U;cases U
  .have hle:=Lv hO
   rw [List.length_drop] at hle
   dsimp only at hle
   rw [ib hq hO,List.drop_drop] at U
   rw [gu hq hO,List.drop_drop] at j8
   rw [gv hq hO,List.drop_drop] at j9
   have ho:(Sj o v).length<=o.length+1:=by unfold Sj;split<;>simp
   have hg:g'.length<=g.length+1:=by rw [hG];split<;>simp
   conv=>whnf
   refine ⟨⟨q+n,Sj o v,g',u1,u2,st'⟩,⟨hB,hR,by simp only [];omega,by simp only [];omega,by simp only [];omega,by simp only [];omega,U,?_,?_⟩,by simp only [];omega,Yl,St.le_refl _⟩
   .rw [j8]
    unfold Sj
    by_cases hv1:v= -1
    .rw [if_pos hv1,if_pos hv1]
    .rw [if_neg hv1,if_neg hv1];simp
   .rw [j9,hG]
    by_cases hg0:0<En (s.drop q)
    .rw [if_pos hg0,if_pos ⟨rfl,hg0⟩];simp
    .rw [if_neg hg0,if_neg (λx=>hg0 x.2)]
end
section
variable {st:St} {R:Ay->St->Prop}
theorem Z1 (hl:s.length<=100000000) (hp:AQ (s.drop p)=39) (hb0:st0.box b=none) (hb:st.box b=some (qC s p tx [] w1 [] w2)) (hr:BW st0 st w1 0 w2 0)
 (h0:∀k e,MP (s.drop (p+1))=.inl (k,e)->∀st',QB st0 st' b s false->R (.BU (Ik (p+1+k:Nat) e)) st')
 (h:∀n,MP (s.drop (p+1))=.inr n->∀o' w1' w2' st',BW st0 st' w1' (List.length o') w2' 0->st'.box b=some (qC s (p+1+n) false o' w1' [] w2')->R (.ret (.int .i64 13)) st'):
 PC 331 [.ptr b 0] st R:=by
 have hpl:p<s.length:=Cc (k:=p) AC
 obtain ⟨e,he⟩:∃e,s[p]? =some e:=⟨s[p],List.getElem?_eq_getElem hpl⟩
 have he':s[(p:Int).toNat]? =some e:=he
 have hv:=DL he
 have hv34:((e.toNat:Nat):Int)=39:=AC
 refine AV Ad [] Tryz.func331 rfl Do rfl ?_
 refine Aj (Ai Ad ?_)
 repeat' ((conv=>whnf);first|exact Df|(refine BR ?_;intros)|(refine Dg ?_ ?_ ?_;rotate_left)|(refine BS ?_ ?_<;>intro _)|with_reducible refine WF ?_)
 refine Aj (Ai Ad ?_)
 repeat' ((conv=>whnf);first|exact Df|(refine BR ?_;intros)|(refine Dg ?_ ?_ ?_;rotate_left)|(refine BS ?_ ?_<;>intro _)|refine Am hb ?_|with_reducible refine WF ?_)
 refine Aj (Ai Ad ?_)
 repeat' ((conv=>whnf);first|exact Df|(refine BR ?_;intros)|(refine Dg ?_ ?_ ?_;rotate_left)|(refine BS ?_ ?_<;>intro _)|refine Am hb ?_|with_reducible refine WF ?_)
 refine Aj (Ai Ad ?_)
 repeat' ((conv=>whnf);first|exact Df|(refine BR ?_;intros)|(refine Dg ?_ ?_ ?_;rotate_left)|(refine BS ?_ ?_<;>intro _)|refine Am (St.AL _ _ _) ?_|with_reducible refine WF ?_)
 refine Xz (st':=st.Aa b (qC s (p+1) false [] w1 [] w2)) (St.Jk _ _ _ _).symm ?_
 have U:=St.AL st b (qC s (p+1) false [] w1 [] w2)
 have hr1:=hr.set hb0 (qC s (p+1) false [] w1 [] w2)
 generalize st.Aa b (qC s (p+1) false [] w1 [] w2)=st1 at U hr1
 have hx:=IU (s.drop (p+1))
 have hbt:∀{R:Ay->St->Prop},R (.ret (.int .u8 (JX (s.drop (p+1))))) st1->PC 375 [.ptr b 0,.int .i64 0] st1 R:=λh=>Em (k:=0) hl AC Do U h
 have hqb:QB st0 st1 b s false:=⟨_,[],w1,[],w2,U,hr1⟩
 by_cases hq:AQ (s.drop (p+1))=39
 .have h0:=h0 0 50 (if_pos hq) st1 hqb
  clear h
  refine Ai Ad ?_
  repeat' ((conv=>whnf);first|exact Df|(refine BR ?_;intros)|(refine Dg ?_ ?_ ?_;rotate_left)|(refine BS ?_ ?_<;>intro _)|refine Am U ?_|refine hbt ?_|refine FF ?_|with_reducible refine WF ?_)
  exact fin h0 rfl
 refine Aj (Ai Ad ?_)
 repeat' ((conv=>whnf);first|exact Df|(refine BR ?_;intros)|(refine Dg ?_ ?_ ?_;rotate_left)|(refine BS ?_ ?_<;>intro _)|refine Am U ?_|with_reducible refine WF ?_)
 refine Aj (Ai Ad ?_)
 repeat' ((conv=>whnf);first|exact Df|(refine BR ?_;intros)|(refine Dg ?_ ?_ ?_;rotate_left)|(refine BS ?_ ?_<;>intro _)|refine hbt ?_|with_reducible refine WF ?_)
 refine Aj (Ai Ad ?_)
 repeat' ((conv=>whnf);first|exact Df|(refine BR ?_;intros)|(refine Dg ?_ ?_ ?_;rotate_left)|(refine BS ?_ ?_<;>intro _)|refine l4 (st0:=st0) hl AC hb0 U hr1 GT GT (λe' hE st' hQ=>?_) (λv n hO u1 u2 st' g' hR hB hG=>?_)|with_reducible refine WF ?_)
 .exact fin (h0 0 e' (by unfold MP;rw [if_neg hq,hE]) st' hQ) rfl
 .have hle:=Lv hO
  rw [List.length_drop] at hle
  dsimp only at hle
  rw [if_neg (λx=>by cases x.1)] at hG
  subst hG
  have hc:MP (s.drop (p+1))=if AQ (s.drop (p+1+n))=39 then .inr (n+1) else .inl (n,50):=by
   unfold MP
   rw [if_neg hq,hO]
   show (if AQ ((s.drop (p+1)).drop n)=39 then _ else _)=_
   rw [List.drop_drop]
  have hx2:=IU (s.drop (p+1+n))
  have hbt2:∀{R:Ay->St->Prop},R (.ret (.int .u8 (JX (s.drop (p+1+n))))) st'->PC 375 [.ptr b 0,.int .i64 0] st' R:=λh=>Em (k:=0) hl AC Do hB h
  clear hbt U hr1 hqb hb hr
  by_cases hq2:AQ (s.drop (p+1+n))=39
  .rw [if_pos hq2] at hc
   have h:=λst'=>h _ hc (Sj [] v) u1 u2 st'
   refine Ai Ad ?_
   repeat' ((conv=>whnf);first|exact Df|(refine BR ?_;intros)|(refine Dg ?_ ?_ ?_;rotate_left)|(refine BS ?_ ?_<;>intro _)|refine hbt2 ?_|refine Am hB ?_|with_reducible refine WF ?_)
   exact fin (h _ (hR.set hb0 _) ((St.AL _ _ _).trans (congrArg some (QP AC)))) rfl
  .rw [if_neg hq2] at hc
   have h0:=h0 _ _ hc st' ⟨_,_,_,_,_,hB,hR⟩
   refine Ai Ad ?_
   repeat' ((conv=>whnf);first|exact Df|(refine BR ?_;intros)|(refine Dg ?_ ?_ ?_;rotate_left)|(refine BS ?_ ?_<;>intro _)|refine hbt2 ?_|refine Am hB ?_|refine FF ?_|with_reducible refine WF ?_)
   exact fin h0 rfl
end
end Go.Proofs.Z
namespace Go.Aw
open Go
section
variable {D:List Deferred} {P:Program} {T:List (Nat×Ty)} {I0 I:Mem} {st0 st:St} {w0 w:World} {β:Nat->Option Nat} {env:Env} {a:Act}
theorem P9 (hP:Q6 P T) {fn:Func} (gl:List Nat) {args:List V} (hf:P.funcs[f]? =some fn) {c0 c1 c2 rest:Code} {rid:Nat} {mk df:Oper}
 (hb : fn.body = some (.seq c0 (.seq c1 (.seq c2 (.seq (.region rid #[mk, df] false) rest))))) (hn : (fn.name == "runtime.NumGoroutine") = false) {g : FuncId} {cap : Array Operand} {tf : Nat}
 (h1:mk.op=.makeFunc (.func g) #[] cap) (h2:mk.dst=some tf) (h3:mk.guard=none) (h4:df.op=.defer {callee:=.value (.tmp tf),args:=#[],argTypes:=#[]}) (h5:df.guard=none) (h6:df.dst=none)
 (hg:Plain P g) (hle:Nat.ble args.length fn.ntmps=true)
 (h:AW P c0 (BL (λenv st=>AW P c1 (BL (λenv st=>AW P c2 (λae env st=>match ae with
   | .normal=>SS env cap.toList λvs=>vs.all V.Yc=true/\env.go (some tf) (.func g [] vs) λenv=>AW P rest (VX P T g vs fn R) env st
   | .ret=>Ug T fn R env st
   |_=>False) env st) hH) env st) hH) {tmps:=Iw 0 args,boxes:=[],Bj:=0,sz:=fn.ntmps,gl} st):A3 P f args st R:=by
 refine ⟨?_,fn,hf,ke,hn⟩
 intro I w cargs hs hargs
 refine calls_of_wp_defers hf hb ?_
 refine wp_seq (wp_mono (h [] I st w I _ _ w (Gl gl hs hargs hle)) ?_)
 rintro e a w1 ⟨I1,β1,env1,st1,ae,r1,x1,k1⟩
 cases ae with
 |exit _|goto _|ret|BU _=>exact k1.elim
 |normal=>
 cases e with
 |exit _|goto _|ret|panic _|outgrown=>exact x1.elim
 |normal=>
 refine wp_seq (wp_mono (k1 [] I st w I1 _ _ w1 r1) ?_)
 rintro e a w2 ⟨I2,β2,env2,st2,ae,U,x2,k2⟩
 cases ae with
 |exit _|goto _|ret|BU _=>exact k2.elim
 |normal=>
 cases e with
 |exit _|goto _|ret|panic _|outgrown=>exact x2.elim
 |normal=>
 refine wp_seq (wp_mono (k2 [] I st w I2 _ _ w2 U) ?_)
 clear k2 U x2
 rintro e a w2 ⟨I2,β2,env2,st2,ae,U,x2,k2⟩
 cases ae with
 |exit _|goto _|BU _=>exact k2.elim
 |ret=>
  cases e with
  |normal|exit _|goto _|panic _|outgrown=>exact x2.elim
  |ret=>
   obtain ⟨v,c,g1,g2,g3⟩:=CD (P:=P) hP.t U k2
   show Leaves P fn a.tmps _ a.defers _ w2
   rw [U.f.defers]
   exact ⟨c,g1,I2,st2,.ret v,U.fr,U.s,g2,g3⟩
 |normal=>
 cases e with
 |exit _|goto _|ret|panic _|outgrown=>exact x2.elim
 |normal=>
 refine wp_seq (wp_region_list ?_)
 show wpList P #[mk,df] _ [mk,df] a w2
 unfold wpList
 rw [if_pos (by simp [Region.wanted,h3])]
 left
 obtain ⟨vs,hv,kp,kg⟩:=Fl U.f (show SS env2 cap.toList _ from k2)
 have hcv:AG I2 (.func g [] vs) (.func (.func g) #[] (cap.map a.eval)):=by
  simp only [AG]
  exact ⟨[],cap.toList.map a.eval,by congr 1;grind,H1,hv⟩
 obtain ⟨env3,r3,k3⟩:=B2 U (AR.of hcv) kg
 have htf:tf<a.tmps.size:=by
  rw [U.f.size]
  exact (Gu kg).1 tf rfl
 unfold Oper.wp
 rw [show (execOp a.eval mk).run P w2=.ok (.value (.func (.func g) #[] (cap.map a.eval))) w2 by simp only [execOp,h1,Array.map_empty];rfl]
 show wpList P #[mk,df] _ [df] (a.put mk.dst _) w2
 rw [h2]
 unfold wpList
 rw [if_pos (by simp [Region.wanted,h5])]
 left
 have hev:(a.put (some tf) (.func (.func g) #[] (cap.map a.eval))).eval (.tmp tf)=.func (.func g) #[] (cap.map a.eval):=by
  simp [Act.put,Act.eval,htf]
 unfold Oper.wp
 rw [show (execOp (a.put (some tf) (.func (.func g) #[] (cap.map a.eval))).eval df).run P w2=.ok (.defer {target:=.fn (.func g) (cap.map a.eval),args:=#[]}) w2 by
  simp only [execOp,h4,resolve,hev,Deferred.ofValue,Array.map_empty,Array.empty_append];rfl]
 rw [Oper.upon_defer]
 rw [h6]
 unfold wpList
 show rest.wp P _ _ _
 have r4:=r3.defer {target:=.fn (.func g) (cap.map a.eval),args:=#[]}
 refine wp_mono (k3 _ I st w I2 _ _ w2 r4) ?_
 rintro e a5 w5 ⟨I5,β5,env5,st5,ae,r5,x5,k5⟩
 have hd:=r5.f.defers
 obtain ⟨fn2,p1,p2,p3⟩:=hg
 have hinv:(invoke (.fn (.func g) (cap.map a.eval)) #[]).run P w5=.ok (.enter g (cap.toList.map a.eval).toArray) w5:=by
  have hb:fn2.body.isNone=false:=by cases hb:fn2.body<;>simp_all
  simp only [invoke,callFunc,Sem.run_bind,Sem.run_pure,Result.andThen_ok,run_program,p1]
  rw [p3]
  simp [hb]
  apply Array.ext';simp
 have last:∀{u:FrameMode} {x:Option V},u≠.run->(match x with|none=>u=.returning|some v=>∃c,u=.panicking [{v:=c,recovered:=false}]/\AG I5 v c)->HV P g vs x st5 (λst'=>Ug T fn R env5 st')->
  Leaves P fn a5.tmps (λe w'=>∃I' st' r,Fr I st w I' st' w'/\Ci I' st' w'/\Ue I' e r/\R r st') a5.defers u w5:=by
  intro u x hu hx k
  rw [hd]
  refine leaves_cons hu hinv ((k I5 w5 _ u r5.s (Ak.nS hv kp) hx).mono ?_)
  rintro e u' w6 ⟨⟨v,rfl⟩,hset,I6,st6,q1,q2,q3⟩
  show Leaves P fn a5.tmps _ [] (settle u') w6
  rw [hset]
  have r6:=r5.called q1 q2
  obtain ⟨v,c,g1,g2,g3⟩:=CD (P:=P) hP.t r6 q3
  exact ⟨c,g1,I6,st6,.ret v,r6.fr,r6.s,g2,g3⟩
 cases ae with
 |normal=>
  cases e with
  |normal=>exact last (x:=none) GT rfl k5
  |_=>exact x5.elim
 |ret=>
  cases e with
  |ret=>exact last (x:=none) GT rfl k5
  |_=>exact x5.elim
 |BU v=>
  cases e with
  |panic chain=>
   obtain ⟨c,rfl,hc⟩:=x5
   exact last (x:=some v) GT ⟨c,rfl,hc⟩ k5
  |_=>exact x5.elim
 |exit _=>exact k5.elim
 |goto _=>exact k5.elim
end
section
variable {D:List Deferred} {P:Program} {T:List (Nat×Ty)} {C:FuncId->List V->St->(Ay->St->Prop)->Prop} {I0 I:Mem} {st0 st:St} {w0 w:World} {β:Nat->Option Nat} {env:Env} {a:Act}
def gi {X:Type} (T:List (Nat×Ty)) (C:FuncId->List V->St->(Ay->St->Prop)->Prop) (all:List Oper) (Q:AE->Env->St->Prop) (E:X->List Bool->Env) (S:X->List Bool->St) (J:X->List Bool->Prop) (x:X) (p:List Bool×Nat):Prop:=
 match all[p.2]? with
 |some o=>A8 all o (E x p.1) (Fg T C o (E x p.1) (S x p.1) (λv env st=>env.go o.dst v λenv=>∃y,J y (p.1.set p.2 true)/\(E y (p.1.set p.2 true)).Ep env/\St.le (S y (p.1.set p.2 true)) st) Q)
   ((E x p.1).go o.dst (.Bq []) λenv=>∃y,J y (p.1.set p.2 true)/\(E y (p.1.set p.2 true)).Ep env/\St.le (S y (p.1.set p.2 true)) (S x p.1))
 |none=>True
theorem Vf (hT:FV P T) (hC:∀f args st R,C f args st R->Co P f args st R/\Plain P f) {all:List Oper} {Q:AE->Env->St->Prop} {E:X->List Bool->Env} {S:X->List Bool->St} {J:X->List Bool->Prop} {PL:List (List Bool×Nat)}
 (hc:GS all PL=true) (step:∀p ∈ PL,∀x,J x p.1->gi T C all Q E S J x p) (fin:∀x,J x (List.replicate all.length true)->Q .normal (E x (List.replicate all.length true)) (S x (List.replicate all.length true))):
 ∀(fuel:Nat) (bs:List Bool) (listed:Array Bool) (I:Mem) (β:Nat->Option Nat) (a:Act) (w:World),bs.length=all.length->listed.toList=bs->bs.count false<=fuel->
  (∀j,j<all.length->Bt all bs j=true->(bs,j) ∈ PL)->(bs=List.replicate all.length true\/∃j,j<all.length/\Bt all bs j=true)->
  ∀x,J x bs->Rel D I0 st0 w0 I β (E x bs) (S x bs) a w->wpAny P .any all.toArray (B0 D I0 st0 w0 Q) fuel listed a w:=by
 have full:∀{bs:List Bool},bs.length=all.length->bs.count false=0->bs=List.replicate all.length true:=λ{bs} hb h0=>by
  rw [List.eq_replicate_iff]
  grind
 have noready:∀{j:Nat},Bt all (List.replicate all.length true) j=true->j<all.length->False:=λ{j} h U=>by
  unfold Bt at h
  simp_all
 simp only [GS,Bool.and_eq_true,List.all_eq_true] at hc
 intro fuel
 induction fuel with
 |zero=>
  intro bs listed I β a w hb hl hf hp hr x U h
  have:=full hb AC
  subst this
  refine ⟨?_,⟨I,β,_,_,.normal,h,trivial,fin x U⟩⟩
  rw [List.eq_nil_iff_forall_not_mem]
  intro j U
  obtain ⟨h1,h2⟩:=(D0 hl hb).1 U
  grind
 |succ fuel ih=>
  intro bs listed I β a w hb hl hf hp hr x U h
  refine ⟨λh0=>?_,λi hi=>?_⟩
  .rcases hr with rfl|⟨j,h1,h2⟩
   .exact ⟨I,β,_,_,.normal,h,trivial,fin x U⟩
   .have:=(D0 hl hb).2 ⟨h1,h2⟩
    simp_all
  .obtain ⟨h1,h2⟩:=(D0 hl hb).1 hi
   have hm:=hp i h1 h2
   have hs:=step _ hm x U
   unfold gi at hs
   have ho:all[i]? =some all[i]:=List.getElem?_eq_getElem h1
   simp only [ho] at hs
   obtain ⟨⟨c1,c2⟩,c3⟩:=hc.2 _ hm
   refine KG hT hC (Q:=Q) ho (λ{I β env st a w} h k=>?_) h hs (K:=λenv st=>∃y,J y (bs.set i true)/\(E y (bs.set i true)).Ep env/\St.le (S y (bs.set i true)) st)
   .obtain ⟨y,kj,k⟩:=k
    have hbi:i<bs.length:=AC
    refine ih (bs.set i true) _ I _ a w ke (by simp [hl]) ?_ (λj U hr=>?_) ?_ y kj ((h.GQ k.2).Iy (Env.Iz k.1))
    .have:=List.count_set (a:=true) (i:=i) (l:=bs) (b:=false) hbi
     unfold Bt at h2
     grind
    .grind
    grind
theorem iq (hP:Q6 P T) (hC:∀f args st R,C f args st R->Co P f args st R/\Plain P f) {id:Nat} {ops:Array Oper} {Q:AE->Env->St->Prop} (E:X->List Bool->Env) (S:X->List Bool->St) (J:X->List Bool->Prop) (x0:X) (PL:List (List Bool×Nat))
 (hc:GS ops.toList PL=true) (j0:J x0 (List.replicate ops.toList.length false)) (h0:(E x0 (List.replicate ops.toList.length false)).Ep env) (s0:St.le (S x0 (List.replicate ops.toList.length false)) st) (step:∀p ∈ PL,∀x,J x p.1->gi T C ops.toList Q E S J x p)
 (fin:∀x,J x (List.replicate ops.toList.length true)->Q .normal (E x (List.replicate ops.toList.length true)) (S x (List.replicate ops.toList.length true))):AW P (.region id ops true) Q env st:=λD I0 st0 w0 I β a w h=>
 wp_region_any hP.m (by
  have U:=hc
  simp only [GS,Bool.and_eq_true,List.all_eq_true] at U
  have:=Vf (D:=D) hP.t hC hc step fin ops.size (List.replicate ops.toList.length false) (Array.replicate ops.size false) I _ a _ GT GT GT (λj hj hr=>?_) ?_ x0 j0 (((h.H4 (Fh.drew w)).GQ s0).Iy (Env.Iz h0))
  .simp_all
  .grind
  simp_all)
end
theorem A7 {st:St} {c:Nat} (h:b≠c):(st.Aa b cs).box c=st.box c:=by simp [St.Aa,Ne.symm h]
theorem DW {st:St} {c:Nat} (h:(st.Aa b cs).fresh c):b≠c/\st.fresh c:=by
 by_cases e:b=c
 .subst e
  have:=h.1
  rw [St.AL] at this
  cases this
 .refine ⟨e,?_,h.2⟩
  have:=h.1
  rw [A7 e] at this
  exact this
theorem Rh {st:St} {K:Nat->Prop} (h:∀b,st.fresh b->K b):∀b,st.fresh b->K b:=h
end Go.Aw
namespace Go.Proofs.Z
open Go Go.Aw
section
variable {st:St} {R:Ay->St->Prop}
attribute [local irreducible] Go.Aw.Ag
theorem T9 {b1 b2 b3:Nat} {U:St->Prop} (h:U st):HV Tryz.prog 330 [.ptr b1 0,.ptr b2 0,.ptr b3 0] none st U:=by
 refine EU Ad [] Tryz.func330 rfl rfl rfl rfl rfl rfl rfl rfl (λenv0 he=>?_)
 subst he
 conv=>whnf
 refine Aj (Ai Ad ?_)
 repeat' ((conv=>whnf);first|exact Df|(refine BR ?_;intros)|(refine Dg ?_ ?_ ?_;rotate_left)|(refine BS ?_ ?_<;>intro _)|with_reducible refine WF ?_)
 all_goals exact h
theorem M0 {b1 U b3 b4 q:Nat} {e k0 e0:Int} {RS:St->Prop} (h1:st.box b1=some [.ptr b4 0]) (h4:st.box b4=some (qC s q tx o w1 g w2)) (h2:st.box U=some [.int .i64 k0]) (h3:st.box b3=some [.int .i64 e0])
 (d2:b4≠U) (d3:b4≠b3) (d5:U≠b3) (h:RS (((st.Aa b4 (qC s p tx o w1 g w2)).Aa U [.int .i64 0]).Aa b3 [.int .i64 e])):HV Tryz.prog 330 [.ptr b1 0,.ptr U 0,.ptr b3 0] (some (Ik p e)) st RS:=by
 refine EU Ad [] Tryz.func330 rfl rfl rfl rfl rfl rfl rfl rfl (λenv0 he=>?_)
 subst he
 conv=>whnf
 refine Aj (Ai Ad ?_)
 repeat' ((conv=>whnf);first|exact Df|(refine BR ?_;intros)|(refine Dg ?_ ?_ ?_;rotate_left)|(refine BS ?_ ?_<;>intro _)|with_reducible refine WF ?_)
 refine Aj (Ai Ad ?_)
 repeat' ((conv=>whnf);first|exact Df|(refine BR ?_;intros)|(refine Dg ?_ ?_ ?_;rotate_left)|(refine BS ?_ ?_<;>intro _)|with_reducible refine WF ?_)
 refine Aj (Ai Ad ?_)
 repeat' ((conv=>whnf);first|exact Df|(refine BR ?_;intros)|(refine Dg ?_ ?_ ?_;rotate_left)|(refine BS ?_ ?_<;>intro _)|with_reducible refine WF ?_)
 have k2:∀cs,(st.Aa b4 cs).box U=some [.int .i64 k0]:=λcs=>(A7 d2).trans h2
 have k3:∀cs cs',((st.Aa b4 cs).Aa U cs').box b3=some [.int .i64 e0]:=λcs cs'=>(A7 d5).trans ((A7 d3).trans h3)
 refine Ai Ad ?_
 repeat' ((conv=>whnf);first|refine Ac [(0,true),(1,true),(2,true),(3,true),(4,true),(5,true),(6,true),(7,false),(8,false),(9,false)] [] GE ?_|exact Df|(refine BR ?_;intros)|(refine Dg ?_ ?_ ?_;rotate_left)|(refine BS ?_ ?_<;>intro _)|refine Am h1 ?_|refine Am h4 ?_|refine Am (k2 _) ?_|refine Am (k3 _ _) ?_|with_reducible refine WF ?_)
 all_goals exact h
theorem lV (hl:s.length<=100000000) (U:AQ (s.drop p)=34\/AQ (s.drop p)=39) (hb0:st0.box b=none) (hb:st.box b=some (qC s p tx [] w1 [] w2)) (hr:BW st0 st w1 0 w2 0)
 (h0:∀(q:Nat) e tx',Ct s p=(0,(q:Int),e)->∀st',QB st0 st' b s tx'->R (.BU (Ik q e)) st')
 (h:∀k (q:Nat),Ct s p=(k,(q:Int),0)->∀tx' o u1 g u2 st',BW st0 st' u1 (List.length o) u2 (2*List.length g)->st'.box b=some (qC s q tx' o u1 g u2)->R (.ret (.int .i64 k)) st'):PC 331 [.ptr b 0] st R:=by
 rcases U with U|U
 .refine Z2 hl U hb0 hb hr (λk e hT st' hQ=>h0 _ e true ?_ st' hQ) (λn hT u1 u2 st' hR hB=>h 14 _ ?_ _ _ _ _ _ st' hR hB)
  .unfold Ct;rw [if_pos U,hT]
  .unfold Ct;rw [if_pos U,hT]
 .refine Z1 hl U hb0 hb hr (λk e hT st' hQ=>h0 _ e false ?_ st' hQ) (λn hT o' u1 u2 st' hR hB=>h 13 _ ?_ _ _ _ _ _ st' hR hB)
  .unfold Ct;rw [if_neg AC,if_pos U,hT]
  .unfold Ct;rw [if_neg AC,if_pos U,hT]
noncomputable def ku:List Oper:=match Tryz.f270.body with|some (.seq _ (.seq _ (.seq _ (.seq _ (.seq (.region _ ops _) _)))))=>ops.toList|_=>[]
noncomputable def l9 (b1 b2 b3 U:Nat) (K:Int) (bs:List Bool):Env:=
 {tmps:=F0 [(4,.ptr b1 0),(5,.ptr b2 0),(6,.ptr b3 0)] ku [.ptr U 0,.ptr U 0,.int .i64 K,.BO,.BO,.BO] bs,boxes:=[],Bj:=1,sz:=39,gl:=[4,5,6,10]}
def pC (U b2 b3 b4:Nat) (K:Int) (m:St) (bs:List Bool):St:=
 match bs[3]?,bs[4]?,bs[5]? with
 |_,_,some true=>((m.Aa U [.ptr b4 0]).Aa b2 [.int .i64 K]).Aa b3 [.int .i64 0]
 |_,some true,_=>(m.Aa U [.ptr b4 0]).Aa b2 [.int .i64 K]
 |some true,_,_=>m.Aa U [.ptr b4 0]
 |_,_,_=>m
def ma (s0 A:St) (b4:Nat) (s:List UInt8) (Q U:Int) (x:qq×Bool) (bs:List Bool):Prop:=match bs[2]? with
 |some true=>BW s0 x.1.m x.1.w1 x.1.o.length x.1.w2 (2*x.1.g.length)/\x.1.m.box b4=some (qC s x.1.q x.2 x.1.o x.1.w1 x.1.g x.1.w2)/\(x.1.q:Int)=Q/\U=0
 |_=>x.1.m=A
def fo:List (List Bool×Nat):=[([false,false,false,false,false,false],0),([false,false,false,false,false,false],1),([true,false,false,false,false,false],1),([false,true,false,false,false,false],0),([false,true,false,false,false,false],2),([true,true,false,false,false,false],2),([false,true,true,false,false,false],0),([true,true,true,false,false,false],3),([true,true,true,true,false,false],4),([true,true,true,true,true,false],5)]
noncomputable def fp:Code:=match Tryz.f270.body with|some (.seq _ (.seq _ (.seq _ (.seq _ r))))=>r|_=>.skip
theorem aA {s0:St} {b1 b2 b3 U:Nat} (hl:s.length<=100000000) (hq:AQ (s.drop pos)=34\/AQ (s.drop pos)=39) (hs0:s0.box U=none) (hsl:st.le s0) (n12:b1≠b2) (n13:b1≠b3) (n14:b1≠U) (n23:b2≠b3) (n24:b2≠U) (n34:b3≠U) (k1:st.box b1=none) (k2:st.box b2=none) (k3:st.box b3=none) (k4:st.box U=none)
 (m1:s0.box b1=some [.ptr U 0]) (m2:s0.box b2=some [.int .i64 0]) (m3:s0.box b3=some [.int .i64 0])
 (h:∀U (q:Nat) tx o w1 g w2 st',st.le st'->st'.box U=some (qC s q tx o w1 g w2)->(q:Int)=(Ct s pos).2.1->R (.ret (.Bq [.ptr U 0,.int .i64 (Ct s pos).1,.int .i64 (Ct s pos).2.2])) st'):
 AW Tryz.prog fp (VX Tryz.prog oI 330 [.ptr b1 0,.ptr b2 0,.ptr b3 0] Tryz.f270 (Go.Aw.Ends R)) (l9 b1 b2 b3 U (Ct s pos).1 (List.replicate 6 false)) (s0.Aa U (qC s pos false [] .full [] .full)):=by
 have a1:∀C,(s0.Aa U C).box b1=some [.ptr U 0]:=λC=>(A7 n14.symm).trans m1
 have hr0:BW s0 (s0.Aa U (qC s pos false [] .full [] .full)) .full 0 .full 0:=⟨trivial,trivial,trivial,trivial,trivial,St.Aq (St.le_refl _) hs0 _⟩
 refine Aj (iq Ad (B5 _) (λ_ bs=>l9 b1 b2 b3 U (Ct s pos).1 bs) (λx bs=>pC b1 b2 b3 U (Ct s pos).1 x.1.m bs) (λx bs=>ma s0 (s0.Aa U (qC s pos false [] .full [] .full)) U s (Ct s pos).2.1 (Ct s pos).2.2 x bs) (⟨pos,[],[],.full,.full,s0.Aa U (qC s pos false [] .full [] .full)⟩,false) fo GE rfl Yl (St.le_refl _) ?_ ?_)
 .unfold fo
  repeat' (first|refine List.forall_mem_cons.2 ⟨?_,?_⟩|exact List.forall_mem_nil _)
  all_goals rintro ⟨⟨q,o,g,w1,w2,m⟩,tx⟩ hj
  all_goals dsimp only [ma,List.getElem?_cons_zero,List.getElem?_cons_succ] at hj
  all_goals try subst hj
  .skip
   repeat' ((conv=>whnf);first|exact Df|(refine BR ?_;intros)|(refine Dg ?_ ?_ ?_;rotate_left)|(refine BS ?_ ?_<;>intro _)|refine Am (a1 _) ?_|with_reducible refine WF ?_)
   all_goals conv=>whnf
   all_goals exact ⟨(⟨q,o,g,w1,w2,_⟩,tx),rfl,Yl,St.le_refl _⟩
  .skip
   repeat' ((conv=>whnf);first|exact Df|(refine BR ?_;intros)|(refine Dg ?_ ?_ ?_;rotate_left)|(refine BS ?_ ?_<;>intro _)|refine Am (a1 _) ?_|with_reducible refine WF ?_)
   all_goals conv=>whnf
   all_goals exact ⟨(⟨q,o,g,w1,w2,_⟩,tx),rfl,Yl,St.le_refl _⟩
  .skip
   repeat' ((conv=>whnf);first|exact Df|(refine BR ?_;intros)|(refine Dg ?_ ?_ ?_;rotate_left)|(refine BS ?_ ?_<;>intro _)|refine Am (a1 _) ?_|with_reducible refine WF ?_)
   all_goals conv=>whnf
   all_goals exact ⟨(⟨q,o,g,w1,w2,_⟩,tx),rfl,Yl,St.le_refl _⟩
  .skip
   repeat' ((conv=>whnf);first|exact Df|(refine BR ?_;intros)|(refine Dg ?_ ?_ ?_;rotate_left)|(refine BS ?_ ?_<;>intro _)|refine Am (a1 _) ?_|with_reducible refine WF ?_)
   all_goals conv=>whnf
   all_goals exact ⟨(⟨q,o,g,w1,w2,_⟩,tx),rfl,Yl,St.le_refl _⟩
  .skip
   repeat' ((conv=>whnf);first|exact Df|(refine BR ?_;intros)|(refine Dg ?_ ?_ ?_;rotate_left)|(refine BS ?_ ?_<;>intro _)|refine lV hl hq hs0 (St.AL ..) hr0 (λq' e' tx' hz st' hQ=>?_) (λk q' hz tx' o' u1 g' u2 st' hR hB=>?_)|refine Am (a1 _) ?_|with_reducible refine WF ?_)
   .obtain ⟨q1,o1,u1,g1,u2,hB,hR⟩:=hQ
    conv=>whnf
    refine M0 (hR.le.1 _ _ m1) hB (hR.le.1 _ _ m2) (hR.le.1 _ _ m3) n24.symm n34.symm n23 ?_
    have c1:(((st'.Aa U (qC s q' tx' o1 u1 g1 u2)).Aa b2 [.int .i64 0]).Aa b3 [.int .i64 e']).box b1=some [.ptr U 0]:=(A7 n13.symm).trans ((A7 n12.symm).trans ((A7 n14.symm).trans (hR.le.1 _ _ m1)))
    have c2:(((st'.Aa U (qC s q' tx' o1 u1 g1 u2)).Aa b2 [.int .i64 0]).Aa b3 [.int .i64 e']).box b2=some [.int .i64 0]:=(A7 n23.symm).trans (St.AL _ _ _)
    have c3:(((st'.Aa U (qC s q' tx' o1 u1 g1 u2)).Aa b2 [.int .i64 0]).Aa b3 [.int .i64 e']).box b3=some [.int .i64 e']:=St.AL _ _ _
    have c4:(((st'.Aa U (qC s q' tx' o1 u1 g1 u2)).Aa b2 [.int .i64 0]).Aa b3 [.int .i64 e']).box U=some (qC s q' tx' o1 u1 g1 u2):=(A7 n34).trans ((A7 n24).trans (St.AL _ _ _))
    have c5:(Ct s pos).1=0:=by rw [hz]
    have c6:(Ct s pos).2.1=q':=by rw [hz]
    have c7:(Ct s pos).2.2=e':=by rw [hz]
    have gg:=λle=>h U q' tx' o1 u1 g1 u2 _ le c4 c6.symm
    rw [c5,c7] at gg
    clear h hz c4 c5 c6 c7
    repeat' ((conv=>whnf);first|exact Df|(refine BR ?_;intros)|(refine Dg ?_ ?_ ?_;rotate_left)|(refine BS ?_ ?_<;>intro _)|refine Am c1 ?_|refine Am c2 ?_|refine Am c3 ?_|with_reducible refine WF ?_)
    exact fin (gg (St.Aq (St.Aq (St.Aq (St.le_trans hsl hR.le) k4 _) k2 _) k3 _)) rfl
   .have hz1:(Ct s pos).1=k:=by rw [hz]
    have hz2:(Ct s pos).2.1=q':=by rw [hz]
    have hz3:(Ct s pos).2.2=0:=by rw [hz]
    conv=>whnf
    rw [hz1,hz2]
    exact ⟨(⟨q',o',g',u1,u2,st'⟩,tx'),⟨hR,hB,rfl,hz3⟩,Yl,St.le_refl _⟩
  .skip
   repeat' ((conv=>whnf);first|exact Df|(refine BR ?_;intros)|(refine Dg ?_ ?_ ?_;rotate_left)|(refine BS ?_ ?_<;>intro _)|refine lV hl hq hs0 (St.AL ..) hr0 (λq' e' tx' hz st' hQ=>?_) (λk q' hz tx' o' u1 g' u2 st' hR hB=>?_)|refine Am (a1 _) ?_|with_reducible refine WF ?_)
   .obtain ⟨q1,o1,u1,g1,u2,hB,hR⟩:=hQ
    conv=>whnf
    refine M0 (hR.le.1 _ _ m1) hB (hR.le.1 _ _ m2) (hR.le.1 _ _ m3) n24.symm n34.symm n23 ?_
    have c1:(((st'.Aa U (qC s q' tx' o1 u1 g1 u2)).Aa b2 [.int .i64 0]).Aa b3 [.int .i64 e']).box b1=some [.ptr U 0]:=(A7 n13.symm).trans ((A7 n12.symm).trans ((A7 n14.symm).trans (hR.le.1 _ _ m1)))
    have c2:(((st'.Aa U (qC s q' tx' o1 u1 g1 u2)).Aa b2 [.int .i64 0]).Aa b3 [.int .i64 e']).box b2=some [.int .i64 0]:=(A7 n23.symm).trans (St.AL _ _ _)
    have c3:(((st'.Aa U (qC s q' tx' o1 u1 g1 u2)).Aa b2 [.int .i64 0]).Aa b3 [.int .i64 e']).box b3=some [.int .i64 e']:=St.AL _ _ _
    have c4:(((st'.Aa U (qC s q' tx' o1 u1 g1 u2)).Aa b2 [.int .i64 0]).Aa b3 [.int .i64 e']).box U=some (qC s q' tx' o1 u1 g1 u2):=(A7 n34).trans ((A7 n24).trans (St.AL _ _ _))
    have c5:(Ct s pos).1=0:=by rw [hz]
    have c6:(Ct s pos).2.1=q':=by rw [hz]
    have c7:(Ct s pos).2.2=e':=by rw [hz]
    have gg:=λle=>h U q' tx' o1 u1 g1 u2 _ le c4 c6.symm
    rw [c5,c7] at gg
    clear h hz c4 c5 c6 c7
    repeat' ((conv=>whnf);first|exact Df|(refine BR ?_;intros)|(refine Dg ?_ ?_ ?_;rotate_left)|(refine BS ?_ ?_<;>intro _)|refine Am c1 ?_|refine Am c2 ?_|refine Am c3 ?_|with_reducible refine WF ?_)
    exact fin (gg (St.Aq (St.Aq (St.Aq (St.le_trans hsl hR.le) k4 _) k2 _) k3 _)) rfl
   .have hz1:(Ct s pos).1=k:=by rw [hz]
    have hz2:(Ct s pos).2.1=q':=by rw [hz]
    have hz3:(Ct s pos).2.2=0:=by rw [hz]
    conv=>whnf
    rw [hz1,hz2]
    exact ⟨(⟨q',o',g',u1,u2,st'⟩,tx'),⟨hR,hB,rfl,hz3⟩,Yl,St.le_refl _⟩
  .have b1':m.box b1=some [.ptr U 0]:=hj.1.le.1 _ _ m1
   repeat' ((conv=>whnf);first|exact Df|(refine BR ?_;intros)|(refine Dg ?_ ?_ ?_;rotate_left)|(refine BS ?_ ?_<;>intro _)|refine Am b1' ?_|with_reducible refine WF ?_)
   all_goals conv=>whnf
   all_goals exact ⟨(⟨q,o,g,w1,w2,m⟩,tx),hj,Yl,St.le_refl _⟩
  .have b1':m.box b1=some [.ptr U 0]:=hj.1.le.1 _ _ m1
   repeat' ((conv=>whnf);first|exact Df|(refine BR ?_;intros)|(refine Dg ?_ ?_ ?_;rotate_left)|(refine BS ?_ ?_<;>intro _)|refine Am b1' ?_|with_reducible refine WF ?_)
   all_goals conv=>whnf
   all_goals exact ⟨(⟨q,o,g,w1,w2,m⟩,tx),hj,Yl,St.le_refl _⟩
  .have b2':(m.Aa b1 [.ptr U 0]).box b2=some [.int .i64 0]:=(A7 n12).trans (hj.1.le.1 _ _ m2)
   repeat' ((conv=>whnf);first|exact Df|(refine BR ?_;intros)|(refine Dg ?_ ?_ ?_;rotate_left)|(refine BS ?_ ?_<;>intro _)|refine Am b2' ?_|with_reducible refine WF ?_)
   all_goals conv=>whnf
   all_goals exact ⟨(⟨q,o,g,w1,w2,m⟩,tx),hj,Yl,St.le_refl _⟩
  .have b3':((m.Aa b1 [.ptr U 0]).Aa b2 [.int .i64 (Ct s pos).1]).box b3=some [.int .i64 0]:=(A7 n23).trans ((A7 n13).trans (hj.1.le.1 _ _ m3))
   repeat' ((conv=>whnf);first|exact Df|(refine BR ?_;intros)|(refine Dg ?_ ?_ ?_;rotate_left)|(refine BS ?_ ?_<;>intro _)|refine Am b3' ?_|with_reducible refine WF ?_)
   all_goals conv=>whnf
   all_goals exact ⟨(⟨q,o,g,w1,w2,m⟩,tx),hj,Yl,St.le_refl _⟩
 .rintro ⟨⟨q,o,g,w1,w2,m⟩,tx⟩ ⟨j1,j2,j3,j0⟩
  dsimp only at j1 j2 j3 j0
  have c1:(((m.Aa b1 [.ptr U 0]).Aa b2 [.int .i64 (Ct s pos).1]).Aa b3 [.int .i64 0]).box b1=some [.ptr U 0]:=(A7 n13.symm).trans ((A7 n12.symm).trans (St.AL _ _ _))
  have c2:(((m.Aa b1 [.ptr U 0]).Aa b2 [.int .i64 (Ct s pos).1]).Aa b3 [.int .i64 0]).box b2=some [.int .i64 (Ct s pos).1]:=(A7 n23.symm).trans (St.AL _ _ _)
  have c3:(((m.Aa b1 [.ptr U 0]).Aa b2 [.int .i64 (Ct s pos).1]).Aa b3 [.int .i64 0]).box b3=some [.int .i64 0]:=St.AL _ _ _
  have c4:(((m.Aa b1 [.ptr U 0]).Aa b2 [.int .i64 (Ct s pos).1]).Aa b3 [.int .i64 0]).box U=some (qC s q tx o w1 g w2):=(A7 n34).trans ((A7 n24).trans ((A7 n14).trans j2))
  have gg:=λle=>h U q tx o w1 g w2 _ le c4 j3
  rw [j0] at gg
  clear h
  show AW _ _ _ _ _
  refine Ai Ad (T9 ?_)
  repeat' ((conv=>whnf);first|exact Df|(refine BR ?_;intros)|(refine Dg ?_ ?_ ?_;rotate_left)|(refine BS ?_ ?_<;>intro _)|refine Am c1 ?_|refine Am c2 ?_|refine Am c3 ?_|with_reducible refine WF ?_)
  exact fin (gg (St.Aq (St.Aq (St.Aq (St.le_trans hsl j1.le) k1 _) k2 _) k3 _)) rfl
theorem nX (hl:s.length<=100000000) (hp:pos<s.length)
 (h:∀U (q:Nat) tx o w1 g w2 st',st.le st'->st'.box U=some (qC s q tx o w1 g w2)->(q:Int)=(Ct s pos).2.1->R (.ret (.Bq [.ptr U 0,.int .i64 (Ct s pos).1,.int .i64 (Ct s pos).2.2])) st'):PC 270 [.str s,.int .i64 pos] st R:=by
 obtain ⟨e,he⟩:∃e,s[pos]? =some e:=⟨s[pos],List.getElem?_eq_getElem hp⟩
 have he':s[(pos:Int).toNat]? =some e:=he
 have hv:=DL he
 refine A3.ends (P9 Ad [4,5,6,10] Tryz.func270 rfl Do rfl rfl rfl rfl rfl rfl ⟨_,Tryz.func330,rfl,Do⟩ rfl ?_)
 refine Ai Ad ?_
 repeat' ((conv=>whnf);first|exact Df|(refine BR ?_;intros)|(refine Dg ?_ ?_ ?_;rotate_left)|(refine BS ?_ ?_<;>intro _)|refine Rh (λb3 f3=>?_)|with_reducible refine WF ?_)
 rename_i b1 f1 b2 f2
 obtain ⟨n12,f2a⟩:=DW f2
 obtain ⟨n23,f3a⟩:=DW f3
 obtain ⟨n13,f3b⟩:=DW f3a
 refine Ai Ad ?_
 have kk:∀U cs,((((st.Aa b1 [V.Ff]).Aa b2 [V.int .i64 0]).Aa b3 [V.int .i64 0]).fresh U)->((((st.Aa b1 [V.Ff]).Aa b2 [V.int .i64 0]).Aa b3 [V.int .i64 0]).Aa U cs).box b1=some [V.Ff]:=λU cs f4=>by
  obtain ⟨m3,f4a⟩:=DW f4
  obtain ⟨m2,f4b⟩:=DW f4a
  obtain ⟨m1,f4c⟩:=DW f4b
  simp [St.Aa,m1,n12,n13]
 repeat' ((conv=>whnf);first|exact Df|(refine BR ?_;intros)|(refine Dg ?_ ?_ ?_;rotate_left)|(refine BS ?_ ?_<;>intro _)|refine Rh (λU f4=>?_)|refine Am (kk _ _ f4) ?_|with_reducible refine WF ?_)
 obtain ⟨n34,f4a⟩:=DW f4
 obtain ⟨n24,f4b⟩:=DW f4a
 obtain ⟨n14,f4c⟩:=DW f4b
 obtain ⟨s0,hs0,hsl,m1,m2,m3,hst⟩:∃s0:St,s0.box U=none/\st.le s0/\s0.box b1=some [.ptr U 0]/\s0.box b2=some [.int .i64 0]/\s0.box b3=some [.int .i64 0]/\
  s0.Aa U (qC s pos false [] .full [] .full)=(((((st.Aa b1 [V.Ff]).Aa b2 [V.int .i64 0]).Aa b3 [V.int .i64 0]).Aa U (qC s pos false [] .full [] .full)).Aa b1 [.ptr U 0]):=by
  refine ⟨((st.Aa b1 [.ptr U 0]).Aa b2 [.int .i64 0]).Aa b3 [.int .i64 0],?_,St.Aq (St.Aq (St.Aq (St.le_refl _) f1.1 _) f2a.1 _) f3b.1 _,?_,?_,?_,?_⟩
  .simp [St.Aa,n14.symm,n24.symm,n34.symm];exact f4c.1
  .simp [St.Aa,n12,n13]
  .simp [St.Aa,n23]
  .simp [St.Aa]
  .simp only [St.Aa,St.mk.injEq,and_true]
   funext x
   by_cases x1:x=b1
   .subst x1;simp [n12,n13,n14]
   .by_cases x4:x=U
    .subst x4;simp [x1]
    .simp [x1,x4]
 refine Xz (st':=s0.Aa U (qC s pos false [] .full [] .full)) hst ?_
 clear kk f4 f4a f4b f3 f3a f2 hst
 have a1:∀C,(s0.Aa U C).box b1=some [.ptr U 0]:=λC=>(A7 n14.symm).trans m1
 by_cases hq:AQ (s.drop pos)=34\/AQ (s.drop pos)=39
 .refine Ai Ad ?_
  repeat' ((conv=>whnf);first|exact Df|(refine BR ?_;intros)|(refine Dg ?_ ?_ ?_;rotate_left)|(refine BS ?_ ?_<;>intro _)|with_reducible refine WF ?_)
  all_goals conv=>whnf
  all_goals refine ⟨rfl,AM rfl ?_⟩
  all_goals exact ia (aA hl hq hs0 (St.le_trans hsl (St.le_refl _)) n12 n13 n14 n23 n24 n34 f1.1 f2a.1 f3b.1 f4c.1 m1 m2 m3 h) Yl (St.le_refl _)
 .have hz:Ct s pos=(0,0,0):=by unfold Ct;rw [if_neg (λx=>hq (.inl x)),if_neg (λx=>hq (.inr x))]
  rw [hz] at h
  have a1':∀C C',((s0.Aa U C).Aa U C').box b1=some [.ptr U 0]:=λC C'=>(A7 n14.symm).trans (a1 C)
  have a2':∀C C' D,(((s0.Aa U C).Aa U C').Aa b1 D).box b2=some [.int .i64 0]:=λC C' D=>(A7 n12).trans ((A7 n24.symm).trans ((A7 n24.symm).trans m2))
  have a3':∀C C' D F,((((s0.Aa U C).Aa U C').Aa b1 D).Aa b2 F).box b3=some [.int .i64 0]:=λC C' D F=>(A7 n23).trans ((A7 n13).trans ((A7 n34.symm).trans ((A7 n34.symm).trans m3)))
  have e3:∀C C' D F G,(((((s0.Aa U C).Aa U C').Aa b1 D).Aa b2 F).Aa b3 G).box b3=some G:=λC C' D F G=>St.AL _ _ _
  have e2:∀C C' D F G,(((((s0.Aa U C).Aa U C').Aa b1 D).Aa b2 F).Aa b3 G).box b2=some F:=λC C' D F G=>(A7 n23.symm).trans (St.AL _ _ _)
  have e1:∀C C' D F G,(((((s0.Aa U C).Aa U C').Aa b1 D).Aa b2 F).Aa b3 G).box b1=some D:=λC C' D F G=>(A7 n13.symm).trans ((A7 n12.symm).trans (St.AL _ _ _))
  have e4:∀C C' D F G,(((((s0.Aa U C).Aa U C').Aa b1 D).Aa b2 F).Aa b3 G).box U=some C':=λC C' D F G=>(A7 n34).trans ((A7 n24).trans ((A7 n14).trans (St.AL _ _ _)))
  refine Ai Ad ?_
  repeat' ((conv=>whnf);first|exact Df|(refine BR ?_;intros)|(refine Dg ?_ ?_ ?_;rotate_left)|(refine BS ?_ ?_<;>intro _)|refine Am (a1 _) ?_|refine Am (St.AL _ _ _) ?_|refine Am (a1' _ _) ?_|refine Am (a2' _ _ _) ?_|refine Am (a3' _ _ _ _) ?_|refine Am (e1 _ _ _ _ _) ?_|refine Am (e2 _ _ _ _ _) ?_|refine Am (e3 _ _ _ _ _) ?_|with_reducible refine WF ?_)
  exact fin (h U 0 false [] .full [] .full _ (St.Aq (St.Aq (St.Aq (St.Aq (St.Aq hsl f4c.1 _) f4c.1 _) f1.1 _) f2a.1 _) f3b.1 _) (e4 _ _ _ _ _) rfl) rfl
end
section
variable {st:St} {R:Ay->St->Prop}
attribute [local irreducible] Go.Aw.Ag
theorem kt (hl:s.length<=100000000) (hp:pos<s.length) (h:R (.ret (.Bq [.int .i64 (Ct s pos).1,.int .i64 (Ct s pos).2.1,.int .i64 (Ct s pos).2.2])) st):PC 203 [.str s,.int .i64 pos] st R:=by
 refine pB Tryz.func203 ?_
 repeat' ((conv=>whnf);first|exact Df|(refine BR ?_;intros)|(refine Dg ?_ ?_ ?_;rotate_left)|(refine BS ?_ ?_<;>intro _)|refine nX hl hp (λb4 q tx o w1 g w2 st' U hb hq=>?_)|refine Am hb ?_|with_reducible refine WF ?_)
 all_goals rw [<-hq] at h
 all_goals exact DH U rfl h
end
end Go.Proofs.Z
namespace Go.Aw
open Go
theorem WS (h:(Cm l).1≠10):Ej l=(11,2+Bx (Cm l).1 (l.drop 2)):=if_pos h
theorem eQ (h:(Cm l).1=10) (k:Bx 10 l=0):Ej l=(0,0):=by unfold Ej;rw [if_neg (λe=>e h),if_pos k]
theorem WT {f e:Nat} (h:(Cm l).1=10) (hn:Bx 10 l=n) (U:n≠0) (hf:HA (l.drop n)=f) (he:K6 (l.drop (n+f))=e):Ej l=(if 0<f\/0<e then 12 else 11,n+f+e):=by
 subst hn;subst hf;subst he
 unfold Ej;rw [if_neg (λe=>e h),if_neg U]
theorem YD {b:Int} (h:Cm l=(b,2)):AQ l=48/\2<=l.length:=by
 unfold Cm at h
 split at h
 .rename_i hc
  refine ⟨hc.1,?_⟩
  have:=hc.2.2
  have U:=D5 (D9 l) (l.drop 2)
  rw [List.length_drop] at U
  omega
 .injection h with _ h;cases h
def Pp (s:List UInt8) (pos:Nat):Int×Int:=if (Ej (s.drop pos)).1=0 then (0,0) else ((Ej (s.drop pos)).1,(pos+(Ej (s.drop pos)).2:Nat))
end Go.Aw
namespace Go.Proofs.Z
open Go Go.Aw
section
variable {st:St} {R:Ay->St->Prop}
theorem oT (e:i.toNat=n) (h:R (.ret (.bool (decide (AQ (s.drop n)=46)))) st):PC 130 [.str (s.drop i.toNat),.str [46]] st R:=by
 refine HK ?_
 rw [CP,e]
 exact h
theorem VC (e:i.toNat=n) (U:s.length<=4611686018427387903) (h:R (.ret (.int .i64 (K6 (s.drop n):Nat))) st):PC 329 [.str (s.drop i.toNat)] st R:=by
 rw [e];exact VB M2 h
theorem fH {b:Int} (e:i.toNat=n) (U:s.length<=4611686018427387903) (h:R (.ret (.int .i64 (Bx b (s.drop n):Nat))) st):PC 328 [.str (s.drop i.toNat),.int .i64 b] st R:=by
 rw [e];exact mg M2 h
theorem mh {b:Int} {v:Nat} (e:i.toNat=n) (hv:Bx b (s.drop n)=v) (U:s.length<=4611686018427387903) (h:R (.ret (.int .i64 v)) st):PC 328 [.str (s.drop i.toNat),.int .i64 b] st R:=
 fH e U (by rw [hv];exact h)
theorem ON {v:Nat} (e:i.toNat=n) (hv:K6 (s.drop n)=v) (U:s.length<=4611686018427387903) (h:R (.ret (.int .i64 v)) st):PC 329 [.str (s.drop i.toNat)] st R:=
 VC e U (by rw [hv];exact h)
theorem NX (U:Ej s=(k,n)) (e2:i.toNat=n):Ay.ret (.Bq [.int .i64 (Ej s).1,.str (s.take (Ej s).2)])=Ay.ret (.Bq [.int .i64 k,.str (s.take i.toNat)]):=by rw [U,e2]
theorem eR (U:Ej s=(0,0)):Ay.ret (.Bq [.int .i64 (Ej s).1,.str (s.take (Ej s).2)])=Ay.ret (.Bq [.int .i64 0,.str []]):=by rw [U];rfl
theorem Ii {b:Int} (hp:Cm s=(b,n)) (U:s.length<=4611686018427387903) (h:R (.ret (.Bq [.int .i64 b,.int .i64 n])) st):PC 327 [.str s] st R:=
 WY U (by rw [hp];exact h)
theorem Yu (hl:s.length<=4611686018427387903) (h:R (.ret (.Bq [.int .i64 (Ej s).1,.str (s.take (Ej s).2)])) st):PC 269 [.str s] st R:=by
 have hle:=Sd s
 refine pB Tryz.func269 ?_
 rcases LC s with hp|⟨hp,_⟩|⟨hp,_⟩
 .have h1:=D5 10 s
  have h2:=Tv (s.drop (Bx 10 s))
  have h3:=X5 (s.drop (Bx 10 s+HA (s.drop (Bx 10 s))))
  rw [List.length_drop] at h2 h3
  generalize hr:Bx 10 s=r at h1 h2 h3
  have hr0:Bx 10 (s.drop 0)=r:=hr
  generalize hf:HA (s.drop r)=f at h2 h3
  generalize he:K6 (s.drop (r+f))=e at h3
  have h4:=D5 10 (s.drop (r+1))
  have e0:(Cm s).1=10:=by rw [hp]
  have hlt:=cT s r
  have hfd:(AQ (s.drop r)=46/\Bx 10 (s.drop (r+1))≠0/\f=1+Bx 10 (s.drop (r+1)))\/((AQ (s.drop r)≠46\/Bx 10 (s.drop (r+1))=0)/\f=0):=by
   rw [<-hf]
   unfold HA
   rw [List.drop_drop]
   split<;>omega
  rw [List.length_drop] at h4
  generalize hd:Bx 10 (s.drop (r+1))=d at h4 hfd
  repeat' ((conv=>whnf);first|exact Df|(refine BR ?_;intros)|(refine Dg ?_ ?_ ?_;rotate_left)|(refine BS ?_ ?_<;>intro _)|refine Ii hp hl ?_|refine mh AC hr0 hl ?_|refine mh AC hd hl ?_|refine oT (n:=r) AC ?_|refine ON AC he hl ?_|refine ON AC he' hl ?_|with_reducible refine WF ?_)
  all_goals first
   |(have U:=eQ e0 AC;exact fin h (eR U))
   |(have U:=WT e0 hr AC hf he;rw [if_pos AC] at U;exact fin h (NX U AC))
   |(have U:=WT e0 hr AC hf he;rw [if_neg AC] at U;exact fin h (NX U AC))
 .have hr:=D5 8 (s.drop 2)
  have h2:=(YD hp).2
  rw [List.length_drop] at hr
  repeat' ((conv=>whnf);first|exact Df|(refine BR ?_;intros)|(refine Dg ?_ ?_ ?_;rotate_left)|(refine BS ?_ ?_<;>intro _)|refine Ii hp hl ?_|refine fH (n:=2) AC hl ?_|with_reducible refine WF ?_)
  all_goals (have U:=WS (l:=s) (by rw [hp];decide);rw [hp] at U;dsimp only at U;exact fin h (NX U AC))
 .have hr:=D5 16 (s.drop 2)
  have h2:=(YD hp).2
  rw [List.length_drop] at hr
  repeat' ((conv=>whnf);first|exact Df|(refine BR ?_;intros)|(refine Dg ?_ ?_ ?_;rotate_left)|(refine BS ?_ ?_<;>intro _)|refine Ii hp hl ?_|refine fH (n:=2) AC hl ?_|with_reducible refine WF ?_)
  all_goals (have U:=WS (l:=s) (by rw [hp];decide);rw [hp] at U;dsimp only at U;exact fin h (NX U AC))
theorem eP (hl:s.length<=4611686018427387903) (hp:pos<s.length) (h:R (.ret (.Bq [.int .i64 (Pp s pos).1,.int .i64 (Pp s pos).2])) st):PC 202 [.str s,.int .i64 pos] st R:=by
 have hw:=Sd (s.drop pos)
 have ht:((s.drop pos).take (Ej (s.drop pos)).2).length=(Ej (s.drop pos)).2:=NE
 rw [List.length_drop] at hw
 have U:(s.drop pos).length<=4611686018427387903:=M2
 refine pB Tryz.func202 ?_
 repeat' ((conv=>whnf);first|(refine BR ?_;intros)|(refine BS ?_ ?_<;>intro _)|refine Yu U ?_)
 .exact fin h (by unfold Pp;rw [if_pos ‹_›];simp_all)
 .exact fin h (by unfold Pp;rw [if_neg ‹_›];simp only [];rw [show (pos:Int).toNat=pos by omega] at *;rw [ht];rfl)
end
end Go.Proofs.Z
namespace Go.Aw
open Go
def CV (s:List UInt8) (p:Nat):Int×Int×Int:=
 if (Pp s p).1≠0 then ((Pp s p).1,(Pp s p).2,0)
 else if (Ct s p).1=0/\(Ct s p).2.2=0 then
  if (GK s p).1=0 then (0,p,70) else ((GK s p).1,(GK s p).2,0)
 else Ct s p
def NS (s:List UInt8) (p sp:Nat) (U Cj:Int) (AD notes:List (List V)) (w1 w2:AB) (Di ends:Int) (j:Bool):List V:=
 [.str s,.int .i64 p,.int .i64 sp,.int .i64 U,.int .i64 Cj,.slice 4 AD w1,.slice 5 notes w2,.int .i64 Di,.int .i64 ends,.bool j]
end Go.Aw
namespace Go.Proofs.Z
open Go Go.Aw
section
variable {st:St} {R:Ay->St->Prop}
theorem nF {sp:Nat} {Cj ends:Int} (hl:s.length<=100000000) (U:p<s.length) (hb:st.box b=some (NS s p sp ln Cj AD notes w1 w2 Di ends j))
 (h:R (.ret (.agg [.int .i64 (Pp s p).1,.int .i64 (Pp s p).2,.int .i64 0])) st):PC 134 [.ptr b 0] st R:=by
 refine pB Tryz.func134 ?_
 repeat' ((conv=>whnf);first|exact Cr|(refine Bg ?_;intros)|(refine Cs ?_ ?_ ?_;rotate_left)|(refine Bh ?_ ?_<;>intro _)|refine Am hb ?_|refine eP AC U ?_|refine Ac [(0,true),(1,true),(2,true),(3,true),(4,true),(5,true),(6,true),(7,true),(8,false),(9,true),(10,true),(11,true),(12,true),(13,true)] [] GE ?_|with_reducible refine WF ?_)
 all_goals exact fin h rfl
theorem nI {sp:Nat} {Cj ends:Int} (U:s.length<=100000000) (hp:p<s.length) (hb:st.box b=some (NS s p sp ln Cj AD notes w1 w2 Di ends j))
 (h:R (.ret (.agg [.int .i64 (GK s p).1,.int .i64 (GK s p).2,.int .i64 0])) st):PC 136 [.ptr b 0] st R:=by
 refine pB Tryz.func136 ?_
 repeat' ((conv=>whnf);first|exact Cr|(refine Bg ?_;intros)|(refine Cs ?_ ?_ ?_;rotate_left)|(refine Bh ?_ ?_<;>intro _)|refine Am hb ?_|refine gR U hp ?_|refine Ac [(0,true),(1,true),(2,true),(3,true),(4,true),(5,true),(6,true),(7,true),(8,false),(9,true),(10,true),(11,true),(12,true),(13,true)] [] GE ?_|with_reducible refine WF ?_)
 all_goals exact fin h rfl
theorem nE {sp:Nat} {Cj ends:Int} (U:s.length<=100000000) (hp:p<s.length) (hb:st.box b=some (NS s p sp ln Cj AD notes w1 w2 Di ends j))
 (h:R (.ret (.agg [.int .i64 (Ct s p).1,.int .i64 (Ct s p).2.1,.int .i64 (Ct s p).2.2])) st):PC 135 [.ptr b 0] st R:=by
 refine pB Tryz.func135 ?_
 repeat' ((conv=>whnf);first|exact Cr|(refine Bg ?_;intros)|(refine Cs ?_ ?_ ?_;rotate_left)|(refine Bh ?_ ?_<;>intro _)|refine Am hb ?_|refine kt U hp ?_|refine Ac [(0,true),(1,true),(2,true),(3,true),(4,true),(5,true),(6,true),(7,true),(8,false),(9,true),(10,true),(11,true),(12,true),(13,true),(14,true),(15,true)] [] GE ?_|with_reducible refine WF ?_)
 all_goals exact fin h rfl
theorem ek {sp:Nat} {Cj ends:Int} (hl:s.length<=100000000) (hp:p<s.length) (hb:st.box b=some (NS s p sp ln Cj AD notes w1 w2 Di ends j))
 (h:R (.ret (.agg [.int .i64 (CV s p).1,.int .i64 (CV s p).2.1,.int .i64 (CV s p).2.2])) st):PC 62 [.ptr b 0] st R:=by
 refine pB Tryz.func62 ?_
 have U:∀a b c,CV s p=(a,b,c)->R (.ret (.agg [.int .i64 a,.int .i64 b,.int .i64 c])) st:=λa b c e=>by rw [e] at h;exact h
 clear h
 unfold CV at U
 repeat' ((conv=>whnf);first|(refine Bg ?_;intros)|(refine Bh ?_ ?_<;>intro _)|refine nF hl hp hb ?_|refine nE hl hp hb ?_|refine nI hl hp hb ?_|refine Am hb ?_)
 .exact fin (U _ _ _ (by rw [if_neg AC,if_pos ⟨AC,AC⟩,if_pos AC])) rfl
 .exact fin (U _ _ _ (by rw [if_neg AC,if_pos ⟨AC,AC⟩,if_neg AC])) rfl
 .exact fin (U _ _ _ (by rw [if_neg AC,if_neg (λx=>by omega)])) rfl
 .exact fin (U _ _ _ (by rw [if_neg AC,if_neg (λx=>by omega)])) rfl
 .exact fin (U _ _ _ (by rw [if_pos AC])) rfl
end
section
variable {st:St} {R:Ay->St->Prop}
theorem S6 {Cj:Int} (h:R (.ret (.bool (decide (¬k=15)|| !Lib.contains [123,125,59] t))) st):PC 137 [.agg [.int .i64 k,.str t,.int .i64 ln,.int .i64 Cj]] st R:=by
 refine pB Tryz.func137 ?_
 repeat' ((conv=>whnf);first|(refine Bg ?_;intros)|(refine Bh ?_ ?_<;>intro _)|refine Vu Do ?_)
 all_goals first
  |exact Ao h (by simp [*])
  |(rename_i U _;exact Ao h (by simp [U]))
theorem KT {sp:Nat} {U Cj ends:Int} (hl:s.length<=100000000) (hp:p<=s.length) (hb:st.box b=some (NS s p sp U Cj AD notes w1 w2 Di ends j))
 (h:R (.ret (.Bq [])) (st.Aa b (NS s (p+BQ (λc=>AJ c==1) (s.drop p)) sp U Cj AD notes w1 w2 Di ends j))):PC 59 [.ptr b 0] st R:=by
 refine pB Tryz.func59 ?_
 repeat' ((conv=>whnf);first|refine Ac [(0,true),(1,true),(2,true),(3,true),(4,true),(5,true),(6,true),(7,true),(8,true),(9,false),(10,true),(11,true),(12,false)] [] GE ?_|exact Cr|(refine Bg ?_;intros)|(refine Cs ?_ ?_ ?_;rotate_left)|(refine Bh ?_ ?_<;>intro _)|refine Am hb ?_|refine JQ hl hp rfl rfl ?_|with_reducible refine WF ?_)
 all_goals exact fin h rfl
end
end Go.Proofs.Z
namespace Go.Aw
open Go
def AX (s:List UInt8) (a b:Nat):List UInt8:=(s.take b).drop a
theorem Sm {a:Nat} {K:List UInt8->Prop} (U:a<=b) (h2:b<=s.length) (k:K (AX s a b)):
 (0<=(a:Int)/\(a:Int)<=b/\(b:Int)<=s.length)/\∀s',s'=(s.take (b:Int).toNat).drop (a:Int).toNat->K s':=
 ⟨⟨AC,AC,AC⟩,λs' e=>by
   rw [show (b:Int).toNat=b by omega,show (a:Int).toNat=a by omega] at e
   subst e;exact k⟩
end Go.Aw
namespace Go.Proofs.Z
open Go Go.Aw
section
variable {st:St} {R:Ay->St->Prop}
theorem qj {sp q:Nat} {Cj ends:Int} (hl:s.length<=100000000) (hsp:sp<=q) (hq:q<=s.length) (hln:1<=ln/\ln<=1000000000) (U:1<=Cj/\Cj<=2147483648)
 (hw:1<=(BI (AX s sp q) (AX s sp q).length (1,1)).1/\(BI (AX s sp q) (AX s sp q).length (1,1)).1<=1000000000)
 (hb:st.box b=some (NS s p sp ln Cj AD notes w1 w2 Di ends j))
 (h:R (.ret (.Bq [.int .i64 (ln+(BI (AX s sp q) (AX s sp q).length (1,1)).1 - 1),.int .i64 (BI (AX s sp q) (AX s sp q).length (1,Cj)).2]))
   (st.Aa b (NS s p q (ln+(BI (AX s sp q) (AX s sp q).length (1,1)).1 - 1) (BI (AX s sp q) (AX s sp q).length (1,Cj)).2 AD notes w1 w2 Di ends j))):PC 133 [.ptr b 0,.int .i64 q] st R:=by
 have hpl:(AX s sp q).length<=100000000:=by unfold AX;rw [List.length_drop,List.length_take];omega
 have b2:∀cs,(st.Aa b cs).box b=some cs:=λcs=>St.AL _ _ _
 refine pB Tryz.func133 ?_
 repeat' ((conv=>whnf);first|exact Cr|(refine Bg ?_;intros)|(refine Cs ?_ ?_ ?_;rotate_left)|(refine Bh ?_ ?_<;>intro _)|refine Sm hsp hq ?_|refine (λ(_:(AX s sp q).length<EF)=>?_)|refine qe hpl (Nat.le_refl _) ?_|refine ly hpl U.1 U.2 ?_|refine Am hb ?_|refine Am (b2 _) ?_|with_reducible refine WF ?_)
 all_goals exact fin h rfl
end
end Go.Proofs.Z
namespace Go.Aw
open Go
def Cg (s:List UInt8) (a b:Nat) (p:Int×Int):Int×Int:=BI (AX s a b) (AX s a b).length p
theorem JI {a:Nat} (U:a<=b) (h2:b<=s.length):(AX s a b).length=b - a:=by
 unfold AX;rw [List.length_drop,List.length_take];omega
theorem YA {a:Nat} {p:Int×Int} (U:a<=b) (h2:b<=s.length) (h:1<=p.2):p.1<=(Cg s a b p).1/\(Cg s a b p).1<=p.1+(b - a:Nat)/\1<=(Cg s a b p).2/\(Cg s a b p).2<=p.2+8*(b - a:Nat):=by
 have:=SO _ (AX s a b) (AX s a b).length p (Nat.le_refl _) h
 rw [JI U h2] at this
 unfold Cg
 rw [JI U h2]
 omega
end Go.Aw
namespace Go.Proofs.Z
open Go Go.Aw
section
variable {st:St} {R:Ay->St->Prop}
theorem kT {sp q:Nat} {U Cj ends:Int} (hl:s.length<=100000000) (hsp:sp<=q) (hq:q<=s.length) (hln:1<=U/\U<=1000000000) (hcol:1<=Cj/\Cj<=2147483648)
 (hb:st.box b=some (NS s p sp U Cj AD notes w1 w2 Di ends j))
 (h:R (.ret (.Bq [.int .i64 (Cg s sp q (U,Cj)).1,.int .i64 (Cg s sp q (U,Cj)).2]))
   (st.Aa b (NS s p q (Cg s sp q (U,Cj)).1 (Cg s sp q (U,Cj)).2 AD notes w1 w2 Di ends j))):PC 133 [.ptr b 0,.int .i64 q] st R:=by
 have hlen:=JI hsp hq
 have h1:=SO _ (AX s sp q) (AX s sp q).length (1,1) (Nat.le_refl _) Do
 have h2:=Q4 _ (AX s sp q) (AX s sp q).length 1 1 Cj U (Nat.le_refl _)
 have h3:=UX _ (AX s sp q) (AX s sp q).length 1 Cj U (Nat.le_refl _)
 have e1:U+(BI (AX s sp q) (AX s sp q).length (1,1)).1 - 1=(Cg s sp q (U,Cj)).1:=by unfold Cg;omega
 have e2:(BI (AX s sp q) (AX s sp q).length (1,Cj)).2=(Cg s sp q (U,Cj)).2:=h3
 refine qj hl hsp hq hln hcol ⟨by dsimp only at h1;omega,by dsimp only at h1;omega⟩ hb ?_
 rw [e1,e2]
 exact h
end
end Go.Proofs.Z
namespace Go.Aw
open Go
theorem UW {a:Nat} (h:BC l a) (k:Nat) (p:Int×Int):BI l (a+k) p=BI (l.drop a) k (BI l a p):=by
 induction h generalizing p with
 |zero l=>rw [EI,Nat.zero_add,List.drop_zero]
 |@step l j U h ih=>
  rw [DT U AC,DT (k:=AP l+j) U AC,show AP l+j+k - AP l=j+k by omega,show AP l+j - AP l=j by omega,ih,List.drop_drop]
theorem I8 (h:0<m):AQ (l.take m)=AQ l:=by
 cases l with
 |nil=>rw [List.take_nil]
 |cons a r=>
  obtain ⟨m,rfl⟩:∃k,m=k+1:=⟨m - 1,AC⟩
  rfl
theorem Qz:AQ ((l.take m).drop 1)=if 1<m then AQ (l.drop 1) else -1:=by
 rw [List.drop_take]
 by_cases h:1<m
 .rw [if_pos h,I8 AC]
 .rw [if_neg h,show m - 1=0 by omega,List.take_zero];rfl
theorem eL (h:0<m) (h2:GN l<=m):GN (l.take m)=GN l:=by
 rcases EL l with ⟨e,U⟩|⟨e,U,h3⟩|⟨e,U,h3⟩
 .rw [e];unfold GN;rw [I8 h,if_neg (λx=>U (.inl x.1)),if_neg U]
 .rw [e];unfold GN;rw [I8 h,Qz,if_neg,if_pos U]
  rintro ⟨x,y⟩
  split at y
  .exact h3 ⟨x,y⟩
  .exact absurd y Do
 .rw [e];unfold GN;rw [I8 h,Qz,if_pos (show 1<m by omega),if_pos ⟨U,h3⟩]
theorem bF {k:Nat} (h:BC l k) (hv:Vd l) (p:Int×Int):BI (l.take k) k p=BI l k p:=by
 induction h generalizing p with
 |zero l=>rw [EI,EI]
 |@step l j U h ih=>
  have h1:=E8 U
  have hn:GN (l.take (AP l+j))=GN l:=eL AC (by
   by_cases hc:0<GN l
   .have e:AP l=GN l:=if_pos hc
    omega
   .omega)
  have hr:=hv.rune U
  have es:AP (l.take (AP l+j))=AP l:=by
   by_cases hc:0<GN l
   .have e3:AP (l.take (AP l+j))=GN (l.take (AP l+j)):=if_pos (by rw [hn];exact hc)
    rw [e3,hn];exact (if_pos hc).symm
   .have e1:AP l=(AK l).2:=if_neg hc
    have e2:AK (l.take (AP l+j))=AK l:=by
     have:=Oy U hr.1 ((l.take (AP l+j)).drop (AK l).2)
     rwa [show l.take (AK l).2=(l.take (AP l+j)).take (AK l).2 by rw [List.take_take,Nat.min_eq_left AC],List.take_append_drop] at this
    have e3:AP (l.take (AP l+j))=(AK (l.take (AP l+j))).2:=if_neg (by rw [hn];exact hc)
    rw [e3,e2];exact e1.symm
  have hne':l.take (AP l+j)≠[]:=λe=>by
   have:=congrArg List.length e
   rw [List.length_take,List.length_nil] at this;omega
  have hv':Vd (l.drop (AP l)):=(BC.step U (.zero (l.drop (AP l)))).bd.vd hv
  rw [DT hne' AC,DT U AC,es,show AP l+j - AP l=j by omega,List.drop_take,show AP l+j - AP l=j by omega,ih hv']
  congr 1
  unfold Ed E7
  rw [hn,I8 AC]
def CQ (s:List UInt8) (p:Nat):Int×Int:=BI s p (1,1)
theorem ff {a:Nat} (hv:Vd s) (U:BC s a) (hb:BC (s.drop a) (b - a)) (h:a<=b) (hl:b<=s.length):Cg s a b (CQ s a)=CQ s b:=by
 have e:AX s a b=(s.drop a).take (b - a):=by unfold AX;rw [List.drop_take]
 have hp:=JI h hl
 unfold Cg CQ
 rw [hp,e,bF hb (U.bd.vd hv),<-UW U,show a+(b - a)=b by omega]
def tr (l:List UInt8) (m:Nat) (r:List UInt8):List UInt8:=l.take m++r
def pV (r:List UInt8):Prop:=AQ r= -1\/AQ r=32\/AQ r=10
theorem jv (h:AQ r= -1):r=[]:=by
 cases r with
 |nil=>rfl
 |cons a r=>have h:((a.toNat:Nat):Int)= -1:=h;omega
theorem N9:tr l 0 r=r:=H1
theorem Is {j:Nat} (h:j<=m) (U:m<=l.length):(tr l m r).drop j=tr (l.drop j) (m - j) r:=by
 unfold tr;rw [List.drop_append_of_le_length ke,List.drop_take]
theorem Nh (h:0<m) (U:m<=l.length):AQ (tr l m r)=AQ l:=by
 cases l with
 |nil=>simp_all
 |cons a l=>
  obtain ⟨m,rfl⟩:∃k,m=k+1:=⟨m - 1,AC⟩
  rfl
theorem gI {j:Nat} (h:j<m) (U:m<=l.length):AQ ((tr l m r).drop j)=AQ (l.drop j):=by
 rw [Is AC U,Nh AC (by grind)]
theorem kX (h:n<=m) (U:m<=l.length):(tr l m r).take n=l.take n:=by
 unfold tr
 grind
theorem Xp (U:m<=l.length):(tr l m r).length=m+r.length:=by
 unfold tr;simp_all
theorem cQ (hv:Vd l) (h0:0<m) (hm:m<=l.length) (hb:Bd l m):AK (tr l m r)=AK l/\(AK l).2<=m:=by
 have U:l≠[]:=λe=>by simp_all
 have hd:(AK l).2<=m:=by
  cases hb with
  |zero=>omega
  |step _ _=>omega
 have:=Oy U (hv.rune U).1 ((l.take m).drop (AK l).2++r)
 rw [<-List.append_assoc] at this
 rw [show l.take (AK l).2=(l.take m).take (AK l).2 by grind,List.take_append_drop] at this
 exact ⟨this,hd⟩
theorem kL {p:Nat×Nat->Bool} (hv:Vd l) (hb:Bd l m) (hm:m<=l.length) (hr:Br p r=0) (h:Br p l<=m):Br p (tr l m r)=Br p l:=by
 induction hb with
 |zero l=>rw [N9,hr];omega
 |@step l k U hb ih=>
  have hp:=DK l
  have hd:=cQ (r:=r) hv AC hm (.step U hb)
  have hne':tr l ((AK l).2+k) r≠[]:=λe=>by
   have:=congrArg List.length e
   rw [Xp hm] at this;simp_all
  cases hc:p (AK l) with
  |false=>rw [Ev hc,Ev ke]
  |true=>
   rw [Cn U hc] at h |-
   rw [Cn hne' ke,hd.1,Is AC hm,show (AK l).2+k - (AK l).2=k by omega,ih (hv.rune U).2 (by grind) AC]
theorem iE (U:pV r):r=[]\/(r≠[]/\(((AK r).1:Nat):Int)=32)\/(r≠[]/\(((AK r).1:Nat):Int)=10):=by
 rcases U with h|h|h
 .exact .inl (jv h)
 .exact .inr (.inl ⟨λe=>by rw [e] at h;exact absurd h Do,by rw [(Ez AC AC).2,h]⟩)
 .exact .inr (.inr ⟨λe=>by rw [e] at h;exact absurd h Do,by rw [(Ez AC AC).2,h]⟩)
theorem fZ {p:Int->Bool} (U:pV r) (h1:p 32=false) (h2:p 10=false):BQ p r=0:=by
 rcases iE U with rfl|⟨_,h⟩|⟨_,h⟩
 .exact QU p
 .exact PJ ke
 .exact PJ ke
theorem Bd.sub {i j:Nat} (h:Bd l i) (k:Bd l j) (hij:i<=j):Bd (l.drop i) (j - i):=by
 induction h generalizing j with
 |zero l=>exact k
 |@step l i hne h ih=>
  cases k with
  |zero=>simp_all
  |@step _ U _ k=>
   rw [show (AK l).2+U - ((AK l).2+i)=U - i by omega,<-List.drop_drop]
   simp_all
theorem fQ (s:List UInt8) (n:Nat) (k:Int):n<=(G6 s n k).2:=by
 fun_induction G6 s n k with
 |case1 n k hn hc U=>omega
 |case2 n k hn hc=>omega
 |case3 n k hn=>omega
theorem av (h:(Bw l).1≠0):0<(Bw l).2:=by
 by_cases U:0<(Bw l).2
 .exact U
 .exfalso
  cases l with
  |nil=>exact h rfl
  |cons a r=>
   have hne:a::r≠[]:=GT
   have hp:=DK (a::r)
   apply h
   unfold Bw at U |-
   split
   .simp_all
   .rename_i h6
    rw [if_neg h6] at U
    have key:∀p:Int->Bool,p (((AK (a::r)).1:Nat):Int)=true->0<BQ p (a::r):=λp hp'=>by
     rw [aN hne hp'];omega
    split
    .rename_i h5
     rw [if_pos h5] at U
     have:=key (λc=>AJ c==5) (beq_iff_eq.2 h5)
     omega
    .rename_i h5
     rw [if_neg h5] at U
     split
     .rename_i h3
      rw [if_pos h3] at U
      have h3':AJ (((AK (a::r)).1:Nat):Int)=3:=h3
      have:=key Hk (by unfold Hk;simp_all)
      unfold Kb at U;omega
     .rename_i h3
      rw [if_neg h3] at U
      split
      .rename_i h2
       rw [if_pos h2] at U
       have h2':AJ (((AK (a::r)).1:Nat):Int)=2:=h2
       have:=key Hk (by unfold Hk;simp_all)
       unfold Kb at U;omega
      .rfl
def oz (k:Int) (t:List UInt8) (p:Int×Int):List V:=[.int .i64 k,.str t,.int .i64 p.1,.int .i64 p.2]
theorem fL {st:St} {o:List (List V)} {a b:Int} (h:BW st0 st w1 (o.length*4) w2 n2) (hl:o.length<=1000000000)
 (kk:∀U st',BW st0 st' U ((o.length+1)*4) w2 n2->st'.box=st.box->K (.slice 4 (o++[oz k t (a,b)]) U) st'):Ag 4 40 o w1 [[.int .i64 k,.str t,.int .i64 a,.int .i64 b]] st K:=
 JP h rfl (by rw [List.length_singleton];omega) (by rw [List.length_singleton];unfold EF;omega) rfl GT (λU st' hr hb=>kk U st' hr hb)
end Go.Aw
namespace Go.Proofs.Z
open Go Go.Aw
section
variable {st:St} {R:Ay->St->Prop}
attribute [local irreducible] Go.Aw.Ag
theorem kU {sp q:Nat} {e0 Cj ends:Int} (hl:s.length<=100000000) (hsp:sp<=p) (hpq:p<=q) (hq:q<=s.length) (hln:1<=ln/\ln<=800000000) (hcol:1<=Cj/\Cj<=1000000000)
 (hg:0<=Di/\Di<=1000000000) (ht:AD.length<=1000000000) (U:st0.box b=none) (hR:BW st0 st w1 (AD.length*4) w2 n2) (hb:st.box b=some (NS s p sp ln Cj AD notes w1 w2 Di ends j))
 (h:∀w1' st',BW st0 st' w1' ((AD.length+1)*4) w2 n2->st'.box b=some (NS s q q (Cg s p q (Cg s sp p (ln,Cj))).1 (Cg s p q (Cg s sp p (ln,Cj))).2 (AD++[oz k (AX s p q) (Cg s sp p (ln,Cj))]) notes w1' w2
   (if decide (¬k=15)|| !Lib.contains [123,125,59] (AX s p q) then Di+1 else Di) (Cg s p q (Cg s sp p (ln,Cj))).1 true)->R (.ret (.Bq [])) st'):PC 63 [.ptr b 0,.agg [.int .i64 k,.int .i64 q,.int .i64 e0]] st R:=by
 have z1:=YA (s:=s) (p:=(ln,Cj)) hsp AC hcol.1
 refine AV Ad [] Tryz.func63 rfl Do rfl ?_
 refine Aj (Ai Ad ?_)
 repeat' ((conv=>whnf);first|exact Cr|(refine Bg ?_;intros)|(refine Cs ?_ ?_ ?_;rotate_left)|(refine Bh ?_ ?_<;>intro _)|with_reducible refine WF ?_)
 refine Aj (Ai Ad ?_)
 repeat' ((conv=>whnf);first|exact Cr|(refine Bg ?_;intros)|(refine Cs ?_ ?_ ?_;rotate_left)|(refine Bh ?_ ?_<;>intro _)|refine kT hl hsp AC AC AC hb ?_|refine Am hb ?_|with_reducible refine WF ?_)
 generalize Cg s sp p (ln,Cj)=pl1 at h z1 |-
 have z2:=YA (s:=s) (p:=pl1) hpq hq z1.2.2.1
 dsimp only at z1 z2
 refine Aj (Ai Ad ?_)
 repeat' ((conv=>whnf);first|exact Cr|(refine Bg ?_;intros)|(refine Cs ?_ ?_ ?_;rotate_left)|(refine Bh ?_ ?_<;>intro _)|refine Sm hpq hq ?_|refine Am (St.AL _ _ _) ?_|with_reducible refine WF ?_)
 refine Aj (Ai Ad ?_)
 repeat' ((conv=>whnf);first|refine Ac [(0,true),(1,true),(2,true),(3,true),(4,true),(5,true),(6,true),(7,false),(8,true),(9,true),(10,false)] [] GE ?_|exact Cr|(refine Bg ?_;intros)|(refine Cs ?_ ?_ ?_;rotate_left)|(refine Bh ?_ ?_<;>intro _)|refine Am (St.AL _ _ _) ?_|refine fL (hR.set U _) ht (λw1' st1 hr1 hb1=>?_)|refine Am ((congrFun hb1 b).trans (St.AL _ _ _)) ?_|with_reducible refine WF ?_)
 clear hR hb
 rcases hc:(decide (¬k=15)|| !Lib.contains [123,125,59] (AX s p q)) with _|_
 all_goals rw [hc] at h
 .have hcc:∀{st:St} {R:Ay->St->Prop},R (.ret (.bool false)) st->PC 137 [.agg [.int .i64 k,.str (AX s p q),.int .i64 pl1.1,.int .i64 pl1.2]] st R:=λh=>S6 (by rw [hc];exact h)
  refine Aj (Ai Ad ?_)
  repeat' ((conv=>whnf);first|exact Cr|(refine Bg ?_;intros)|(refine Cs ?_ ?_ ?_;rotate_left)|(refine Bh ?_ ?_<;>intro _)|refine hcc ?_|refine Am (St.AL _ _ _) ?_|with_reducible refine WF ?_)
  refine Ai Ad ?_
  repeat' ((conv=>whnf);first|exact Cr|(refine Bg ?_;intros)|(refine Cs ?_ ?_ ?_;rotate_left)|(refine Bh ?_ ?_<;>intro _)|refine kT hl hpq hq AC AC (St.AL _ _ _) ?_|refine Am (St.AL _ _ _) ?_|with_reducible refine WF ?_)
  all_goals exact fin (h w1' _ ((((hr1.set U _).set U _).set U _).set U _) (St.AL _ _ _)) rfl
 .have hcc:∀{st:St} {R:Ay->St->Prop},R (.ret (.bool true)) st->PC 137 [.agg [.int .i64 k,.str (AX s p q),.int .i64 pl1.1,.int .i64 pl1.2]] st R:=λh=>S6 (by rw [hc];exact h)
  refine Aj (Ai Ad ?_)
  repeat' ((conv=>whnf);first|exact Cr|(refine Bg ?_;intros)|(refine Cs ?_ ?_ ?_;rotate_left)|(refine Bh ?_ ?_<;>intro _)|refine hcc ?_|refine Am (St.AL _ _ _) ?_|with_reducible refine WF ?_)
  refine Ai Ad ?_
  repeat' ((conv=>whnf);first|exact Cr|(refine Bg ?_;intros)|(refine Cs ?_ ?_ ?_;rotate_left)|(refine Bh ?_ ?_<;>intro _)|refine kT hl hpq hq AC AC (St.AL _ _ _) ?_|refine Am (St.AL _ _ _) ?_|with_reducible refine WF ?_)
  all_goals exact fin (h w1' _ (((((hr1.set U _).set U _).set U _).set U _).set U _) (St.AL _ _ _)) rfl
end
structure Nt where
 text:List UInt8
 Di:Int
 wh:Int
 line:Int
 Cj:Int
def Nt.cells (n:Nt):List V:=[.str n.text,.int .i64 n.Di,.int .i64 n.wh,.int .i64 n.line,.int .i64 n.Cj]
def J6 (l:List Nt):List (List V):=l.map Nt.cells
structure Lx where
 AD:List Tk
 notes:List Nt
 Di:Int
 ends:Int
 j:Bool
def pj:Lx:=⟨[],[],0,0,false⟩
def cntF (k:Int) (t:List UInt8):Bool:=decide (¬k=15)|| !Lib.contains [123,125,59] t
def Nz (s:List UInt8) (p q:Nat) (k:Int) (x:Lx):Lx:=
 ⟨x.AD++[⟨k,AX s p q,(CQ s p).1,(CQ s p).2⟩],x.notes,if cntF k (AX s p q) then x.Di+1 else x.Di,(CQ s q).1,true⟩
def Ds (s:List UInt8) (p:Nat):Nat:=p+BQ (λc=>AJ c==1) (s.drop p)
theorem KU (h:p<=s.length):p<=Ds s p/\Ds s p<=s.length:=by
 have:=E6 (λc=>AJ c==1) (s.drop p)
 rw [List.length_drop] at this
 unfold Ds;omega
def oR (s:List UInt8) (p q:Nat) (x:Lx):Bool:=x.j&&decide (x.ends=(CQ s p).1)&&decide ((CQ s q).1=(CQ s p).1)
def VO (s:List UInt8) (p q:Nat):Bool:=decide (Ds s q<s.length)&&decide ((CQ s (Ds s q)).1=(CQ s p).1)
def QM (s:List UInt8) (p q:Nat) (x:Lx):Lx:=
 ⟨x.AD,x.notes++[⟨AX s p q,x.Di,if oR s p q x then (if VO s p q then 1 else 2) else 3,(CQ s p).1,(CQ s p).2⟩],x.Di,(CQ s q).1,oR s p q x&&VO s p q⟩
def II (s:List UInt8) (p:Nat) (x:Lx):Sum (Int×Int) Lx:=
 if hp:p<s.length then
  if (CC s p).2≠0 then .inl ((p:Nat),(CC s p).2)
  else if 0<(CC s p).1 then
   (if U:p<(CC s p).1.toNat then II s (Ds s (CC s p).1.toNat) (QM s p (CC s p).1.toNat x) else .inr x)
  else if (CV s p).2.2≠0 then .inl ((CV s p).2.1,(CV s p).2.2)
  else (if U:p<(CV s p).2.1.toNat then II s (Ds s (CV s p).2.1.toNat) (Nz s p (CV s p).2.1.toNat (CV s p).1 x) else .inr x)
 else .inr x
termination_by s.length - p
decreasing_by
 all_goals unfold Ds;omega
def Ia (s:List UInt8):Sum (Int×Int) Lx:=
 if 16777216<s.length then .inl (0,3)
 else if (L9 s).2≠0 then .inl (L9 s)
 else if 0<=ZS (λc=>AJ (c:Nat)==0) s then .inl (ZS (λc=>AJ (c:Nat)==0) s,70)
 else II s (Ds s 0) pj
theorem mP (h:(L9 s).2=0):Vd s:=by
 unfold L9 at h
 split at h
 .exact absurd h (show ¬(10:Int)=0 by decide)
 .have:=PI C5 s
  unfold Vd;omega
end Go.Proofs.Z
namespace Go.Aw
open Go
theorem BC.le {k:Nat} (h:BC l k):k<=l.length:=by
 induction h with
 |zero l=>omega
 |step U h ih=>have:=E8 U;grind
theorem BC.blank (hv:Vd l):BC l (BQ (λc=>AJ c==1) l):=by
 refine Bd.cut (Bd.span _ l) ?_
 rintro ⟨h0,_,U⟩
 have U:AQ (l.drop (BQ (λc=>AJ c==1) l))=10:=U
 have hlt:=Cc (l:=l) (k:=BQ (λc=>AJ c==1) l) AC
 have:=PK (λc=>AJ c==1) l hlt
 rw [(Ez AC AC).2,U] at this
 exact absurd this Do
theorem eN (e:(CC s p).2=0) (U:0<(CC s p).1):∃n:Nat,0<n/\Dj (s.drop p)=(n:Nat)/\(CC s p).1=(p+n:Nat):=by
 unfold CC at e U |-
 split
 .simp_all
 .rename_i h
  rw [if_neg h] at e U
  split
  .simp_all
  .rename_i h1
   exact ⟨(Dj (s.drop p)).toNat,AC,AC,AC⟩
theorem eO (hv:Vd s) (h:BC s p) (e:(CC s p).2=0) (U:0<(CC s p).1):∃q,(CC s p).1=(q:Nat)/\p<q/\q<=s.length/\BC s q:=by
 obtain ⟨n,h1,h2,h3⟩:=eN e U
 have hc:=BC.add h (BC.note (h.bd.vd hv) h2)
 exact ⟨p+n,h3,AC,hc.le,hc⟩
theorem kr (h:(Ej l).1≠0):0<(Ej l).2:=by
 unfold Ej at h |-
 grind
theorem gP (h:(F2 l).1≠0):0<(F2 l).2:=by
 have U:=fQ l (Bw l).2 (Bw l).1
 by_cases hp:(Bw l).1=0
 .unfold F2 at h
  rw [Un (λx=>by omega)] at h
  omega
 .have:=av hp
  unfold F2;omega
theorem eo (hv:Vd s) (h:BC s p) (e:(CV s p).2.2=0):(CV s p).1≠0/\∃q,(CV s p).2.1=(q:Nat)/\p<q/\q<=s.length/\BC s q:=by
 have hv':=h.bd.vd hv
 unfold CV at e |-
 split
 .rename_i U
  refine ⟨U,p+(Ej (s.drop p)).2,?_⟩
  have hn:(Ej (s.drop p)).1≠0:=λx=>by
   unfold Pp at U;simp_all
  have hc:=BC.add h (BC.num (s.drop p))
  have:=kr hn
  refine ⟨?_,AC,hc.le,hc⟩
  unfold Pp;simp_all
 .rename_i U
  rw [if_neg U] at e
  split
  .rename_i h2
   rw [if_pos h2] at e
   split
   .simp_all
   .rename_i h3
    refine ⟨h3,p+(F2 (s.drop p)).2,?_⟩
    have hn:(F2 (s.drop p)).1≠0:=λx=>by
     unfold GK at h3;simp_all
    have hc:=BC.add h (BC.word (s.drop p))
    have:=gP hn
    refine ⟨?_,AC,hc.le,hc⟩
    unfold GK;simp_all
  .rename_i h2
   rw [if_neg h2] at e
   have hk:(Ct s p).1≠0:=λx=>h2 ⟨x,e⟩
   obtain ⟨n,e1,e2,e3⟩:=BC.quote hv' hk
   have hc:=BC.add h e3
   exact ⟨hk,p+n,e1,AC,hc.le,hc⟩
theorem BC.oF (U:Vd s) (h:BC s p):BC s (Go.Proofs.Z.Ds s p):=BC.add h (BC.blank (h.bd.vd U))
def Z5 (a b:Int×Int):Prop:=a.1<b.1\/(a.1=b.1/\a.2<b.2)
theorem Z5.trans {a b c:Int×Int} (h:Z5 a b) (k:Z5 b c):Z5 a c:=by unfold Z5 at *;omega
theorem kM {p:Int×Int} (h:1<=p.2):Z5 p (Ed l p.1,E7 l p.2):=by
 unfold Z5 Ed E7 UC
 omega
theorem lu {k:Nat} (h:BC l k) (p:Int×Int) (hp:1<=p.2):(k=0/\BI l k p=p)\/(0<k/\Z5 p (BI l k p)):=by
 induction h generalizing p with
 |zero l=>exact .inl ⟨rfl,EI⟩
 |@step l j U h ih=>
  have h1:=E8 U
  have h2:=kM (l:=l) hp
  refine .inr ⟨AC,?_⟩
  rw [DT U AC,show AP l+j - AP l=j by omega]
  rcases ih (Ed l p.1,E7 l p.2) (N7 l hp).1 with ⟨_,e⟩|⟨_,e⟩
  .simp_all
  .exact h2.trans e
theorem BC.sub {i j:Nat} (h:BC l i) (k:BC l j) (hij:i<=j):BC (l.drop i) (j - i):=by
 induction h generalizing j with
 |zero l=>exact k
 |@step l i hne h ih=>
  cases k with
  |zero=>simp_all
  |@step _ U _ k=>
   rw [show AP l+U - (AP l+i)=U - i by omega,<-List.drop_drop]
   simp_all
theorem L5:1<=(CQ s p).1/\(CQ s p).1<=1+s.length/\1<=(CQ s p).2/\(CQ s p).2<=1+8*s.length:=by
 have:=SO _ s p (1,1) (Nat.le_refl _) Do
 unfold CQ
 omega
theorem cc {q:Nat} (h:BC s p) (k:BC s q) (U:p<q):Z5 (CQ s p) (CQ s q):=by
 have c:=h.sub k AC
 have e:CQ s q=BI (s.drop p) (q - p) (CQ s p):=by
  unfold CQ
  rw [<-UW h,show p+(q - p)=q by omega]
 rw [e]
 rcases lu c (CQ s p) L5.2.2.1 with ⟨x,_⟩|⟨_,x⟩
 .omega
 omega
theorem Mq {a:Nat} (hv:Vd s) (U:BC s a) (hb:BC s b) (h:a<=b):Cg s a b (CQ s a)=CQ s b:=ff hv U (U.sub hb h) h hb.le
def qy (t:List UInt8) (Di wh:Int) (p:Int×Int):List V:=[.str t,.int .i64 Di,.int .i64 wh,.int .i64 p.1,.int .i64 p.2]
theorem Mt {st:St} {o:List (List V)} {g a b:Int} (h:BW st0 st w1 n1 w2 (o.length*5)) (hl:o.length<=1000000000)
 (kk:∀U st',BW st0 st' w1 n1 U ((o.length+1)*5)->st'.box=st.box->K (.slice 5 (o++[qy t g k (a,b)]) U) st'):Ag 5 48 o w2 [[.str t,.int .i64 g,.int .i64 k,.int .i64 a,.int .i64 b]] st K:=
 JP h.swap rfl (by rw [List.length_singleton];omega) (by rw [List.length_singleton];unfold EF;omega) rfl GT (λw1' st' hr hb=>kk w1' st' hr.swap hb)
end Go.Aw
namespace Go.Proofs.Z
open Go Go.Aw
section
variable {st:St} {R:Ay->St->Prop}
attribute [local irreducible] Go.Aw.Ag
theorem YW {sp q:Nat} {ends:Int} (hl:s.length<=100000000) (hv:Vd s) (c1:BC s sp) (c2:BC s q) (U:sp<=q)
 (hb:st.box b=some (NS s p sp (CQ s sp).1 (CQ s sp).2 AD notes w1 w2 Di ends j))
 (h:R (.ret (.Bq [.int .i64 (CQ s q).1,.int .i64 (CQ s q).2])) (st.Aa b (NS s p q (CQ s q).1 (CQ s q).2 AD notes w1 w2 Di ends j))):PC 133 [.ptr b 0,.int .i64 q] st R:=by
 have e:Cg s sp q ((CQ s sp).1,(CQ s sp).2)=CQ s q:=Mq hv c1 c2 U
 have hc:=L5 (s:=s) (p:=sp)
 refine kT hl U c2.le AC AC hb ?_
 rw [e];exact h
theorem gE {sp q:Nat} {e0 ends:Int} (hl:s.length<=50000000) (hv:Vd s) (c1:BC s sp) (c2:BC s p) (c3:BC s q) (hsp:sp<=p) (hpq:p<=q)
 (hg:0<=Di/\Di<=1000000000) (ht:AD.length<=1000000000) (hb0:st0.box b=none) (hR:BW st0 st w1 (AD.length*4) w2 n2) (hb:st.box b=some (NS s p sp (CQ s sp).1 (CQ s sp).2 AD notes w1 w2 Di ends j))
 (h:∀U st',BW st0 st' U ((AD.length+1)*4) w2 n2->st'.box b=some (NS s q q (CQ s q).1 (CQ s q).2 (AD++[oz k (AX s p q) (CQ s p)]) notes U w2
   (if cntF k (AX s p q) then Di+1 else Di) (CQ s q).1 true)->R (.ret (.Bq [])) st'):PC 63 [.ptr b 0,.agg [.int .i64 k,.int .i64 q,.int .i64 e0]] st R:=by
 have e1:Cg s sp p ((CQ s sp).1,(CQ s sp).2)=CQ s p:=Mq hv c1 c2 hsp
 have e2:Cg s p q (CQ s p)=CQ s q:=Mq hv c2 c3 hpq
 have hc:=L5 (s:=s) (p:=sp)
 refine kU AC hsp hpq c3.le AC AC hg ht hb0 hR hb (λU st' hr hb'=>h U st' hr ?_)
 rw [e1,e2] at hb';exact hb'
theorem nN {sp q:Nat} {ends:Int} (hl:s.length<=50000000) (hv:Vd s) (c1:BC s sp) (c2:BC s p) (c3:BC s q) (hsp:sp<=p) (hpq:p<=q)
 (hg:0<=Di/\Di<=1000000000) (ht:notes.length<=1000000000) (U:st0.box b=none) (hR:BW st0 st w1 n1 w2 (notes.length*5)) (hb:st.box b=some (NS s p sp (CQ s sp).1 (CQ s sp).2 AD notes w1 w2 Di ends j))
 (h:∀w2' st' sp',BC s sp'->sp'<=Ds s q->BW st0 st' w1 n1 w2' ((notes.length+1)*5)->
   st'.box b=some (NS s (Ds s q) sp' (CQ s sp').1 (CQ s sp').2 AD (notes++[qy (AX s p q) Di (if j&&decide (ends=(CQ s p).1)&&decide ((CQ s q).1=(CQ s p).1) then (if VO s p q then 1 else 2) else 3) (CQ s p)]) w1 w2' Di (CQ s q).1
    (j&&decide (ends=(CQ s p).1)&&decide ((CQ s q).1=(CQ s p).1)&&VO s p q))->R (.ret (.Bq [])) st'):PC 61 [.ptr b 0,.int .i64 q] st R:=by
 have c4:=c3.oF hv
 have hq:=c3.le
 have hr:=KU hq
 have z1:=L5 (s:=s) (p:=p)
 have z2:=L5 (s:=s) (p:=q)
 have z3:=L5 (s:=s) (p:=Ds s q)
 refine AV Ad [] Tryz.func61 rfl Do rfl ?_
 refine Aj (Ai Ad ?_)
 repeat' ((conv=>whnf);first|exact Cr|(refine Bg ?_;intros)|(refine Cs ?_ ?_ ?_;rotate_left)|(refine Bh ?_ ?_<;>intro _)|refine YW AC hv c1 c2 hsp hb ?_|refine Am hb ?_|with_reducible refine WF ?_)
 refine Aj (Ai Ad ?_)
 repeat' ((conv=>whnf);first|exact Cr|(refine Bg ?_;intros)|(refine Cs ?_ ?_ ?_;rotate_left)|(refine Bh ?_ ?_<;>intro _)|refine Sm hpq hq ?_|refine Am (St.AL _ _ _) ?_|with_reducible refine WF ?_)
 refine Aj (Ai Ad ?_)
 repeat' ((conv=>whnf);first|exact Cr|(refine Bg ?_;intros)|(refine Cs ?_ ?_ ?_;rotate_left)|(refine Bh ?_ ?_<;>intro _)|refine YW AC hv c2 c3 hpq (St.AL _ _ _) ?_|refine Am (St.AL _ _ _) ?_|with_reducible refine WF ?_)
 have hbl:∀{st:St} {R:Ay->St->Prop} {sp:Nat} {Di ends:Int} {j:Bool} {notes:List (List V)} {w2:AB},st.box b=some (NS s q sp (CQ s sp).1 (CQ s sp).2 AD notes w1 w2 Di ends j)->
  R (.ret (.Bq [])) (st.Aa b (NS s (Ds s q) sp (CQ s sp).1 (CQ s sp).2 AD notes w1 w2 Di ends j))->PC 59 [.ptr b 0] st R:=λhb h=>KT AC hq hb h
 have hcase:(j=false\/(j=true/\¬ends=(CQ s p).1)\/(j=true/\ends=(CQ s p).1/\¬(CQ s q).1=(CQ s p).1))\/(j=true/\ends=(CQ s p).1/\(CQ s q).1=(CQ s p).1):=by
  cases j
  .exact .inl (.inl rfl)
  .by_cases e1:ends=(CQ s p).1
   .by_cases e2:(CQ s q).1=(CQ s p).1
    .exact .inr ⟨rfl,e1,e2⟩
    .exact .inl (.inr (.inr ⟨rfl,e1,e2⟩))
   .exact .inl (.inr (.inl ⟨rfl,e1⟩))
 rcases hcase with hc|⟨rfl,he1,he2⟩
 .have e:(j&&decide (ends=(CQ s p).1)&&decide ((CQ s q).1=(CQ s p).1))=false:=by
   rcases hc with rfl|⟨rfl,e1⟩|⟨rfl,e1,e2⟩<;>simp [*]
  rw [e] at h
  rcases hc with rfl|⟨rfl,e1⟩|⟨rfl,e1,e2⟩
  all_goals refine Aj (Ai Ad ?_)
  repeat' ((conv=>whnf);first|exact Cr|(refine Bg ?_;intros)|(refine Cs ?_ ?_ ?_;rotate_left)|(refine Bh ?_ ?_<;>intro _)|refine Am (St.AL _ _ _) ?_|with_reducible refine WF ?_)
  all_goals refine Aj (Ai Ad ?_)
  repeat' ((conv=>whnf);first|exact Cr|(refine Bg ?_;intros)|(refine Cs ?_ ?_ ?_;rotate_left)|(refine Bh ?_ ?_<;>intro _)|refine Am (St.AL _ _ _) ?_|with_reducible refine WF ?_)
  all_goals refine Aj (Ai Ad ?_)
  repeat' ((conv=>whnf);first|exact Cr|(refine Bg ?_;intros)|(refine Cs ?_ ?_ ?_;rotate_left)|(refine Bh ?_ ?_<;>intro _)|refine hbl (St.AL _ _ _) ?_|with_reducible refine WF ?_)
  all_goals refine Aj (Ai Ad ?_)
  repeat' ((conv=>whnf);first|exact Cr|(refine Bg ?_;intros)|(refine Cs ?_ ?_ ?_;rotate_left)|(refine Bh ?_ ?_<;>intro _)|refine Am (St.AL _ _ _) ?_|with_reducible refine WF ?_)
  all_goals refine Aj (Ai Ad ?_)
  repeat' ((conv=>whnf);first|exact Cr|(refine Bg ?_;intros)|(refine Cs ?_ ?_ ?_;rotate_left)|(refine Bh ?_ ?_<;>intro _)|with_reducible refine WF ?_)
  all_goals refine Ai Ad ?_
  repeat' ((conv=>whnf);first|refine Ac [(0,true),(1,true),(2,true),(3,true),(4,true),(5,true),(6,true),(7,false),(8,true),(9,true),(10,false)] [] GE ?_|exact Cr|(refine Bg ?_;intros)|(refine Cs ?_ ?_ ?_;rotate_left)|(refine Bh ?_ ?_<;>intro _)|refine Am (St.AL _ _ _) ?_|refine Mt (((((hR.set U _).set U _).set U _).set U _).set U _) ht (λw1' st1 hr1 hb1=>?_)|refine Am ((congrFun hb1 b).trans (St.AL _ _ _)) ?_|with_reducible refine WF ?_)
  all_goals exact fin (h w1' _ q c3 hr.1 (hr1.set U _) (St.AL _ _ _)) rfl
 .have e:(true&&decide (ends=(CQ s p).1)&&decide ((CQ s q).1=(CQ s p).1))=true:=by simp [*]
  rw [e] at h
  refine Aj (Ai Ad ?_)
  repeat' ((conv=>whnf);first|exact Cr|(refine Bg ?_;intros)|(refine Cs ?_ ?_ ?_;rotate_left)|(refine Bh ?_ ?_<;>intro _)|refine Am (St.AL _ _ _) ?_|with_reducible refine WF ?_)
  refine Aj (Ai Ad ?_)
  repeat' ((conv=>whnf);first|exact Cr|(refine Bg ?_;intros)|(refine Cs ?_ ?_ ?_;rotate_left)|(refine Bh ?_ ?_<;>intro _)|refine Am (St.AL _ _ _) ?_|with_reducible refine WF ?_)
  refine Aj (Ai Ad ?_)
  repeat' ((conv=>whnf);first|exact Cr|(refine Bg ?_;intros)|(refine Cs ?_ ?_ ?_;rotate_left)|(refine Bh ?_ ?_<;>intro _)|refine hbl (St.AL _ _ _) ?_|with_reducible refine WF ?_)
  refine Aj (Ai Ad ?_)
  repeat' ((conv=>whnf);first|exact Cr|(refine Bg ?_;intros)|(refine Cs ?_ ?_ ?_;rotate_left)|(refine Bh ?_ ?_<;>intro _)|refine Am (St.AL _ _ _) ?_|with_reducible refine WF ?_)
  rcases hin:VO s p q with _|_
  all_goals rw [hin] at h
  .have hno:¬Ds s q<s.length\/(Ds s q<s.length/\¬(CQ s (Ds s q)).1=(CQ s p).1):=by
    by_cases h1:Ds s q<s.length
    .exact .inr ⟨h1,λx=>by unfold VO at hin;simp [h1,x] at hin⟩
    .exact .inl h1
   rcases hno with hno|⟨hy,hno⟩
   all_goals refine Aj (Ai Ad ?_)
   repeat' ((conv=>whnf);first|exact Cr|(refine Bg ?_;intros)|(refine Cs ?_ ?_ ?_;rotate_left)|(refine Bh ?_ ?_<;>intro _)|refine YW AC hv c3 c4 hr.1 (St.AL _ _ _) ?_|refine Am (St.AL _ _ _) ?_|refine WJ (λ_=>?_)|with_reducible refine WF ?_)
   all_goals refine Ai Ad ?_
   repeat' ((conv=>whnf);first|refine Ac [(0,true),(1,true),(2,true),(3,true),(4,true),(5,true),(6,true),(7,false),(8,true),(9,true),(10,false)] [] GE ?_|exact Cr|(refine Bg ?_;intros)|(refine Cs ?_ ?_ ?_;rotate_left)|(refine Bh ?_ ?_<;>intro _)|refine Am (St.AL _ _ _) ?_|refine Mt ((((((hR.set U _).set U _).set U _).set U _).set U _).set U _) ht (λw1' st1 hr1 hb1=>?_)|refine Am ((congrFun hb1 b).trans (St.AL _ _ _)) ?_|with_reducible refine WF ?_)
   all_goals exact fin (h w1' _ (Ds s q) c4 (Nat.le_refl _) (hr1.set U _) (St.AL _ _ _)) rfl
  .have hy:Ds s q<s.length/\(CQ s (Ds s q)).1=(CQ s p).1:=by unfold VO at hin;simpa using hin
   obtain ⟨hy1,hy2⟩:=hy
   refine Aj (Ai Ad ?_)
   repeat' ((conv=>whnf);first|exact Cr|(refine Bg ?_;intros)|(refine Cs ?_ ?_ ?_;rotate_left)|(refine Bh ?_ ?_<;>intro _)|refine YW AC hv c3 c4 hr.1 (St.AL _ _ _) ?_|refine Am (St.AL _ _ _) ?_|refine WJ (λ_=>?_)|with_reducible refine WF ?_)
   refine Ai Ad ?_
   repeat' ((conv=>whnf);first|refine Ac [(0,true),(1,true),(2,true),(3,true),(4,true),(5,true),(6,true),(7,false),(8,true),(9,true),(10,false)] [] GE ?_|exact Cr|(refine Bg ?_;intros)|(refine Cs ?_ ?_ ?_;rotate_left)|(refine Bh ?_ ?_<;>intro _)|refine Am (St.AL _ _ _) ?_|refine Mt (((((((hR.set U _).set U _).set U _).set U _).set U _).set U _).set U _) ht (λw1' st1 hr1 hb1=>?_)|refine Am ((congrFun hb1 b).trans (St.AL _ _ _)) ?_|with_reducible refine WF ?_)
   all_goals exact fin (h w1' _ (Ds s q) c4 (Nat.le_refl _) (hr1.set U _) (St.AL _ _ _)) rfl
end
end Go.Proofs.Z
namespace Go.Aw
open Go
theorem Bd.word {w:List UInt8} (h:∀b ∈ w,b.toNat<128):Bd (w++t) w.length:=by
 induction w with
 |nil=>exact .zero _
 |cons a w U=>
  have e:(AK (a::(w++t))).2=1:=by rw [EV (h a List.mem_cons_self)]
  have:=Bd.step (l:=a::(w++t)) (k:=w.length) GT ke
  grind
theorem WQ (l:List UInt8):0<GN l↔(AQ l=13\/AQ l=10\/AQ l=12):=by
 rcases EL l with ⟨e,h⟩|⟨e,h,_⟩|⟨e,h,_⟩
 .omega
 .omega
 omega
theorem jZ {d:Nat} (hm:m<=l.length) (h:B9 d l=some n) (hn:n<=m):B9 d (tr l m r)=some n:=by
 fun_induction B9 d l generalizing m n with
 |case1=>cases h
 |case2 d a l hc ih=>
  obtain ⟨k,hk,rfl⟩:=Option.map_eq_some_iff.1 h
  have h2:=GC _ _ _ hk
  obtain ⟨m,rfl⟩:∃j,m=j+1:=⟨m - 1,AC⟩
  have hl:m<=l.length:=by simpa using hm
  show B9 d (a::tr l m r)=_
  rw [B9,if_pos ⟨hc.1,by rw [Nh AC hl];omega⟩,Is AC hl,ih (by grind) hk AC]
  rfl
 |case3 d a l hc hk hd=>
  injection h with h
  subst h
  obtain ⟨m,rfl⟩:∃j,m=j+1:=⟨m - 1,AC⟩
  have hl:m<=l.length:=by simpa using hm
  show B9 d (a::tr l m r)=_
  rw [B9,if_neg AC,if_pos ⟨hk.1,by rw [Nh AC hl];omega⟩,if_pos hd]
 |case4 d a l hc hk hd ih=>
  obtain ⟨k,U,rfl⟩:=Option.map_eq_some_iff.1 h
  have h2:=GC _ _ _ U
  obtain ⟨m,rfl⟩:∃j,m=j+1:=⟨m - 1,AC⟩
  have hl:m<=l.length:=by simpa using hm
  show B9 d (a::tr l m r)=_
  rw [B9,if_neg AC,if_pos ⟨hk.1,by rw [Nh AC hl];omega⟩,if_neg hd,Is AC hl,ih (by grind) U AC]
  rfl
 |case5 d a l hc hk ih=>
  obtain ⟨k,U,rfl⟩:=Option.map_eq_some_iff.1 h
  have h2:=GC _ _ _ U
  obtain ⟨m,rfl⟩:∃j,m=j+1:=⟨m - 1,AC⟩
  have hl:m<=l.length:=by simpa using hm
  show B9 d (a::tr l m r)=_
  rw [B9,if_neg (by rw [Nh AC hl];exact hc),if_neg (by rw [Nh AC hl];exact hk),ih hl U AC]
  rfl
def mz (r:List UInt8):Prop:=AQ r= -1\/AQ r=10
theorem mz.qM (h:mz r):pV r:=by unfold mz at h;unfold pV;omega
theorem mX (hr:mz r) (U:m<=l.length) (h:Db l<=m):Db (tr l m r)=Db l:=by
 have e0:Db r=0:=by
  cases r with
  |nil=>rfl
  |cons a r=>
   unfold mz at hr
   have:((a.toNat:Nat):Int)=AQ (a::r):=rfl
   rw [Db,if_pos ((WQ _).2 AC)]
 induction l generalizing m with
 |nil=>
  have:m=0:=by simpa using U
  subst this
  rw [N9,e0];rfl
 |cons a l ih=>
  cases m with
  |zero=>rw [N9,e0];omega
  |succ m=>
   have hl:m<=l.length:=by simpa using U
   show Db (a::tr l m r)=_
   have hp:0<GN (a::tr l m r)↔0<GN (a::l):=by rw [WQ,WQ];exact Iff.rfl
   unfold Db at h |-
   grind
theorem aF (hr:mz r) (hv:Vd l) (hb:Bd l m) (U:m<=l.length) (h:0<Ek l) (hn:Ek l<=m):Ek (tr l m r)=Ek l:=by
 unfold Ek at h hn |-
 dsimp only at h hn |-
 split at h
 .rename_i hc
  rw [if_pos hc] at hn |-
  have e:BQ (λc=>AJ c==5) (tr l m r)=BQ (λc=>AJ c==5) l:=kL hv hb U (fZ (p:=λc=>AJ c==5) hr.qM Do Do) (show Br _ l<=m by show BQ (λc=>AJ c==5) l<=m;omega)
  rw [e,kX AC U,if_pos hc,Is AC U,mX hr (by grind) AC]
 .omega
theorem kq (hr:mz r) (hv:Vd l) (hb:Bd l m) (U:m<=l.length) (h0:0<n) (h:Dj l=n) (hn:n<=m):Dj (tr l m r)=n:=by
 unfold Dj at h |-
 split at h
 .rename_i hc
  cases ht:B9 1 (l.drop 2) with
  |none=>rw [ht] at h;simp only [Ea] at h;omega
  |some k=>
   rw [ht] at h
   simp only [Ea] at h
   have h2:=GC _ _ _ ht
   rw [Nh AC U,gI AC U,if_pos hc,Is AC U,jZ (by grind) ht AC]
   simp only [Ea];omega
 .rename_i hc
  split at h
  .rename_i hd
   have h:Ek l=n:=AC
   rw [Nh AC U,if_neg,if_pos hd,aF hr hv hb U AC AC,h]
   omega
  .omega
theorem ai (U:Vd l) (h0:0<n) (h:Dj l=n):Dj (l.take n)=(l.take n).length/\(l.take n).length=n:=by
 have hle:=T2 l
 have hc:=BC.note U h
 have e:=kq (r:=[]) (.inl rfl) U hc.bd AC h0 h (Nat.le_refl _)
 unfold tr at e
 simp_all
end Go.Aw
namespace Go.Proofs.Z
open Go Go.Aw
def qi (t:Tk):Int×Int:=(t.line,t.Cj)
def qd (n:Nt):Int×Int:=(n.line,n.Cj)
def lE (t:List UInt8):Prop:=t≠[]/\Dj t=(t.length:Nat)
structure Np (s:List UInt8) (p:Nat) (x:Lx):Prop where
 t:x.AD.Pairwise λa b=>Z5 (qi a) (qi b)
 tp:∀a ∈ x.AD,Z5 (qi a) (CQ s p)
 n:x.notes.Pairwise λa b=>Z5 (qd a) (qd b)/\a.Di<=b.Di
 np:∀a ∈ x.notes,Z5 (qd a) (CQ s p)/\0<=a.Di/\a.Di<=x.Di/\(a.wh=1\/a.wh=2\/a.wh=3)/\lE a.text
 g:0<=x.Di/\x.Di<=x.AD.length
theorem fe {a:Nat}:AX s a b=(s.drop a).take (b - a):=by unfold AX;rw [List.drop_take]
theorem Np.le {q:Nat} {x:Lx} (h:Np s p x) (hp:BC s p) (hq:BC s q) (hpq:p<q):Np s q x:=
 have l:=cc hp hq hpq
 ⟨h.t,λa U=>(h.tp a U).trans l,h.n,λa U=>⟨(h.np a U).1.trans l,(h.np a U).2⟩,h.g⟩
theorem Np.tok {q:Nat} {x:Lx} (h:Np s p x) (hp:BC s p) (hq:BC s q) (hpq:p<q):Np s q (Nz s p q k x):=by
 have h':=h.le hp hq hpq
 have hg:=h.g
 have hgg:x.Di<=(Nz s p q k x).Di/\(Nz s p q k x).Di<=x.Di+1:=by
  show x.Di<=(if cntF k (AX s p q) then x.Di+1 else x.Di)/\(if cntF k (AX s p q) then x.Di+1 else x.Di)<=x.Di+1
  split<;>omega
 refine ⟨?_,?_,h.n,λa U=>?_,?_⟩
 .refine List.pairwise_append.2 ⟨h.t,List.pairwise_singleton _ _,λa U b hb=>?_⟩
  rw [List.mem_singleton] at hb;subst hb
  exact h.tp a U
 .intro a U
  rcases List.mem_append.1 U with U|U
  .exact h'.tp a U
  .rw [List.mem_singleton] at U;subst U
   exact cc hp hq hpq
 .have:=h'.np a U
  grind
 .have:(Nz s p q k x).AD.length=x.AD.length+1:=by simp [Nz]
  omega
theorem Np.note {q:Nat} {x:Lx} (hv:Vd s) (h:Np s p x) (hp:BC s p) (hq:BC s q) (hpq:p<q) (hn:Dj (s.drop p)=(q - p:Nat)):Np s q (QM s p q x):=by
 have h':=h.le hp hq hpq
 have hg:=h.g
 refine ⟨h.t,h'.tp,?_,?_,h.g⟩
 .refine List.pairwise_append.2 ⟨h.n,List.pairwise_singleton _ _,λa U b hb=>?_⟩
  rw [List.mem_singleton] at hb;subst hb
  exact ⟨(h.np a U).1,(h.np a U).2.2.1⟩
 .intro a U
  rcases List.mem_append.1 U with U|U
  .exact h'.np a U
  .rw [List.mem_singleton] at U;subst U
   refine ⟨cc hp hq hpq,hg.1,Int.le_refl _,?_,?_⟩
   .grind
   .show lE (AX s p q)
    rw [fe]
    have e:=ai (hp.bd.vd hv) AC hn
    refine ⟨λe0=>?_,e.1⟩
    grind
theorem Np.oF {s:List UInt8} {p:Nat} {x:Lx} (hv:Vd s) (h:Np s p x) (U:BC s p):Np s (Ds s p) x:=by
 by_cases e:p=Ds s p
 .grind
 .exact h.le U (U.oF hv) (by have:=(KU U.le).1;omega)
end Go.Proofs.Z
namespace Go.Aw
open Go
def mM (l:List UInt8):Nat:=BQ (λc=>AJ c==1) l
def pZ (l:List UInt8):List UInt8:=l.drop (mM l)
def Cl (l:List UInt8):Prop:=Br (λd=> !(AJ (d.1:Nat)==0)) l=l.length
theorem Ve {p:Nat×Nat->Bool} {k:Nat} (hv:Vd l) (hb:Bd l k) (hk:k<=l.length) (h:Br p l=l.length):Br p (l.take k)=(l.take k).length/\Br p (l.drop k)=(l.drop k).length:=by
 have e:l.take k=tr l k []:=by unfold tr;rw [List.append_nil]
 rw [e]
 induction hb with
 |zero l=>exact ⟨by rw [N9,D7];rfl,h⟩
 |@step l k U hb ih=>
  have hd:=cQ (r:=[]) hv (by have:=DK l;omega) hk (.step U hb)
  have hl:=F5 U
  have hp:=DK l
  have hc:p (AK l)=true:=by
   cases hc:p (AK l) with
   |true=>rfl
   |false=>rw [Ev hc] at h;omega
  have hne':tr l ((AK l).2+k) []≠[]:=λe=>by simp_all
  rw [Cn U hc] at h
  have ih:=ih (hv.rune U).2 (by grind) (by grind) (by unfold tr;simp_all)
  rw [Cn hne' ke,hd.1,Is AC hk,show (AK l).2+k - (AK l).2=k by omega,ih.1]
  rw [List.drop_drop] at ih
  refine ⟨?_,ih.2⟩
  rw [Xp hk,Xp (by grind)]
  rfl
theorem Vd.take {l:List UInt8} {k:Nat} (U:Vd l) (hb:Bd l k) (hk:k<=l.length):Vd (l.take k):=(Ve (p:=C5) U hb hk U).1
theorem Cl.take {l:List UInt8} {k:Nat} (h:Cl l) (hv:Vd l) (hb:Bd l k) (U:k<=l.length):Cl (l.take k):=(Ve hv hb U h).1
theorem Cl.drop {l:List UInt8} {k:Nat} (h:Cl l) (hv:Vd l) (hb:Bd l k) (U:k<=l.length):Cl (l.drop k):=(Ve hv hb U h).2
theorem Cl.app (h:Cl l) (U:Vd l) (k:Cl t):Cl (l++t):=by
 unfold Cl at *
 rw [QT l t U,if_pos h,k,List.length_append]
theorem ix (l:List UInt8):mM (pZ l)=0:=by
 by_cases h:mM l<l.length
 .have:=PK (λc=>AJ c==1) l h
  exact PJ this
 .have:pZ l=[]:=List.drop_eq_nil_iff.2 AC
  rw [this];exact QU _
theorem Vd.sp:Vd [32]:=by unfold Vd;rw [Cn GT Do];rw [show (([32]:List UInt8).drop (AK [32]).2)=[] from by rfl,D7,EV Do];rfl
theorem Vd.nl:Vd [10]:=by unfold Vd;rw [Cn GT Do];rw [show (([10]:List UInt8).drop (AK [10]).2)=[] from by rfl,D7,EV Do];rfl
theorem Cl.sp:Cl [32]:=by unfold Cl;rw [Cn GT Do];rw [show (([32]:List UInt8).drop (AK [32]).2)=[] from by rfl,D7,EV Do];rfl
theorem Cl.nl:Cl [10]:=by unfold Cl;rw [Cn GT Do];rw [show (([10]:List UInt8).drop (AK [10]).2)=[] from by rfl,D7,EV Do];rfl
end Go.Aw
namespace Go.Proofs.Z
open Go Go.Aw
def qb (l:List Tk):List (Int×List UInt8):=l.map λt=>(t.kind,t.text)
def Qh (is:Option (List (Int×List UInt8))) (x:Lx) (r:Sum (Int×Int) Lx):Prop:=match is with
 |none=>∃e,r=.inl e
 |some is=>∃y,r=.inr y/\qb y.AD=qb x.AD++is.filter (λt=>t.1 !=0)/\y.notes.map (·.text)=x.notes.map (·.text)++(is.filter (λt=>t.1==0)).map (·.2)
theorem Qh.tok {o:Option (List (Int×List UInt8))} {q:Nat} {x:Lx} {r:Sum (Int×Int) Lx} (h:Qh o (Nz s p q k x) r) (hk:k≠0) (ht:t=AX s p q):Qh (o.map ((k,t)::·)) x r:=by
 subst ht
 cases o with
 |none=>exact h
 |some is=>
  obtain ⟨y,h1,h2,h3⟩:=h
  refine ⟨y,h1,?_,?_⟩
  .have U:(((k,AX s p q)::is).filter λt:Int×List UInt8=>t.1 !=0)=(k,AX s p q)::is.filter λt=>t.1 !=0:=List.filter_cons_of_pos ke
   rw [U,h2]
   simp [qb,Nz]
  .have U:(((k,AX s p q)::is).filter λt:Int×List UInt8=>t.1==0)=is.filter λt=>t.1==0:=List.filter_cons_of_neg ke
   rw [U,h3];rfl
theorem Qh.note {o:Option (List (Int×List UInt8))} {q:Nat} {x:Lx} {r:Sum (Int×Int) Lx} (h:Qh o (QM s p q x) r) (ht:t=AX s p q):Qh (o.map ((0,t)::·)) x r:=by
 subst ht
 cases o with
 |none=>exact h
 |some is=>
  obtain ⟨y,h1,h2,h3⟩:=h
  refine ⟨y,h1,?_,?_⟩
  .have U:(((0,AX s p q)::is).filter λt:Int×List UInt8=>t.1 !=0)=is.filter λt=>t.1 !=0:=List.filter_cons_of_neg GT
   rw [U,h2];rfl
  .have U:(((0,AX s p q)::is).filter λt:Int×List UInt8=>t.1==0)=(0,AX s p q)::is.filter λt=>t.1==0:=List.filter_cons_of_pos GT
   rw [U,h3]
   simp [QM]
theorem ef {x:Lx} (h:¬p<s.length):II s p x=.inr x:=by rw [II,dif_neg h]
theorem ee {x:Lx} (h:p<s.length) (U:(CC s p).2≠0):II s p x=.inl ((p:Nat),(CC s p).2):=by rw [II,dif_pos h,if_pos U]
theorem ZX {q:Nat} {x:Lx} (h:p<s.length) (U:(CC s p).2=0) (h2:(CC s p).1=(q:Nat)) (h3:p<q):II s p x=II s (Ds s q) (QM s p q x):=by
 rw [II,dif_pos h,if_neg (λe=>e U),if_pos AC,h2,Int.toNat_natCast,dif_pos h3]
theorem ei {x:Lx} (h:p<s.length) (U:(CC s p).2=0) (h2:¬0<(CC s p).1) (h3:(CV s p).2.2≠0):II s p x=.inl ((CV s p).2.1,(CV s p).2.2):=by
 rw [II,dif_pos h,if_neg (λe=>e U),if_neg h2,if_pos h3]
theorem ej {q:Nat} {x:Lx} (h:p<s.length) (U:(CC s p).2=0) (h2:¬0<(CC s p).1) (h3:(CV s p).2.2=0) (h4:(CV s p).2.1=(q:Nat)) (h5:p<q):II s p x=II s (Ds s q) (Nz s p q (CV s p).1 x):=by
 rw [II,dif_pos h,if_neg (λe=>e U),if_neg h2,if_neg (λe=>e h3),h4,Int.toNat_natCast,dif_pos h5]
structure LW where
 p:Nat
 sp:Nat
 x:Lx
 w1:AB
 w2:AB
 m:St
theorem bt (l:List Tk) (t:Tk):A5 (l++[t])=A5 l++[t.cells]:=by simp [A5]
theorem WR (l:List Nt) (t:Nt):J6 (l++[t])=J6 l++[t.cells]:=by simp [J6]
theorem Ie (l:List Nt):(J6 l).length=l.length:=by simp [J6]
theorem iA (s:List UInt8) (p:Nat):Ds s (Ds s p)=Ds s p:=by
 have h:=ix (s.drop p)
 have e:pZ (s.drop p)=s.drop (Ds s p):=by unfold pZ;rw [List.drop_drop];rfl
 rw [e] at h
 exact Nat.add_eq_left.2 h
section
variable {st:St} {R:Ay->St->Prop}
attribute [local irreducible] Go.Aw.Ag
theorem TK (c:Nat) (hc:c<=1114111):PC 57 [.int .i32 (c:Int)] nM λr _=>r=.ret (.bool (AJ (c:Int)==0)):=by
 refine pB Tryz.func57 ?_
 repeat' ((conv=>whnf);first|(refine Bg ?_;intros)|(refine Bh ?_ ?_<;>intro _)|refine Ju ?_)
 all_goals first|exact Ao rfl (by simp [*])|(conv=>whnf;simp [*])
theorem pf (h1:∀i e,Ia s=.inl (i,e)->R (.ret (.Bq [.slice 4 [] .full,.slice 5 [] .full,.int .i64 i,.int .i64 e])) st)
 (h1':∀i e st',st.le st'->Ia s=.inl (i,e)->R (.ret (.Bq [.slice 4 [] .full,.slice 5 [] .full,.int .i64 i,.int .i64 e])) st')
 (h2:∀x w1 w2 st',Ia s=.inr x->st.le st'->R (.ret (.Bq [.slice 4 (A5 x.AD) w1,.slice 5 (J6 x.notes) w2,.int .i64 0,.int .i64 0])) st'):PC 22 [.str s] st R:=by
 refine AV Ad [30] Tryz.func22 rfl Do rfl ?_
 by_cases hl:16777216<s.length
 .have e:Ia s=.inl (0,3):=by unfold Ia;rw [if_pos hl]
  refine Ai Ad ?_
  repeat' ((conv=>whnf);first|exact Cr|(refine Bg ?_;intros)|(refine Cs ?_ ?_ ?_;rotate_left)|(refine Bh ?_ ?_<;>intro _)|refine GM (λ_=>?_) ?_|refine WJ (λ_=>?_)|with_reducible refine WF ?_)
  exact fin (h1 _ _ e) rfl
 .by_cases hk:(L9 s).2=0
  .by_cases hx:0<=ZS (λc=>AJ (c:Nat)==0) s
   .have e:Ia s=.inl (ZS (λc=>AJ (c:Nat)==0) s,70):=by unfold Ia;rw [if_neg hl,if_neg (λx=>x hk),if_pos hx]
    refine Ai Ad ?_
    repeat' ((conv=>whnf);first|exact Cr|(refine Bg ?_;intros)|(refine Cs ?_ ?_ ?_;rotate_left)|(refine Bh ?_ ?_<;>intro _)|refine GM (λ_=>?_) ?_|refine WJ (λ_=>?_)|refine Rk ?_|refine Yb (p:=λc=>AJ (c:Nat)==0) TK ?_|with_reducible refine WF ?_)
    exact fin (h1 _ _ e) rfl
   .have e:Ia s=II s (Ds s 0) pj:=by unfold Ia;rw [if_neg hl,if_neg (λx=>x hk),if_neg hx]
    have hv:=mP hk
    refine Aj (Ai Ad ?_)
    repeat' ((conv=>whnf);first|exact Cr|(refine Bg ?_;intros)|(refine Cs ?_ ?_ ?_;rotate_left)|(refine Bh ?_ ?_<;>intro _)|refine GM (λ_=>?_) ?_|with_reducible refine WF ?_)
    refine Aj (Ai Ad ?_)
    repeat' ((conv=>whnf);first|exact Cr|(refine Bg ?_;intros)|(refine Cs ?_ ?_ ?_;rotate_left)|(refine Bh ?_ ?_<;>intro _)|refine GM (λ_=>?_) ?_|refine WJ (λ_=>?_)|with_reducible refine WF ?_)
    refine Aj (Ai Ad ?_)
    repeat' ((conv=>whnf);first|exact Cr|(refine Bg ?_;intros)|(refine Cs ?_ ?_ ?_;rotate_left)|(refine Bh ?_ ?_<;>intro _)|refine GM (λ_=>?_) ?_|refine Rk ?_|with_reducible refine WF ?_)
    refine Aj (Ai Ad ?_)
    repeat' ((conv=>whnf);first|exact Cr|(refine Bg ?_;intros)|(refine Cs ?_ ?_ ?_;rotate_left)|(refine Bh ?_ ?_<;>intro _)|refine GM (λ_=>?_) ?_|refine Yb (p:=λc=>AJ (c:Nat)==0) TK ?_|with_reducible refine WF ?_)
    refine Aj (Ai Ad ?_)
    repeat' ((conv=>whnf);first|exact Cr|(refine Bg ?_;intros)|(refine Cs ?_ ?_ ?_;rotate_left)|(refine Bh ?_ ?_<;>intro _)|refine GM (λ_=>?_) ?_|refine Rh (λb fb=>?_)|with_reducible refine WF ?_)
    have hb0:=fb.1
    have hq0:=KU (s:=s) (p:=0) AC
    refine Ai Ad ?_
    repeat' ((conv=>whnf);first|exact Cr|(refine Bg ?_;intros)|(refine Cs ?_ ?_ ?_;rotate_left)|(refine Bh ?_ ?_<;>intro _)|refine GM (λ_=>?_) ?_|refine KT (p:=0) AC AC (St.AL _ _ _) ?_|with_reducible refine WF ?_)
    refine R2 (α:=LW) (λ_=>[]) [0,6] [] (λy=>y.m) (λy=>y.m.box b=some (NS s y.p y.sp (CQ s y.sp).1 (CQ s y.sp).2 (A5 y.x.AD) (J6 y.x.notes) y.w1 y.w2 y.x.Di y.x.ends y.x.j)/\BW st y.m y.w1 (y.x.AD.length*4) y.w2 (y.x.notes.length*5)/\
     BC s y.sp/\BC s y.p/\y.sp<=y.p/\0<=y.x.Di/\y.x.Di<=y.p/\y.x.AD.length<=y.p/\y.x.notes.length<=y.p/\II s (Ds s 0) pj=II s y.p y.x)
     (λy=>s.length - y.p) ⟨Ds s 0,0,pj,.full,.full,_⟩ ⟨?_,⟨trivial,trivial,trivial,trivial,trivial,St.Aq (St.Aq (St.le_refl _) hb0 _) hb0 _⟩,.zero s,BC.oF hv (.zero s),by simp only [];omega,Int.le_refl _,by simp only [pj];omega,Nat.zero_le _,Nat.zero_le _,rfl⟩ Yl (St.le_refl _) ?_
    .have e0:CQ s 0=(1,1):=EI
     dsimp only
     rw [e0]
     exact St.AL _ _ _
    rintro ⟨p,sp,x,w1,w2,m⟩ ⟨j1,j2,j3,j4,j5,j6,j7,j8,j9,U⟩
    dsimp only at j1 j2 j3 j4 j5 j6 j7 j8 j9 U |-
    have hp:=j4.le
    by_cases hpl:p<s.length
    .have hns:=λ{R:Ay->St->Prop}=>ko (st:=m) (R:=R) (s:=s) (pos:=p) AC hpl
     by_cases n2:(CC s p).2=0
     .rw [n2] at hns
      by_cases n1:0<(CC s p).1
      .obtain ⟨q,e1,e2,e3,e4⟩:=eO hv j4 n2 n1
       rw [e1] at hns
       rw [ZX hpl n2 e1 e2] at U
       have hq:=KU e3
       have hnt:=λ{R:Ay->St->Prop}=>nN (st:=m) (R:=R) (st0:=st) AC hv j3 j4 e4 j5 AC ⟨j6,AC⟩ (by rw [Ie];omega) hb0 (by rw [Ie];exact j2) j1
       repeat' ((conv=>whnf);first|exact Cr|(refine Bg ?_;intros)|(refine Cs ?_ ?_ ?_;rotate_left)|(refine Bh ?_ ?_<;>intro _)|refine GM (λ_=>?_) ?_|refine hns ?_|refine Am j1 ?_|refine WJ (λ_=>?_)|refine hnt (λv2 st' sp' c' hs' hR hB=>?_)|refine KT (p:=Ds s q) AC AC hB ?_|with_reducible refine WF ?_)
       all_goals conv=>whnf
       have eb:=iA s q
       refine ⟨⟨Ds s q,sp',QM s p q x,w1,v2,_⟩,⟨?_,?_,c',e4.oF hv,hs',j6,by show x.Di<=_;simp only [];omega,by show x.AD.length<=_;simp only [];omega,by show (x.notes++[_]).length<=_;rw [List.length_append,List.length_singleton];simp only [];omega,U⟩,by simp only [];omega,Yl,St.le_refl _⟩
       .refine (St.AL _ _ _).trans ?_
        show _=some (NS s (Ds s q) sp' _ _ (A5 x.AD) (J6 (x.notes++[_])) w1 v2 x.Di (CQ s q).1 _)
        rw [WR]
        exact congrArg (λz=>some (NS s z sp' _ _ _ _ _ _ _ _ _)) eb
       .show BW st _ w1 (x.AD.length*4) v2 ((x.notes++[_]).length*5)
        rw [List.length_append,List.length_singleton]
        rw [Ie] at hR
        exact hR.set hb0 _
      .have hlx:=λ{R:Ay->St->Prop}=>ek (st:=m) (R:=R) AC hpl j1
       by_cases k2:(CV s p).2.2=0
       .obtain ⟨k1,q,e1,e2,e3,e4⟩:=eo hv j4 k2
        rw [k2,e1] at hlx
        rw [ej hpl n2 n1 k2 e1 e2] at U
        have hq:=KU e3
        have htk:=λ{R:Ay->St->Prop}=>gE (st:=m) (R:=R) (st0:=st) (k:=(CV s p).1) (e0:=0) AC hv j3 j4 e4 j5 AC ⟨j6,AC⟩ (by rw [G8];omega) hb0 (by rw [G8];exact j2) j1
        repeat' ((conv=>whnf);first|exact Cr|(refine Bg ?_;intros)|(refine Cs ?_ ?_ ?_;rotate_left)|(refine Bh ?_ ?_<;>intro _)|refine GM (λ_=>?_) ?_|refine hns ?_|refine Am j1 ?_|refine WJ (λ_=>?_)|refine hlx ?_|refine htk (λv1 st' hR hB=>?_)|refine KT (p:=q) AC e3 hB ?_|with_reducible refine WF ?_)
        all_goals conv=>whnf
        have hgap:(Nz s p q (CV s p).1 x).Di=x.Di\/(Nz s p q (CV s p).1 x).Di=x.Di+1:=by
         show (if cntF (CV s p).1 (AX s p q) then x.Di+1 else x.Di)=_\/(if cntF (CV s p).1 (AX s p q) then x.Di+1 else x.Di)=_
         split
         .exact .inr rfl
         .exact .inl rfl
        refine ⟨⟨Ds s q,q,Nz s p q (CV s p).1 x,v1,w2,_⟩,⟨?_,?_,e4,e4.oF hv,hq.1,by simp only [];omega,by simp only [];omega,by show (x.AD++[_]).length<=_;rw [List.length_append,List.length_singleton];simp only [];omega,by show x.notes.length<=_;simp only [];omega,U⟩,by simp only [];omega,Yl,St.le_refl _⟩
        .refine (St.AL _ _ _).trans ?_
         show _=some (NS s (Ds s q) q _ _ (A5 (x.AD++[_])) (J6 x.notes) v1 w2 _ (CQ s q).1 true)
         rw [bt]
         rfl
        .show BW st _ v1 ((x.AD++[_]).length*4) w2 (x.notes.length*5)
         rw [List.length_append,List.length_singleton]
         rw [G8] at hR
         exact hR.set hb0 _
       .rw [ei hpl n2 n1 k2] at U
        repeat' ((conv=>whnf);first|exact Cr|(refine Bg ?_;intros)|(refine Cs ?_ ?_ ?_;rotate_left)|(refine Bh ?_ ?_<;>intro _)|refine GM (λ_=>?_) ?_|refine hns ?_|refine Am j1 ?_|refine WJ (λ_=>?_)|refine hlx ?_|with_reducible refine WF ?_)
        exact fin (h1' _ _ _ j2.le (e.trans U)) rfl
     .rw [ee hpl n2] at U
      repeat' ((conv=>whnf);first|exact Cr|(refine Bg ?_;intros)|(refine Cs ?_ ?_ ?_;rotate_left)|(refine Bh ?_ ?_<;>intro _)|refine GM (λ_=>?_) ?_|refine hns ?_|refine Am j1 ?_|refine WJ (λ_=>?_)|with_reducible refine WF ?_)
      exact fin (h1' _ _ _ j2.le (e.trans U)) rfl
    .rw [ef hpl] at U
     repeat' ((conv=>whnf);first|exact Cr|(refine Bg ?_;intros)|(refine Cs ?_ ?_ ?_;rotate_left)|(refine Bh ?_ ?_<;>intro _)|refine GM (λ_=>?_) ?_|refine Am j1 ?_|refine WJ (λ_=>?_)|with_reducible refine WF ?_)
     exact fin (h2 x w1 w2 m (e.trans U) j2.le) rfl
  .have e:Ia s=.inl ((L9 s).1,(L9 s).2):=by unfold Ia;rw [if_neg hl,if_pos hk]
   refine Ai Ad ?_
   repeat' ((conv=>whnf);first|exact Cr|(refine Bg ?_;intros)|(refine Cs ?_ ?_ ?_;rotate_left)|(refine Bh ?_ ?_<;>intro _)|refine GM (λ_=>?_) ?_|refine WJ (λ_=>?_)|refine Rk ?_|with_reducible refine WF ?_)
   exact fin (h1 _ _ e) rfl
end
section
variable {st:St} {R:Ay->St->Prop}
def l8 (k:Int) (t:List UInt8):Bool:=decide (¬k=15)||(!(t==[123])&& !(t==[125])&& !(t==[59]))
end
def gQ (t:Tk):Bool:= !(t.kind==16)&&(!(t.kind==17)&&l8 t.kind t.text)
def Dd (l:List Tk):List Tk:=l.filter gQ
def Rp (l:List Tk) (a b:Int):List Tk:=(l.take b.toNat).drop a.toNat
theorem KY {l:List Tk} {a:Int}:Rp l a a=[]:=by
 unfold Rp
 exact List.drop_eq_nil_iff.2 NE
theorem iK {l:List Tk} {a:Int} {t:Tk} (U:0<=a) (h:l[a.toNat]? =some t):Rp l a (a+1)=[t]:=by
 unfold Rp
 rw [show (a+1).toNat=a.toNat+1 by omega,List.take_add_one,h]
 have hl:=(List.getElem?_eq_some_iff.1 h).1
 rw [List.drop_append,List.drop_eq_nil_iff.2 NE,List.length_take,Nat.min_eq_left AC,Nat.sub_self]
 rfl
theorem iJ {l:List Tk} {a b:Int} (h0:0<=a) (h1:a<=b) (h2:b<=c):Rp l a b++Rp l b c=Rp l a c:=by
 unfold Rp
 obtain ⟨x,rfl⟩:∃x:Nat,a=x:=⟨a.toNat,AC⟩
 obtain ⟨y,rfl⟩:∃y:Nat,b=y:=⟨b.toNat,AC⟩
 obtain ⟨z,rfl⟩:∃z:Nat,c=z:=⟨c.toNat,AC⟩
 simp only [Int.toNat_natCast]
 have e:l.take y=(l.take z).take y:=by rw [List.take_take,Nat.min_eq_left AC]
 rw [e]
 generalize l.take z=m
 have hx:m.drop x=(m.take y).drop x++m.drop y:=by
  have U:m=m.take y++m.drop y:=(List.take_append_drop y m).symm
  by_cases hy:y<=m.length
  .conv=>lhs;rw [U]
   rw [List.drop_append,List.length_take,Nat.min_eq_left hy,show x - y=0 by omega,List.drop_zero]
  .rw [List.drop_eq_nil_iff.2 (show m.length<=y by omega),List.append_nil,List.take_of_length_le AC]
 exact hx.symm
structure Ps (s s':Af) (m:List Tk):Prop where
 tk:s'.AD=s.AD
 le:s.pos<=s'.pos
 ok:s'=s\/(0<=s.pos/\s'.pos<=s.AD.length)
 eq:Dd m=Dd (Rp s.AD s.pos s'.pos)
theorem Ps.nil (s:Af):Ps s s []:=⟨rfl,Int.le_refl _,.inl rfl,by rw [KY]⟩
theorem Ps.trans {s s1 s2:Af} {m n:List Tk} (h:Ps s s1 m) (k:Ps s1 s2 n):Ps s s2 (m++n):=by
 have ht:=k.tk.trans h.tk
 have hw:Dd (m++n)=Dd m++Dd n:=by unfold Dd;rw [List.filter_append]
 rcases h.ok with rfl|⟨U,a2⟩
 .refine ⟨ht,k.le,k.ok,?_⟩
  rw [hw,h.eq,KY,k.eq];rfl
 .have hle:=h.le
  rcases k.ok with rfl|⟨b1,b2⟩
  .refine ⟨ht,hle,.inr ⟨U,a2⟩,?_⟩
   rw [hw,h.eq,k.eq,KY];exact List.append_nil _
  .have kle:=k.le
   refine ⟨ht,AC,.inr ⟨U,by rw [<-h.tk];exact b2⟩,?_⟩
   rw [hw,h.eq,k.eq,h.tk,<-iJ U hle kle]
   unfold Dd;rw [List.filter_append]
theorem Ps.still {s:Af} {m:List Tk} (U:0<=s.pos) (h1:s.pos<=s.AD.length) (ht:s'.AD=s.AD) (hp:s'.pos=s.pos) (hm:Dd m=[]):Ps s s' m:=⟨ht,AC,.inr ⟨U,AC⟩,by rw [hm,hp,KY];rfl⟩
theorem Ps.step {s s':Af} {m:List Tk} {t:Tk} (U:0<=s.pos) (h:s.AD[s.pos.toNat]? =some t) (ht:s'.AD=s.AD) (hp:s'.pos=s.pos+1) (hm:Dd m=Dd [t]):Ps s s' m:=by
 have hl:=(List.getElem?_eq_some_iff.1 h).1
 exact ⟨ht,AC,.inr ⟨U,AC⟩,by rw [hm,hp,iK U h]⟩
theorem MJ {t:Tk} (h:t.kind=16\/t.kind=17):Dd [t]=[]:=by
 unfold Dd gQ
 rcases h with h|h<;>simp [h]
def lI (t:Tk):List Tk:=if t.kind<18 then [t] else []
theorem TY:∀(n:Nat) (s:Af),(∀t ∈ s.AD,t.kind<18)->0<=s.pos->s.pos<=s.AD.length->(Ec n s).2.2=0->Ps s (Ec n s).2.1 (lI (Ec n s).1)
 |n,s,hN,U,h1,h=>by
  have hend:∀{x:Tk×Af×Int},x=EW s->x.2.2=0->Ps s x.2.1 (lI x.1):=λ{x} e hx=>by
   subst e
   unfold EW at hx |-
   split
   .exact .still U h1 rfl rfl rfl
   .rename_i e1
    rw [if_neg e1] at hx
    split
    .exact .still U h1 rfl rfl rfl
    .rename_i e2;rw [if_neg e2] at hx;cases hx
  cases n with
  |zero=>exact hend rfl h
  |succ n=>
   cases ht:s.AD[s.pos.toNat]? with
   |none=>exact hend (by rw [Ec,ht]) h
   |some t=>
    have e:Ec (n+1) s=if t.kind=16/\s.wait<2 then ((Fj t s).1,(Fj t s).2,0)
     else if t.kind=16\/t.kind=17 then if (CO t s).1.kind=0 then Ec n (CO t s).2 else ((CO t s).1,(CO t s).2,0) else ET t s:=by rw [Ec,ht]
    have hl:=(List.getElem?_eq_some_iff.1 ht).1
    rw [e] at h |-
    clear e
    split
    .rename_i hk
     unfold Fj
     split
     .exact .still U h1 rfl rfl rfl
     .split
      .exact .step U ht rfl rfl (by rw [MJ (.inl hk.1)];rfl)
      .exact .still U h1 rfl rfl rfl
    .rename_i hk
     rw [if_neg hk] at h
     split
     .rename_i hk2
      rw [if_pos hk2] at h
      split
      .rename_i hz
       rw [if_pos hz] at h
       rw [EG hz] at h |-
       have h3:Ps s {s with pos:=s.pos+1,wait:=0} []:=.step U ht rfl rfl (by rw [MJ hk2];rfl)
       exact h3.trans (TY n {s with pos:=s.pos+1,wait:=0} hN (by show 0<=s.pos+1;omega) (by show s.pos+1<=(s.AD.length:Int);omega) h)
      .rename_i hz
       unfold CO at hz |-
       split
       .exact .still U h1 rfl rfl rfl
       .rename_i e1
        rw [if_neg e1] at hz
        split
        .exact .step U ht rfl rfl (by rw [MJ hk2];rfl)
        .rename_i e2;rw [if_neg e2] at hz;exact absurd rfl hz
     .rename_i hk2
      rw [if_neg hk2] at h
      have ha:Dd (lI t)=Dd [t]:=by unfold lI;rw [if_pos (hN t (List.mem_of_getElem? ht))]
      unfold ET at h |-
      split
      .exact .step U ht rfl rfl ha
      .rename_i e1
       rw [if_neg e1] at h
       split
       .rename_i e2
        rw [if_pos e2] at h
        split
        .rename_i e3;rw [if_pos e3] at h;cases h
        .exact .step U ht rfl rfl ha
       .exact .step U ht rfl rfl ha
theorem Ym {s:Af} (h:IJ s=true):0<=s.pos/\s.pos<=s.AD.length:=by
 unfold IJ at h
 simp only [Bool.and_eq_true,decide_eq_true_eq] at h
 omega
theorem Sa {s:Af} (hN:∀t ∈ s.AD,t.kind<18) (h:(Ab s).2.2=0):Ps s (Ab s).2.1 (lI (Ab s).1):=by
 unfold Ab at h |-
 cases U:IJ s with
 |false=>rw [U] at h;cases h
 |true=>
  rw [U,if_pos rfl] at h
  rw [if_pos rfl]
  obtain ⟨h0,h1⟩:=Ym U
  exact TY _ s hN h0 h1 h
theorem QC {t:Tk} (h:F1 t=true):Dd (lI t)=[]:=by
 unfold lI
 split
 .rename_i hk
  unfold F1 at h
  have h:t.kind=15/\(t.text=[123]\/t.text=[125]\/t.text=[59]):=by
   simp only [Bool.or_eq_true,Bool.and_eq_true,beq_iff_eq] at h
   rcases h with h|h
   .omega
   .exact ⟨h.1,by rcases h.2 with (h|h)|h<;>simp [h]⟩
  unfold Dd gQ l8
  rcases h with ⟨h1,U|U|U⟩<;>simp [h1,U]
 .rfl
theorem Hl {f:Bool} {l:List Nd}:F9 (Eg f l)=B3 l:=by unfold Eg;rw [F9,if_neg Do]
theorem Ps.words {s:Af} {m n:List Tk} (h:Ps s s' m) (e:Dd n=Dd m):Ps s s' n:=⟨h.tk,h.le,h.ok,e.trans h.eq⟩
theorem A4.ps {l:List Nd} {s:Af} (h:A4 l s s'):(∀t ∈ s.AD,t.kind<18)->Ps s s' (B3 l):=by
 induction h with
 |nil s=>intro _;exact Ps.nil s
 |app _ _ U h2=>
   intro hN
   have k1:=U hN
   rw [EA]
   exact k1.trans (h2 (by rw [k1.tk];exact hN))
 |tok U h2 h3=>
   intro hN
   rw [CU,Lj]
   exact (Sa hN U).words (by unfold lI;rw [if_pos h2])
 |skip U h2=>intro hN;exact (Sa hN U).words (by rw [QC h2];rfl)
 |close U=>
   intro hN
   rename_i s
   unfold ED at U |-
   split
   .rename_i hc
    obtain ⟨h0,U⟩:=Ym hc.1
    exact .still h0 U rfl rfl rfl
   .rename_i hc;rw [if_neg hc] at U;cases U
 |node U h2 h3 ih=>
   intro hN
   rw [CU,H9 h2]
   exact ih hN
 |block U h2 h3 ih=>
   intro hN
   rename_i f l s s'
   have k1:=Sa hN U
   rw [CU,Hl]
   have:=k1.trans (ih (by rw [k1.tk];exact hN))
   refine this.words ?_
   unfold Dd
   rw [List.filter_append]
   have e:=QC h2
   unfold Dd at e
   rw [e];rfl
mutual
theorem R0:∀n:Nd,(F9 n).length<=n.size
 | .mk k f t l c ks=>by
   have:=Hm ks
   rw [F9,Nd.size]
   split
   .rw [List.length_singleton];omega
   .omega
theorem Hm:∀l:List Nd,(B3 l).length<=C6 l
 |[]=>Nat.le_refl _
 |n::r=>by
  have:=R0 n
  have:=Hm r
  rw [B3,C6,List.length_append];omega
end
theorem gZ {a:Int} (k:Int) (h:a=k) (U:k≠16/\k≠17):a≠16/\a≠17:=h ▸ U
theorem ki (s:Af):(Ab s).1.kind≠16/\(Ab s).1.kind≠17:=by
 have U:∀s:Af,(EW s).1.kind≠16/\(EW s).1.kind≠17:=λs=>by unfold EW;split;exact gZ 21 rfl Do;split;exact gZ 20 rfl Do;exact gZ 0 rfl Do
 have hg:∀n (s:Af),(Ec n s).1.kind≠16/\(Ec n s).1.kind≠17:=by
  intro n
  induction n with
  |zero=>exact U
  |succ n ih=>
   intro s
   rw [Ec]
   split
   .exact U s
   .split
    .unfold Fj LZ;split;exact gZ 20 rfl Do;split<;>exact gZ 18 rfl Do
    .split
     .split
      .exact ih _
      .unfold CO LZ;split;exact gZ 20 rfl Do;split;exact gZ 19 rfl Do;exact gZ 0 rfl Do
     .rename_i h;unfold ET;split;exact not_or.1 h;split;split;exact gZ 0 rfl Do;exact not_or.1 h;exact not_or.1 h
 unfold Ab
 split
 .exact hg _ s
 .exact gZ 0 rfl Do
theorem A4.nk {l:List Nd} {s:Af} (h:A4 l s s'):∀t ∈ B3 l,t.kind≠16/\t.kind≠17:=by
 induction h with
 |nil s=>intro t h;cases h
 |app _ _ U h2=>rw [EA];intro t ht;exact (List.mem_append.1 ht).elim (U t) (h2 t)
 |tok U h2 h3=>rw [CU,Lj];intro t ht;rw [List.mem_singleton.1 ht];exact ki _
 |skip U h2=>intro t h;cases h
 |close U=>intro t h;cases h
 |node U h2 h3 ih=>rw [CU,H9 h2];exact ih
 |block U h2 h3 ih=>rw [CU,Hl];exact ih
def Lf (l:List Nd) (s s':Af):Prop:=(B3 l).length+4*mu s'<=4*mu s/\((∀t ∈ s.AD,t.kind<18)->Ps s s' (B3 l))/\∀t ∈ B3 l,t.kind≠16/\t.kind≠17
def qn (A:Rd Nd):Prop:=∀s,Rd.wp A s (λn s'=>Lf [n] s s') EO
section
variable {A B C D E F:Rd Nd} {s s0 s1 s2 s':Af} {Q:Nd->Af->Prop} {l m:List Nd}
theorem Lf.nil (s:Af):Lf [] s s:=⟨i7,λ_=>Ps.nil s,λt h=>by cases h⟩
theorem Lf.app (h:Lf l s s1) (k:Lf m s1 s2):Lf (l++m) s s2:=by
 unfold Lf
 rw [EA]
 refine ⟨by have:=h.1;have:=k.1;rw [List.length_append];omega,λhN=>?_,λt ht=>(List.mem_append.1 ht).elim (h.2.2 t) (k.2.2 t)⟩
 have U:=h.2.1 hN
 exact U.trans (k.2.1 (by rw [U.tk];exact hN))
theorem Lf.GU {n m:Nd} {l:List Nd} (h:Lf [n] s s1) (k:Lf (m::l) s1 s2):Lf (n::m::l) s s2:=.app h k
theorem Lf.node (U:k≠1) (h:Lf l s s'):Lf [Ar k l] s s':=by
 unfold Lf
 rw [CU,H9 U];exact h
theorem Lf.of (h:A4 l s s'):Lf l s s':=⟨by have:=h.size;have:=Hm l;omega,h.ps,h.nk⟩
theorem Lf.block {f:Bool} (U:Lf [] s s1) (h:Lf l s1 s'):Lf [Eg f l] s s':=by
 unfold Lf
 rw [CU,Hl];exact Lf.app U h
theorem qn.of (h:Dv A):qn A:=λs=>Rd.wp_mono (h s) (λn s' _ h=>.of h) (λ_ _ _ _=>trivial)
end
section
variable {st0 st:St} {b d:Nat} {s:Af} {rows:List (AB×List Nd)} {K:Ay->St->Prop} {L:EP}
attribute [local irreducible] Go.Aw.Ag
theorem mF (U:Ki d L) {ops exp stmt:Rd Nd} (ho:AO enc 212 (λb=>[pv b d]) ops) (he:AO enc 292 (λb=>[pv b d]) exp) (hs:AO enc 360 (λb=>[pv b d]) stmt):
 AO enc 415 (λb=>[pv b d]) (bV L ops exp stmt):=by
 refine ⟨λ{st0 b s st rows K} hc h=>?_⟩
 simp only [bV,Rd.Ax,Rd.wp_seq,Rd.wp_ret,Rd.DG] at h
 refine pB Tryz.func415 ?_
 repeat' ((conv=>whnf);(first|exact CK|refine AZ ?_|(refine CL ?_ ?_ ?_;rotate_left)|refine A0 ?_ ?_|refine A1 ?_ ?_|exact ER|refine IP ?_|refine Ae ?_|refine Fe.go (by first|exact AO.q|exact (fy U he hs).a) ?_ ?_|refine RW ?_|refine R7 ?_|refine R6 ?_|refine Ac [(0,true),(1,true),(2,false),(3,false)] [] GE ?_|refine Ac [(0,true),(1,true),(2,false),(3,true),(4,false),(5,false)] [1] GE ?_|with_reducible refine WF ?_)<;>intros)
end
theorem Rd.ez {σ β:Type} {body:σ->Rd (Sum σ β)} {P:β->Prop} (h1:∀x s y s',(body x).run s=.inr (.inr y,s')->P y) (x:σ) (s:Af):∀y s',(Rd.loop body x).run s=.inr (y,s')->P y:=by
 show ∀y s',Rd.iter body x s=.inr (y,s')->_
 fun_induction Rd.iter body x s with
 |case1 x s e h=>intro y s' U;cases U
 |case2 x s y s1 h=>intro y s' U;cases U;exact h1 _ _ _ _ h
 |case3 x s x' s1 h hlt ih=>exact ih
 |case4 x s x' s1 h hlt=>intro y s' U;cases U
theorem fJ {U:Rd Nd} {br:Bool} {s:Af} {p:List Nd×Bool} (h:(Qx U br).run s=.inr (p,s')):∃x,p.1[((p.1.length:Nat) - 1:Int).toNat]? =some x/\p.1.getLastD FN=x/\1<=p.1.length:=by
 have:∃l x,p.1=l++[x]:=by
  refine Rd.ez (body:=fD U br) (P:=λp=>∃l x,p.1=l++[x]) (λx s y s' h=>?_) _ _ _ _ h
  unfold fD at h
  obtain ⟨l,s1,_,h⟩:=Bl h
  obtain ⟨n,s2,_,h⟩:=Bl h
  replace h:(if O4 (Ab s2).1=true then .seq HJ λo=>
   if br=true then .look λs=>if Ba s 15 [41]=true then .ret (.inr (l++[n]++[o],true)) else .ret (.inl (l++[n]++[o]))
   else .ret (.inl (l++[n]++[o]))
   else .ret (.inr (l++[n],false)):Rd (Sum (List Nd) (List Nd×Bool))).run s2=.inr (.inr y,s'):=h
  split at h
  .obtain ⟨o,s3,_,h⟩:=Bl h
   split at h
   .replace h:(if Ba s3 15 [41]=true then .ret (.inr (l++[n]++[o],true)) else .ret (.inl (l++[n]++[o])):Rd (Sum (List Nd) (List Nd×Bool))).run s3=.inr (.inr y,s'):=h
    split at h
    .cases h;exact ⟨_,_,rfl⟩
    .cases h
   .cases h
  .cases h;exact ⟨_,_,rfl⟩
 obtain ⟨l,x,e⟩:=this
 refine ⟨x,?_,?_,?_⟩
 .rw [e];simp only [List.length_append,List.length_cons,List.length_nil]
  rw [show (((l.length+(0+1):Nat):Int) - 1).toNat=l.length by omega]
  simp
 .rw [e];simp
 .rw [e];simp
theorem Xd {l:List Nd} {K:List (List V)->Prop} (hn:1<=l.length) (k:K ((l.take (l.length - 1)).map Az)):
 ((0:Int)<=0/\(0:Int)<=(l.length:Int) - 1/\(l.length:Int) - 1=(l.length:Int) - 1/\(l.length:Int) - 1<=((l.map Az).length:Int))/\∀U,U=List.drop (Int.toNat 0) (List.take ((l.length:Int) - 1).toNat (l.map Az))->K U:=by
 refine ⟨⟨AC,AC,rfl,by rw [List.length_map];omega⟩,λU e=>?_⟩
 rw [e,show ((l.length:Int) - 1).toNat=l.length - 1 by omega,<-List.map_take]
 exact k
section
variable {st0 st:St} {b d:Nat} {s:Af} {rows:List (AB×List Nd)} {K:Ay->St->Prop} {L:EP}
attribute [local irreducible] Go.Aw.Ag
theorem Ri {opd full exp:Rd Nd} {o:Nd} (ho:AO enc 342 (λb=>[pv b d]) opd) (hf:AO enc 289 (λb=>[pv b d]) full) (he:AO enc 292 (λb=>[pv b d]) exp):
 AO enc 419 (λb=>[pv b d,enc o]) (Fk opd full exp o):=by
 refine ⟨λ{st0 b s st rows K} hc h=>?_⟩
 simp only [Fk,Rd.Ax,Rd.wp_seq,Rd.wp_ret,Rd.DG] at h
 have hmu:=hc.mu
 refine AV Ad [] Tryz.func419 rfl Do rfl ?_
 refine Aj (Ai Ad ?_)
 repeat' ((conv=>whnf);first|exact CK|(refine AZ ?_;intros)|(refine CL ?_ ?_ ?_;rotate_left)|(refine A0 ?_ ?_<;>intro e h)|(refine A1 ?_ ?_<;>intro _)|with_reducible refine WF ?_)
 refine Aj (Ai Ad ?_)
 repeat' ((conv=>whnf);first|exact CK|(refine AZ ?_;intros)|(refine CL ?_ ?_ ?_;rotate_left)|(refine A0 ?_ ?_<;>intro e h)|(refine A1 ?_ ?_<;>intro _)|refine lF.go (fK ho) hc h (λp own1 s1 U hr hm hc h=>?_) (λe s1 U hc h=>?_)|exact BE hc h|with_reducible refine WF ?_)
 all_goals obtain ⟨x,hx,hd,hn⟩:=fJ hr
 all_goals try rw [hd] at h
 all_goals refine Ai Ad ?_
 all_goals (repeat' ((conv=>whnf);first|exact CK|(refine AZ ?_;intros)|(refine CL ?_ ?_ ?_;rotate_left)|(refine A0 ?_ ?_<;>intro e h)|(refine A1 ?_ ?_<;>intro _)|(refine Hb ?_;intro U hc)|(refine Kk ?_ ?_<;>intro U hc e h)|(refine Js ?_;intro s1 U hz hm hc h)|(refine HU ?_ ?_<;>(first|intro n s1 U hr hm hc h|intro e s1 U hc h))|exact ER|refine IP ?_|(refine J3 ?_;intro own1 U hc)|refine BP (λ_=>?_)|refine Ae (λe1=>?_)|refine Xd hn ?_|refine Ok hx AC ?_|refine AO.go (UR hf) hc h (λn s1 U hr hm hc h=>?_) (λe s1 U hc h=>?_)|refine Ac [(0,true),(1,true),(2,true),(3,true),(4,true),(6,true),(7,true),(8,true),(9,true),(10,true),(11,true),(5,false),(12,false),(13,true),(14,false),(15,false)] [2] GE ?_|refine Ac [(0,true),(1,true),(2,true),(3,false),(4,false),(5,true),(6,true)] [] GE ?_|with_reducible refine WF ?_))
 all_goals refine Cd (λ(q:Int×List Nd) own=>[(9,.int .i64 q.1),(8,.slice 6 (q.2.map Az) own)]) (λ_ _=>[]) [2,4] [0,2] (λq own=>(own,q.2)::rows) (λq=>q.2.length) .full (hc.drop.push _) h (by show 2+_<=_;omega) Yl ?_
 all_goals intro q s1 U own1 hc h hl hm1
 all_goals simp only [Xq,Rd.Ah,Rd.Ax,Rd.wp_seq,Rd.wp_ret,Rd.Bk] at h
 all_goals obtain ⟨k,l⟩:=q
 all_goals dsimp only at hc h hl
 all_goals (repeat' ((conv=>whnf);first|exact CK|(refine AZ ?_;intros)|(refine CL ?_ ?_ ?_;rotate_left)|(refine A0 ?_ ?_<;>intro e h)|(refine A1 ?_ ?_<;>intro _)|exact ⟨⟨(5,_),_,_,_⟩,⟨hc,Rd.Dq h cb,f8,cb⟩,cb,Yl,St.le_refl _⟩|(refine Hb ?_;intro U hc)|(refine Kk ?_ ?_<;>intro U hc e h)|(refine Js ?_;intro s1 U hz hm hc h)|(refine HU ?_ ?_<;>(first|intro n s1 U hr hm hc h|intro e s1 U hc h))|exact ER|refine IP ?_|(refine J3 ?_;intro own1 U hc)|refine BP (λ_=>?_)|refine Ae (λe1=>?_)|refine AO.go he hc h (λn s1 U hr hm hc h=>?_) (λe s1 U hc h=>?_)|refine Ac [(0,true),(1,true),(2,true),(3,true),(4,true),(6,true),(7,true),(8,true),(9,true),(10,true),(11,true),(5,false),(12,false),(13,true),(14,false),(15,false)] [2] GE ?_|refine Ac [(0,true),(1,true),(2,true),(3,false),(4,false),(5,true),(6,true)] [] GE ?_|with_reducible refine WF ?_))
 all_goals conv=>whnf
end
section
variable {st0 st:St} {b d c:Nat} {s:Af} {rows:List (AB×List Nd)} {K:Ay->St->Prop} {L:EP} {o:Nd} {A:Rd Nd}
theorem fA (hb:AO enc 419 (λb=>[pv b d,enc o]) A) (U:st.box c=some (Az o)) (hc:Cx st0 b s st rows)
 (h:Rd.wp A s (λv s'=>∀st',Cx st0 b s' st' rows->K (.ret (enc v)) st') (λe s'=>∀st',Cy st0 b s' st' rows->K (.BU (fault e.1)) st')):PC 418 [pv b d,.ptr c 0] st K:=by
 refine pB Tryz.func418 ?_
 repeat' ((conv=>whnf);(first|refine AZ ?_|refine A0 ?_ ?_|refine A1 ?_ ?_|refine At U ?_|refine Fe.go (by first|exact AO.q) ?_ ?_|exact ER|refine Ae ?_)<;>intros)
theorem aO (hb:AO enc 421 (λb=>[pv b d,enc o]) A) (U:st.box c=some (Az o)) (hc:Cx st0 b s st rows)
 (h:Rd.wp A s (λv s'=>∀st',Cx st0 b s' st' rows->K (.ret (enc v)) st') (λe s'=>∀st',Cy st0 b s' st' rows->K (.BU (fault e.1)) st')):PC 420 [pv b d,.ptr c 0] st K:=by
 refine pB Tryz.func420 ?_
 repeat' ((conv=>whnf);(first|refine AZ ?_|refine A0 ?_ ?_|refine A1 ?_ ?_|refine At U ?_|refine Fe.go (by first|exact AO.q) ?_ ?_|exact ER|refine Ae ?_)<;>intros)
end
section
variable {st0 st:St} {b d:Nat} {s:Af} {rows:List (AB×List Nd)} {K:Ay->St->Prop} {L:EP}
attribute [local irreducible] Go.Aw.Ag
theorem VK:AO enc 281 (λb=>[pv b d]) AH:=by
 refine ⟨λ{st0 b s st rows K} hc h=>?_⟩
 refine pB Tryz.func281 ?_
 repeat' ((conv=>whnf);(first|refine AZ ?_|refine A0 ?_ ?_|refine A1 ?_ ?_|refine Gb.go ‹_› ‹_› ?_ ?_|refine Js ?_|refine HU ?_ ?_|exact ER|refine Ae ?_)<;>intros)
theorem fh {n x:Nd} (hx:n.kids[(Int.tdiv (n.kids.length:Int) 2).toNat]? =some x) (U:n.kids[n.kids.length / 2]? =some x) (h:K (.ret (.bool (Kz n))) st):PC 284 [enc n] st K:=by
 have e:Kz n= !(x.form==7||x.form==8||x.form==3||x.form==4):=by unfold Kz;rw [U]
 rw [e] at h
 refine pB Tryz.func284 ?_
 have h0:0<=Int.tdiv (n.kids.length:Int) 2:=Int.tdiv_nonneg AC AC
 repeat' ((conv=>whnf);(first|refine AZ ?_|refine A0 ?_ ?_|refine A1 ?_ ?_|refine Wm hx h0 ?_)<;>intros)
 all_goals conv=>whnf
 all_goals (refine Ao h ?_;clear h;simp_all)
end
end Go.Proofs.Z
namespace Go.Aw
open Go
theorem ar {P:Program} {r:List V} {st:St} (hb:Plain P f) (h:s.length<4611686018427387904->A3 P f (.str s::r) st R):A3 P f (.str s::r) st R:=by
 refine ⟨?_,hb⟩
 intro I w cargs hs U
 have hl:s.length<4611686018427387904:=by
  have h2:=U
  simp only [Ak,AG] at h2
  obtain ⟨c,rr,_,h2,_⟩:=h2
  exact h2.2
 exact (h hl).a I w cargs hs U
def Ja (s:List UInt8) (k:Int):Bool:=(Ej s).1==k&&(s.take (Ej s).2==s)
theorem aX (h:n<=s.length):s.take n=s↔n=s.length:=by
 constructor
 .intro e
  have:=congrArg List.length e
  rw [List.length_take] at this
  omega
 .intro e;rw [e,List.take_length]
theorem Mg:Ja s k=true↔(Ej s).1=k/\(Ej s).2=s.length:=by
 unfold Ja
 rw [Bool.and_eq_true,beq_iff_eq,beq_iff_eq,aX (Sd s)]
theorem bG (h:Ja s 11=true):Bx (Cm s).1 (s.drop (Cm s).2)=s.length - (Cm s).2/\(Cm s).2<=s.length:=by
 obtain ⟨U,h2⟩:=Mg.1 h
 by_cases hb:(Cm s).1=10
 .have hp:Cm s=(10,0):=by
   rcases LC s with e|⟨e,_⟩|⟨e,_⟩
   .exact e
   .rw [e] at hb;cases hb
   .rw [e] at hb;cases hb
  rw [hp]
  refine ⟨?_,Nat.zero_le _⟩
  show Bx 10 (s.drop 0)=s.length - 0
  rw [List.drop_zero,Nat.sub_zero]
  by_cases h0:Bx 10 s=0
  .rw [eQ hb h0] at U;cases U
  .have e:=WT (l:=s) hb rfl h0 rfl rfl
   rw [e] at U h2
   dsimp only at U h2
   split at U
   .cases U
   .omega
 .have e:=WS (l:=s) hb
  have hp2:(Cm s).2=2:=by
   rcases LC s with e|⟨e,_⟩|⟨e,_⟩
   .rw [e] at hb;exact absurd rfl hb
   .rw [e]
   .rw [e]
  rw [e] at h2
  dsimp only at h2
  rw [hp2]
  omega
theorem Zv {b:Int} (hb:b<=16) (h:¬BA c b<0):0<=BA c b/\BA c b<b/\BA c b<=15:=by
 unfold BA at h |-
 dsimp only at h |-
 (repeat' split at h)<;>(repeat' split)<;>omega
end Go.Aw
namespace Go.Proofs.Z
open Go Go.Aw
theorem U0 {c:Nat} (h:pos<s.length) (U:(c,m)=AK (s.drop pos)) (k:¬BA (c:Int) base<0):
 m=1/\Jr base (s.drop pos) v=if (4611686018427387904 - BA (c:Int) base) / base<v then (0,3) else Jr base (s.drop (pos+1)) (v*base+BA (c:Int) base):=by
 obtain ⟨a,ha⟩:∃a,s[pos]? =some a:=⟨_,List.getElem?_eq_getElem h⟩
 have e:=drop_at ha
 have hlo:a.toNat<128:=by
  apply Classical.byContradiction
  intro hn
  have:=NL (r:=s.drop (pos+1)) hn
  rw [e] at U
  rw [<-U] at this
  exact k (Hz (by dsimp only at this;omega))
 rw [e,EV hlo] at U
 obtain ⟨rfl,rfl⟩:=Prod.mk.inj U
 refine ⟨rfl,?_⟩
 rw [e,Jr]
theorem fX {K:List UInt8->Prop} (ht:s.drop n=t) (U:0<=(n:Int)) (h1:(n:Int)<=s.length) (k:K t):
 (0<=(n:Int)/\(n:Int)<=(s.length:Int)/\(s.length:Int)<=s.length)/\∀s',s'=(s.take (s.length:Int).toNat).drop (n:Int).toNat->K s':=WN U h1 (by subst ht;exact k)
section
variable {st:St} {R:Ay->St->Prop}
theorem pt (U:s.length<=4611686018427387903) (h:R (.ret (.bool (Ja s k))) st):PC 387 [.str s,.int .i64 k] st R:=by
 refine pB Tryz.func387 ?_
 repeat' ((conv=>whnf);(first|refine AZ ?_|refine A0 ?_ ?_|refine A1 ?_ ?_|refine Yu U ?_)<;>intros)
 all_goals conv=>whnf
 all_goals (refine Ao h ?_;clear h;simp_all [Ja])
theorem lX {b:Bool} (e:Ja s k=b) (U:s.length<=4611686018427387903) (h:R (.ret (.bool b)) st):PC 387 [.str s,.int .i64 k] st R:=pt U (by rw [e];exact h)
theorem iO {c:Nat} {b:Int} (hb:b<=16) (hl:pos<t.length) (hd:(c,m)=AK (t.drop pos)) (hr:Bx b (t.drop pos)=t.length - pos) (k:∀d,d=BA c b->0<=d->d<b->R (.ret (.int .i64 d)) st):PC 374 [.int .i32 c,.int .i64 b] st R:=by
 have hn:¬BA (c:Int) b<0:=λe=>by
  have:=G5 hl hd e
  omega
 obtain ⟨U,h2,_⟩:=Zv hb hn
 exact K1 (k _ rfl U h2)
theorem pq {b d:Int} {K:Int->Prop} (hb:b=10\/b=8\/b=16) (U:0<=v) (h1:0<=d) (h2:d<b) (h3:¬(4611686018427387904 - d) / b<v) (k:K (v*b)):∃r,r=IntKind.i64.wrap (v*b)/\K r:=by
 refine ⟨_,(JV ?_ ?_).symm,k⟩<;>(rcases hb with rfl|rfl|rfl<;>omega)
theorem oN {b d:Int} {K:Int->Prop} (hb:b=10\/b=8\/b=16) (U:0<=v) (h1:0<=d) (h2:d<b) (h3:¬(4611686018427387904 - d) / b<v) (k:K (v*b+d)):∃r,r=IntKind.i64.wrap (v*b+d)/\K r:=by
 refine ⟨_,(JV ?_ ?_).symm,k⟩<;>(rcases hb with rfl|rfl|rfl<;>omega)
theorem oW {b d:Int} (hb:b=10\/b=8\/b=16) (U:0<=v) (h1:0<=d) (h2:d<b) (h3:¬(4611686018427387904 - d) / b<v):0<=v*b+d/\v*b+d<=4611686018427387904:=by
 rcases hb with rfl|rfl|rfl<;>omega
theorem bH {b:Int} (hn:Ja s 11=true) (U:Cm s=(b,n)):Jq s=Jr b (s.drop n) 0:=by
 unfold Jq
 rw [if_pos (Mg.1 hn),U]
theorem lz (h:R (.ret (.Bq [.int .i64 (Jq s).1,.int .i64 (Jq s).2])) st):PC 340 [.str s] st R:=by
 refine ar ⟨_,Tryz.func340,Do,Do⟩ λhl0=>?_
 have hl:s.length<=4611686018427387903:=AC
 refine pB Tryz.func340 ?_
 cases hn:Ja s 11 with
 |false=>
  have hw:Jq s=(0,40):=by
   unfold Jq
   rw [if_neg λe=>?_]
   rw [Mg.2 e] at hn;cases hn
  rw [hw] at h
  repeat' ((conv=>whnf);first|(refine AZ ?_;intros)|(refine A0 ?_ ?_<;>intro e h)|(refine A1 ?_ ?_<;>intro _)|refine lX hn hl ?_)
  all_goals exact fin h rfl
 |true=>
  obtain ⟨hr,hle⟩:=bG hn
  have key:∀(b:Int) (n:Nat),Cm s=(b,n)->b=10\/b=8\/b=16:=λb n e=>by
   rcases LC s with h|⟨h,_⟩|⟨h,_⟩<;>(rw [h] at e;cases e;omega)
  generalize hp:Cm s=p at hr hle
  obtain ⟨b,n⟩:=p
  have hp0:Cm s=(b,n):=hp
  dsimp only at hr hle
  have hb:=key b n hp
  rw [bH hn hp] at h
  have hlen:(s.drop n).length=s.length - n:=by rw [List.length_drop]
  generalize ht:s.drop n=t at h hr hlen
  have hr:Bx b t=t.length:=AC
  clear hp key hlen
  repeat' ((conv=>whnf);first|(refine AZ ?_;intros)|(refine A0 ?_ ?_<;>intro e h)|(refine A1 ?_ ?_<;>intro _)|refine lX hn hl ?_|refine Ii hp0 hl ?_|refine fX ht AC AC ?_)
  conv=>whnf
  refine V0 (α:=Nat) (β:=Int) (λpos v=>[(6,.int .i64 v)]) (λpos v=>[(0,[.Ns t pos])]) [0,4,5,21] [] (λ_ _=>st) (λpos v=>pos<=t.length/\Bx b (t.drop pos)=t.length - pos/\Jr b t 0=Jr b (t.drop pos) v/\0<=v/\v<=4611686018427387904) (λpos v=>t.length - pos) 0 0 ⟨Nat.zero_le _,by rw [List.drop_zero];omega,by rw [List.drop_zero],AC,AC⟩ Yl (St.le_refl _) ?_
  rintro pos v ⟨j1,j2,j3,j4,j5⟩
  rw [j3] at h
  have hb0:0<b:=AC
  repeat' ((conv=>whnf);first|(refine AZ ?_;intros)|(refine A0 ?_ ?_<;>intro e h)|(refine A1 ?_ ?_<;>intro _)|refine WK (λc m hd=>?_)|refine Wr hb0 AC AC ?_|refine iO AC ‹_› ‹_› j2 (λd U hd1 hd2=>?_)|refine pq hb j4 hd1 hd2 ‹_› ?_|refine oN hb j4 hd1 hd2 ‹_› ?_)
  .rename_i hlt hgt
   obtain ⟨e1,e2⟩:=U0 (v:=v) (base:=b) hlt hd (by rw [<-U];omega)
   rw [e2,<-U,if_pos hgt] at h
   exact fin h rfl
  .rename_i hlt hgt
   obtain ⟨e1,e2⟩:=U0 (v:=v) (base:=b) hlt hd (by rw [<-U];omega)
   have e3:=(LI (base:=b) hlt hd (by rw [<-U];omega)).2
   rw [<-U,if_neg hgt] at e2
   have hf:=oW hb j4 hd1 hd2 hgt
   subst e1
   conv=>whnf
   exact ⟨(pos+1,v*b+d),⟨UV,UV,by rw [j3,e2],hf.1,hf.2⟩,UV,Yl,St.le_refl _⟩
  .rename_i hlt
   rw [List.drop_eq_nil_iff.2 AC] at h
   exact fin h rfl
end
theorem Dv.sz {A:Rd Nd} {s:Af} {n:Nd} (h:Dv A) (U:A.run s=.inr (n,s')) (hm:mu s<=100000000):n.size<=1000000000:=by have:=h.size U;omega
theorem eX {n:Nd} {s:Af} (h:HJ.run s=.inr (n,s')):∃x,n.kids[(Int.tdiv (n.kids.length:Int) 2).toNat]? =some x/\n.kids[n.kids.length / 2]? =some x:=by
 unfold HJ at h
 replace h:(if MA (Ab s).1=true then Rd.seq AH λt=>.ret (Ar 18 [t]) else Rd.seq (Bs 15 [96]) λo=>.seq (CA [1,2,3,4]) λn=>.seq (Bs 15 [96]) λc=>.ret (Ar 18 [o,n,c]):Rd Nd).run s=.inr (n,s'):=h
 split at h
 .obtain ⟨t,s1,_,h⟩:=Bl h
  cases h
  exact ⟨t,(by show [t][(Int.tdiv (1:Int) 2).toNat]? =some t;rw [show (Int.tdiv (1:Int) 2).toNat=0 by decide];rfl),by simp [Ar,Nd.kids]⟩
 .obtain ⟨o,s1,_,h⟩:=Bl h
  obtain ⟨x,s2,_,h⟩:=Bl h
  obtain ⟨c,U,_,h⟩:=Bl h
  cases h
  exact ⟨x,(by show [o,x,c][(Int.tdiv (3:Int) 2).toNat]? =some x;rw [show (Int.tdiv (3:Int) 2).toNat=1 by decide];rfl),by simp [Ar,Nd.kids]⟩
section
variable {st0 st:St} {b d:Nat} {s:Af} {rows:List (AB×List Nd)} {K:Ay->St->Prop} {L:EP}
attribute [local irreducible] Go.Aw.Ag
theorem iN {n:Nd} (h:K (.ret (.bool (Ru n))) st):PC 282 [enc n] st K:=by
 refine pB Tryz.func282 ?_
 repeat' ((conv=>whnf);(first|refine AZ ?_|refine A0 ?_ ?_|refine A1 ?_ ?_|refine lz ?_)<;>intros)
 all_goals conv=>whnf
 all_goals (refine Ao h ?_;clear h;simp_all [Ru])
theorem Ts:AO enc 280 (λb=>[pv b d,.func 283 [] [],.func 284 [] []]) (Dm HJ Kz):=
 JD NY λhr _ k=>by obtain ⟨x,U,h2⟩:=eX hr;exact fh U h2 k
theorem jf:AO enc 280 (λb=>[pv b d,.func 281 [] [],.func 282 [] []]) (Dm AH Ru):=
 JD VK λ_ _ k=>iN k
theorem jm {atom:Rd Nd} (ha:AO enc 288 (λb=>[pv b d]) atom) (U:Dv atom):AO enc 280 (λb=>[pv b d,.func 288 [] [],.func 287 [] []]) (Dm atom bD):=
 JD ha λhr hm k=>Yd (Dv.sz U hr hm) k
theorem ZO:AO enc 211 (λb=>[pv b d]) K9:=by
 refine ⟨λ{st0 b s st rows K} hc h=>?_⟩
 simp only [K9,K8,Rd.Ah,Rd.Ax,Rd.wp_seq,Rd.wp_ret] at h
 have hmu:=hc.mu
 refine pB Tryz.func211 ?_
 repeat' ((conv=>whnf);(first|refine AZ ?_|refine A0 ?_ ?_|refine A1 ?_ ?_|refine Cx.Ee (l:=[_]) (Cx.push ‹_› [_]) (Nat.le_of_ble_eq_true rfl) ?_|refine Hb ?_|refine Kk ?_ ?_|refine Js ?_|refine HU ?_ ?_|exact ER|refine IP ?_|refine J3 ?_|refine Ae ?_|refine Fe.go (by first|exact AO.q|exact jf.a|exact Ts.a) ?_ ?_)<;>intros)
 all_goals refine Cd (λl own=>[(3,.slice 6 (l.map Az) own)]) (λ_ _=>[]) [1,2] [0,1] (λl own=>(own,l)::rows) (λl=>l.length) _ ‹_› ‹_› RK Yl ?_
 all_goals intro l s1 st1 U hc h hl hm1
 all_goals simp only [RL,Rd.Ah,Rd.Ax,Rd.wp_seq,Rd.wp_ret,Rd.Bk] at h
 all_goals (repeat' ((conv=>whnf);(first|refine AZ ?_|refine A0 ?_ ?_|refine A1 ?_ ?_|refine Hb ?_|refine Kk ?_ ?_|refine Js ?_|refine HU ?_ ?_|exact ER|refine IP ?_|refine J3 ?_|refine Ae ?_|refine Fe.go (by first|exact AO.q|exact Ts.a) ?_ ?_)<;>intros))
theorem oo {atom full:Rd Nd} {n:Nd} (hn:n.size<=1000000000) (ha:AO enc 288 (λb=>[pv b d]) atom) (hD:Dv atom) (hf:AO enc 289 (λb=>[pv b d]) full):AO enc 214 (λb=>[pv b d,enc n]) (aI atom full n):=by
 refine ⟨λ{st0 b s st rows K} hc h=>?_⟩
 simp only [aI,Rd.Ax,Rd.wp_seq,Rd.wp_ret,Rd.DG] at h
 have hmu:=hc.mu
 refine pB Tryz.func214 ?_
 repeat' ((conv=>whnf);(first|exact CK|refine AZ ?_|(refine CL ?_ ?_ ?_;rotate_left)|refine A0 ?_ ?_|refine A1 ?_ ?_|refine Hb ?_|refine Kk ?_ ?_|refine Js ?_|refine HU ?_ ?_|exact ER|refine IP ?_|refine J3 ?_|refine Ae ?_|refine Yd hn ?_|refine R7 ?_|refine R6 ?_|refine Ac [(0,true),(1,true),(2,false),(3,false)] [] GE ?_|with_reducible refine WF ?_)<;>intros)
 all_goals refine Cd (λl own=>[(5,.slice 6 (l.map Az) own)]) (λ_ _=>[]) [2,3,4] [0,1,2] (λl own=>(own,l)::rows) (λl=>l.length) .full (Cx.push ‹_› _) ‹_› (by show 1+_<=_;omega) Yl ?_
 all_goals intro l s1 st1 U hc h hl hm1
 all_goals simp only [om,Rd.Ah,Rd.Ax,Rd.wp_seq,Rd.wp_ret,Rd.Bk] at h
 all_goals (repeat' ((conv=>whnf);(first|exact CK|refine AZ ?_|(refine CL ?_ ?_ ?_;rotate_left)|refine A0 ?_ ?_|refine A1 ?_ ?_|refine Hb ?_|refine Kk ?_ ?_|refine Js ?_|refine HU ?_ ?_|exact ER|refine IP ?_|refine J3 ?_|refine Ae ?_|refine Fe.go (by first|exact AO.q|exact (jm ha hD).a) ?_ ?_|with_reducible refine WF ?_)<;>intros))
theorem iM {atom ops exp stmt full:Rd Nd} (hL:Ki d L) (ha:AO enc 288 (λb=>[pv b d]) atom) (hD:Dv atom) (ho:AO enc 212 (λb=>[pv b d]) ops) (hE:Dv ops) (he:AO enc 292 (λb=>[pv b d]) exp)
 (hs:AO enc 360 (λb=>[pv b d]) stmt) (hf:AO enc 289 (λb=>[pv b d]) full):AO enc 155 (λb=>[pv b d]) (Ta L atom ops exp stmt full):=by
 refine ⟨λ{st0 b s st rows K} hc h=>?_⟩
 simp only [Ta,Rd.Ah,Rd.Ax,Rd.wp_seq,Rd.wp_ret,Rd.DG] at h
 have U:=hc.mu
 refine pB Tryz.func155 ?_
 repeat' ((conv=>whnf);(first|exact CK|refine AZ ?_|(refine CL ?_ ?_ ?_;rotate_left)|refine A0 ?_ ?_|refine A1 ?_ ?_|refine Hb ?_|refine Kk ?_ ?_|exact ER|refine IP ?_|refine Ae ?_|refine RJ ?_|refine Fe.go (by first|exact AO.q|exact ZO.a|exact (oo (Dv.sz hE ‹_› U) ha hD hf).a|exact (fy hL he hs).a) ?_ ?_|refine pg ?_|refine R7 ?_|refine R6 ?_|refine Ac [(0,true),(1,true),(2,false),(3,true),(4,false),(5,false)] [1] GE ?_|with_reducible refine WF ?_)<;>intros)
end
end Go.Proofs.Z
namespace Go.Aw
theorem Lb {fs:List V} {k:List V->Prop} (h:k (fs++cs)):EZ (fs++([]++cs)) k:=Bb.2 h
end Go.Aw
namespace Go.Proofs.Z
open Go Go.Aw
theorem Dv.lR {A:Rd Nd} (h:Dv A):Rd.A2 A:=λs n s' e=>by
 have U:=h.size e
 have h2:=size_pos n
 omega
def NF (starts:Tk->Bool) (item:List Nd->Rd Nd) (f:Bool) (l:List Nd):Rd (Sum (List Nd) (List Nd)):=.seq Py λ_=>.look λs=>.seq (H2 f (!starts (Ab s).1)) λe=>
 if e=true then .ret (.inr l) else .seq (item l) λn=>.look λs=>.seq (H2 f (!Kd (Ab s).1)) λe=>if e=true then .ret (.inr (l++[n])) else .ret (.inl (l++[n]))
def NG (starts:Tk->Bool) (item:List Nd->Rd Nd):Rd Nd:=.look λs=>if ((Ab s).1.kind==18)=true then .seq Jl λ_=>.seq (.loop (NF starts item false) []) λl=>.ret (Eg false l)
 else .seq (Bs 15 [123]) λ_=>.seq (.loop (NF starts item true) []) λl=>.ret (Eg true l)
theorem TO {σ β:Type} {ih:(AE->Env->St->Prop)->Env->St->Prop} {Q0:AE->Env->St->Prop} {env:Env} {st:St} {s:Af} {Q:β->Af->Prop} {E:Er->Af->Prop} {body:σ->Rd (Sum σ β)} {x0:σ} (base:σ->St)
 (f:σ->AB->List (Nat×V)) (g:σ->AB->List (Nat×List V)) (keep kb:List Nat) (rw:σ->AB->List (AB×List Nd)) (wt:σ->Nat) (U:AB) (hc:Cx (base x0) b s st (rw x0 U)) (h:Rd.wp (Rd.loop body x0) s Q E) (hl:wt x0+4*mu s<=500000000)
 (he:(env.L0 (f x0 U) (g x0 U) keep kb).Ep env)
 (hb:∀x s1 st1 own1,Cx (base x) b s1 st1 (rw x own1)->Rd.wp (body x) s1 (Rd.again body s1 Q E) E->wt x+4*mu s1<=500000000->mu s1<=mu s->
   ih (BL (λenv' st'=>∃y:LS σ,(Cx (base y.x) b y.s y.m (rw y.x y.o)/\Rd.wp (Rd.loop body y.x) y.s Q E/\wt y.x+4*mu y.s<=500000000/\mu y.s<=mu s)/\mu y.s<mu s1/\(env.L0 (f y.x y.o) (g y.x y.o) keep kb).Ep env'/\St.le y.m st') Q0)
    (env.L0 (f x own1) (g x own1) keep kb) st1):
 ∃(α:Type) (E:α->Env) (S:α->St) (J:α->Prop) (μ:α->Nat) (x0:α),J x0/\(E x0).Ep env/\St.le (S x0) st/\
  ∀x,J x->ih (BL (λenv' st'=>∃y,J y/\μ y<μ x/\(E y).Ep env'/\St.le (S y) st') Q0) (E x) (S x):=
 ⟨LS σ,λy=>env.L0 (f y.x y.o) (g y.x y.o) keep kb,λy=>y.m,
   λy=>Cx (base y.x) b y.s y.m (rw y.x y.o)/\Rd.wp (Rd.loop body y.x) y.s Q E/\wt y.x+4*mu y.s<=500000000/\mu y.s<=mu s,λy=>mu y.s,⟨x0,s,st,U⟩,⟨hc,h,hl,Nat.le_refl _⟩,he,St.le_refl _,
   λy ⟨j1,j2,j3,j4⟩=>hb y.x y.s y.m y.o j1 (by rw [<-Rd.wp_loop];exact j2) j3 j4⟩
section
variable {st0 st:St} {b d:Nat} {s:Af} {rows:List (AB×List Nd)} {K:Ay->St->Prop} {L:EP}
attribute [local irreducible] Go.Aw.Ag
theorem XP (hb:s.Ca.length<=500000000) (h:K (.ret (.Bq [Bn (ED s).1,.bool (ED s).2])) st):PC 206 [Bn s] st K:=by
 refine pB Tryz.func206 ?_
 have h0:¬GI s=0->s.Ca≠[]:=λe e2=>e (by unfold GI;rw [e2];rfl)
 unfold ED at h
 by_cases U:IJ s=true
 .by_cases hw:s.wait=1
  .rw [if_neg AC] at h
   repeat' ((conv=>whnf);(first|refine AZ ?_|refine A0 ?_ ?_|refine A1 ?_ ?_|refine TR ?_|refine Ng ?_)<;>intros)
   all_goals first|exact Be rfl h|(rw [U] at *;simp at *)
  .by_cases ht:GI s=0
   .rw [if_neg AC] at h
    repeat' ((conv=>whnf);(first|refine AZ ?_|refine A0 ?_ ?_|refine A1 ?_ ?_|refine TR ?_|refine Ng ?_)<;>intros)
    all_goals first|exact Be rfl h|(rw [U] at *;simp at *)
   .rw [if_pos ⟨U,hw,ht⟩] at h
    repeat' ((conv=>whnf);(first|refine AZ ?_|refine A0 ?_ ?_|refine A1 ?_ ?_|refine TR ?_|refine Ng ?_|refine KW (h0 ht) hb ?_)<;>intros)
    all_goals first|exact Be rfl h|(rw [U] at *;simp at *)
 .rw [if_neg (by simp [U])] at h
  repeat' ((conv=>whnf);(first|refine AZ ?_|refine A0 ?_ ?_|refine A1 ?_ ?_|refine TR ?_|refine Ng ?_)<;>intros)
  all_goals first|exact Be rfl h|exact absurd ‹_› U
def bv (x:Bool):V:=.bool x
theorem di {f m:Bool}:AO bv 141 (λb=>[.ptr b 0,.bool f,.bool m]) (H2 f m):=by
 refine ⟨λ{st0 b s st rows K} hc h=>?_⟩
 simp only [H2,Rd.Ah,Rd.Ax,Rd.wp_seq,Rd.wp_ret] at h
 have U:=hc.look
 refine pB Tryz.func141 ?_
 have hcl:Rd.wp Rm s (λ_ s'=>∀st',Cx st0 b s' st' rows->K (.ret (.bool true)) st') (λe s'=>∀st',Cy st0 b s' st' rows->K (.BU (fault e.1)) st')->if (ED s).2=true then mu (ED s).1<=mu s/\∀st',Cx st0 b (ED s).1 st' rows->K (.ret (.bool true)) st'
  else Rd.wp (Rc:Rd Unit) s (λ_ s'=>∀st',Cx st0 b s' st' rows->K (.ret (.bool true)) st') (λe s'=>∀st',Cy st0 b s' st' rows->K (.BU (fault e.1)) st'):=λh=>by
  unfold Rm Rd.wp at h
  dsimp only at h
  split
  .rename_i e;rw [if_pos e] at h;exact ⟨Ma e,h⟩
  .rename_i e;rw [if_neg e] at h;exact h
 have hmu:=hc.mu
 cases f
 .simp only [Bool.false_eq_true,if_false] at h
  cases m
  .simp only [Bool.false_eq_true,if_false] at h
   repeat' ((conv=>whnf);(first|refine AZ ?_|refine A0 ?_ ?_|refine A1 ?_ ?_|refine FZ hc.has hc.hb ?_|refine JS U ‹_› AC ?_|exact CI U ‹_› rfl|refine Hb ?_|refine bT ?_|exact ER|refine Ae ?_)<;>intros)
  .simp only [if_true] at h
   repeat' ((conv=>whnf);first|refine S2 (hcl h) (λe h=>?_) (λe h=>?_)|(refine AZ ?_;intros)|(refine A0 ?_ ?_<;>intro e h)|(refine A1 ?_ ?_<;>intro _)|refine FZ hc.has hc.hb ?_|refine JS U h AC (λs1 st1 hz hm hc h=>?_)|refine At (St.Al ..) ?_|refine XP hc.hb ?_|refine o0 U AC (λst1 hc=>?_)|exact CI hc h.2 rfl|refine Qn U h (λe s1 st1 hc h=>?_)|(refine Hb ?_;intro st1 hc)|(refine bT ?_;intro e s1 st1 hc h)|exact ER|refine Ae (λe1=>?_))
 .simp only [if_true] at h
  by_cases hi:Ba s 15 [125]=true
  .rw [if_pos hi] at h
   obtain ⟨h1,h2⟩:(Ab s).1.kind=15/\(Ab s).1.text=[125]:=by
    unfold Ba at hi
    simp only [Bool.and_eq_true,beq_iff_eq] at hi
    exact hi
   repeat' ((conv=>whnf);(first|refine AZ ?_|refine A0 ?_ ?_|refine A1 ?_ ?_|refine FZ hc.has hc.hb ?_|refine JS U ‹_› AC ?_|refine Hb ?_|refine bT ?_|exact ER|refine Ae ?_)<;>intros)
  .rw [if_neg hi] at h
   have hx:(Ab s).1.kind=15->¬(Ab s).1.text=[125]:=λh1 h2=>hi (by unfold Ba;rw [h1,h2];rfl)
   cases m
   .simp only [Bool.false_eq_true,if_false] at h
    repeat' ((conv=>whnf);(first|refine cn (beq_eq_false_iff_ne.2 (hx ‹_›)) ?_|refine AZ ?_|refine A0 ?_ ?_|refine A1 ?_ ?_|refine FZ hc.has hc.hb ?_|exact CI U ‹_› rfl|refine Hb ?_|refine bT ?_|exact ER|refine Ae ?_)<;>intros)
   .simp only [if_true] at h
    repeat' ((conv=>whnf);(first|refine cn (beq_eq_false_iff_ne.2 (hx ‹_›)) ?_|refine AZ ?_|refine A0 ?_ ?_|refine A1 ?_ ?_|refine FZ hc.has hc.hb ?_|refine At (St.Al ..) ?_|refine XP hc.hb ?_|refine Qn U ‹_› ?_|refine Hb ?_|refine bT ?_|exact ER|refine Ae ?_)<;>intros)
theorem NM {f m U:Bool} (e:U=m):AO bv 141 (λb=>[.ptr b 0,.bool f,.bool m]) (H2 f U):=by rw [e];exact di
theorem lZ {b:Bool} (h:b=true):(!b)=false:=by rw [h];rfl
theorem lY {b:Bool} (h:b=false):(!b)=true:=by rw [h];rfl
theorem OT {l:List Nd} {own:AB}:Ay.ret (enc (Eg false l))=(Ay.ret (.agg [.int .i64 2,.int .i64 0,.str [],.int .i64 0,.int .i64 0,.slice 6 (l.map Az) own])).wk:=by unfold Eg;rw [dg];rfl
theorem OU {l:List Nd} {own:AB}:Ay.ret (enc (Eg true l))=(Ay.ret (.agg [.int .i64 2,.int .i64 1,.str [],.int .i64 0,.int .i64 0,.slice 6 (l.map Az) own])).wk:=by unfold Eg;rw [dg];rfl
def oK (base:List Nd->St) (st0:St) (b:Nat) (i:FuncId) (cs:List V) (item:List Nd->Rd Nd):Prop:=∀(l:List Nd) (s:Af) (st:St) (rows:List (AB×List Nd)) (K:Ay->St->Prop) (Q:Nd->Af->Prop) (E:Er->Af->Prop),Cx (base l) b s st rows->Rd.wp (item l) s Q E->
 (∀n s1 U,mu s1<mu s->Cx (base (l++[n])) b s1 U rows->Q n s1->K (.ret (enc n)) U)->(∀e s1 U,Cy st0 b s1 U rows->E e s1->K (.BU (fault e.1)) U)->PC i cs st K
theorem Qq {g i:FuncId} {fs:List V} {starts:Tk->Bool} {base:List Nd->St} {item:List Nd->Rd Nd} (hg:∀{t:Tk} {st:St} {K:Ay->St->Prop},K (.ret (.bool (starts t))) st->PC g [Ei t] st K)
 (hi:oK base st0 b i (fs++cs) item) (hx:∀{l s st rows},Cy (base l) b s st rows->Cy st0 b s st rows) (hc:Cx (base []) b s st rows)
 (h:Rd.wp (NG starts item) s (λn s'=>∀l st',Cx (base l) b s' st' rows->K (.ret (enc n)) st') (λe s'=>∀st',Cy st0 b s' st' rows->K (.BU (fault e.1)) st')):
 PC 69 [.ptr b 0,.func g [] [],.func i fs cs] st K:=by
 simp only [NG,Rd.Ah,Rd.Ax,Rd.wp_seq,Rd.wp_ret] at h
 have hmu:=hc.mu
 refine pB Tryz.func69 ?_
 repeat' ((conv=>whnf);first|exact CK|(refine AZ ?_;intros)|(refine CL ?_ ?_ ?_;rotate_left)|(refine A0 ?_ ?_<;>intro e h)|(refine A1 ?_ ?_<;>intro _)|(refine Hb ?_;intro U hc)|(refine HU ?_ ?_<;>(first|intro n s1 U hr hm hc h|intro e s1 U hc h))|exact ER|(refine J3 ?_;intro own1 U hc)|refine Ae (λe1=>?_)|refine JS hc h AC (λs1 U hz hm hc h=>?_)|exact BE (hx hc) h|refine Ac [(0,true),(1,true),(2,true),(3,true),(4,true),(5,true),(6,false),(7,false),(8,true),(9,false)] [] GE ?_|refine Ac [(0,true),(1,true),(2,true),(3,false),(4,true),(5,false),(6,true),(7,false)] [1] GE ?_|refine Ac [(0,true),(1,true),(2,true),(3,true),(4,true),(5,false),(6,false),(7,true),(8,false)] [] GE ?_|with_reducible refine WF ?_)
 .refine TO base (λl own=>[]) (λl own=>[(1,[.int .i64 2,.int .i64 0,.str [],.int .i64 0,.int .i64 0,.slice 6 (l.map Az) own])]) [0,1,2,6,7] [0] (λl own=>(own,l)::rows) (λl=>l.length) .full (hc.push []) h i7 Yl ?_
  intro l s1 U own1 hc h hl hm1
  simp only [NF,Rd.Ah,Rd.Ax,Rd.wp_seq,Rd.wp_ret,Rd.Bk] at h
  repeat' ((conv=>whnf);(first|exact CK|refine AZ ?_|(refine CL ?_ ?_ ?_;rotate_left)|refine A0 ?_ ?_|refine A1 ?_ ?_|with_reducible refine WF ?_)<;>intros)
  unfold Py at h
  refine Cd (λ_ _=>[]) (λ_ _=>[]) [0,1,2,6,7] [0,1] (λ_ _=>(own1,l)::rows) (λ_=>l.length) .full ‹_› ‹_› hl Yl ?_
  intro u s2 st2 own2 hc h hl hm2
  simp only [Sx,Rd.Ah,Rd.Ax,Rd.wp_seq,Rd.wp_ret,Rd.Bk] at h
  repeat' ((conv=>whnf);first|exact CK|(refine AZ ?_;intros)|(refine CL ?_ ?_ ?_;rotate_left)|(refine A0 ?_ ?_<;>intro e h)|(refine A1 ?_ ?_<;>intro _)|(refine Hb ?_;intro U hc)|(refine HU ?_ ?_<;>(first|intro n s1 U hr hm hc h|intro e s1 U hc h))|exact ER|(refine J3 ?_;intro own1 U hc)|refine Ae (λe1=>?_)|refine Sw ?_|refine hg ?_|refine JS hc h (N4 ‹_›) (λs1 U hz hm hc h=>?_)|refine AO.go (NM (lZ ‹_›)) hc h (λv s1 U hr hm hc h=>?_) (λe s1 U hc h=>?_)|refine AO.go (NM (lY ‹_›)) hc h (λv s1 U hr hm hc h=>?_) (λe s1 U hc h=>?_)|refine Lb ?_|refine hi _ _ _ _ _ _ _ hc h (λn s1 U hm hc h=>?_) (λe s1 U hc h=>?_)|exact BE (hx hc).drop h|exact BE (Cy.drop hc) h|exact CI hc.drop (h l) OT|exact CI hc.drop (h (l++[_])) OT|refine Ac [(0,true),(1,true),(2,true),(3,true),(4,true),(5,true),(6,false),(7,false),(8,true),(9,false)] [] GE ?_|refine Ac [(0,true),(1,true),(2,true),(3,false),(4,true),(5,false),(6,true),(7,false)] [1] GE ?_|refine Ac [(0,true),(1,true),(2,true),(3,true),(4,true),(5,false),(6,false),(7,true),(8,false)] [] GE ?_|with_reducible refine WF ?_)
  all_goals conv=>whnf
  all_goals exact ⟨⟨(),_,_,.full⟩,⟨hc,Rd.Dq h AC,UV,UV⟩,UV,Yl,St.le_refl _⟩
 .refine TO base (λl own=>[]) (λl own=>[(1,[.int .i64 2,.int .i64 1,.str [],.int .i64 0,.int .i64 0,.slice 6 (l.map Az) own])]) [0,1,2,6,7] [0] (λl own=>(own,l)::rows) (λl=>l.length) .full (hc.push []) h i7 Yl ?_
  intro l s1 U own1 hc h hl hm1
  simp only [NF,Rd.Ah,Rd.Ax,Rd.wp_seq,Rd.wp_ret,Rd.Bk] at h
  repeat' ((conv=>whnf);(first|exact CK|refine AZ ?_|(refine CL ?_ ?_ ?_;rotate_left)|refine A0 ?_ ?_|refine A1 ?_ ?_|with_reducible refine WF ?_)<;>intros)
  unfold Py at h
  refine Cd (λ_ _=>[]) (λ_ _=>[]) [0,1,2,6,7] [0,1] (λ_ _=>(own1,l)::rows) (λ_=>l.length) .full ‹_› ‹_› hl Yl ?_
  intro u s2 st2 own2 hc h hl hm2
  simp only [Sx,Rd.Ah,Rd.Ax,Rd.wp_seq,Rd.wp_ret,Rd.Bk] at h
  repeat' ((conv=>whnf);first|exact CK|(refine AZ ?_;intros)|(refine CL ?_ ?_ ?_;rotate_left)|(refine A0 ?_ ?_<;>intro e h)|(refine A1 ?_ ?_<;>intro _)|(refine Hb ?_;intro U hc)|(refine HU ?_ ?_<;>(first|intro n s1 U hr hm hc h|intro e s1 U hc h))|exact ER|(refine J3 ?_;intro own1 U hc)|refine Ae (λe1=>?_)|refine Sw ?_|refine hg ?_|refine JS hc h (N4 ‹_›) (λs1 U hz hm hc h=>?_)|refine AO.go (NM (lZ ‹_›)) hc h (λv s1 U hr hm hc h=>?_) (λe s1 U hc h=>?_)|refine AO.go (NM (lY ‹_›)) hc h (λv s1 U hr hm hc h=>?_) (λe s1 U hc h=>?_)|refine Lb ?_|refine hi _ _ _ _ _ _ _ hc h (λn s1 U hm hc h=>?_) (λe s1 U hc h=>?_)|exact BE (hx hc).drop h|exact BE (Cy.drop hc) h|exact CI hc.drop (h l) OU|exact CI hc.drop (h (l++[_])) OU|refine Ac [(0,true),(1,true),(2,true),(3,true),(4,true),(5,true),(6,false),(7,false),(8,true),(9,false)] [] GE ?_|refine Ac [(0,true),(1,true),(2,true),(3,false),(4,true),(5,false),(6,true),(7,false)] [1] GE ?_|refine Ac [(0,true),(1,true),(2,true),(3,true),(4,true),(5,false),(6,false),(7,true),(8,false)] [] GE ?_|with_reducible refine WF ?_)
  all_goals conv=>whnf
  all_goals exact ⟨⟨(),_,_,.full⟩,⟨hc,Rd.Dq h AC,UV,UV⟩,UV,Yl,St.le_refl _⟩
theorem Oq {g i:FuncId} {starts:Tk->Bool} {item:Rd Nd} (hg:∀{t:Tk} {st:St} {K:Ay->St->Prop},K (.ret (.bool (starts t))) st->PC g [Ei t] st K) (hi:AO enc i (λb=>[pv b d]) item) (hF:Dv item):
 AO enc 69 (λb=>[.ptr b 0,.func g [] [],.func i [pv b d] []]) (Dl starts item):=
 ⟨λ{st0 b s st rows K} hc h=>Qq (fs:=[pv b d]) (cs:=[]) (base:=λ_=>st0) (item:=λ_=>item) hg (λl s st rows K Q E hc h k kb=>hi.jt hF.lR hc h (λn s1 U _ hm hc q=>k n s1 U hm hc q) kb) (λh=>h) hc
   (Rd.wp_mono (show Rd.wp (NG starts λ_=>item) s _ _ from h) (λ_ _ _ h _=>h) (λ_ _ _ h=>h))⟩
end
section
variable {st:St} {R:Ay->St->Prop}
attribute [local irreducible] Go.Aw.Ag
theorem XM {c:Nat} {s:Af} {deep:Int} {q:Rs} (hq:¬deep<1->∀(b:Nat) (st5:St) (R:Ay->St->Prop),st.le st5->Has st5 b s->El st5 b R q->PC f [.ptr b 0,.int .i64 (if 100<deep then 100 else deep),.ptr c 0] st5 R) (h:R (.ret (K4 (Ce s deep q))) st):PC 67 [Bn s,.int .i64 deep,.func f [] [.ptr c 0]] st R:=by
 refine A3.ends (LA Ad [6,7,8,9,12] Tryz.func67 rfl Do rfl rfl rfl rfl rfl rfl ⟨_,Tryz.func138,rfl,Do⟩ rfl ?_)
 repeat' ((conv=>whnf);first|exact CK|(refine AZ ?_;intros)|(refine CL ?_ ?_ ?_;rotate_left)|(refine A0 ?_ ?_<;>intro e h)|(refine A1 ?_ ?_<;>intro _)|refine Yo (λb5 f5=>?_)|refine At (St.Al ..) ?_|with_reducible refine WF ?_)
 rename_i b1 f1 b2 f2 b3 f3 b4 f4
 obtain ⟨n12,f2a⟩:=BX f2
 obtain ⟨n23,f3a⟩:=BX f3
 obtain ⟨n13,f3b⟩:=BX f3a
 obtain ⟨n34,f4a⟩:=BX f4
 obtain ⟨n24,f4b⟩:=BX f4a
 obtain ⟨n14,f4c⟩:=BX f4b
 obtain ⟨n45,f5a⟩:=BX f5
 obtain ⟨n35,f5b⟩:=BX f5a
 obtain ⟨n25,f5c⟩:=BX f5b
 obtain ⟨n15,f5d⟩:=BX f5c
 conv=>whnf
 refine ⟨rfl,AM rfl ?_⟩
 generalize hst5:St.Aa _ b5 [V.ptr b4 0]=st5
 have k1:st5.box b1=some De:=by subst hst5;rw [St.As n15.symm,St.As n15.symm,St.As n14.symm,St.As n13.symm,St.As n12.symm,St.Al];rfl
 have k2:st5.box b2=some [.slice 4 (A5 Ew.AD) .full,.int .i64 Ew.pos,.slice 1 (ints Ew.Ca) .full,.int .i64 Ew.wait]:=by subst hst5;rw [St.As n25.symm,St.As n25.symm,St.As n24.symm,St.As n23.symm,St.Al];rfl
 have k3:st5.box b3=some [.int .i64 0]:=by subst hst5;rw [St.As n35.symm,St.As n35.symm,St.As n34.symm,St.Al]
 have k4:Has st5 b4 s:=by subst hst5;refine .inr ⟨gx,Ew,.full,.full,0,?_⟩;rw [St.As n45.symm,St.As n45.symm,St.Al];rfl
 have k5:st5.box b5=some [.ptr b4 0]:=by subst hst5;rw [St.Al]
 have kle:st.le st5:=by
  subst hst5
  exact St.Aq (St.Aq (St.Aq (St.Aq (St.Aq (St.Aq (St.le_refl _) f1.1 _) f2a.1 _) f3b.1 _) f4c.1 _) f5d.1 _) f5d.1 _
 have kpan:∀(U:St) (e:Int) (s':Af),GR st5 U b4 s'->U.box b5=some [.ptr b4 0]/\U.box b1=some De/\U.box b2=some [.slice 4 (A5 Ew.AD) .full,.int .i64 Ew.pos,.slice 1 (ints Ew.Ca) .full,.int .i64 Ew.wait]/\U.box b3=some [.int .i64 0]/\st.le U:=by
  rintro U e s' ⟨_,cs,rfl⟩
  exact ⟨by rw [St.As n45];exact k5,by rw [St.As n14.symm];exact k1,by rw [St.As n24.symm];exact k2,by rw [St.As n34.symm];exact k3,St.Aq kle f4c.1 _⟩
 clear hst5 f2 f3 f4 f5 f3a f4a f4b f5a f5b f5c
 refine Aj (Ai Ad ?_)
 repeat' ((conv=>whnf);(first|exact CK|refine AZ ?_|(refine CL ?_ ?_ ?_;rotate_left)|refine A0 ?_ ?_|refine A1 ?_ ?_|refine At k5 ?_|refine B6 ?_|with_reducible refine WF ?_)<;>intros)
 .refine HW (n0:=FN) (s0:=Ew) k5 k4 k1 k2 k3 n15 n14 n12 n13 n25 n24 n23 ?_
  have g1:(((st5.Aa b1 De).Aa b2 s.cells).Aa b3 [.int .i64 2]).box b1=some De:=by rw [St.As n13.symm,St.As n12.symm,St.Al]
  have g2:(((st5.Aa b1 De).Aa b2 s.cells).Aa b3 [.int .i64 2]).box b2=some s.cells:=by rw [St.As n23.symm,St.Al]
  have gl:st.le (((st5.Aa b1 De).Aa b2 s.cells).Aa b3 [.int .i64 2]):=St.Aq (St.Aq (St.Aq kle f1.1 _) f2a.1 _) f3b.1 _
  unfold Ce at h
  rw [if_pos ‹_›] at h
  repeat' ((conv=>whnf);(first|exact CK|refine AZ ?_|(refine CL ?_ ?_ ?_;rotate_left)|refine A0 ?_ ?_|refine A1 ?_ ?_|refine At g1 ?_|refine At g2 ?_|refine At (St.Al ..) ?_|with_reducible refine WF ?_)<;>intros)
  all_goals exact DH gl rfl h
 .rename_i hd
  unfold Ce at h
  rw [if_neg hd] at h
  have hq:=λst5 R h=>hq hd b4 st5 R h
  refine Aj (Ai Ad ?_)
  cases q with
  |inl q=>
   obtain ⟨e,s'⟩:=q
   repeat' ((conv=>whnf);first|exact CK|(refine AZ ?_;intros)|(refine CL ?_ ?_ ?_;rotate_left)|(refine A0 ?_ ?_<;>intro e h)|(refine A1 ?_ ?_<;>intro _)|refine At k5 ?_|refine ⟨_,rfl,?_⟩|refine hq _ _ kle k4 (λU hu=>?_)|with_reducible refine WF ?_)
   obtain ⟨j5,j1,j2,j3,jle⟩:=kpan U e s' hu
   refine HW (n0:=FN) (s0:=Ew) j5 hu.1 j1 j2 j3 n15 n14 n12 n13 n25 n24 n23 ?_
   have g1:(((U.Aa b1 De).Aa b2 s'.cells).Aa b3 [.int .i64 e]).box b1=some De:=by rw [St.As n13.symm,St.As n12.symm,St.Al]
   have g2:(((U.Aa b1 De).Aa b2 s'.cells).Aa b3 [.int .i64 e]).box b2=some s'.cells:=by rw [St.As n23.symm,St.Al]
   have gl:st.le (((U.Aa b1 De).Aa b2 s'.cells).Aa b3 [.int .i64 e]):=St.Aq (St.Aq (St.Aq jle f1.1 _) f2a.1 _) f3b.1 _
   repeat' ((conv=>whnf);(first|exact CK|refine AZ ?_|(refine CL ?_ ?_ ?_;rotate_left)|refine A0 ?_ ?_|refine A1 ?_ ?_|refine At g1 ?_|refine At g2 ?_|refine At (St.Al ..) ?_|with_reducible refine WF ?_)<;>intros)
   all_goals exact DH gl rfl h
  |inr q=>
   obtain ⟨n,s'⟩:=q
   have kret:=λU hu=>kpan U 0 s' hu
   repeat' ((conv=>whnf);first|exact CK|(refine AZ ?_;intros)|(refine CL ?_ ?_ ?_;rotate_left)|(refine A0 ?_ ?_<;>intro e h)|(refine A1 ?_ ?_<;>intro _)|refine At k5 ?_|refine ⟨_,rfl,?_⟩|refine hq _ _ kle k4 (λU hu=>?_)|refine At (kret U hu).2.1 ?_|with_reducible refine WF ?_)
   obtain ⟨j5,j1,j2,j3,jle⟩:=kret U hu
   generalize hst7:U.Aa b1 (Az n)=st7
   have i1:st7.box b1=some (Az n):=by subst hst7;rw [St.Al]
   have i5:st7.box b5=some [.ptr b4 0]:=by subst hst7;rw [St.As n15];exact j5
   have i2:st7.box b2=some [.slice 4 (A5 Ew.AD) .full,.int .i64 Ew.pos,.slice 1 (ints Ew.Ca) .full,.int .i64 Ew.wait]:=by subst hst7;rw [St.As n12];exact j2
   have i3:(st7.Aa b2 s'.cells).box b3=some [.int .i64 0]:=by subst hst7;rw [St.As n23,St.As n13];exact j3
   have i4:Has st7 b4 s':=by
    subst hst7
    rcases hu.1 with e|⟨t,u,o1,o2,e',e⟩
    .exact .inl (by rw [St.As n14];exact e)
    .exact .inr ⟨t,u,o1,o2,e',by rw [St.As n14];exact e⟩
   have ile:st.le st7:=by subst hst7;exact St.Aq jle f1.1 _
   refine Aj (Vl Ad (B5 _) (λbs=>cC bs b1 b2 b3 b4 b5 (Az n) s'.cells) (cE st7 b2 b3 s'.cells) NI GE Yl (by rw [<-hst7];exact St.le_refl _) ?_ ?_)
   .skip
    unfold NI
    rcases i4 with i4|⟨t,u,q1,q2,q3,i4⟩
    all_goals repeat' (first|refine List.forall_mem_cons.2 ⟨?_,?_⟩|exact λ_ h=>nomatch h)
    repeat' ((conv=>whnf);(first|exact CK|refine AZ ?_|(refine CL ?_ ?_ ?_;rotate_left)|refine A0 ?_ ?_|refine A1 ?_ ?_|refine At i5 ?_|refine At i1 ?_|refine At i4 ?_|refine At i2 ?_|refine At i3 ?_|with_reducible refine WF ?_)<;>intros)
    all_goals conv=>whnf
    all_goals (refine ⟨Yl,?_⟩)
    all_goals first|exact St.le_refl _|exact Yf i1
   .refine Ai Ad (Ov (bp:=b5) ?_)
    have g1:((st7.Aa b2 s'.cells).Aa b3 [.int .i64 0]).box b1=some (Az n):=by rw [St.As n13.symm,St.As n12.symm];exact i1
    have g2:((st7.Aa b2 s'.cells).Aa b3 [.int .i64 0]).box b2=some s'.cells:=by rw [St.As n23.symm,St.Al]
    have gl:st.le ((st7.Aa b2 s'.cells).Aa b3 [.int .i64 0]):=St.Aq (St.Aq ile f2a.1 _) f3b.1 _
    repeat' ((conv=>whnf);(first|exact CK|refine AZ ?_|(refine CL ?_ ?_ ?_;rotate_left)|refine A0 ?_ ?_|refine A1 ?_ ?_|refine At g1 ?_|refine At g2 ?_|refine At (St.Al ..) ?_|with_reducible refine WF ?_)<;>intros)
    all_goals exact DH gl rfl h
end
def Dw (A:Rd Nd) (s:Af):Rs:=match A.run s with
 | .inl p=>.inl (p.1.1,p.2)
 | .inr p=>.inr p
section
variable {st0 st:St} {b c d:Nat} {s:Af} {K R:Ay->St->Prop}
theorem Cx.pM {st':St} (h:Has st' b s') (hr:∃cs,Rx (st.Aa b cs) st' []):∃U,GR st U b s'/\St.le U st':=by
 obtain ⟨cs,hr⟩:=hr
 have hb:=hr.le.1 b cs (St.Al ..)
 refine ⟨st.Aa b cs,⟨?_,cs,rfl⟩,hr.le⟩
 rcases h with e|⟨t,u,o1,o2,e0,e⟩
 .rw [hb] at e;injection e with e;subst e;exact .inl (St.Al ..)
 .rw [hb] at e;injection e with e;subst e;exact .inr ⟨t,u,o1,o2,e0,St.Al ..⟩
theorem UG {mk:Nat->List V} {A:Rd Nd} (hf:AO enc f mk A) (hs:Has st b s) (hm:mu s<=100000000) (ht:El st b K (Dw A s)):PC f (mk b) st K:=by
 refine A3.ends (hf.ap (Cx.start hs hm) (Rd.Y2 (λv s' e st' hc=>?_) (λe s' he st' hc=>?_)))
 .unfold Dw at ht
  rw [e] at ht
  obtain ⟨U,hu,hl⟩:=Cx.pM hc.has hc.rx
  exact ⟨_,U,.inl rfl,hl,ht U hu⟩
 .unfold Dw at ht
  rw [he] at ht
  obtain ⟨U,hu,hl⟩:=Cx.pM hc.has hc.rx
  exact ⟨_,U,.inl rfl,hl,ht U hu⟩
theorem oe {g:FuncId} {A:Rd Nd} (hA:AO enc g (λb=>[pv b d]) A) (hx:st.box c=some [.func g [] []]) (hs:Has st b s) (hm:mu s<=100000000) (ht:El st b K (Dw A s)):PC 210 [.ptr b 0,.int .i64 (d:Int),.ptr c 0] st K:=by
 have U:∀{K:Ay->St->Prop},El st b K (Dw A s)->PC g [pv b d] st K:=λh=>UG hA hs hm h
 refine pB Tryz.func210 ?_
 unfold Dw at *
 cases hr:A.run s with
 |inl p=>
  rw [hr] at ht U
  repeat' ((conv=>whnf);first|(refine AZ ?_;intros)|(refine A0 ?_ ?_<;>intro e h)|(refine A1 ?_ ?_<;>intro _)|refine At hx ?_|refine U (λst1 hu=>?_))
  all_goals exact ⟨_,_,.inl rfl,St.le_refl _,ht _ hu⟩
 |inr p=>
  rw [hr] at ht U
  repeat' ((conv=>whnf);first|(refine AZ ?_;intros)|(refine A0 ?_ ?_<;>intro e h)|(refine A1 ?_ ?_<;>intro _)|refine At hx ?_|refine U (λst1 hu=>?_))
  all_goals exact Be rfl (ht _ hu)
theorem dk {g:FuncId} {deep:Int} {A:Nat->Rd Nd} (hA:∀d:Nat,1<=d->d<=100->AO enc g (λb=>[pv b d]) (A d)) (hm:mu s<=100000000) (h:K (.ret (K4 (Ce s deep (Dw (A (DC deep)) s)))) st):
 PC 154 [Bn s,.int .i64 deep,.func g [] []] st K:=by
 refine AV Ad [] Tryz.func154 rfl Do rfl ?_
 refine Aj (Ai Ad ?_)
 repeat' ((conv=>whnf);(first|refine AZ ?_|refine A0 ?_ ?_|refine A1 ?_ ?_|fail)<;>intros)
 refine Kh 5 1 rfl rfl rfl (λc fc=>?_)
 refine Ai Ad ?_
 have hq:¬deep<1->∀(b:Nat) (U:St) (R:Ay->St->Prop),(st.Aa c [.func g [] []]).le U->Has U b s->El U b R (Dw (A (DC deep)) s)->PC 210 [.ptr b 0,.int .i64 (if 100<deep then 100 else deep),.ptr c 0] U R:=λhd b U R hle hs ht=>by
  have e:(if 100<deep then 100 else deep)=((DC deep:Nat):Int):=by unfold DC;split<;>omega
  rw [e]
  exact oe (hA _ (by unfold DC;split<;>omega) (by unfold DC;split<;>omega)) (hle.1 _ _ (St.Al ..)) hs hm ht
 obtain ⟨n,s',e,hq3⟩:∃n s' e,Ce s deep (Dw (A (DC deep)) s)=(n,s',e):=⟨_,_,_,rfl⟩
 rw [hq3] at h
 have hcat:∀{K:Ay->St->Prop},K (.ret (Qv n s' e)) (st.Aa c [.func g [] []])->PC 67 [Bn s,.int .i64 deep,.func 210 [] [.ptr c 0]] (st.Aa c [.func g [] []]) K:=λk=>XM (s:=s) (q:=Dw (A (DC deep)) s) hq (by rw [hq3];exact k)
 repeat' ((conv=>whnf);(first|refine AZ ?_|refine A0 ?_ ?_|refine A1 ?_ ?_|refine hcat ?_)<;>intros)
 all_goals exact DH (St.Aq (St.le_refl _) fc.1 _) rfl h
end
section
variable {d:Nat}
theorem cR {t:Tk} {st:St} {K:Ay->St->Prop} (h:K (.ret (.bool (FW t))) st):PC 361 [Ei t] st K:=by
 refine pB Tryz.func361 ?_
 repeat' ((conv=>whnf);(first|refine AZ ?_|refine A0 ?_ ?_|refine A1 ?_ ?_|refine KP ?_|refine RJ ?_)<;>intros)
 all_goals conv=>whnf
 all_goals (refine Ao h ?_;clear h;simp_all [FW])
theorem Zi {item:Rd Nd} (hi:AO enc 155 (λb=>[pv b d]) item) (U:Dv item):AO enc 295 (λb=>[pv b d]) (Dl FW item):=by
 refine ⟨λ{st0 b s st rows K} hc h=>?_⟩
 refine pB Tryz.func295 ?_
 repeat' ((conv=>whnf);(first|refine AZ ?_|refine A0 ?_ ?_|refine A1 ?_ ?_|exact ER|refine Ae ?_|refine Fe.go (by first|exact AO.q|exact (Oq (λh=>cR ‹_›) hi U).a) ?_ ?_)<;>intros)
theorem Zj {item:Rd Nd} (hi:AO enc 360 (λb=>[pv b d]) item) (U:Dv item):AO enc 416 (λb=>[pv b d]) (Dl FA item):=by
 refine ⟨λ{st0 b s st rows K} hc h=>?_⟩
 refine pB Tryz.func416 ?_
 repeat' ((conv=>whnf);(first|refine AZ ?_|refine A0 ?_ ?_|refine A1 ?_ ?_|exact ER|refine Ae ?_|refine Fe.go (by first|exact AO.q|exact (Oq (λh=>KP ‹_›) hi U).a) ?_ ?_)<;>intros)
theorem cu {item:Rd Nd} (hi:AO enc 415 (λb=>[pv b d]) item) (U:Dv item):AO enc 391 (λb=>[pv b d]) (Dl FA item):=by
 refine ⟨λ{st0 b s st rows K} hc h=>?_⟩
 refine pB Tryz.func391 ?_
 repeat' ((conv=>whnf);(first|refine AZ ?_|refine A0 ?_ ?_|refine A1 ?_ ?_|exact ER|refine Ae ?_|refine Fe.go (by first|exact AO.q|exact (Oq (λh=>KP ‹_›) hi U).a) ?_ ?_)<;>intros)
structure qo (D:Nat) (full:Rd Nd) (L:EP):Prop where
 atom:AO enc 288 (λb=>[pv b D]) (lL L)
 exp:AO enc 292 (λb=>[pv b D]) (P3 full L)
 ops:AO enc 212 (λb=>[pv b D]) (opsL L)
 stmt:AO enc 360 (λb=>[pv b D]) (Na full L)
 alt:AO enc 415 (λb=>[pv b D]) (ie full L)
 decl:AO enc 155 (λb=>[pv b D]) (FJ full L)
 decls:AO enc 295 (λb=>[pv b D]) (Dl FW (FJ full L))
 stmts:AO enc 416 (λb=>[pv b D]) (Dl FA (Na full L))
 alts:AO enc 391 (λb=>[pv b D]) (Dl FA (ie full L))
 Gn:∀o,AO enc 419 (λb=>[pv b D,enc o]) (Fk (eW L) full (P3 full L) o)
 list:∀o,AO enc 421 (λb=>[pv b D,enc o]) (QD (P3 full L) (Na full L) o)
theorem qx {full:Rd Nd} {L:EP} (hL:Ki d L) (hD:KI L) (hf:AO enc 289 (λb=>[pv b d]) full) (hF:Dv full):qo d full L:=by
 have atom:=im hL
 have dat:=K2 hD
 have U:=WU hL atom To
 have ops:=eY U
 have exp:=mZ U hf
 have stmt:=kO hL exp
 have alt:=mF hL ops exp stmt
 have decl:=iM hL atom dat ops (OI (Mc hD)) exp stmt hf
 exact ⟨atom,exp,ops,stmt,alt,decl,Zi decl (OG hF hD),Zj stmt (IY hF hD),cu alt (XV hF hD),λo=>Ri U hf exp,λo=>jO exp stmt⟩
theorem ph:∀d,d<=100->Ki (d+1) (Jb d)
 |0,_=>⟨Dt AC (λ_=>rfl) (λh=>absurd rfl h),Dt AC (λ_=>rfl) (λh=>absurd rfl h),Dt AC (λ_=>rfl) (λh=>absurd rfl h),Dt AC (λ_=>rfl) (λh=>absurd rfl h),
   Dt AC (λ_=>rfl) (λh=>absurd rfl h),Dt AC (λ_=>rfl) (λh=>absurd rfl h),λU hc h=>NP AC (λ_=>rfl) hc h (λh=>absurd rfl h),λU hc h=>NP AC (λ_=>rfl) hc h (λh=>absurd rfl h)⟩
 |d+1,h=>by
  have l:=qx (ph d AC) (RB d) (X8 (d:=d) AC) (K3 _)
  have no:∀{p:Prop},d+1=0->p:=λe=>by cases e
  exact ⟨Dt AC no λ_=>l.atom,Dt AC no λ_=>l.exp,Dt AC no λ_=>l.ops,Dt AC no λ_=>l.decls,Dt AC no λ_=>l.stmts,Dt AC no λ_=>l.alts,
   λU hc h=>NP AC no hc h λ_ K h=>fA (l.Gn _) U hc h,λU hc h=>NP AC no hc h λ_ K h=>aO (l.list _) U hc h⟩
theorem pd (U:1<=d) (h:d<=100):qo d (C4 d) (Jb (d - 1)):=by
 obtain ⟨d,rfl⟩:∃e,d=e+1:=⟨d - 1,AC⟩
 exact qx (ph d AC) (RB d) (X8 (d:=d) AC) (K3 _)
def S8 (d:Nat):Rd Nd:=FJ (C4 d) (Jb (d - 1))
def Vv (d:Nat):Rd Nd:=Dl FW (S8 d)
end
section
variable {st:St} {K:Ay->St->Prop} {s:Af} {deep:Int}
theorem lC (hm:mu s<=100000000) (h:K (.ret (K4 (Ce s deep (Dw (S8 (DC deep)) s)))) st):PC 85 [Bn s,.int .i64 deep] st K:=by
 refine pB Tryz.func85 ?_
 repeat' ((conv=>whnf);(first|refine AZ ?_|refine A0 ?_ ?_|refine A1 ?_ ?_|refine dk (s:=s) (A:=S8) (λd U h1=>(pd U h1).decl) hm ?_)<;>intros)
 all_goals exact Be rfl h
theorem gS (hm:mu s<=100000000) (h:K (.ret (K4 (Ce s deep (Dw (Vv (DC deep)) s)))) st):PC 228 [Bn s,.int .i64 deep] st K:=by
 refine pB Tryz.func228 ?_
 repeat' ((conv=>whnf);(first|refine AZ ?_|refine A0 ?_ ?_|refine A1 ?_ ?_|refine dk (s:=s) (A:=Vv) (λd U h1=>(pd U h1).decls) hm ?_)<;>intros)
 all_goals exact Be rfl h
end
end Go.Proofs.Z
namespace Go.Proofs.Z
open Go Go.Aw
open Rd (Ap)
def Vw:Nat->Rd Nd
 |0=>.fail GW
 |d+1=>Vv (d+1)
def oA (d:Nat):Rd Nd:=Qe (Ht d) (LY d) (Gf d) (C4 d) (S8 d) (Vw (d - 1))
def SK (top:Rd Nd) (l:List Nd):Rd Nd:=.look λs0=>.seq top λn=>if ((n.kind==50)&&l.any λx=> !(x.kind==50))=true then .H3 s0 GX else .ret n
def Gc (top:Rd Nd):Rd Nd:=NG YX (SK top)
def EB (d:Nat):Rd Nd:=Gc (oA d)
section
variable {s s0 s1:Af} {A:Rd Nd} {l:List Nd}
theorem Lf.pass {l:List Nd} (h:Lf l s0 s) (k:Lf [] s s1):Lf l s0 s1:=by
 have:=Lf.app h k
 rwa [List.append_nil] at this
theorem VI {A B C D E F:Rd Nd} (U:Rd.A2 E):Rd.A2 (Qe A B C D E F):=Rd.A2.look λs v s' h=>by
 split at h
 .rename_i hk
  rw [beq_iff_eq] at hk
  have ht:∀{v:Nd} {s':Af},AH.run s=.inr (v,s')->mu s'<mu s:=λe=>GH e AC
  (repeat' split at h)<;>first|exact Rd.A2.at (λ_ _ e=>ht e) h|exact U _ _ _ h
 .exact U _ _ _ h
theorem VH (d:Nat):Rd.A2 (oA d):=VI (OG (K3 _) (RB _)).lR
end
end Go.Proofs.Z
