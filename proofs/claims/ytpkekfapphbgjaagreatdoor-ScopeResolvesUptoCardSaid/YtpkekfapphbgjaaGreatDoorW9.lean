/-
  Parts of a proof: lemmas that the last text uses.
-/
import Derived.Test.YtpkekfapphbgjaaGreatDoorW8
import Derived.WalkKit
import Derived.LaidEql
import Derived.Stop.Asserts
import Derived.RowKitTokens
set_option linter.unusedVariables false
set_option linter.unusedSimpArgs false
set_option maxHeartbeats 16000000
variable {b U k:Nat} {o w:Go.Aw.AH} {l:List Go.Aw.Nd} {x n:Go.Aw.Nd} {K:Go.Aw.V->Go.Aw.St->Prop} {p e i side prec:Int} {ops:List (List UInt8)} {op r s:List UInt8} {env:List Go.Proofs.Z.Fx}
namespace Go.Proofs.Z
open Go Go.Aw
structure PU (st m:St) (o:AH) (l:List Fx):Prop where
 le:st.le m
 ok:match o with| .full=>True| .any=>False| .tok b=>st.fresh b/\m.hw b=some (l.length*3)
theorem HY {st m:St} (h:st.le m) (hb:m.fresh b):st.fresh b:=by
 refine ⟨?_,?_⟩
 .cases e:st.box b with
  |none=>rfl
  |some c=>have:=h.1 b c e;rw [hb.1] at this;cases this
 .cases e:st.hw b with
  |none=>rfl
  |some c=>have:=h.2 b c e;rw [hb.2] at this;cases this
theorem PU.grow {st m U:St} {l:List Fx} (h:PU st m o l) (k:m.le U):PU st U o l:=⟨St.le_trans h.le k,by
 have:=h.ok
 cases o with
 |full=>trivial
 |any=>exact this
 |tok b=>exact ⟨this.1,k.2 _ _ this.2⟩⟩
theorem PU.app {st m:St} {l:List Fx} {x:Fx} (h:PU st m o l) (hb:l.length+1<=1000000000)
 (k:∀o' m',PU st m' o' (l++[x])->K (.slice 3 (Az (l++[x])) o') m'):Aj 3 32 (Az l) o [x.cells] m K:=by
 have el:∀l:List Fx,(Az l).length=l.length:=λl=>List.length_map ..
 have e:Az l++[x.cells].map (·.map V.JK)=Az (l++[x]):=by unfold Az;rw [List.map_append];rfl
 have hl:(l++[x]).length*3=((Az l).length+[x.cells].length)*3:=by rw [el,List.length_append];rfl
 refine ⟨by rw [el];show (l.length+1)*32<=_;omega,by rw [el];show l.length+1<DR;simp only [DR];omega,AY rfl ?_⟩
 cases o with
 |any=>exact h.ok.elim
 |full=>exact ⟨λe=>(by cases e),λ_=>.inl λb hf=>by
   rw [e]
   exact k _ _ ⟨St.Ec h.le (HY h.le hf).2 _,HY h.le hf,by rw [hl];simp [St.B0]⟩⟩
 |tok b=>
  obtain ⟨h1,h2⟩:=h.ok
  refine ⟨by rw [el];exact h2,.inl λb' hf=>?_⟩
  rw [e]
  have hld:st.le (m.Ek b):=⟨h.le.1,λy c hy=>by
   have hyb:y≠b:=λe=>by subst e;rw [h1.2] at hy;cases hy
   show (if y=b then none else m.hw y)=some c
   rw [if_neg hyb]
   exact h.le.2 _ _ hy⟩
  have U:st.fresh b':=hf.elim (λe=>e ▸ h1) (λe=>HY h.le e)
  exact k _ _ ⟨St.Ec hld U.2 _,U,by rw [hl];simp [St.B0]⟩
theorem TW {l:List Fx} {st:St} (hb:l.length<=900000000) (k:∀o m,PU st m o l->K (.slice 3 (Az l) o) m):Aj 3 32 [] .full (Az l) st K:=by
 have el:(Az l).length=l.length:=List.length_map ..
 have e:(Az l).map (·.map V.JK)=Az l:=by
  unfold Az
  rw [List.map_map]
  exact List.map_congr_left λx _=>rfl
 have U:((Az l).all λv=>v.all V.sc)=true:=by
  unfold Az
  rw [List.all_map,List.all_eq_true]
  intro x _;rfl
 refine ⟨by rw [el];show (0+l.length)*32<=_;omega,by rw [el];show 0+l.length<DR;simp only [DR];omega,AY U ⟨λe0=>?_,λ_=>.inl λb hf=>?_⟩⟩
 .have:l=[]:=by simpa [Az] using e0
  subst this
  exact k _ _ ⟨St.le_refl _,trivial⟩
 .rw [e,List.nil_append]
  exact k _ _ ⟨St.Ec (St.le_refl _) hf.2 _,hf,by rw [el,List.length_nil,Nat.zero_add];simp [St.B0]⟩
theorem M0 {b:Bool} {p q:Prop} (e:b=true) (h:p):Bw b p q:=e ▸ Wi h
theorem T3 {b:Bool} {p q:Prop} (e:b=false) (h:q):Bw b p q:=e ▸ Wj h
def ftC (f:Ft):List V:=[.int .i64 f.1,.int .i64 f.2.1,.int .i64 f.2.2]
structure gS (st m:St) (b:Nat) (f:Ft):Prop where
 le:st.le m
 box:m.box b=some (ftC f)
 new:st.box b=none
theorem gS.up {a st m:St} {f:Ft} (h:gS st m b f) (k:a.le st):gS a m b f:=⟨St.le_trans k h.le,h.box,by
 cases e:a.box b with
 |none=>rfl
 |some c=>have:=k.1 b c e;rw [h.new] at this;cases this⟩
abbrev rz (b:Nat):V:=.iface 91 (.ptr b 0)
section
variable {st:St} {R:As->St->Prop}
attribute [local irreducible] Go.Aw.Aj
theorem xd (hl:(A0 n).length<=100000000) (h:∀b st',gS st st' b (vM n e)->R (.ret (rz b)) st'):PC 92 [enc n,.int .i64 e] st R:=by
 refine DP Ac [9] Tryz.func92 rfl Do ?_
 unfold vM ZX at h
 cases hv:A0 n with
 |nil=>
  rw [hv] at h
  have U:∀{st:St} {R:As->St->Prop},R (.ret (.slice 4 (AU []) .any)) st->PC 19 [enc n] st R:=λh=>YE hl (by rw [hv];exact h)
  repeat' ((conv=>whnf);first|refine IU (n:=0) rfl ?_|exact Bi|(refine AE ?_;intros)|(refine Bj ?_ ?_ ?_;rotate_left)|refine D5 (λb fb=>?_)|refine U ?_|fail)
  all_goals exact AF rfl (h _ _ ⟨St.Ag (St.le_refl _) (by assumption:st.fresh _).1 _,St.Ai ..,(by assumption:st.fresh _).1⟩)
 |cons t r=>
  rw [hv] at h
  have U:∀{st:St} {R:As->St->Prop},R (.ret (.slice 4 (AU (t::r)) .any)) st->PC 19 [enc n] st R:=λh=>YE hl (by rw [hv];exact h)
  have hpos:(0:Int)<((r.length+1:Nat):Int):=AC
  repeat' ((conv=>whnf);first|refine IU (n:=r.length+1) (List.length_map ..) ?_|refine Wv hpos ?_|refine WB (l:=t::r) rfl Do ?_|exact Bi|(refine AE ?_;intros)|(refine Bj ?_ ?_ ?_;rotate_left)|refine D5 (λb fb=>?_)|refine U ?_|refine Al (St.Ai ..) ?_|refine Ab [(0,true),(1,true),(2,true),(3,true),(4,true),(5,true),(6,true),(7,true),(8,true),(9,true),(10,true),(11,true),(12,false),(13,true),(14,true),(15,false)] [] GE ?_|fail)
  all_goals exact AF rfl (h _ _ ⟨by simp only [St.set_set];exact St.Ag (St.le_refl _) (by assumption:st.fresh _).1 _,St.Ai ..,(by assumption:st.fresh _).1⟩)
theorem Qj (h:R (.ret (.slice 6 (Bg (if 0<=i then DN n i.toNat else [])) .any)) st):PC 132 [enc n,.int .i64 i] st R:=by
 refine pB Tryz.func132 ?_
 by_cases U:0<=i
 .rw [if_pos U] at h
  unfold DN at h
  by_cases hlt:i<n.kids.length
  .obtain ⟨x,hx⟩:∃x,n.kids[i.toNat]? =some x:=⟨_,List.getElem?_eq_getElem AC⟩
   rw [hx] at h
   dsimp only at h
   by_cases hk:x.kind=2
   .rw [if_pos hk] at h
    repeat' ((conv=>whnf);first|(refine AE ?_;intros)|refine Wm hx U ?_)
    all_goals exact AF rfl h
   .rw [if_neg hk] at h
    repeat' ((conv=>whnf);first|(refine AE ?_;intros)|refine Wm hx U ?_)
    all_goals exact AF rfl h
  .rw [List.getElem?_eq_none AC] at h
   repeat' ((conv=>whnf);first|(refine AE ?_;intros)|fail)
   all_goals exact AF rfl h
 .rw [if_neg U] at h
  repeat' ((conv=>whnf);first|(refine AE ?_;intros)|fail)
  all_goals exact AF rfl h
theorem Yv (n:Nd):(if 0<=(n.kids.length:Int) - 1 then DN n ((n.kids.length:Int) - 1).toNat else [])=CP n:=by
 unfold CP DN
 rw [List.getLast?_eq_getElem?]
 by_cases h:n.kids.length=0
 .rw [if_neg AC,List.getElem?_eq_none AC]
 .rw [if_pos AC,show ((n.kids.length:Int) - 1).toNat=n.kids.length - 1 by omega]
theorem nU (hi:i=(n.kids.length:Int) - 1) (h:R (.ret (.slice 6 (Bg (CP n)) .any)) st):PC 132 [enc n,.int .i64 i] st R:=by
 subst hi
 exact Qj (by rw [Yv];exact h)
theorem gN (h:R (.ret (.slice 6 (Bg (Ib n)) .any)) st):PC 133 [enc n] st R:=by
 refine pB Tryz.func133 ?_
 unfold Ib at h
 rw [List.getLast?_eq_getElem?] at h
 by_cases h0:n.kids.length=0
 .rw [List.getElem?_eq_none AC] at h
  repeat' ((conv=>whnf);first|(refine AE ?_;intros)|fail)
  all_goals exact AF rfl h
 .obtain ⟨x,U⟩:∃x,n.kids[((n.kids.length:Int) - 1).toNat]? =some x:=⟨_,List.getElem?_eq_getElem AC⟩
  rw [show n.kids[n.kids.length - 1]? =some x by rw [<-U];congr 1;omega] at h
  dsimp only at h
  by_cases hk:x.kind=31
  .rw [if_pos hk] at h
   repeat' ((conv=>whnf);first|(refine AE ?_;intros)|refine Wm U AC ?_|refine nU rfl ?_)
   all_goals exact AF rfl h
  .rw [if_neg hk] at h
   repeat' ((conv=>whnf);first|(refine AE ?_;intros)|refine Wm U AC ?_)
   all_goals exact AF rfl h
theorem mv {l:List Fx} {own:AH} (hb:l.length<=900000000) (h:∀o m,PU st m o l->R (.ret (.slice 3 (Az l) o)) m):PC 174 [.slice 3 (Az l) own] st R:=by
 refine pB Tryz.func174 ?_
 repeat' ((conv=>whnf);first|  refine wW (λ_=>?_) ?_|fail)
 .have:l=[]:=by simpa [Az] using ‹Az l=[]›
  subst this
  exact fin (h .full _ ⟨St.le_refl _,trivial⟩) rfl
 .exact TW hb λo m U=>fin (h o m U) rfl
theorem gG {f g:Fx} (hb:st.box b=some f.cells) (h:R (.ret (.bool (g.op==f.op))) st):PC 177 [.agg g.cells,.ptr b 0] st R:=by
 refine pB Tryz.func177 ?_
 repeat' ((conv=>whnf);first|  (refine Bb ?_ ?_<;>intro _)|refine Al hb ?_)
 all_goals conv=>whnf
 all_goals (refine AB h ?_;clear h;simp_all)
def Pp (p:Fx->Bool):List Fx->Nat->Int
 |[],_=> -1
 |x::r,i=>if p x then (i:Int) else Pp p r (i+1)
theorem Uo {p:Fx->Bool}:∀{l:List Fx} {i:Nat},decide (0<=Pp p l i)=l.any p
 |[],i=>rfl
 |x::r,i=>by
  rw [Pp,List.any_cons]
  cases h:p x with
  |true=>simp
  |false=>simpa [h] using Uo (l:=r)
theorem xL {f:Fx} {l:List Fx} {own:AH} (hb:st.box b=some f.cells) (h:R (.ret (.int .i64 (Pp (λg=>g.op==f.op) l 0))) st):PC 213 [.slice 3 (Az l) own,.func 177 [] [.ptr b 0]] st R:=by
 refine pB Tryz.func213 ?_
 repeat' ((conv=>whnf);first|(refine AE ?_;intros)|refine BK (λ_=>?_))
 refine KU 8 [6,7,0,1] l.length (λk=>k<=l.length/\Pp (λg=>g.op==f.op) l 0=Pp (λg=>g.op==f.op) (l.drop k) k) ⟨Nat.zero_le _,rfl⟩ Yl ?_
 rintro k ⟨hk,hi⟩
 by_cases U:k<l.length
 .obtain ⟨x,hx⟩:∃x,l[(k:Int).toNat]? =some x:=⟨_,List.getElem?_eq_getElem U⟩
  rw [drop_at (show l[k]? =some x from hx),Pp] at hi
  cases ht:x.op==f.op with
  |true=>
   rw [ht,if_pos rfl] at hi
   rw [hi] at h
   repeat' ((conv=>whnf);first|refine M0 ht ?_|(refine AE ?_;intros)|refine Cz hx AC ?_|refine gG hb ?_)
   all_goals exact fin h rfl
  |false=>
   rw [ht,if_neg Do] at hi
   repeat' ((conv=>whnf);first|refine T3 ht ?_|(refine AE ?_;intros)|refine Cz hx AC ?_|refine gG hb ?_|refine Wq (a:=(k:Int)+1) AC AC ?_)
   all_goals conv=>whnf
   all_goals exact ⟨k+1,⟨U,hi⟩,Nat.sub_lt_sub_left U (Nat.lt_succ_self k),Yl,St.le_refl _⟩
 .rw [List.drop_of_length_le AC,Pp] at hi
  rw [hi] at h
  repeat' ((conv=>whnf);first|(refine AE ?_;intros)|fail)
  all_goals exact fin h rfl
theorem lM {f:Fx} {l:List Fx} {own:AH} (hb:st.box b=some f.cells) (h:R (.ret (.bool (l.any λg=>g.op==f.op))) st):PC 176 [.slice 3 (Az l) own,.func 177 [] [.ptr b 0]] st R:=by
 refine pB Tryz.func176 ?_
 refine xL hb ?_
 have key:=Uo (p:=λg=>g.op==f.op) (l:=l) (i:=0)
 rw [<-key] at h
 refine Wh (λh1=>?_) (λh1=>?_)
 .rw [decide_eq_true h1] at h;exact fin h rfl
 .rw [decide_eq_false h1] at h;exact fin h rfl
end
def uP:List (Int×Int×List (List UInt8)):=[(2,9,[[46]]),(1,9,[[33,33]]),(2,8,[[94],[94,94],[42,42]]),(1,7,[[42],[47],[113,117,111,116],[114,101,109],[100,105,118],[109,111,100]]),(1,6,[[43],[45]]),(2,5,[[58],[43,43]]),(3,4,[[61,61],[47,61],[60],[60,61],[62,61],[62],[101,108,101,109],[110,111,116,69,108,101,109]]),(2,3,[[38,38]]),(2,2,[[124,124]]),(1,1,[[62,62],[62,62,61]]),(2,1,[[61,60,60]]),(2,0,[[36],[36,33],[115,101,113]])]
def Hk (l:List Fx) (side prec:Int) (ops:List (List UInt8)):List Fx:=l++ops.map λn=>⟨n,side,prec⟩
theorem jE {l:List Fx}:(Hk l side prec ops).length=l.length+ops.length:=by
 unfold Hk
 rw [List.length_append,List.length_map]
theorem Xe:uP.foldl (λl r=>Hk l r.1 r.2.1 r.2.2) []=IM:=bT GE
section
variable {st:St} {R:As->St->Prop}
attribute [local irreducible] Go.Aw.Aj
theorem NX (ht:BX n<=100000000) (h1:∀t,Hp n=some t->R (.ret (.Bc [.str t,.bool true])) st) (h2:Hp n=none->∀q,R (.ret (.Bc [.str q,.bool false])) st):PC 183 [enc n] st R:=by
 refine pB Tryz.func183 ?_
 by_cases hk:n.kind=18/\(n.kids.length=1\/n.kids.length=3)
 .obtain ⟨x,hx⟩:∃x,n.kids[((n.kids.length:Int) / 2).toNat]? =some x:=⟨_,List.getElem?_eq_getElem AC⟩
  have hn:=Y3 hk (x:=x) (by rw [<-hx];rfl)
  have hxt:x.text.length<=100000000:=by
   have:=Cp (List.mem_of_getElem? hx)
   have:=UO x
   have:=Ce n
   omega
  by_cases h3:x.kind=1
  .rw [if_pos h3] at hn
   cases hs:FA x.text with
   |some t=>
    rw [hs] at hn
    have U:∀{st:St} {R:As->St->Prop},(∀q,R (.ret (.Bc [.str q,.str t,.int .i64 0])) st)->PC 218 [.str x.text] st R:=λh=>Zz hxt (λt' e=>by rw [hs] at e;cases e;exact h) (λe=>by rw [hs] at e;cases e)
    repeat' ((conv=>whnf);first|exact Bi|(refine AE ?_;intros)|(refine Bj ?_ ?_ ?_;rotate_left)|(refine Bb ?_ ?_<;>intro _)|refine Wm hx AC ?_|refine U (λq=>?_)|refine Ao GE ?_|fail)
    all_goals first|exact fin (h1 _ hn) rfl|(exfalso;omega)
   |none=>
    rw [hs] at hn
    have U:∀{st:St} {R:As->St->Prop},R (.ret (.Bc [.str [],.str [],.int .i64 30])) st->PC 218 [.str x.text] st R:=λh=>Zz hxt (λt' e=>by rw [hs] at e;cases e) (λ_=>h)
    repeat' ((conv=>whnf);first|exact Bi|(refine AE ?_;intros)|(refine Bj ?_ ?_ ?_;rotate_left)|(refine Bb ?_ ?_<;>intro _)|refine Wm hx AC ?_|refine U ?_|refine Ao GE ?_|fail)
    all_goals first
     |exact fin (h1 _ (hn.trans (if_pos ⟨FS,FS⟩))) rfl
     |exact fin (h2 (hn.trans (if_neg (λe=>by simp_all))) _) rfl
     |(exfalso;omega)
  .rw [if_neg h3] at hn
   repeat' ((conv=>whnf);first|exact Bi|(refine AE ?_;intros)|(refine Bj ?_ ?_ ?_;rotate_left)|(refine Bb ?_ ?_<;>intro _)|refine Wm hx AC ?_|refine Ao GE ?_|fail)
   all_goals first|exact fin (h2 hn _) rfl|(exfalso;omega)
 .have hn:Hp n=none:=if_neg hk
  repeat' ((conv=>whnf);first|exact Bi|(refine AE ?_;intros)|(refine Bj ?_ ?_ ?_;rotate_left)|(refine Bb ?_ ?_<;>intro _)|refine Ao GE ?_|fail)
  all_goals first|exact fin (h2 hn _) rfl|(exfalso;omega)
theorem qv (ht:Bf l<=100000000) (h:R (.ret (.bool (CB true l))) st):PC 146 [.slice 6 (Bg l) w] st R:=by
 refine pB Tryz.func146 ?_
 repeat' ((conv=>whnf);first|(refine AE ?_;intros)|fail)
 refine B5 (α:=Nat) (λi=>[(3,.int .i64 (i:Nat))]) [0] (λ_=>[]) [] (λ_=>st) (λi=>i<=l.length/\CB true l=CB true (l.drop i)) (λi=>l.length - i) 0 ⟨Nat.zero_le _,rfl⟩ Yl (St.le_refl _) ?_
 rintro i ⟨hi,U⟩
 repeat' ((conv=>whnf);first|(refine AE ?_;intros)|fail)
 refine B5 (α:=Nat) (λi=>[(3,.int .i64 (i:Nat))]) [0] (λ_=>[]) [] (λ_=>st) (λj=>i<=j/\j<=l.length/\CB true l=CB true (l.drop j)) (λj=>l.length - j) i ⟨Nat.le_refl _,hi,U⟩ Yl (St.le_refl _) ?_
 clear U
 rintro j ⟨hij,hj,U⟩
 by_cases hlt:j<l.length
 .obtain ⟨x,hx⟩:∃x,l[(j:Int).toNat]? =some x:=⟨_,List.getElem?_eq_getElem hlt⟩
  have hli:(j:Int)<(l.length:Int):=AC
  have hge:¬(l.length:Int)<=(j:Int):=AC
  rw [drop_at (show l[j]? =some x from hx),CB] at U
  by_cases k19:x.kind=19
  .rw [if_pos k19] at U
   repeat' ((conv=>whnf);first|refine Wv hli ?_|(refine AE ?_;intros)|refine Wm hx AC ?_|refine Wq (a:=(j:Int)+1) AC AC ?_)
   all_goals conv=>whnf
   all_goals exact ⟨j+1,⟨AC,hlt,U⟩,Nat.sub_lt_sub_left hlt (Nat.lt_succ_self j),Yl,St.le_refl _⟩
  .rw [if_neg k19] at U
   by_cases k18:x.kind=18
   .rw [if_pos k18] at U
    rw [U] at h
    repeat' ((conv=>whnf);first|refine Wv hli ?_|refine Ww hge ?_|(refine AE ?_;intros)|refine Wm hx AC ?_)
    all_goals exact fin h rfl
   .rw [if_neg k18] at U
    by_cases hla:j+1=l.length
    .rw [List.drop_of_length_le AC,OP] at U
     rw [U] at h
     have hli2:(j:Int)+1=(l.length:Int):=AC
     repeat' ((conv=>whnf);first|refine Wv hli ?_|refine Ww hge ?_|(refine AE ?_;intros)|refine Wm hx AC ?_|refine Wq (a:=(j:Int)+1) AC AC ?_)
     all_goals first|exact fin h rfl|(exfalso;omega)
    .have hlt2:j+1<l.length:=AC
     obtain ⟨y,hy⟩:∃y,l[((j:Int)+1).toNat]? =some y:=⟨_,List.getElem?_eq_getElem AC⟩
     have hyt:BX y<=100000000:=Nat.le_trans (Cp (List.mem_of_getElem? hy)) ht
     rw [drop_at (show l[j+1]? =some y from hy),CB] at U
     cases hn:Hp y with
     |some t=>
      rw [hn] at U
      have hnm:∀{st:St} {R:As->St->Prop},R (.ret (.Bc [.str t,.bool true])) st->PC 183 [enc y] st R:=λh=>NX hyt (λt' e=>by rw [hn] at e;cases e;exact h) (λe=>by rw [hn] at e;cases e)
      repeat' ((conv=>whnf);first|refine Wv hli ?_|refine Ww hge ?_|(refine AE ?_;intros)|refine Wm hx AC ?_|refine Wm hy AC ?_|refine hnm ?_|refine Wq (a:=(j:Int)+1) AC AC ?_|refine Wq (a:=(j:Int)+1+1) AC AC ?_)
      all_goals conv=>whnf
      all_goals first|exact ⟨j+2,⟨AC,U⟩,Nat.sub_lt_sub_left AC AC,Yl,St.le_refl _⟩|(exfalso;omega)
     |none=>
      rw [hn] at U
      rw [U] at h
      have hnm:∀{st:St} {R:As->St->Prop},(∀q,R (.ret (.Bc [.str q,.bool false])) st)->PC 183 [enc y] st R:=λh=>NX hyt (λt' e=>by rw [hn] at e;cases e) (λ_=>h)
      repeat' ((conv=>whnf);first|refine Wv hli ?_|refine Ww hge ?_|(refine AE ?_;intros)|refine Wm hx AC ?_|refine Wm hy AC ?_|refine hnm (λq=>?_)|refine Wq (a:=(j:Int)+1) AC AC ?_)
      all_goals first|exact fin h rfl|(exfalso;omega)
 .rw [List.drop_of_length_le AC,OP] at U
  rw [U] at h
  have hli:¬(j:Int)<(l.length:Int):=AC
  have hge:(l.length:Int)<=(j:Int):=AC
  repeat' ((conv=>whnf);first|refine Ww hli ?_|refine Wv hge ?_|(refine AE ?_;intros)|fail)
  all_goals exact fin h rfl
theorem Fs {st0:St} {l:List Fx} (hx:PU st0 st o l) (hl:l.length<=1000) (hl2:ops.length<=1000)
 (h:∀o' m',PU st0 m' o' (Hk l side prec ops)->R (.ret (.slice 3 (Az (Hk l side prec ops)) o')) m'):PC 305 [.slice 3 (Az l) o,.int .i64 side,.int .i64 prec,.slice 1 (strs ops) w] st R:=by
 refine pB Tryz.func305 ?_
 repeat' ((conv=>whnf);first|(refine AE ?_;intros)|fail)
 refine B5 (α:=Nat×AH×St) (λy=>[(0,.slice 3 (Az (Hk l side prec (ops.take y.1))) y.2.1),(9,.int .i64 (y.1:Nat))]) [1,2,3] (λ_=>[]) [] (λy=>y.2.2) (λy=>y.1<=ops.length/\PU st0 y.2.2 y.2.1 (Hk l side prec (ops.take y.1))) (λy=>ops.length - y.1) (0,o,st) ⟨Nat.zero_le _,by rw [List.take_zero];unfold Hk;rw [List.map_nil,List.append_nil];exact hx⟩ (by dsimp only;rw [show Hk l side prec (ops.take 0)=l by rw [List.take_zero];unfold Hk;rw [List.map_nil,List.append_nil]];exact Yl) (St.le_refl _) ?_
 rintro ⟨i,o1,m1⟩ ⟨hi,U⟩
 dsimp only at hi U
 by_cases hlt:i<ops.length
 .obtain ⟨x,hx2⟩:∃x,ops[(i:Int).toNat]? =some x:=⟨_,List.getElem?_eq_getElem hlt⟩
  have hli:(i:Int)<(ops.length:Int):=AC
  have hml:(Hk l side prec (ops.take i)).length+1<=1000000000:=by rw [jE,List.length_take];omega
  have e:Hk l side prec (ops.take (i+1))=Hk l side prec (ops.take i)++[⟨x,side,prec⟩]:=by
   unfold Hk
   rw [List.take_add_one,show ops[i]? =some x from hx2,List.append_assoc]
   simp
  repeat' ((conv=>whnf);first|refine Wv hli ?_|(refine AE ?_;intros)|refine cp (λ_=>?_)|refine Z3 hx2 AC ?_|refine PU.app (x:=⟨x,side,prec⟩) U hml (λo2 m2 hx3=>?_)|refine Wq (a:=(i:Int)+1) AC AC ?_)
  all_goals conv=>whnf
  all_goals refine ⟨(i+1,o2,m2),⟨hlt,by dsimp only;rw [e];exact hx3⟩,Nat.sub_lt_sub_left hlt (Nat.lt_succ_self i),?_,St.le_refl _⟩
  all_goals dsimp only
  all_goals rw [e]
  all_goals exact Yl
 .have hli:¬(i:Int)<(ops.length:Int):=AC
  rw [List.take_of_length_le AC] at U
  have h2:=h _ _ U
  rw [show Hk l side prec ops=Hk l side prec (ops.take i) by rw [List.take_of_length_le AC]] at h2
  repeat' ((conv=>whnf);first|refine Ww hli ?_|(refine AE ?_;intros)|refine cp (λ_=>?_))
  all_goals exact fin h2 rfl
theorem pP (h:∀st',st.le st'->R (.ret (.slice 3 (Az IM) .any)) st'):PC 265 [] st R:=by
 rw [<-Xe] at h
 refine pB Tryz.func265 ?_
 repeat' ((conv=>whnf);first|  refine Fs (st0:=st) (l:=[]) (ops:=[[46]]) ⟨St.le_refl _,trivial⟩ Do Do (λo1 m1 U=>?_)|refine Fs (ops:=[[33,33]]) ‹_› GE Do (λo1 m1 U=>?_)|refine Fs (ops:=[[94],[94,94],[42,42]]) ‹_› GE Do (λo1 m1 U=>?_)|refine Fs (ops:=[[42],[47],[113,117,111,116],[114,101,109],[100,105,118],[109,111,100]]) ‹_› GE Do (λo1 m1 U=>?_)|refine Fs (ops:=[[43],[45]]) ‹_› GE Do (λo1 m1 U=>?_)|refine Fs (ops:=[[58],[43,43]]) ‹_› GE Do (λo1 m1 U=>?_)|refine Fs (ops:=[[61,61],[47,61],[60],[60,61],[62,61],[62],[101,108,101,109],[110,111,116,69,108,101,109]]) ‹_› GE Do (λo1 m1 U=>?_)|refine Fs (ops:=[[38,38]]) ‹_› GE Do (λo1 m1 U=>?_)|refine Fs (ops:=[[124,124]]) ‹_› GE Do (λo1 m1 U=>?_)|refine Fs (ops:=[[62,62],[62,62,61]]) ‹_› GE Do (λo1 m1 U=>?_)|refine Fs (ops:=[[61,60,60]]) ‹_› GE Do (λo1 m1 U=>?_)|refine Fs (ops:=[[36],[36,33],[115,101,113]]) ‹_› GE Do (λo1 m1 U=>?_))
 all_goals exact AF rfl (h _ (by assumption:PU _ _ _ _).le)
theorem bO (l:List Fx) (x:Fx):Hi (l++[x]) op=if x.op=op/\0<=x.prec/\x.prec<=9/\1<=x.side/\x.side<=3 then x else Hi l op:=by
 rw [RF]
 have:YX x=true↔0<=x.prec/\x.prec<=9/\1<=x.side/\x.side<=3:=by
  unfold YX
  simp only [Bool.and_eq_true,decide_eq_true_eq,and_assoc]
 simp only [this]
theorem uK (hl:env.length<=1000000000) (h:∀st',st.le st'->R (.ret (.agg (Hi env op).cells)) st'):PC 219 [.slice 3 (Az env) w,.str op] st R:=by
 refine pB Tryz.func219 ?_
 repeat' ((conv=>whnf);first|(refine AE ?_;intros)|(refine Bb ?_ ?_<;>intro _)|refine BK (λ_=>?_)|refine Wq (a:=(env.length:Int) - 1) AC AC ?_)
 refine B5 (α:=Nat) (λi=>[(5,.int .i64 ((i:Int) - 1))]) [0,1,4] (λ_=>[]) [0] (λ_=>st) (λi=>i<=env.length/\Hi env op=Hi (env.take i) op) (λi=>i) env.length ⟨Nat.le_refl _,by rw [List.take_length]⟩ Yl (St.le_refl _) ?_
 rintro i ⟨hi,hf⟩
 by_cases hpos:0<i
 .obtain ⟨k,rfl⟩:∃k,i=k+1:=⟨i - 1,AC⟩
  obtain ⟨x,hx⟩:∃x,env[(((k+1:Nat):Int) - 1).toNat]? =some x:=⟨_,List.getElem?_eq_getElem AC⟩
  have ht:env.take (k+1)=env.take k++[x]:=by
   rw [List.take_add_one,show env[k]? =some x by rw [<-hx];congr 1;omega];rfl
  rw [ht,bO] at hf
  have hge:(0:Int)<=((k+1:Nat):Int) - 1:=AC
  by_cases hc:x.op=op/\0<=x.prec/\x.prec<=9/\1<=x.side/\x.side<=3
  .rw [if_pos hc] at hf
   rw [hf] at h
   obtain ⟨c1,c2,c3,c4,c5⟩:=hc
   repeat' ((conv=>whnf);first|refine Wv hge ?_|(refine AE ?_;intros)|(refine Bb ?_ ?_<;>intro _)|refine Cz hx AC ?_)
   all_goals first|exact AF rfl (h _ (St.le_refl _))|(exfalso;omega)
  .rw [if_neg hc] at hf
   repeat' ((conv=>whnf);first|refine Wv hge ?_|(refine AE ?_;intros)|(refine Bb ?_ ?_<;>intro _)|refine Cz hx AC ?_|refine Wq (a:=((k+1:Nat):Int) - 1 - 1) AC AC ?_)
   all_goals conv=>whnf
   all_goals first|exact absurd ⟨FS,AC,AC,AC,AC⟩ hc|skip
   all_goals exact ⟨k,⟨AC,hf⟩,Nat.lt_succ_self k,by rw [show ((k+1:Nat):Int) - 1 - 1=(k:Int) - 1 by omega];exact Yl,St.le_refl _⟩
 .obtain rfl:i=0:=AC
  rw [List.take_zero] at hf
  rw [hf] at h
  have hk:Hi [] op=Ir op IM:=rfl
  rw [hk] at h
  generalize hL:IM=L at h
  have hkn:∀{st:St} {R:As->St->Prop},(∀st',st.le st'->R (.ret (.slice 3 (Az L) .any)) st')->PC 265 [] st R:=λh=>pP (by rw [hL];exact h)
  have hLl:L.length<=1000:=by rw [<-hL];decide +kernel
  clear hL hk hf
  have hli:¬(0:Int)<=((0:Nat):Int) - 1:=AC
  repeat' ((conv=>whnf);first|refine Ww hli ?_|(refine AE ?_;intros)|(refine Bb ?_ ?_<;>intro _)|refine hkn (λst1 hle1=>?_))
  refine B5 (α:=Nat) (λj=>[(7,.int .i64 (j:Nat))]) [1,4,6] (λ_=>[]) [0] (λ_=>st1) (λj=>j<=L.length/\Ir op L=Ir op (L.drop j)) (λj=>L.length - j) 0 ⟨Nat.zero_le _,rfl⟩ Yl (St.le_refl _) ?_
  rintro j ⟨hj,hf⟩
  by_cases hlt:j<L.length
  .obtain ⟨x,hx⟩:∃x,L[(j:Int).toNat]? =some x:=⟨_,List.getElem?_eq_getElem hlt⟩
   rw [drop_at (show L[j]? =some x from hx),Ir] at hf
   have U:(j:Int)<(L.length:Int):=AC
   by_cases h1:x.op=op
   .rw [if_pos h1] at hf
    rw [hf] at h
    repeat' ((conv=>whnf);first|refine Wv U ?_|(refine AE ?_;intros)|(refine Bb ?_ ?_<;>intro _)|refine BK (λ_=>?_)|refine Cz hx AC ?_)
    all_goals exact AF rfl (h _ hle1)
   .rw [if_neg h1] at hf
    repeat' ((conv=>whnf);first|refine Wv U ?_|(refine AE ?_;intros)|(refine Bb ?_ ?_<;>intro _)|refine BK (λ_=>?_)|refine Cz hx AC ?_|refine Wq (a:=(j:Int)+1) AC AC ?_)
    all_goals conv=>whnf
    all_goals exact ⟨j+1,⟨hlt,hf⟩,Nat.sub_lt_sub_left hlt (Nat.lt_succ_self j),Yl,St.le_refl _⟩
  .rw [List.drop_of_length_le AC,Ir] at hf
   rw [hf] at h
   have U:¬(j:Int)<(L.length:Int):=AC
   repeat' ((conv=>whnf);first|refine Ww U ?_|(refine AE ?_;intros)|(refine Bb ?_ ?_<;>intro _)|refine BK (λ_=>?_))
   all_goals exact AF rfl (h _ hle1)
end
end Go.Proofs.Z
namespace Go.Aw
open Go
theorem th {a:UInt8}:AV (a::r)=((a.toNat:Nat):Int):=rfl
theorem c9 (h:s.length<=2):BV s=(10,0):=by
 unfold BV
 rw [if_neg]
 rintro ⟨_,_,h3⟩
 exact h3 (by rw [List.drop_eq_nil_iff.2 h];rfl)
theorem Ol {a b:UInt8}:D8 (a::b::r)=if ((b.toNat:Nat):Int)=111\/((b.toNat:Nat):Int)=79 then 8 else if ((b.toNat:Nat):Int)=120\/((b.toNat:Nat):Int)=88 then 16 else 10:=rfl
theorem mC {b:UInt8} (h:b.toNat=111\/b.toNat=79\/b.toNat=120\/b.toNat=88):BE ((b.toNat:Nat):Int) 10<0:=by
 rcases h with h|h|h|h<;>(rw [h];decide)
theorem fL {a b:UInt8} (h:b.toNat=111\/b.toNat=79\/b.toNat=120\/b.toNat=88) (hn:Fy (a::b::r) 11=true):BV (a::b::r)≠(10,0):=λe=>by
 have h1:=(O8 hn).1
 rw [e] at h1
 replace h1:Bx 10 (a::b::r)=r.length+2:=h1
 rw [Bx,Bx,if_pos (mC h)] at h1
 split at h1<;>omega
theorem yt {a b:UInt8} (hb:b.toNat=111\/b.toNat=79) (hn:Fy (a::b::r) 11=true):BV (a::b::r)=(8,2):=by
 have U:D8 (a::b::r)=8:=by
  rw [Ol,if_pos AC]
 rcases H2 (a::b::r) with e|⟨e,_⟩|⟨_,e⟩
 .exact absurd e (fL AC hn)
 .exact e
 .rw [U] at e;cases e
theorem uD {a b:UInt8} (hb:b.toNat=120\/b.toNat=88) (hn:Fy (a::b::r) 11=true):BV (a::b::r)=(16,2):=by
 have U:D8 (a::b::r)=16:=by
  rw [Ol,if_neg AC,if_pos AC]
 rcases H2 (a::b::r) with e|⟨_,e⟩|⟨e,_⟩
 .exact absurd e (fL AC hn)
 .rw [U] at e;cases e
 .exact e
theorem fK {a b:UInt8} (hb:¬a.toNat=48\/¬(b.toNat=111\/b.toNat=79\/b.toNat=120\/b.toNat=88)):BV (a::b::r)=(10,0):=by
 unfold BV
 rw [if_neg]
 rintro ⟨h1,h2,_⟩
 rw [th] at h1
 refine h2 ?_
 rw [Ol,if_neg AC,if_neg AC]
end Go.Aw
namespace Go.Proofs.Z
open Go Go.Aw
section
variable {st:St} {R:As->St->Prop}
theorem p9 (hn:Fy s 11=true) (h:R (.ret (.Bc [.int .i64 (BV s).1,.int .i64 ((BV s).2:Nat)])) st):PC 216 [.str s] st R:=by
 refine pB Tryz.func216 ?_
 by_cases hl:s.length<=2
 .rw [c9 hl] at h
  repeat' ((conv=>whnf);(first|refine BS ?_|refine Dk ?_ ?_|refine WJ ?_)<;>intros)
  all_goals exact fin h rfl
 .obtain ⟨a,b,c,r,rfl⟩:∃a b c r,s=a::b::c::r:=by
   cases s with
   |nil=>exact absurd (Nat.zero_le _) hl
   |cons a s=>
    cases s with
    |nil=>exact absurd (by show 1<=2;omega) hl
    |cons b s=>
     cases s with
     |nil=>exact absurd (by show 2<=2;omega) hl
     |cons c r=>exact ⟨a,b,c,r,rfl⟩
  have h0:(a::b::c::r)[(0:Int).toNat]? =some a:=rfl
  have h1:(a::b::c::r)[(1:Int).toNat]? =some b:=rfl
  have hlen:(((a::b::c::r).length:Nat):Int)>2:=by simp only [List.length_cons];omega
  by_cases ha:((a.toNat:Nat):Int)=48
  .by_cases U:b.toNat=111\/b.toNat=79
   .rw [yt U hn] at h
    rcases U with U|U
    all_goals have U:((b.toNat:Nat):Int)=_:=congrArg Nat.cast U
    all_goals (repeat' ((conv=>whnf);(first|refine BS ?_|refine Dk ?_ ?_|refine WJ ?_|refine WL ‹_› AC ?_)<;>intros))
    all_goals exact fin h rfl
   .by_cases h16:b.toNat=120\/b.toNat=88
    .rw [uD h16 hn] at h
     repeat' ((conv=>whnf);(first|refine BS ?_|refine Dk ?_ ?_|refine WJ ?_|refine WL ‹_› AC ?_)<;>intros)
     all_goals exact fin h rfl
    .rw [fK (.inr AC)] at h
     repeat' ((conv=>whnf);(first|refine BS ?_|refine Dk ?_ ?_|refine WJ ?_|refine WL ‹_› AC ?_)<;>intros)
     all_goals exact fin h rfl
  .rw [fK (.inl AC)] at h
   repeat' ((conv=>whnf);(first|refine BS ?_|refine Dk ?_ ?_|refine WJ ?_|refine WL ‹_› AC ?_)<;>intros)
   all_goals exact fin h rfl
theorem ZG (hl:s.length<=4611686018427387903) (h:R (.ret (.bool (Fy s 11))) st):PC 215 [.str s,.int .i64 11] st R:=by
 refine pB Tryz.func215 ?_
 cases s with
 |nil=>
  have hz:((([]:List UInt8).length:Nat):Int)=0:=rfl
  have h0:∀{st:St} {R:As->St->Prop},R (.ret (.Bc [.int .i64 0,.int .i64 0])) st->PC 260 [.str [],.int .i64 0] st R:=λh=>by
   refine pB Tryz.func260 ?_
   repeat' ((conv=>whnf);(first|refine BS ?_|refine Dk ?_ ?_|refine WJ ?_)<;>intros)
   all_goals exact fin h rfl
  repeat' ((conv=>whnf);(first|refine BS ?_|refine Dk ?_ ?_|refine h0 ?_|refine WJ ?_)<;>intros)
  all_goals exact fin h rfl
 |cons a r=>
  have hk:(Fy (a::r) 11=true↔(Gs (a::r) 0).1=11/\(Gs (a::r) 0).2=(((a::r).length:Nat):Int)):=by
   rw [Jp]
   unfold Gs
   rw [List.drop_zero]
   split
   .rename_i e
    rw [e]
    constructor
    .intro h;exact absurd h.1 Do
    .intro h;exact absurd h.1 (by show ¬(0:Int)=11;decide)
   .simp only [Nat.zero_add]
    constructor
    .rintro ⟨h1,h2⟩;exact ⟨h1,by rw [h2]⟩
    .rintro ⟨h1,h2⟩;exact ⟨h1,AC⟩
  have hpos:(((a::r).length:Nat):Int)>0:=by simp only [List.length_cons];omega
  have U:∀{st:St} {R:As->St->Prop},R (.ret (.Bc [.int .i64 (Gs (a::r) 0).1,.int .i64 (Gs (a::r) 0).2])) st->PC 260 [.str (a::r),.int .i64 0] st R:=λh=>yH (pos:=0) hl (by rw [List.length_cons];omega) h
  generalize Gs (a::r) 0=q at hk U
  repeat' ((conv=>whnf);(first|refine BS ?_|refine Dk ?_ ?_|refine U ?_|refine WJ ?_)<;>intros)
  all_goals conv=>whnf
  all_goals refine AB h ?_
  all_goals clear h U
  all_goals first
   |exact hk.2 ⟨FS,FS⟩
   |(apply Bool.eq_false_iff.2;intro e;have:=hk.1 e;omega)
theorem pG {pos:Nat} {a:UInt8} {b:Int} (hb:b<=16) (U:s[pos]? =some a) (hr:Bx b (s.drop pos)=s.length - pos) (k:∀d,d=BE ((a.toNat:Nat):Int) b->0<=d->d<b->R (.ret (.int .i64 d)) st):PC 217 [.int .i64 ((a.toNat:Nat):Int),.int .i64 b] st R:=by
 have hn:¬BE ((a.toNat:Nat):Int) b<0:=λe=>by
  rw [QA U,if_pos e] at hr
  have:=(List.getElem?_eq_some_iff.1 U).1
  omega
 obtain ⟨h1,h2,_⟩:=Ub hb hn
 exact Zq (k _ rfl h1 h2)
theorem ZH (h:R (.ret (.Bc [.int .i64 (CH s).1,.int .i64 (CH s).2])) st):PC 182 [.str s] st R:=by
 refine UB ⟨_,Tryz.func182,Do,Do⟩ λhl0=>?_
 have hl:s.length<=4611686018427387903:=AC
 refine pB Tryz.func182 ?_
 cases hn:Fy s 11 with
 |false=>
  have hw:CH s=(0,40):=by
   unfold CH
   rw [if_neg λe=>?_]
   rw [Jp.2 e] at hn;cases hn
  rw [hw] at h
  have hwh:∀{st:St} {R:As->St->Prop},R (.ret (.bool false)) st->PC 215 [.str s,.int .i64 11] st R:=λh=>ZG hl (by rw [hn];exact h)
  repeat' ((conv=>whnf);first|(refine BS ?_;intros)|(refine Dk ?_ ?_<;>intro _)|refine hwh ?_)
  all_goals exact fin h rfl
 |true=>
  obtain ⟨hr,hle⟩:=O8 hn
  have key:∀(b:Int) (n:Nat),BV s=(b,n)->b=10\/b=8\/b=16:=λb n e=>by
   rcases H2 s with h|⟨h,_⟩|⟨h,_⟩<;>(rw [h] at e;cases e;omega)
  have hwh:∀{st:St} {R:As->St->Prop},R (.ret (.bool true)) st->PC 215 [.str s,.int .i64 11] st R:=λh=>ZG hl (by rw [hn];exact h)
  have hpa:=λ{st:St} {R:As->St->Prop}=>p9 (st:=st) (R:=R) hn
  generalize hp:BV s=p at hr hle hpa
  obtain ⟨b,n⟩:=p
  dsimp only at hr hle hpa
  have hb:=key b n hp
  rw [UZ hn hp] at h
  clear hp key
  repeat' ((conv=>whnf);first|(refine BS ?_;intros)|(refine Dk ?_ ?_<;>intro _)|refine hwh ?_|refine hpa ?_)
  refine KT (α:=Nat) (β:=Int) (λpos v=>[(5,.int .i64 (pos:Nat)),(6,.int .i64 v)]) (λpos v=>[]) [0,4] [] (λ_ _=>st) (λpos v=>pos<=s.length/\Bx b (s.drop pos)=s.length - pos/\GI b (s.drop n) 0=GI b (s.drop pos) v/\0<=v/\v<=4611686018427387904) (λpos v=>s.length - pos) n 0 ⟨hle,hr,rfl,AC,AC⟩ Yl (St.le_refl _) ?_
  rintro pos v ⟨j1,j2,j3,j4,j5⟩
  rw [j3] at h
  have hb0:0<b:=AC
  by_cases hlt:pos<s.length
  .obtain ⟨a,ha⟩:∃a,s[((pos:Nat):Int).toNat]? =some a:=⟨_,List.getElem?_eq_getElem hlt⟩
   have ha':s[pos]? =some a:=ha
   have ha256:a.toNat<256:=a.toNat_lt
   have hg:GI b (s.drop pos) v=if (4611686018427387904 - BE ((a.toNat:Nat):Int) b) / b<v then (0,3) else GI b (s.drop (pos+1)) (v*b+BE ((a.toNat:Nat):Int) b):=by rw [drop_at ha',GI]
   have hr1:=QA (base:=b) ha'
   repeat' ((conv=>whnf);first|(refine BS ?_;intros)|(refine Dk ?_ ?_<;>intro _)|refine WJ (λ_=>?_)|refine WL ‹_› AC ?_|refine pG AC ha' j2 (λd hd0 hd1 hd2=>?_)|refine Wr hb0 AC AC ?_|refine wc hb j4 hd1 hd2 AC ?_|refine vK hb j4 hd1 hd2 AC ?_|refine Wq (a:=(pos:Int)+1) AC AC ?_)
   .rename_i U
    rw [hg,<-hd0,if_pos U] at h
    exact fin h rfl
   .rename_i U
    have hf:=vV hb j4 hd1 hd2 U
    rw [<-hd0,if_neg U] at hg
    rw [<-hd0,if_neg AC] at hr1
    conv=>whnf
    exact ⟨(pos+1,v*b+d),⟨RL,RL,by rw [j3,hg],hf.1,hf.2⟩,RL,Yl,St.le_refl _⟩
  .skip
   repeat' ((conv=>whnf);first|(refine BS ?_;intros)|(refine Dk ?_ ?_<;>intro _)|refine WJ (λ_=>?_))
   rw [List.drop_eq_nil_iff.2 AC] at h
   all_goals exact fin h rfl
end
theorem Rk (x:Nd):(AK x).length=6:=rfl
def KZ (l:List Nd) (n:Nat):List V:=(l.map AK).flatten++(List.replicate (n - l.length) CX).flatten
theorem OA:∀l:List Nd,(l.map AK).flatten.length=l.length*6
 |[]=>rfl
 |x::r=>by rw [List.map_cons,List.flatten_cons,List.length_append,OA r,Rk,List.length_cons];omega
theorem Zr:∀n:Nat,(List.replicate n CX).flatten.length=n*6
 |0=>rfl
 |n+1=>by rw [List.replicate_succ,List.flatten_cons,List.length_append,Zr n];show 6+_=_;omega
theorem Sw {n:Nat} (h:l.length<=n):(KZ l n).length=n*6:=by
 unfold KZ
 rw [List.length_append,OA,Zr];omega
theorem ux {n:Nat} (h:l.length<=n):OK (KZ l n)=true:=by
 have:=Sw h
 match KZ l n,this with
 |[],_=>rfl
 |[v],e=>rw [List.length_singleton] at e;omega
 |a::b::r,_=>rfl
theorem yk {n:Nat}:(List.replicate n CX).flatten=KZ [] n:=by
 unfold KZ
 rw [List.map_nil,List.flatten_nil,List.nil_append,List.length_nil,Nat.sub_zero]
theorem oV {n:Nat} (h:l.length=n):KZ l n=(l.map AK).flatten++[]:=by
 unfold KZ
 rw [h,Nat.sub_self];rfl
theorem oW {n:Nat} (h:l.length<n):(KZ l n).take (l.length*6)++AK x++(KZ l n).drop (l.length*6+6)=KZ (l++[x]) n:=by
 unfold KZ
 have e:=OA l
 rw [<-e,List.take_left,show (l.map AK).flatten.length+6=((l.map AK).flatten).length+6 from rfl,List.drop_append,List.length_append,List.length_singleton,List.map_append,List.flatten_append]
 rw [show n - l.length=(n - (l.length+1))+1 by omega,List.replicate_succ,List.flatten_cons]
 rw [List.drop_of_length_le AC,List.nil_append,show (l.map AK).flatten.length+6 - (l.map AK).flatten.length=6 by omega]
 simp [CX]
theorem Z0 {n:Nat} {K:List V->Prop} (U:l.length=k) (h:k<n) (kk:K (KZ (l++[x]) n)):Bu (KZ l n) (k*6) (AK x) K:=by
 subst U
 unfold Bu
 refine AY (ux AC) (AY (by rw [Nat.ble_eq,Sw AC,Rk];omega) (AY rfl (Bl.2 ?_)))
 rw [Rk,oW h]
 exact kk
theorem R8 {st m:St} (h:st.le m) (h0:st.box b=none):st.le (m.GN b):=⟨λy c hy=>by
 have U:y≠b:=λe=>by simp_all
 show (if y=b then none else m.box y)=some c
 rw [if_neg U]
 exact h.1 _ _ hy,h.2⟩
theorem YF (a b:List (List UInt8)):Lib.lens (a++b)=Lib.lens a+Lib.lens b:=by simp [Lib.lens]
theorem oe {p:Nat} {x y:Lx} (hv:Vd s) (hp:B8 s p) (h:x.AL.length<=p/\Lib.lens (x.AL.map Tk.text)<=p) (e:Ge s p x=.inr y):y.AL.length<=s.length/\Lib.lens (y.AL.map Tk.text)<=s.length:=by
 have hpl:=hp.le
 fun_induction Ge s p x with
 |case1 p x U h1=>cases e
 |case2 p x U h1 h2 h3 ih=>
  obtain ⟨q,e1,e2,e3,e4⟩:=Zb hv hp AC h2
  have eq:(CV s p).1.toNat=q:=AC
  rw [eq] at ih e
  have hb:=Lj e3
  exact ih (e4.xh hv) ⟨by show x.AL.length<=_;omega,by show Lib.lens (x.AL.map Tk.text)<=_;omega⟩ e hb.2
 |case3 p x U h1 h2 h3=>injection e with e;subst e;omega
 |case4 p x U h1 h2 h3=>cases e
 |case5 p x U h1 h2 h3 h4 ih=>
  obtain ⟨e0,q,e1,e2,e3,e4⟩:=YJ hv hp AC
  have eq:(Ck s p).2.1.toNat=q:=AC
  rw [eq] at ih e
  have hb:=Lj e3
  have hpc:(Br s p q).length=q - p:=Jx AC e3
  have l1:(ai s p q (Ck s p).1 x).AL.length=x.AL.length+1:=by simp [ai]
  have l2:Lib.lens ((ai s p q (Ck s p).1 x).AL.map Tk.text)=Lib.lens (x.AL.map Tk.text)+(q - p):=by
   show Lib.lens ((x.AL++[_]).map Tk.text)=_
   rw [List.map_append,YF]
   simp [Lib.lens,hpc]
  exact ih (e4.xh hv) ⟨AC,AC⟩ e hb.2
 |case6 p x U h1 h2 h3 h4=>injection e with e;subst e;omega
 |case7 p x U=>injection e with e;subst e;omega
theorem YH {y:Lx} (e:F2 s=.inr y):y.AL.length<=s.length/\Lib.lens (y.AL.map Tk.text)<=s.length:=by
 have ok:=tL e
 unfold F2 at e
 split at e
 .cases e
 .split at e
  .cases e
  .split at e
   .cases e
   .exact oe ok.2.1 (B8.xh ok.2.1 (.zero s)) ⟨Nat.zero_le _,Nat.zero_le _⟩ e
theorem jo {p:Nat} {x:Lx} (h:Ge s p x=.inl (i,e)):e≠0:=by
 fun_induction Ge s p x with
 |case1 p x U h1=>injection h with h;injection h with h h';omega
 |case2 p x U h1 h2 h3 ih=>exact ih h
 |case3 p x U h1 h2 h3=>cases h
 |case4 p x U h1 h2 h3=>injection h with h;injection h with h h';omega
 |case5 p x U h1 h2 h3 h4 ih=>exact ih h
 |case6 p x U h1 h2 h3 h4=>cases h
 |case7 p x U=>cases h
theorem YG (h:F2 s=.inl (i,e)):e≠0:=by
 unfold F2 at h
 split at h
 .injection h with h;injection h with h U;omega
 .split at h
  .rename_i h2
   injection h with h
   rw [h] at h2;exact h2
  .split at h
   .injection h with h;injection h with h U;omega
   .exact jo h
section
variable {st:St} {R:As->St->Prop}
theorem zQ (hs:F2 s=.inl (i,e)) (h:∀st',st.le st'->R (.ret (.Bc [.slice 4 [] .full,.slice 5 [] .full,.int .i64 i,.int .i64 e])) st'):PC 18 [.str s] st R:=by
 refine vZ (λi' e' U=>?_) (λi' e' st' hle U=>?_) (λx w1 w2 st' U=>?_)
 .rw [hs] at U;injection U with U;injection U with e1 e2;subst e1;subst e2;exact h st (St.le_refl _)
 .rw [hs] at U;injection U with U;injection U with e1 e2;subst e1;subst e2;exact h st' hle
 .rw [hs] at U;cases U
theorem zR {x:Lx} (hs:F2 s=.inr x) (h:∀w1 w2 st',st.le st'->R (.ret (.Bc [.slice 4 (AU x.AL) w1,.slice 5 (HU x.notes) w2,.int .i64 0,.int .i64 0])) st'):PC 18 [.str s] st R:=by
 refine vZ (λi' e' U=>?_) (λi' e' st' hle U=>?_) (λx w1 w2 st' U hle=>?_)
 .rw [hs] at U;cases U
 .rw [hs] at U;cases U
 .rw [hs] at U;injection U with U;subst U;exact h w1 w2 st' hle
end
theorem jS (l:List UInt8):0<=(Ar l).1/\(Ar l).1<16:=by
 unfold Ar H6
 (repeat' split)<;>(dsimp only;omega)
theorem pC (k:Int):0<=BZ k/\BZ k<16:=by
 unfold BZ
 (repeat' split)<;>decide
theorem qe {n:Nat} {k:Int} (h:0<=k/\k<16):0<=(Co s n k).1/\(Co s n k).1<16:=by
 fun_induction Co s n k with
 |case1 n k hn U ih=>exact ih (pC _)
 |case2 n k hn U=>exact h
 |case3 n k hn=>exact h
theorem tR {p:Nat} (h:(Ck s p).2.2=0):0<(Ck s p).1/\(Ck s p).1<16:=by
 unfold Ck at h |-
 split
 .rename_i h1
  show 0<(Gs s p).1/\(Gs s p).1<16
  unfold Gs at h1 |-
  split
  .rename_i h2;rw [if_pos h2] at h1;exact absurd rfl h1
  .rename_i h2
   show 0<(DO (s.drop p)).1/\(DO (s.drop p)).1<16
   unfold DO at h2 |-
   split
   .dsimp only;omega
   .rename_i h3
    rw [if_neg h3] at h2
    split
    .rename_i h4;rw [if_pos h4] at h2;exact absurd rfl h2
    .show 0<(if _ then (12:Int) else 11)/\(if _ then (12:Int) else 11)<16
     split<;>exact ⟨Do,Do⟩
 .rename_i h1
  rw [if_neg h1] at h
  split
  .rename_i h2
   rw [if_pos h2] at h
   split
   .rename_i h3;rw [if_pos h3] at h;exact absurd h (show ¬(70:Int)=0 by decide)
   .rename_i h3
    show 0<(CT s p).1/\(CT s p).1<16
    unfold CT at h3 |-
    split
    .rename_i h4;rw [if_pos h4] at h3;exact absurd rfl h3
    .rename_i h4
     have:=qe (s:=s.drop p) (n:=(Ar (s.drop p)).2) (jS (s.drop p))
     show 0<(AO (s.drop p)).1/\(AO (s.drop p)).1<16
     unfold AO at h4 |-
     omega
  .rename_i h2
   rw [if_neg h2] at h
   have U:(Cm s p).1=0\/(Cm s p).1=14\/(Cm s p).1=13:=by
    unfold Cm
    (repeat' split)<;>simp
   omega
theorem tN {p:Nat} {x y:Lx} (h:∀t ∈ x.AL,0<t.kind/\t.kind<16) (e:Ge s p x=.inr y):∀t ∈ y.AL,0<t.kind/\t.kind<16:=by
 fun_induction Ge s p x with
 |case1 p x U h1=>cases e
 |case2 p x U h1 h2 h3 ih=>exact ih h e
 |case3 p x U h1 h2 h3=>injection e with e;subst e;exact h
 |case4 p x U h1 h2 h3=>cases e
 |case5 p x U h1 h2 h3 h4 ih=>
  refine ih (λt ht=>?_) e
  rcases List.mem_append.1 (show t ∈ x.AL++[_] from ht) with ht|ht
  .exact h t ht
  .rw [List.mem_singleton.1 ht];exact tR AC
 |case6 p x U h1 h2 h3 h4=>injection e with e;subst e;exact h
 |case7 p x U=>injection e with e;subst e;exact h
theorem tK {y:Lx} (e:F2 s=.inr y):∀t ∈ y.AL,0<t.kind/\t.kind<16:=by
 unfold F2 at e
 split at e
 .cases e
 .split at e
  .cases e
  .split at e
   .cases e
   .exact tN (λt U=>by cases U) e
theorem SW:∀(l:List Nd) (x:Nd),AD (l++[x])=AD l+x.size
 |[],x=>by rw [List.nil_append,AD,AD,AD];omega
 |a::l,x=>by rw [List.cons_append,AD,AD,SW l x];omega
theorem ZM (h:l[k]? =some x):AD (l.take (k+1))=AD (l.take k)+x.size:=by
 rw [List.take_add_one,h]
 exact SW _ x
theorem MH:∀(l:List Nd) (k:Nat),AD (l.take k)<=AD l
 |[],k=>by rw [List.take_nil];exact Nat.le_refl _
 |a::l,0=>by rw [List.take_zero,AD];omega
 |a::l,k+1=>by rw [List.take_succ_cons,AD,AD];have:=MH l k;omega
theorem Nk {a b:Int} {K:Int->Prop} (e:a=b) (U: -9223372036854775808<=b) (h1:b<=9223372036854775807) (k:K b):∃r,r=IntKind.i64.wrap a/\K r:=by
 subst e;exact Wq U h1 k
section
variable {st:St} {R:As->St->Prop}
attribute [local irreducible] Go.Aw.Aj
theorem gi:∀(m:Nat) {n:Nd} {st:St} {R:As->St->Prop},n.size<=m->n.size<=1000000000->R (.ret (.int .i64 (n.size:Nat))) st->PC 22 [enc n] st R:=by
 intro m
 induction m with
 |zero=>intro n st R hm;cases n;rw [Nd.size] at hm;omega
 |succ m ih=>
  intro n st R hm hz h
  have hsz:n.size=1+AD n.kids:=by cases n;rw [Nd.size];rfl
  have hk:=Gw n
  refine pB Tryz.func22 ?_
  repeat' ((conv=>whnf);first|(refine AE ?_;intros)|fail)
  refine B5 (α:=Nat) (λi=>[(3,.int .i64 ((1+AD (n.kids.take i):Nat):Int)),(4,.int .i64 (i:Nat))]) [1] (λ_=>[]) [0] (λ_=>st) (λi=>i<=n.kids.length) (λi=>n.kids.length - i) 0 (Nat.zero_le _) Yl (St.le_refl _) ?_
  intro i hi
  by_cases U:i<n.kids.length
  .obtain ⟨x,hx⟩:∃x,n.kids[(i:Int).toNat]? =some x:=⟨_,List.getElem?_eq_getElem U⟩
   have hxs:=CC (List.mem_of_getElem? hx)
   have ht:=ZM (show n.kids[i]? =some x from hx)
   have hle:=MH n.kids (i+1)
   have hrec:∀{st:St} {R:As->St->Prop},R (.ret (.int .i64 (x.size:Nat))) st->PC 22 [enc x] st R:=λh=>ih AC AC h
   have he:((1+AD (n.kids.take i):Nat):Int)+(x.size:Int)=((1+AD (n.kids.take (i+1)):Nat):Int):=AC
   repeat' ((conv=>whnf);first|refine Wm hx AC ?_|refine Nk he AC AC ?_|(refine AE ?_;intros)|refine hrec ?_|refine Wq (a:=(i:Int)+1) AC AC ?_)
   all_goals conv=>whnf
   all_goals exact ⟨i+1,U,Nat.sub_lt_sub_left U (Nat.lt_succ_self i),Yl,St.le_refl _⟩
  .have hi2:i=n.kids.length:=AC
   subst hi2
   rw [List.take_length,<-hsz]
   repeat' ((conv=>whnf);first|(refine AE ?_;intros)|fail)
   all_goals exact fin h rfl
end
theorem ql {a:Nd} (h1:a.kind=1) (h2:a.form=9):EC a=if a.text=[105,110,102,105,120,108] then 1 else if a.text=[105,110,102,105,120,114] then 2 else if a.text=[105,110,102,105,120] then 3 else 0:=if_pos ⟨h1,h2⟩
section
variable {st:St} {R:As->St->Prop}
attribute [local irreducible] Go.Aw.Aj
theorem p6 (ht:BX n<=100000000) (h1:∀l,Hc n=.inr l->∀st',st.le st'->R (.ret (.Bc [.slice 3 (Az l) .any,.int .i64 0])) st') (h2:Hc n=.inl 120->∀st',st.le st'->R (.ret (.Bc [.slice 3 [] .any,.int .i64 120])) st') (hz:n.kids.length<=900000000):PC 145 [enc n] st R:=by
 have htk:=Ce n
 refine AM Ac [] Tryz.func145 rfl Do rfl ?_
 refine Ad (Af Ac ?_)
 repeat' ((conv=>whnf);first|(refine AE ?_;intros)|(refine Bb ?_ ?_<;>intro _)|fail)
 refine Ad (Af Ac ?_)
 repeat' ((conv=>whnf);first|(refine AE ?_;intros)|(refine Bb ?_ ?_<;>intro _)|fail)
 by_cases hlen:n.kids.length<2
 .have U:=SB hlen
  refine Ad (Af Ac ?_)
  repeat' ((conv=>whnf);first|(refine AE ?_;intros)|(refine Bb ?_ ?_<;>intro _)|fail)
  all_goals first|exact AF rfl (h2 U _ (St.le_refl _))|(exfalso;omega)
 .obtain ⟨a,ha⟩:∃x,n.kids[(0:Int).toNat]? =some x:=⟨_,List.getElem?_eq_getElem (by show 0<n.kids.length;omega)⟩
  obtain ⟨b,hb⟩:∃x,n.kids[(1:Int).toNat]? =some x:=⟨_,List.getElem?_eq_getElem (by show 1<n.kids.length;omega)⟩
  have hks:n.kids=a::b::n.kids.drop 2:=by
   have e1:=drop_at (show n.kids[0]? =some a from ha)
   rw [List.drop_zero] at e1
   rw [<-drop_at (show n.kids[1]? =some b from hb)]
   exact e1
  by_cases hk:n.kind=35/\a.kind=1/\a.form=9
  .obtain ⟨hk1,hk2,hk3⟩:=hk
   have hsd:=ql hk2 hk3
   refine Ad (Af Ac ?_)
   repeat' ((conv=>whnf);first|refine Wm ha Do ?_|(refine AE ?_;intros)|(refine Bb ?_ ?_<;>intro _)|fail)
   all_goals try (exfalso;omega)
   refine Ad (Af Ac ?_)
   repeat' ((conv=>whnf);first|(refine AE ?_;intros)|(refine Bb ?_ ?_<;>intro _)|fail)
   refine DL (α:=Unit) (λ_=>[(5,.int .i64 (EC a))]) (λ_=>[]) [1,4] [0] (λ_=>st) (λ_=>True) (Af Ac ?_) ?_
   .by_cases e1:a.text=[105,110,102,105,120,108]
    .rw [if_pos e1] at hsd
     repeat' ((conv=>whnf);first|refine Wm ha Do ?_|(refine AE ?_;intros)|(refine Bb ?_ ?_<;>intro _)|fail)
     all_goals conv=>whnf
     all_goals exact ⟨(),trivial,by rw [hsd];exact Yl,St.le_refl _⟩
    .rw [if_neg e1] at hsd
     by_cases e2:a.text=[105,110,102,105,120,114]
     .rw [if_pos e2] at hsd
      repeat' ((conv=>whnf);first|refine Wm ha Do ?_|(refine AE ?_;intros)|(refine Bb ?_ ?_<;>intro _)|fail)
      all_goals conv=>whnf
      all_goals exact ⟨(),trivial,by rw [hsd];exact Yl,St.le_refl _⟩
     .rw [if_neg e2] at hsd
      by_cases e3:a.text=[105,110,102,105,120]
      .rw [if_pos e3] at hsd
       repeat' ((conv=>whnf);first|refine Wm ha Do ?_|(refine AE ?_;intros)|(refine Bb ?_ ?_<;>intro _)|fail)
       all_goals conv=>whnf
       all_goals exact ⟨(),trivial,by rw [hsd];exact Yl,St.le_refl _⟩
      .rw [if_neg e3] at hsd
       repeat' ((conv=>whnf);first|refine Wm ha Do ?_|(refine AE ?_;intros)|(refine Bb ?_ ?_<;>intro _)|fail)
       all_goals conv=>whnf
       all_goals exact ⟨(),trivial,by rw [hsd];exact Yl,St.le_refl _⟩
   .rintro _ _
    clear hsd
    obtain ⟨s,hs⟩:∃s,EC a=s:=⟨_,rfl⟩
    rw [hs]
    have hX0:s=0->Hc n=.inl 120:=λe=>WT hks (λx=>x.2 (hs.trans e))
    have hX1:s≠0->Hc n=if b.kind=1/\b.form=11 then (if (CH b.text).2=0/\(CH b.text).1<=9 then L0 s (CH b.text).1 (n.kids.drop 2) else .inl 120) else L0 s 9 (b::n.kids.drop 2):=λe=>by
     have:=fB hks hk1 (by rw [hs];exact e)
     rw [hs] at this
     exact this
    refine Ad (Af Ac ?_)
    repeat' ((conv=>whnf);first|(refine AE ?_;intros)|(refine Bb ?_ ?_<;>intro _)|fail)
    refine DL (α:=Int×Nat) (λy=>[(6,.int .i64 y.1),(7,.int .i64 (y.2:Nat))]) (λ_=>[]) [1,4,5] [0] (λ_=>st) (λy=>(y.2=1\/y.2=2)/\(s≠0->Hc n=L0 s y.1 (n.kids.drop y.2))) (Af Ac ?_) ?_
    .by_cases hi:b.kind=1/\b.form=11
     .rw [if_pos hi] at hX1
      obtain ⟨hi1,hi2⟩:=hi
      by_cases hw:(CH b.text).2=0/\(CH b.text).1<=9
      .rw [if_pos hw] at hX1
       obtain ⟨hw1,hw2⟩:=hw
       repeat' ((conv=>whnf);first|refine Wm hb Do ?_|(refine AE ?_;intros)|(refine Bb ?_ ?_<;>intro _)|refine ZH ?_)
       all_goals try (exfalso;omega)
       all_goals conv=>whnf
       all_goals exact ⟨((CH b.text).1,2),⟨.inr rfl,hX1⟩,Yl,St.le_refl _⟩
      .rw [if_neg hw] at hX1
       have U:Hc n=.inl 120:=by
        by_cases e:s=0
        .exact hX0 e
        .exact hX1 e
       repeat' ((conv=>whnf);first|refine Wm hb Do ?_|(refine AE ?_;intros)|(refine Bb ?_ ?_<;>intro _)|refine ZH ?_)
       all_goals first|exact AF rfl (h2 U _ (St.le_refl _))|(exfalso;omega)
     .rw [if_neg hi,<-drop_at (show n.kids[1]? =some b from hb)] at hX1
      repeat' ((conv=>whnf);first|refine Wm hb Do ?_|(refine AE ?_;intros)|(refine Bb ?_ ?_<;>intro _)|fail)
      all_goals try (exfalso;omega)
      all_goals conv=>whnf
      all_goals exact ⟨(9,1),⟨.inl rfl,hX1⟩,Yl,St.le_refl _⟩
    .rintro ⟨p,i⟩ ⟨hi,U⟩
     clear hX1
     dsimp only at hi U |-
     have hsub:∀{K:Int->Prop},K (((n.kids.length - i:Nat):Int))->∃r,r=IntKind.i64.wrap ((n.kids.length:Int) - (i:Int))/\K r:=λk=>Nk (b:=((n.kids.length - i:Nat):Int)) AC AC AC k
     by_cases hs0:s=0
     .have U:=hX0 hs0
      refine Ad (Af Ac ?_)
      repeat' ((conv=>whnf);first|refine hsub ?_|(refine AE ?_;intros)|(refine Bb ?_ ?_<;>intro _)|refine Ws Do ?_)
      all_goals first|exact AF rfl (h2 U _ (St.le_refl _))|(exfalso;omega)
     .replace U:=U hs0
      have hdl:(n.kids.drop i).length=n.kids.length - i:=List.length_drop ..
      by_cases hm:(n.kids.length - i) % 2=0
      .have U:=U.trans (Jw (.inl (by rw [hdl];exact hm)))
       have hm':=GD.2 hm
       refine Ad (Af Ac ?_)
       repeat' ((conv=>whnf);first|refine hsub ?_|(refine AE ?_;intros)|(refine Bb ?_ ?_<;>intro _)|refine Ws Do ?_)
       all_goals first|exact AF rfl (h2 U _ (St.le_refl _))|(exfalso;omega)
      .have hm':=λe=>hm (GD.1 e)
       refine Ad (Af Ac ?_)
       repeat' ((conv=>whnf);first|refine hsub ?_|(refine AE ?_;intros)|(refine Bb ?_ ?_<;>intro _)|refine Ws Do ?_)
       all_goals try (exfalso;omega)
       refine Ad (Af Ac ?_)
       repeat' ((conv=>whnf);first|(refine AE ?_;intros)|(refine Bb ?_ ?_<;>intro _)|fail)
       refine Af Ac ?_
       repeat' ((conv=>whnf);first|(refine AE ?_;intros)|(refine Bb ?_ ?_<;>intro _)|fail)
       refine B5 (α:=Nat×AH×List Fx) (λy=>[(10,.slice 3 (Az y.2.2) y.2.1),(11,.int .i64 (y.1:Nat))]) [1,4,5,6,7] (λ_=>[]) [0] (λy=>y.2.1.st st (y.2.2.length*3)) (λy=>i<=y.1/\y.1<=n.kids.length/\y.2.1.BM st/\y.2.2.length<=y.1/\K0 s p false (n.kids.drop i) []=K0 s p ((y.1 - i) % 2==1) (n.kids.drop y.1) y.2.2) (λy=>n.kids.length - y.1) (i,.full,[]) ⟨Nat.le_refl _,RL,trivial,Nat.zero_le _,by rw [Nat.sub_self];rfl⟩ Yl (St.le_refl _) ?_
       rintro ⟨j,w,acc⟩ ⟨j0,j1,j2,j3,j4⟩
       dsimp only at j0 j1 j2 j3 j4
       have hsub2:∀{K:Int->Prop},K (((j - i:Nat):Int))->∃r,r=IntKind.i64.wrap ((j:Int) - (i:Int))/\K r:=λk=>Nk (b:=((j - i:Nat):Int)) AC AC AC k
       by_cases hlt:j<n.kids.length
       .obtain ⟨x,hx⟩:∃x,n.kids[(j:Int).toNat]? =some x:=⟨_,List.getElem?_eq_getElem hlt⟩
        rw [drop_at (show n.kids[j]? =some x from hx)] at j4
        have hxt:=Cp (List.mem_of_getElem? hx)
        have hli:(j:Int)<(n.kids.length:Int):=AC
        by_cases hodd:(j - i) % 2=1
        .have hod':=JI.2 hodd
         rw [show ((j - i) % 2==1)=true by simp [hodd],K0] at j4
         by_cases hc:x.kind=1/\x.form=15/\x.text=[44]
         .rw [if_pos hc] at j4
          obtain ⟨hc1,hc2,hc3⟩:=hc
          repeat' ((conv=>whnf);first|refine Wv hli ?_|refine hsub2 ?_|(refine AE ?_;intros)|(refine Bb ?_ ?_<;>intro _)|refine Wm hx AC ?_|refine Ws Do ?_|refine Wq (a:=(j:Int)+1) AC AC ?_)
          all_goals conv=>whnf
          all_goals exact ⟨(j+1,w,acc),⟨RL,hlt,j2,RL,by rw [j4];dsimp only;rw [show ((j+1 - i) % 2==1)=false by simp;omega]⟩,Nat.sub_lt_sub_left hlt (Nat.lt_succ_self j),Yl,St.le_refl _⟩
         .rw [if_neg hc] at j4
          have U:=U.trans (Jw (.inr j4))
          repeat' ((conv=>whnf);first|refine Wv hli ?_|refine hsub2 ?_|(refine AE ?_;intros)|(refine Bb ?_ ?_<;>intro _)|refine Wm hx AC ?_|refine Ws Do ?_)
          all_goals first|exact AF rfl (h2 U _ (AH.Bz j2))|exact absurd ⟨FS,FS,FS⟩ hc
        .have hev':=λe=>hodd (JI.1 e)
         rw [show ((j - i) % 2==1)=false by simp;omega,K0] at j4
         cases hn:Hp x with
         |some t=>
          rw [hn] at j4
          have hnm:∀{st:St} {R:As->St->Prop},R (.ret (.Bc [.str t,.bool true])) st->PC 183 [enc x] st R:=λh=>NX AC (λt' e=>by rw [hn] at e;cases e;exact h) (λe=>by rw [hn] at e;cases e)
          repeat' ((conv=>whnf);first|refine Wv hli ?_|refine hsub2 ?_|(refine AE ?_;intros)|(refine Bb ?_ ?_<;>intro _)|refine Wm hx AC ?_|refine Ws Do ?_|refine hnm ?_|refine aO (l:=acc) (own:=w) (st:=st) (x:=⟨t,s,p⟩) j2 AC (λown1 ho1=>?_)|refine Wq (a:=(j:Int)+1) AC AC ?_)
          all_goals conv=>whnf
          all_goals exact ⟨(j+1,own1,acc++[⟨t,s,p⟩]),⟨RL,hlt,ho1,by dsimp only;rw [List.length_append,List.length_singleton];omega,by rw [j4];dsimp only;rw [show ((j+1 - i) % 2==1)=true by simp;omega]⟩,Nat.sub_lt_sub_left hlt (Nat.lt_succ_self j),Yl,St.le_refl _⟩
         |none=>
          rw [hn] at j4
          have U:=U.trans (Jw (.inr j4))
          have hnm:∀{st:St} {R:As->St->Prop},(∀q,R (.ret (.Bc [.str q,.bool false])) st)->PC 183 [enc x] st R:=λh=>NX AC (λt' e=>by rw [hn] at e;cases e) (λ_=>h)
          repeat' ((conv=>whnf);first|refine Wv hli ?_|refine hsub2 ?_|(refine AE ?_;intros)|(refine Bb ?_ ?_<;>intro _)|refine Wm hx AC ?_|refine Ws Do ?_|refine hnm (λq=>?_))
          all_goals exact AF rfl (h2 U _ (AH.Bz j2))
       .have e:n.kids.drop j=[]:=List.drop_of_length_le AC
        rw [e,SA] at j4
        have U:=U.trans (Zh (by rw [hdl];exact hm) j4)
        have hli:¬(j:Int)<(n.kids.length:Int):=AC
        repeat' ((conv=>whnf);first|refine Ww hli ?_|(refine AE ?_;intros)|(refine Bb ?_ ?_<;>intro _)|fail)
        all_goals exact AF rfl (h1 _ U _ (AH.Bz j2))
  .have U:Hc n=.inl 120:=WT hks (λx=>hk ⟨x.1,by
    have:=x.2
    unfold EC at this
    split at this
    .assumption
    .exact absurd rfl this⟩)
   refine Ad (Af Ac ?_)
   repeat' ((conv=>whnf);first|refine Wm ha Do ?_|(refine AE ?_;intros)|(refine Bb ?_ ?_<;>intro _)|fail)
   all_goals first|exact AF rfl (h2 U _ (St.le_refl _))|(exfalso;omega)|exact absurd ⟨FS,FS,FS⟩ hk
end
theorem Sz {s p:Int}:∀{l:List Nd} {b:Bool} {U m:List Fx},K0 s p b l U=some m->m.length<=U.length+l.length
 |[],b,U,m,h=>by
  rw [SA] at h
  cases h;exact Nat.le_add_right _ _
 |n::r,false,U,m,h=>by
  rw [K0] at h
  split at h
  .have:=Sz h
   rw [List.length_append,List.length_singleton] at this
   rw [List.length_cons];omega
  .cases h
 |n::r,true,U,m,h=>by
  rw [K0] at h
  split at h
  .have:=Sz h
   rw [List.length_cons];omega
  .cases h
theorem NS {s:Int} {m:List Fx} (h:L0 s p l=.inr m):m.length<=l.length:=by
 unfold L0 at h
 split at h
 .cases h
 .split at h
  .rename_i e
   cases h
   simpa using Sz e
  .cases h
theorem Zg {s:Int} (h:L0 s p l=.inl e):e=120:=by
 unfold L0 at h
 split at h
 .cases h;rfl
 .split at h
  .cases h
  .cases h;rfl
theorem WV (h:Hc n=.inl e):e=120:=by
 unfold Hc at h
 split at h
 .split at h
  .split at h
   .split at h
    .exact Zg h
    .cases h;rfl
   .exact Zg h
  .cases h;rfl
 .cases h;rfl
theorem WW {m:List Fx} (h:Hc n=.inr m):m.length<=n.size:=by
 have hs:=Gw n
 unfold Hc at h
 split at h
 .rename_i U
  rw [U,List.length_cons,List.length_cons] at hs
  split at h
  .split at h
   .split at h
    .have:=NS h;omega
    .cases h
   .have:=NS h
    rw [List.length_cons] at this;omega
  .cases h
 .cases h
theorem QR {U:Nat}:∀{l env m:List Fx},PV U l env=some m->m.length=env.length+l.length
 |[],env,m,h=>by cases h;rfl
 |f::r,env,m,h=>by
  rw [PV] at h
  split at h
  .cases h
  .have:=QR h
   rw [List.length_append,List.length_singleton] at this
   rw [List.length_cons];omega
theorem EW {U:Nat}:∀{l:List Nd} {env m:List Fx},DH U l env=.inr m->env.length<=m.length/\m.length<=env.length+AD l
 |[],env,m,h=>by cases h;exact ⟨Nat.le_refl _,Nat.le_add_right _ _⟩
 |n::r,env,m,h=>by
  rw [DH] at h
  rw [AD]
  split at h
  .split at h
   .cases h
   .rename_i l hl
    split at h
    .cases h
    .rename_i env2 he
     have h1:=WW hl
     have h2:=QR he
     have h3:=EW h
     omega
  .have h3:=EW h
   omega
theorem Gx {i:Nat} (h:l[i]? =some x):AD (l.drop i)=x.size+AD (l.drop (i+1)):=by
 rw [drop_at h,AD]
theorem ZN {l:List Fx} {K:List (List V)->Prop} (h:U<=l.length) (k:K (Az (l.drop U))):
 (0<=(U:Int)/\(U:Int)<=((Az l).length:Int)/\((Az l).length:Int)<=(Az l).length)/\∀es',es'=(((Az l).take (((Az l).length:Int)).toNat).drop (U:Int).toNat)->K es':=by
 have el:(Az l).length=l.length:=List.length_map ..
 refine ⟨⟨AC,AC,Int.le_refl _⟩,λes' e=>?_⟩
 simp only [Int.toNat_natCast,List.take_length] at e
 subst e
 unfold Az at k |-
 rw [<-List.map_drop]
 exact k
structure vJ (st:St) (R:As->St->Prop) (z:Sum Ft (List Fx)):Prop where
 ok:∀env,z=.inr env->∀m,st.le m->R (.ret (.Bc [.slice 3 (Az env) .any,.DI])) m
 no:∀f,z=.inl f->∀b m,gS st m b f->R (.ret (.Bc [.slice 3 [] .any,rz b])) m
theorem vJ.inr {st:St} {R:As->St->Prop} {z:Sum Ft (List Fx)} {env:List Fx} (hz:z=.inr env) (h:∀m,st.le m->R (.ret (.Bc [.slice 3 (Az env) .any,.DI])) m):vJ st R z:=
 ⟨λe U=>(by rw [hz] at U;cases U;exact h),λf U=>(by rw [hz] at U;cases U)⟩
theorem vJ.inl {st:St} {R:As->St->Prop} {z:Sum Ft (List Fx)} {f:Ft} (hz:z=.inl f) (h:∀b m,gS st m b f->R (.ret (.Bc [.slice 3 [] .any,rz b])) m):vJ st R z:=
 ⟨λe U=>(by rw [hz] at U;cases U),λf U=>(by rw [hz] at U;cases U;exact h)⟩
section
variable {st:St} {R:As->St->Prop}
attribute [local irreducible] Go.Aw.Aj
theorem OZ {frm:Nat} (hf:frm<=env.length) (hn:env.length+AD l<=900000000) (hs:AD l<=100000000) (ht:Bf l<=100000000)
 (h:vJ st R (DH frm l env)):PC 131 [.slice 3 (Az env) o,.int .i64 (frm:Nat),.slice 6 (Bg l) .any] st R:=by
 obtain ⟨h1,h2⟩:=h
 refine DP Ac [13] Tryz.func131 rfl Do ?_
 repeat' ((conv=>whnf);first|(refine AE ?_;intros)|refine mv AC (λo1 m1 hx1=>?_))
 refine B5 (α:=Nat×AH×List Fx×St) (λy=>[(0,.slice 3 (Az y.2.2.1) y.2.1),(18,.int .i64 (y.1:Nat))]) [1,16,17] (λ_=>[]) [] (λy=>y.2.2.2) (λy=>y.1<=l.length/\PU st y.2.2.2 y.2.1 y.2.2.1/\DH frm l env=DH frm (l.drop y.1) y.2.2.1/\frm<=y.2.2.1.length/\y.2.2.1.length+AD (l.drop y.1)<=900000000) (λy=>l.length - y.1) (0,o1,env,m1) ⟨Nat.zero_le _,hx1,rfl,hf,hn⟩ Yl (St.le_refl _) ?_
 rintro ⟨i,o2,e2,m2⟩ ⟨j1,j2,j3,j4,j5⟩
 dsimp only at j1 j2 j3 j4 j5
 rw [j3] at h1 h2
 by_cases hlt:i<l.length
 .obtain ⟨x,hx⟩:∃x,l[(i:Int).toNat]? =some x:=⟨_,List.getElem?_eq_getElem hlt⟩
  have hx':l[i]? =some x:=hx
  have hxt:=Cp (List.mem_of_getElem? hx)
  rw [Gx hx'] at j5
  have hxl:=F1 x
  have hxs:=G5 (List.mem_of_getElem? hx)
  have hxk:=Gw x
  rw [drop_at hx',DH] at h1 h2 j3
  have hli:(i:Int)<(l.length:Int):=AC
  by_cases hk:x.kind=35
  .rw [if_pos hk] at h1 h2 j3
   cases U:Hc x with
   |inl e=>
    obtain rfl:=WV U
    rw [U] at h2
    have hfo:∀{st:St} {R:As->St->Prop},(∀st',st.le st'->R (.ret (.Bc [.slice 3 [] .any,.int .i64 120])) st')->PC 175 [enc x] st R:=λh=>wu AC (λl e=>by rw [U] at e;cases e) (λ_=>h) AC
    repeat' ((conv=>whnf);first|refine Wv hli ?_|(refine AE ?_;intros)|refine Wm hx AC ?_|refine hfo (λst1 hle1=>?_)|refine xd AC (λb st2 hb=>?_))
    all_goals exact AF rfl (h2 _ rfl _ _ (hb.up (St.le_trans j2.le hle1)))
   |inr fs=>
    rw [U] at h1 h2 j3
    dsimp only at h1 h2 j3
    have hfl:=WW U
    have hfo:∀{st:St} {R:As->St->Prop},(∀st',st.le st'->R (.ret (.Bc [.slice 3 (Az fs) .any,.int .i64 0])) st')->PC 175 [enc x] st R:=λh=>wu AC (λl e=>by rw [U] at e;cases e;exact h) (λe=>by rw [U] at e;cases e) AC
    repeat' ((conv=>whnf);first|refine Wv hli ?_|(refine AE ?_;intros)|refine Wm hx AC ?_|refine hfo (λst1 hle1=>?_)|refine BK (λ_=>?_))
    have hx3:=j2.grow hle1
    refine B5 (α:=Nat×AH×List Fx×St) (λy=>[(0,.slice 3 (Az y.2.2.1) y.2.1),(37,.int .i64 (y.1:Nat))]) [1,9,16,17,18,35,36] (λ_=>[]) [0] (λy=>y.2.2.2) (λy=>y.1<=fs.length/\PU st y.2.2.2 y.2.1 y.2.2.1/\PV frm fs e2=PV frm (fs.drop y.1) y.2.2.1/\y.2.2.1.length=e2.length+y.1) (λy=>fs.length - y.1) (0,o2,e2,st1) ⟨Nat.zero_le _,hx3,rfl,rfl⟩ Yl (St.le_refl _) ?_
    rintro ⟨j,o3,e3,m3⟩ ⟨i1,i2,i3,i4⟩
    dsimp only at i1 i2 i3 i4
    by_cases hjt:j<fs.length
    .obtain ⟨f,hf2⟩:∃f,fs[(j:Int).toNat]? =some f:=⟨_,List.getElem?_eq_getElem hjt⟩
     rw [drop_at (show fs[j]? =some f from hf2),PV] at i3
     have hji:(j:Int)<(fs.length:Int):=AC
     cases hany:(e3.drop frm).any (λg=>g.op==f.op) with
     |true=>
      rw [hany,if_pos rfl] at i3
      rw [i3] at h2
      repeat' ((conv=>whnf);first|refine Wv hji ?_|refine M0 hany ?_|(refine AE ?_;intros)|refine Cz hf2 AC ?_|refine D5 (λb fb=>?_)|refine ZN (l:=e3) AC ?_|refine lM (St.Ai ..) ?_|refine Al (St.Ai ..) ?_|refine xd AC (λb2 st2 hb2=>?_))
      all_goals exact AF rfl (h2 _ rfl _ _ (hb2.up (St.le_trans i2.le (St.Ag (St.Ag (St.le_refl _) fb.1 _) fb.1 _))))
     |false=>
      rw [hany,if_neg Do] at i3
      repeat' ((conv=>whnf);first|refine Wv hji ?_|refine T3 hany ?_|(refine AE ?_;intros)|refine Cz hf2 AC ?_|refine D5 (λb fb=>?_)|refine ZN (l:=e3) AC ?_|refine lM (St.Ai ..) ?_|refine Al (St.Ai ..) ?_|refine PU.app (l:=e3) (i2.grow (St.Ag (St.Ag (St.le_refl _) fb.1 _) fb.1 _)) AC (λo4 m4 hx4=>?_)|refine Wq (a:=(j:Int)+1) AC AC ?_)
      all_goals conv=>whnf
      all_goals exact ⟨(j+1,o4,e3++[f],m4),⟨hjt,hx4,i3,by dsimp only;rw [List.length_append,List.length_singleton];omega⟩,Nat.sub_lt_sub_left hjt (Nat.lt_succ_self j),Yl,St.le_refl _⟩
    .rw [List.drop_of_length_le AC,PV] at i3
     rw [i3] at j3
     have hji:¬(j:Int)<(fs.length:Int):=AC
     repeat' ((conv=>whnf);first|refine Ww hji ?_|(refine AE ?_;intros)|refine Wq (a:=(i:Int)+1) AC AC ?_)
     all_goals conv=>whnf
     all_goals exact ⟨(i+1,o3,e3,m3),⟨hlt,i2,j3,RL,RL⟩,Nat.sub_lt_sub_left hlt (Nat.lt_succ_self i),Yl,St.le_refl _⟩
  .rw [if_neg hk] at h1 h2 j3
   repeat' ((conv=>whnf);first|refine Wv hli ?_|(refine AE ?_;intros)|refine Wm hx AC ?_|refine Wq (a:=(i:Int)+1) AC AC ?_)
   all_goals conv=>whnf
   all_goals exact ⟨(i+1,o2,e2,m2),⟨hlt,j2,j3,j4,RL⟩,Nat.sub_lt_sub_left hlt (Nat.lt_succ_self i),Yl,St.le_refl _⟩
 .rw [List.drop_of_length_le AC] at h1
  repeat' ((conv=>whnf);first|(refine AE ?_;intros)|fail)
  all_goals exact AF rfl (h1 _ rfl _ j2.le)
end
structure Ts (sz:Nat) (st m:St) (o:AH) (k:Nat):Prop where
 le:st.le m
 ok:match o with| .full=>True| .any=>False| .tok b=>st.fresh b/\m.hw b=some (k*sz)
theorem Ts.grow {sz:Nat} {st m U:St} {n:Nat} (h:Ts sz st m o n) (k:m.le U):Ts sz st U o n:=⟨St.le_trans h.le k,by
 have:=h.ok
 cases o with
 |full=>trivial
 |any=>exact this
 |tok b=>exact ⟨this.1,k.2 _ _ this.2⟩⟩
theorem Ts.app {sz bytes:Nat} {st m:St} {es new:List (List V)} (h:Ts sz st m o es.length) (hb:(es.length+new.length)*bytes<=140737488355328) (hl:es.length+new.length<DR) (hs:(new.all λv=>v.all V.sc)=true) (hw:new.map (·.map V.JK)=new)
 (k:∀o' m',Ts sz st m' o' (es.length+new.length)->K (.slice sz (es++new) o') m'):Aj sz bytes es o new m K:=by
 refine ⟨hb,hl,AY hs ?_⟩
 cases o with
 |any=>exact h.ok.elim
 |full=>exact ⟨λe=>(by subst e;rw [List.append_nil] at k;exact k _ _ ⟨h.le,trivial⟩),λ_=>.inl λb hf=>by
   rw [hw]
   exact k _ _ ⟨St.Ec h.le (HY h.le hf).2 _,HY h.le hf,by simp [St.B0]⟩⟩
 |tok b=>
  obtain ⟨h1,h2⟩:=h.ok
  refine ⟨h2,.inl λb' hf=>?_⟩
  rw [hw]
  have hld:st.le (m.Ek b):=⟨h.le.1,λy c hy=>by
   have hyb:y≠b:=λe=>by subst e;rw [h1.2] at hy;cases hy
   show (if y=b then none else m.hw y)=some c
   rw [if_neg hyb]
   exact h.le.2 _ _ hy⟩
  have U:st.fresh b':=hf.elim (λe=>e ▸ h1) (λe=>HY h.le e)
  exact k _ _ ⟨St.Ec hld U.2 _,U,by simp [St.B0]⟩
theorem Ts.AL {st m:St} {l l':List Tk} (h:Ts 4 st m o l.length) (hb:l.length+l'.length<=100000000) (k:∀o' U,Ts 4 st U o' (l++l').length->K (.slice 4 (AU (l++l')) o') U):Aj 4 40 (AU l) o (AU l') m K:=by
 have e:AU l++AU l'=AU (l++l'):=by unfold AU;rw [List.map_append]
 refine Ts.app (by rw [Cn];exact h) (by rw [Cn,Cn];omega) (by rw [Cn,Cn];simp only [DR];omega) ?_ ?_ (λo' U h'=>?_)
 .unfold AU
  rw [List.all_map,List.all_eq_true]
  intro x _;rfl
 .unfold AU
  rw [List.map_map]
  exact List.map_congr_left λx _=>rfl
 .rw [Cn,Cn,<-List.length_append] at h'
  rw [e];exact k _ _ h'
theorem Ts.nds {st m:St} {l':List Nd} (h:Ts 6 st m o l.length) (hb:l.length+l'.length<=100000000) (k:∀o' U,Ts 6 st U o' (l++l').length->K (.slice 6 (Bg (l++l')) o') U):Aj 6 72 (Bg l) o (Bg l') m K:=by
 refine Ts.app (by rw [BL];exact h) (by rw [BL,BL];omega) (by rw [BL,BL];simp only [DR];omega) ?_ ?_ (λo' U h'=>?_)
 .rw [BF,List.all_map,List.all_eq_true]
  intro x _;rfl
 .rw [BF,List.map_map]
  exact List.map_congr_left λx _=>rfl
 .rw [BL,BL,<-List.length_append] at h'
  rw [<-Pk];exact k _ _ h'
def N5 (n:Nd):Tk:=match A0 n with|t::_=>t|[]=>TR
theorem S3 (n:Nd):ZX n=((N5 n).line,(N5 n).BT):=by
 unfold ZX N5
 cases A0 n<;>rfl
def Jr (n:Nd):Nd:=n.kids.getLast?.getD Hv
def iE (t:Tk) (e:Int):List V:=[.int .i64 0,.int .i64 0,.str [],.int .i64 0,.int .i64 0,.slice 6 [] .any,.int .i64 t.kind,.str t.text,.int .i64 t.line,.int .i64 t.BT,.int .i64 e]
def dnT (n:Nd):List V:=[.int .i64 n.kind,.int .i64 n.form,.str n.text,.int .i64 n.line,.int .i64 n.BT,.slice 6 (Bg n.kids) .any,.int .i64 0,.str [],.int .i64 0,.int .i64 0,.int .i64 0]
section
variable {st:St} {R:As->St->Prop}
attribute [local irreducible] Go.Aw.Aj
theorem UG:∀(m:Nat) {n:Nd} {st:St} {R:As->St->Prop},n.size<=m->(A0 n).length<=100000000->(∀m',st.le m'->R (.ret (.slice 4 (AU (A0 n)) .any)) m')->PC 148 [enc n] st R:=by
 intro m
 induction m with
 |zero=>intro n st R hm;cases n;rw [Nd.size] at hm;omega
 |succ m ih=>
  intro n st R hm hl h
  refine pB Tryz.func148 ?_
  by_cases hk:n.kind=1
  .rw [Sa hk] at h
   repeat' ((conv=>whnf);first|(refine AE ?_;intros)|fail)
   all_goals exact AF rfl (h _ (St.le_refl _))
  .rw [R9 hk] at h hl
   repeat' ((conv=>whnf);first|(refine AE ?_;intros)|fail)
   refine B5 (α:=Nat×AH×St) (λy=>[(3,.slice 4 (AU (AG (n.kids.take y.1))) y.2.1),(4,.int .i64 (y.1:Nat))]) [1] (λy=>[]) [0] (λy=>y.2.2) (λy=>y.1<=n.kids.length/\Ts 4 st y.2.2 y.2.1 (AG (n.kids.take y.1)).length) (λy=>n.kids.length - y.1) (0,.full,st) ⟨Nat.zero_le _,St.le_refl _,trivial⟩ Yl (St.le_refl _) ?_
   rintro ⟨k,o,m1⟩ ⟨j1,j2⟩
   dsimp only at j1 j2
   by_cases hlt:k<n.kids.length
   .obtain ⟨x,hx⟩:∃x,n.kids[(k:Int).toNat]? =some x:=⟨_,List.getElem?_eq_getElem hlt⟩
    have hx':n.kids[k]? =some x:=hx
    have hxs:=CC (List.mem_of_getElem? hx')
    have hle:=KS hx'
    have U:(k:Int)<(n.kids.length:Int):=AC
    have e:=IQ hx'
    repeat' ((conv=>whnf);first|refine Wv U ?_|(refine AE ?_;intros)|refine Wm hx AC ?_|refine ih (n:=x) AC AC (λm2 hle2=>?_)|refine Ts.AL (l:=AG (n.kids.take k)) (l':=A0 x) (j2.grow hle2) AC (λo3 m3 hw3=>?_)|refine Wq (a:=(k:Int)+1) AC AC ?_)
    all_goals conv=>whnf
    all_goals refine ⟨(k+1,o3,m3),⟨hlt,by dsimp only;rw [e];exact hw3⟩,Nat.sub_lt_sub_left hlt (Nat.lt_succ_self k),?_,St.le_refl _⟩
    all_goals dsimp only
    all_goals rw [e]
    all_goals exact Yl
   .have U:¬(k:Int)<(n.kids.length:Int):=AC
    rw [show n.kids.take k=n.kids from List.take_of_length_le AC] at j2
    have h2:=h _ j2.le
    rw [show AG n.kids=AG (n.kids.take k) by rw [List.take_of_length_le AC]] at h2
    repeat' ((conv=>whnf);first|refine Ww U ?_|(refine AE ?_;intros)|fail)
    all_goals exact AF rfl h2
theorem Xf (hl:(A0 n).length<=100000000) (h:∀U,st.le U->R (.ret (.agg (N5 n).cells)) U):PC 103 [enc n] st R:=by
 refine pB Tryz.func103 ?_
 unfold N5 at h
 cases hv:A0 n with
 |nil=>
  rw [hv] at h
  have hlv:∀{st:St} {R:As->St->Prop},(∀U,st.le U->R (.ret (.slice 4 (AU []) .any)) U)->PC 148 [enc n] st R:=λh=>UG n.size (Nat.le_refl _) hl (by rw [hv];exact h)
  repeat' ((conv=>whnf);first|refine IU (n:=0) rfl ?_|(refine AE ?_;intros)|refine hlv (λm hle=>?_))
  all_goals exact AF rfl (h _ hle)
 |cons t r=>
  rw [hv] at h
  have hlv:∀{st:St} {R:As->St->Prop},(∀U,st.le U->R (.ret (.slice 4 (AU (t::r)) .any)) U)->PC 148 [enc n] st R:=λh=>UG n.size (Nat.le_refl _) hl (by rw [hv];exact h)
  have hpos:¬((r.length+1:Nat):Int)=0:=AC
  repeat' ((conv=>whnf);first|refine IU (n:=r.length+1) (List.length_map ..) ?_|refine Ww hpos ?_|refine WB (l:=t::r) rfl Do ?_|(refine AE ?_;intros)|refine hlv (λm hle=>?_))
  all_goals exact AF rfl (h _ hle)
theorem NU (h:R (.ret (.slice 6 (Bg (if 0<=i then DN n i.toNat else [])) .any)) st):PC 101 [enc n,.int .i64 i] st R:=by
 refine pB Tryz.func101 ?_
 by_cases U:0<=i
 .rw [if_pos U] at h
  unfold DN at h
  by_cases hlt:i<n.kids.length
  .obtain ⟨x,hx⟩:∃x,n.kids[i.toNat]? =some x:=⟨_,List.getElem?_eq_getElem AC⟩
   rw [hx] at h
   dsimp only at h
   by_cases hk:x.kind=2
   .rw [if_pos hk] at h
    repeat' ((conv=>whnf);first|(refine AE ?_;intros)|refine Wm hx U ?_)
    all_goals first|exact AF rfl h|(exfalso;omega)
   .rw [if_neg hk] at h
    repeat' ((conv=>whnf);first|(refine AE ?_;intros)|refine Wm hx U ?_)
    all_goals first|exact AF rfl h|(exfalso;omega)
  .rw [List.getElem?_eq_none AC] at h
   repeat' ((conv=>whnf);first|(refine AE ?_;intros)|fail)
   all_goals first|exact AF rfl h|(exfalso;omega)
 .rw [if_neg U] at h
  repeat' ((conv=>whnf);first|(refine AE ?_;intros)|fail)
  all_goals first|exact AF rfl h|(exfalso;omega)
theorem SG (hi:i=(n.kids.length:Int) - 1) (h:R (.ret (.slice 6 (Bg (CP n)) .any)) st):PC 101 [enc n,.int .i64 i] st R:=by
 subst hi
 exact NU (by rw [Yv];exact h)
theorem Qy (h:R (.ret (enc (Jr n))) st):PC 144 [enc n] st R:=by
 refine pB Tryz.func144 ?_
 unfold Jr at h
 rw [List.getLast?_eq_getElem?] at h
 by_cases h0:n.kids.length=0
 .rw [List.getElem?_eq_none AC] at h
  repeat' ((conv=>whnf);first|(refine AE ?_;intros)|fail)
  all_goals first|exact AF rfl h|(exfalso;omega)
 .obtain ⟨x,U⟩:∃x,n.kids[((n.kids.length:Int) - 1).toNat]? =some x:=⟨_,List.getElem?_eq_getElem AC⟩
  rw [show n.kids[n.kids.length - 1]? =some x by rw [<-U];congr 1;omega] at h
  repeat' ((conv=>whnf);first|(refine AE ?_;intros)|refine Wm U AC ?_)
  all_goals first|exact AF rfl h|(exfalso;omega)
theorem To (n:Nd):Ib n=if (Jr n).kind=31 then CP (Jr n) else []:=by
 unfold Ib Jr
 cases n.kids.getLast? with
 |none=>rfl
 |some w=>rfl
theorem K2 {l:List Fx} {own:AH} (hb:l.length<=900000000) (h:∀o m,PU st m o l->R (.ret (.slice 3 (Az l) o)) m):PC 100 [.slice 3 (Az l) own] st R:=by
 refine pB Tryz.func100 ?_
 repeat' ((conv=>whnf);first|  refine TW hb (λo m U=>?_))
 all_goals exact fin (h _ _ ‹_›) rfl
end
structure TdK (st:St) (R:As->St->Prop) (z:Sum Ft (List Fx)):Prop where
 ok:∀env,z=.inr env->∀o m,PU st m o env->R (.ret (.Bc [.slice 3 (Az env) o,.agg [.int .i64 0,.int .i64 0,.str [],.int .i64 0,.int .i64 0,.slice 6 [] .full,.int .i64 0,.str [],.int .i64 0,.int .i64 0,.int .i64 0]])) m
 no:∀f,z=.inl f->∀t:Tk,f.2=(t.line,t.BT)->∀m,st.le m->R (.ret (.Bc [.slice 3 [] .any,.agg (iE t f.1)])) m
section
variable {st:St} {R:As->St->Prop}
attribute [local irreducible] Go.Aw.Aj
theorem qW {st0:St} (hx0:PU st0 st o env) (hf:U<=env.length) (hn:env.length+AD l<=900000000) (hs:AD l<=100000000) (ht:Bf l<=100000000)
 (h:TdK st0 R (DH U l env)):PC 99 [.slice 3 (Az env) o,.int .i64 (U:Nat),.slice 6 (Bg l) .any] st R:=by
 obtain ⟨h1,h2⟩:=h
 refine pB Tryz.func99 ?_
 repeat' ((conv=>whnf);first|exact Bi|(refine AE ?_;intros)|(refine Bj ?_ ?_ ?_;rotate_left)|refine Ao GE ?_|fail)
 refine B5 (α:=Nat×AH×List Fx×St) (λy=>[(0,.slice 3 (Az y.2.2.1) y.2.1),(8,.int .i64 (y.1:Nat))]) [1,2,7] (λ_=>[]) [0] (λy=>y.2.2.2) (λy=>y.1<=l.length/\PU st0 y.2.2.2 y.2.1 y.2.2.1/\DH U l env=DH U (l.drop y.1) y.2.2.1/\U<=y.2.2.1.length/\y.2.2.1.length+AD (l.drop y.1)<=900000000) (λy=>l.length - y.1) (0,o,env,st) ⟨Nat.zero_le _,hx0,rfl,hf,hn⟩ Yl (St.le_refl _) ?_
 rintro ⟨i,o2,e2,m2⟩ ⟨j1,j2,j3,j4,j5⟩
 dsimp only at j1 j2 j3 j4 j5
 rw [j3] at h1 h2
 by_cases hlt:i<l.length
 .obtain ⟨x,hx⟩:∃x,l[(i:Int).toNat]? =some x:=⟨_,List.getElem?_eq_getElem hlt⟩
  have hx':l[i]? =some x:=hx
  have hxt:=Cp (List.mem_of_getElem? hx)
  rw [Gx hx'] at j5
  have hxl:=F1 x
  have hxs:=G5 (List.mem_of_getElem? hx)
  have hxk:=Gw x
  rw [drop_at hx',DH] at h1 h2 j3
  have hli:(i:Int)<(l.length:Int):=AC
  by_cases hk:x.kind=35
  .rw [if_pos hk] at h1 h2 j3
   cases hown:Hc x with
   |inl e=>
    obtain rfl:=WV hown
    rw [hown] at h2
    have hfo:∀{st:St} {R:As->St->Prop},(∀st',st.le st'->R (.ret (.Bc [.slice 3 [] .any,.int .i64 120])) st')->PC 145 [enc x] st R:=λh=>p6 AC (λl e=>by rw [hown] at e;cases e) (λ_=>h) AC
    repeat' ((conv=>whnf);first|refine Wv hli ?_|exact Bi|(refine AE ?_;intros)|(refine Bj ?_ ?_ ?_;rotate_left)|refine Wm hx AC ?_|refine hfo (λst1 hle1=>?_)|refine Xf AC (λst2 hle2=>?_)|refine Ao GE ?_|fail)
    all_goals exact AF rfl (h2 _ rfl (N5 x) (by unfold vM;rw [S3]) _ (St.le_trans j2.le (St.le_trans hle1 hle2)))
   |inr fs=>
    rw [hown] at h1 h2 j3
    dsimp only at h1 h2 j3
    have hfl:=WW hown
    have hfo:∀{st:St} {R:As->St->Prop},(∀st',st.le st'->R (.ret (.Bc [.slice 3 (Az fs) .any,.int .i64 0])) st')->PC 145 [enc x] st R:=λh=>p6 AC (λl e=>by rw [hown] at e;cases e;exact h) (λe=>by rw [hown] at e;cases e) AC
    repeat' ((conv=>whnf);first|refine Wv hli ?_|exact Bi|(refine AE ?_;intros)|(refine Bj ?_ ?_ ?_;rotate_left)|refine Wm hx AC ?_|refine hfo (λst1 hle1=>?_)|refine BK (λ_=>?_)|refine Ao GE ?_|fail)
    have hx3:=j2.grow hle1
    refine B5 (α:=Nat×AH×List Fx×St) (λy=>[(0,.slice 3 (Az y.2.2.1) y.2.1),(11,.int .i64 (y.1:Nat))]) [1,2,7,8,9] (λ_=>[]) [0] (λy=>y.2.2.2) (λy=>y.1<=fs.length/\PU st0 y.2.2.2 y.2.1 y.2.2.1/\PV U fs e2=PV U (fs.drop y.1) y.2.2.1/\y.2.2.1.length=e2.length+y.1) (λy=>fs.length - y.1) (0,o2,e2,st1) ⟨Nat.zero_le _,hx3,rfl,rfl⟩ Yl (St.le_refl _) ?_
    rintro ⟨j,o3,e3,m3⟩ ⟨i1,i2,i3,i4⟩
    dsimp only at i1 i2 i3 i4
    by_cases hjt:j<fs.length
    .obtain ⟨f,hf2⟩:∃f,fs[(j:Int).toNat]? =some f:=⟨_,List.getElem?_eq_getElem hjt⟩
     rw [drop_at (show fs[j]? =some f from hf2),PV] at i3
     have hji:(j:Int)<(fs.length:Int):=AC
     repeat' ((conv=>whnf);first|refine Wv hji ?_|exact Bi|(refine AE ?_;intros)|(refine Bj ?_ ?_ ?_;rotate_left)|refine BK (λ_=>?_)|refine Ao GE ?_|fail)
     refine B5 (α:=Nat) (λq=>[(12,.int .i64 (q:Nat))]) [0,1,2,7,8,9,11] (λ_=>[]) [0] (λ_=>m3) (λq=>U<=q/\q<=e3.length/\(e3.drop U).any (λg=>g.op==f.op)=(e3.drop q).any (λg=>g.op==f.op)) (λq=>e3.length - q) U ⟨Nat.le_refl _,AC,rfl⟩ Yl (St.le_refl _) ?_
     rintro q ⟨q1,q2,q3⟩
     by_cases hqt:q<e3.length
     .obtain ⟨g,hg⟩:∃g,e3[(q:Int).toNat]? =some g:=⟨_,List.getElem?_eq_getElem hqt⟩
      have hqi:(q:Int)<(e3.length:Int):=AC
      rw [drop_at (show e3[q]? =some g from hg),List.any_cons] at q3
      by_cases he:g.op=f.op
      .rw [show (g.op==f.op)=true from beq_iff_eq.2 he,Bool.true_or] at q3
       rw [q3,if_pos rfl] at i3
       rw [i3] at h2
       repeat' ((conv=>whnf);first|refine Wv hqi ?_|exact Bi|(refine AE ?_;intros)|(refine Bj ?_ ?_ ?_;rotate_left)|refine BK (λ_=>?_)|refine Cz hg AC ?_|refine Cz hf2 AC ?_|refine Wm hx AC ?_|refine Xf AC (λst2 hle2=>?_)|refine Ao GE ?_|fail)
       all_goals exact AF rfl (h2 _ rfl (N5 x) (by unfold vM;rw [S3]) _ (St.le_trans i2.le hle2))
      .rw [show (g.op==f.op)=false from beq_eq_false_iff_ne.2 he,Bool.false_or] at q3
       repeat' ((conv=>whnf);first|refine Wv hqi ?_|exact Bi|(refine AE ?_;intros)|(refine Bj ?_ ?_ ?_;rotate_left)|refine BK (λ_=>?_)|refine Cz hg AC ?_|refine Cz hf2 AC ?_|refine Wq (a:=(q:Int)+1) AC AC ?_|refine Ao GE ?_|fail)
       all_goals conv=>whnf
       all_goals exact ⟨q+1,⟨AC,hqt,q3⟩,Nat.sub_lt_sub_left hqt (Nat.lt_succ_self q),Yl,St.le_refl _⟩
     .have hqi:¬(q:Int)<(e3.length:Int):=AC
      rw [show e3.drop q=[] from List.drop_of_length_le AC,List.any_nil] at q3
      rw [q3,if_neg Do] at i3
      repeat' ((conv=>whnf);first|refine Ww hqi ?_|exact Bi|(refine AE ?_;intros)|(refine Bj ?_ ?_ ?_;rotate_left)|refine BK (λ_=>?_)|refine Cz hf2 AC ?_|refine PU.app (l:=e3) i2 AC (λo4 m4 hx4=>?_)|refine Wq (a:=(j:Int)+1) AC AC ?_|refine Ao GE ?_|fail)
      all_goals conv=>whnf
      all_goals exact ⟨(j+1,o4,e3++[f],m4),⟨hjt,hx4,i3,by dsimp only;rw [List.length_append,List.length_singleton];omega⟩,Nat.sub_lt_sub_left hjt (Nat.lt_succ_self j),Yl,St.le_refl _⟩
    .rw [List.drop_of_length_le AC,PV] at i3
     rw [i3] at j3
     have hji:¬(j:Int)<(fs.length:Int):=AC
     repeat' ((conv=>whnf);first|refine Ww hji ?_|exact Bi|(refine AE ?_;intros)|(refine Bj ?_ ?_ ?_;rotate_left)|refine BK (λ_=>?_)|refine Wq (a:=(i:Int)+1) AC AC ?_|refine Ao GE ?_|fail)
     all_goals conv=>whnf
     all_goals exact ⟨(i+1,o3,e3,m3),⟨hlt,i2,j3,RL,RL⟩,Nat.sub_lt_sub_left hlt (Nat.lt_succ_self i),Yl,St.le_refl _⟩
  .rw [if_neg hk] at h1 h2 j3
   repeat' ((conv=>whnf);first|refine Wv hli ?_|exact Bi|(refine AE ?_;intros)|(refine Bj ?_ ?_ ?_;rotate_left)|refine Wm hx AC ?_|refine Wq (a:=(i:Int)+1) AC AC ?_|refine Ao GE ?_|fail)
   all_goals conv=>whnf
   all_goals exact ⟨(i+1,o2,e2,m2),⟨hlt,j2,j3,j4,RL⟩,Nat.sub_lt_sub_left hlt (Nat.lt_succ_self i),Yl,St.le_refl _⟩
 .rw [List.drop_of_length_le AC] at h1
  have hli:¬(i:Int)<(l.length:Int):=AC
  repeat' ((conv=>whnf);first|refine Ww hli ?_|exact Bi|(refine AE ?_;intros)|(refine Bj ?_ ?_ ?_;rotate_left)|refine Ao GE ?_|fail)
  all_goals exact fin (h1 _ rfl _ _ j2) rfl
end
theorem KR (n:Nd):AD (CP n)<=n.size/\Bf (CP n)<=BX n:=by
 unfold CP
 split
 .rename_i b hb
  have U:=List.mem_of_getLast? hb
  have h1:=CC U
  have h2:=Cp U
  have h3:=Ce n
  have h4:=Ce b
  split
  .cases b
   rw [Nd.size] at h1
   exact ⟨by show AD _<=_;simp only [Nd.kids];omega,AC⟩
  .exact ⟨Nat.zero_le _,Nat.zero_le _⟩
 .exact ⟨Nat.zero_le _,Nat.zero_le _⟩
theorem HB (n:Nd):AD (Ib n)<=n.size/\Bf (Ib n)<=BX n:=by
 unfold Ib
 split
 .rename_i b hb
  have U:=List.mem_of_getLast? hb
  have h1:=CC U
  have h2:=Cp U
  have h3:=Ce n
  have h4:=KR b
  split
  .exact ⟨AC,AC⟩
  .exact ⟨Nat.zero_le _,Nat.zero_le _⟩
 .exact ⟨Nat.zero_le _,Nat.zero_le _⟩
theorem EM (n:Nd) (i:Nat):AD (DN n i)<=n.size/\Bf (DN n i)<=BX n:=by
 unfold DN
 split
 .rename_i b hb
  have U:=List.mem_of_getElem? hb
  have h1:=CC U
  have h2:=Cp U
  have h3:=Ce n
  have h4:=Ce b
  split
  .cases b
   rw [Nd.size] at h1
   exact ⟨by show AD _<=_;simp only [Nd.kids];omega,AC⟩
  .exact ⟨Nat.zero_le _,Nat.zero_le _⟩
 .exact ⟨Nat.zero_le _,Nat.zero_le _⟩
theorem K6:∀(l:List Nd) (k:Nat),AD (l.drop k)<=AD l
 |[],k=>by rw [List.drop_nil];exact Nat.le_refl _
 |n::r,0=>Nat.le_refl _
 |n::r,k+1=>by
  have:=K6 r k
  rw [List.drop_succ_cons,AD];omega
theorem FL (n:Nd):AD n.kids<n.size:=by
 cases n
 rw [Nd.size]
 show AD _<_
 simp only [Nd.kids];omega
def NK (env:List Fx) (n:Nd):Sum Ft (List Fx):=match DH env.length (CP n) env with
 | .inl e=>.inl e
 | .inr out=>Ex env.length (CP n) out
section
variable {st:St} {R:As->St->Prop}
attribute [local irreducible] Go.Aw.Aj
theorem gA (h:R (.ret (.bool (MJ n.kind p))) st):PC 134 [enc n,.int .i64 p] st R:=by
 refine pB Tryz.func134 ?_
 unfold MJ at h
 repeat' ((conv=>whnf);first|  (refine Bb ?_ ?_<;>intro _)|fail)
 all_goals conv=>whnf
 all_goals (refine AB h ?_;clear h;simp_all)
def zm (st:St) (U:Nat) (z:Sum Ft (List Fx)) (l:List Nd) (v e:V) (m:St):Prop:=st.le m/\
 ((∃env,v=.slice 3 (Az env) .any/\e=.DI/\z=Ex U l env/\U<=env.length/\env.length+AD l<=900000000)\/∃f b,v=.slice 3 [] .any/\e=rz b/\z=.inl f/\gS st m b f)
theorem oL (hn:env.length+2*n.size<=900000000) (hs:n.size<=100000000) (ht:BX n<=100000000) (h:vJ st R (NK env n)):PC 130 [.slice 3 (Az env) .any,enc n] st R:=by
 have hl:=KR n
 refine AM Ac [] Tryz.func130 rfl Do rfl ?_
 refine Ad (Af Ac ?_)
 repeat' ((conv=>whnf);first|(refine AE ?_;intros)|fail)
 refine Ad (Af Ac ?_)
 repeat' ((conv=>whnf);first|(refine AE ?_;intros)|refine nU rfl ?_|refine Wq (a:=(n.kids.length:Int) - 1) AC AC ?_)
 refine DL (α:=V×V×St) (λy=>[(7,y.1),(8,y.2.1)]) (λ_=>[]) [0,6] [] (λy=>y.2.2) (λy=>zm st env.length (NK env n) (CP n) y.1 y.2.1 y.2.2) (Af Ac ?_) ?_
 .skip
  repeat' ((conv=>whnf);first|(refine AE ?_;intros)|refine BK (λ_=>?_)|refine OZ (Nat.le_refl _) AC AC AC ⟨λenv1 he m hle=>?_,λf he b m hb=>?_⟩)
  all_goals conv=>whnf
  .exact ⟨(_,_,m),⟨hle,.inl ⟨env1,rfl,rfl,by unfold NK;rw [he],(EW he).1,by have:=(EW he).2;omega⟩⟩,Yl,St.le_refl _⟩
  .exact ⟨(_,_,m),⟨hb.le,.inr ⟨f,b,rfl,rfl,by unfold NK;rw [he],hb⟩⟩,Yl,St.le_refl _⟩
 .rintro ⟨v,e,m⟩ hJ
  dsimp only at hJ |-
  generalize hz:NK env n=z at hJ h
  generalize CP n=l at hJ hl
  refine Af Ac ?_
  have hlp:∀bs,v.OH bs=true/\e.OH bs=true:=λbs=>by rcases hJ.2 with ⟨_,rfl,rfl,_⟩|⟨_,_,rfl,rfl,_⟩<;>exact ⟨rfl,rfl⟩
  repeat' ((conv=>whnf);first|(refine AE ?_;intros)|fail)
  refine B5 (α:=Nat×V×V×St) (λy=>[(7,y.2.1),(8,y.2.2.1),(27,.int .i64 (y.1:Nat))]) [0,25,26] (λ_=>[]) [] (λy=>y.2.2.2) (λy=>y.1<=l.length/\zm st env.length z (l.drop y.1) y.2.1 y.2.2.1 y.2.2.2) (λy=>l.length - y.1) (0,v,e,m) ⟨Nat.zero_le _,hJ⟩ (by refine ⟨rfl,?_,?_,rfl⟩<;>repeat' (first|exact trivial|exact rfl|exact (hlp _).1|exact (hlp _).2|refine And.intro ?_ ?_)) (St.le_refl _) ?_
  rintro ⟨i,v,e,m⟩ ⟨hi,hle,hJ⟩
  dsimp only at hi hle hJ
  rcases hJ with ⟨env1,rfl,rfl,j1,j2,j3⟩|⟨f,b,rfl,rfl,j1,j2⟩
  .by_cases U:i<l.length
   .obtain ⟨x,hx⟩:∃x,l[(i:Int).toNat]? =some x:=⟨_,List.getElem?_eq_getElem U⟩
    have hx':l[i]? =some x:=hx
    have hxt:=Cp (List.mem_of_getElem? hx)
    rw [Gx hx'] at j3
    rw [drop_at hx',Ex] at j1
    have hw:=HB x
    have hxs:=G5 (List.mem_of_getElem? hx)
    have hli:(i:Int)<(l.length:Int):=AC
    by_cases hk:x.kind=44
    .rw [if_pos hk] at j1
     repeat' ((conv=>whnf);first|refine Wv hli ?_|(refine AE ?_;intros)|refine Wm hx AC ?_|refine BK (λ_=>?_)|refine gN ?_|refine OZ j2 AC AC AC ⟨λenv2 he m2 hle2=>?_,λf he b m2 hb=>?_⟩|refine Wq (a:=(i:Int)+1) AC AC ?_)
     all_goals conv=>whnf
     all_goals rw [he] at j1
     .have h3:=EW he
      exact ⟨(i+1,_,_,m2),⟨U,St.le_trans hle hle2,.inl ⟨env2,rfl,rfl,j1,AC,RL⟩⟩,Nat.sub_lt_sub_left U (Nat.lt_succ_self i),Yl,St.le_refl _⟩
     .exact ⟨(i+1,_,_,m2),⟨U,St.le_trans hle hb.le,.inr ⟨f,b,rfl,rfl,j1,hb.up hle⟩⟩,Nat.sub_lt_sub_left U (Nat.lt_succ_self i),Yl,St.le_refl _⟩
    .rw [if_neg hk] at j1
     repeat' ((conv=>whnf);first|refine Wv hli ?_|(refine AE ?_;intros)|refine Wm hx AC ?_|refine Wq (a:=(i:Int)+1) AC AC ?_)
     all_goals conv=>whnf
     all_goals exact ⟨(i+1,_,_,m),⟨U,hle,.inl ⟨env1,rfl,rfl,j1,j2,RL⟩⟩,Nat.sub_lt_sub_left U (Nat.lt_succ_self i),Yl,St.le_refl _⟩
   .rw [List.drop_of_length_le AC,Ex] at j1
    have hli:¬(i:Int)<(l.length:Int):=AC
    repeat' ((conv=>whnf);first|refine Ww hli ?_|(refine AE ?_;intros)|fail)
    all_goals exact AF rfl (h.ok _ j1 _ hle)
  .by_cases U:i<l.length
   .obtain ⟨x,hx⟩:∃x,l[(i:Int).toNat]? =some x:=⟨_,List.getElem?_eq_getElem U⟩
    have hli:(i:Int)<(l.length:Int):=AC
    repeat' ((conv=>whnf);first|refine Wv hli ?_|(refine AE ?_;intros)|refine Wm hx AC ?_)
    all_goals exact AF rfl (h.no _ j1 _ _ j2)
   .have hli:¬(i:Int)<(l.length:Int):=AC
    repeat' ((conv=>whnf);first|refine Ww hli ?_|(refine AE ?_;intros)|fail)
    all_goals exact AF rfl (h.no _ j1 _ _ j2)
end
def gd:Nat->Nd->Nat
 |0,_=>1
 |k+1,n=>(n.kids.map (gd k)).sum
mutual
def sd (k:Nat):Nd->Nat
 | .mk a f t l c ks=>gd k (.mk a f t l c ks)+kA k ks
def kA (k:Nat):List Nd->Nat
 |[]=>0
 |n::r=>sd k n+kA k r
end
theorem SQ (k:Nat) (n:Nd):sd k n=gd k n+kA k n.kids:=by
 cases n
 rw [sd];rfl
theorem Xh {k:Nat}:∀{l:List Nd} {x:Nd},x ∈ l->sd k x<=kA k l
 |[],x,h=>by cases h
 |n::r,x,h=>by
  rw [kA]
  rcases List.mem_cons.1 h with rfl|h
  .omega
  .have:=Xh (k:=k) h;omega
theorem xF (h:x ∈ l):gd k x<=(l.map (gd k)).sum:=by
 induction l with
 |nil=>cases h
 |cons n r ih=>
  rw [List.map_cons,List.sum_cons]
  rcases List.mem_cons.1 h with rfl|h
  .omega
  .have:=ih h;omega
theorem VN (h:x ∈ n.kids):gd k x<=gd (k+1) n:=by rw [gd];exact xF h
mutual
theorem wJ (k:Nat):∀n:Nd,sd (k+1) n=kA k n.kids
 | .mk a f t l c ks=>by
   rw [sd,gd,show (Nd.mk a f t l c ks).kids=ks from rfl]
   exact dm k ks
theorem dm (k:Nat):∀l:List Nd,(l.map (gd k)).sum+kA (k+1) l=kA k l
 |[]=>rfl
 |n::r=>by
  rw [List.map_cons,List.sum_cons,kA,kA,wJ k n,SQ k n]
  have:=dm k r
  omega
end
mutual
theorem gk:∀n:Nd,sd 0 n=n.size
 | .mk a f t l c ks=>by rw [sd,gd,Nd.size,SR ks]
theorem SR:∀l:List Nd,kA 0 l=AD l
 |[]=>rfl
 |n::r=>by rw [kA,AD,gk n,SR r]
end
theorem qj:∀(k:Nat) (l:List Nd),kA k l<=AD l
 |0,l=>Nat.le_of_eq (SR l)
 |k+1,l=>by have:=dm k l;have:=qj k l;omega
theorem qi (k:Nat) (n:Nd):sd k n<=n.size:=by
 cases k with
 |zero=>exact Nat.le_of_eq (gk n)
 |succ k=>rw [wJ];have:=qj k n.kids;have:=FL n;omega
def tX (n:Nd):Nat:=gd 3 n+2*gd 4 n+gd 6 n
def uX (n:Nd):Nat:=sd 3 n+2*sd 4 n+sd 6 n
theorem gL (n:Nd):uX n<=4*n.size:=by
 have h1:=qi 3 n
 have h2:=qi 4 n
 have h3:=qi 6 n
 unfold uX;omega
theorem re (h:x ∈ n.kids):tX n+uX x<=uX n:=by
 have h1:=Xh (k:=3) h
 have h2:=Xh (k:=4) h
 have h3:=Xh (k:=6) h
 unfold tX uX
 rw [SQ 3 n,SQ 4 n,SQ 6 n]
 omega
theorem qG (n:Nd):tX n<=uX n:=by
 unfold tX uX
 rw [SQ 3 n,SQ 4 n,SQ 6 n]
 omega
def xQ (l:List Nd):Nat:=(l.map (gd 1)).sum
theorem xG (n:Nd):gd 1 n=n.kids.length:=by
 rw [gd]
 induction n.kids with
 |nil=>rfl
 |cons a r ih=>rw [List.map_cons,List.sum_cons,ih,gd,List.length_cons];omega
theorem pj {m:List Fx} (h:Hc n=.inr m):m.length<=gd 1 n:=by
 rw [xG]
 unfold Hc at h
 split at h
 .rename_i U
  rw [U,List.length_cons,List.length_cons]
  split at h
  .split at h
   .split at h
    .have:=NS h;omega
    .cases h
   .have:=NS h
    rw [List.length_cons] at this;omega
  .cases h
 .cases h
theorem ED {U:Nat}:∀{l:List Nd} {env m:List Fx},DH U l env=.inr m->m.length<=env.length+xQ l
 |[],env,m,h=>by cases h;exact Nat.le_add_right _ _
 |n::r,env,m,h=>by
  rw [DH] at h
  unfold xQ
  rw [List.map_cons,List.sum_cons]
  have e:(r.map (gd 1)).sum=xQ r:=rfl
  split at h
  .split at h
   .cases h
   .rename_i l hl
    split at h
    .cases h
    .rename_i env2 he
     have h1:=pj hl
     have h2:=QR he
     have h3:=ED h
     omega
  .have h3:=ED h
   omega
theorem eU (n:Nd):xQ n.kids=gd 2 n:=by rw [gd];rfl
theorem ff (n:Nd):xQ (CP n)<=gd 3 n:=by
 unfold CP
 split
 .rename_i b hb
  have U:=List.mem_of_getLast? hb
  split
  .rw [eU];exact VN U
  .exact Nat.zero_le _
 .exact Nat.zero_le _
theorem R0 (n:Nd) (i:Nat):xQ (DN n i)<=gd 3 n:=by
 unfold DN
 split
 .rename_i b hb
  have U:=List.mem_of_getElem? hb
  split
  .rw [eU];exact VN U
  .exact Nat.zero_le _
 .exact Nat.zero_le _
theorem aB (n:Nd):xQ (Ib n)<=gd 4 n:=by
 unfold Ib
 split
 .rename_i b hb
  have U:=List.mem_of_getLast? hb
  split
  .exact Nat.le_trans (ff b) (VN U)
  .exact Nat.zero_le _
 .exact Nat.zero_le _
theorem KF {U:Nat}:∀{l:List Nd} {env m:List Fx},Ex U l env=.inr m->m.length<=env.length+(l.map (gd 4)).sum
 |[],env,m,h=>by cases h;exact Nat.le_add_right _ _
 |c::r,env,m,h=>by
  rw [Ex] at h
  rw [List.map_cons,List.sum_cons]
  split at h
  .split at h
   .cases h
   .rename_i env2 he
    have h1:=ED he
    have h2:=aB c
    have h3:=KF h
    omega
  .have h3:=KF h
   omega
theorem Mq:∀{l:List Nd} {env m:List Fx},Kl l env=.inr m->m.length<=env.length+(l.map (gd 3)).sum
 |[],env,m,h=>by cases h;exact Nat.le_add_right _ _
 |c::r,env,m,h=>by
  rw [Kl] at h
  rw [List.map_cons,List.sum_cons]
  split at h
  .split at h
   .cases h
   .rename_i U he
    have h1:=ED he
    have h2:=R0 c 1
    have h3:=Mq h
    omega
  .have h3:=Mq h
   omega
theorem Z2 (f:Nd->Nat):∀(l:List Nd) (k:Nat),((l.drop k).map f).sum<=(l.map f).sum
 |[],k=>by rw [List.drop_nil];exact Nat.le_refl _
 |n::r,0=>Nat.le_refl _
 |n::r,k+1=>by
  have:=Z2 f r k
  rw [List.drop_succ_cons,List.map_cons,List.sum_cons];omega
theorem nT (n:Nd):((CP n).map (gd 4)).sum<=gd 6 n:=by
 unfold CP
 split
 .rename_i b hb
  have U:=List.mem_of_getLast? hb
  split
  .exact Nat.le_trans (Nat.le_of_eq (by rw [gd])) (VN (k:=5) U)
  .exact Nat.zero_le _
 .exact Nat.zero_le _
theorem Oc {m:List Fx} (h:HC env n=.inr m):m.length<=env.length+gd 3 n+gd 4 n+gd 6 n:=by
 have h1:=ff n
 have h2:=aB n
 have h3:=R0 n 1
 have h4:=Z2 (gd 3) n.kids 2
 have h5:=nT n
 have e:(n.kids.map (gd 3)).sum=gd 4 n:=by rw [gd]
 unfold HC at h
 split at h
 .split at h
  .cases h
  .rename_i U
   have h6:=ED U
   have h7:=KF h
   omega
 .split at h
  .have:=ED h;omega
  .split at h
   .have:=ED h;omega
   .split at h
    .have:=Mq h;omega
    .cases h;omega
theorem RU {k:Int} {i:Nat} {here m:List Fx} (h:RT k p i x here=.inr m):m.length<=here.length+gd 3 x:=by
 have hi:=R0 x 1
 unfold RT at h
 split at h
 .have:=ED h;omega
 .cases h;omega
theorem eN {i:Nat} (h:l[i]? =some x):((l.drop i).map (gd 3)).sum=gd 3 x+((l.drop (i+1)).map (gd 3)).sum:=by
 rw [drop_at h,List.map_cons,List.sum_cons]
section
variable {st:St} {R:As->St->Prop}
attribute [local irreducible] Go.Aw.Aj
theorem aC (hn:env.length+2*n.size<=900000000) (hs:n.size<=100000000) (ht:BX n<=100000000) (h:vJ st R (HC env n)):PC 89 [.slice 3 (Az env) .any,enc n] st R:=by
 have hi:=EM n 1
 have hw:=HB n
 have hks:=FL n
 have htk:=Ce n
 unfold HC at h
 refine pB Tryz.func89 ?_
 by_cases h1:n.kind=53
 .rw [if_pos h1] at h
  repeat' ((conv=>whnf);first|(refine AE ?_;intros)|refine oL hn hs ht ⟨λe1 U m hle=>?_,λf U b m hb=>?_⟩)
  .exact AF rfl (h.ok _ U _ hle)
  .exact AF rfl (h.no _ U _ _ hb)
 rw [if_neg h1] at h
 by_cases h2:n.kind=24
 .rw [if_pos h2] at h
  have hit:∀{st:St} {R:As->St->Prop},R (.ret (.slice 6 (Bg (DN n 1)) .any)) st->PC 132 [enc n,.int .i64 1] st R:=λh=>Qj (i:=1) h
  repeat' ((conv=>whnf);first|(refine AE ?_;intros)|refine BK (λ_=>?_)|refine hit ?_|refine OZ (Nat.le_refl _) AC AC AC ⟨λe1 U m hle=>?_,λf U b m hb=>?_⟩)
  .exact AF rfl (h.ok _ U _ hle)
  .exact AF rfl (h.no _ U _ _ hb)
 rw [if_neg h2] at h
 by_cases h3:n.kind=29
 .rw [if_pos h3] at h
  repeat' ((conv=>whnf);first|(refine AE ?_;intros)|refine BK (λ_=>?_)|refine gN ?_|refine OZ (Nat.le_refl _) AC AC AC ⟨λe1 U m hle=>?_,λf U b m hb=>?_⟩)
  .exact AF rfl (h.ok _ U _ hle)
  .exact AF rfl (h.no _ U _ _ hb)
 rw [if_neg h3] at h
 by_cases h4:n.kind=8
 .rw [if_pos h4] at h
  repeat' ((conv=>whnf);first|(refine AE ?_;intros)|fail)
  refine B5 (α:=Nat×List Fx×St) (λy=>[(0,.slice 3 (Az y.2.1) .any),(6,.int .i64 (y.1:Nat))]) [3] (λ_=>[]) [0] (λy=>y.2.2) (λy=>St.le st y.2.2/\vJ st R (Kl (n.kids.drop y.1) y.2.1)/\y.2.1.length+AD (n.kids.drop y.1)<=900000000) (λy=>n.kids.length - y.1) (2,env,st) ⟨St.le_refl _,h,by have:=K6 n.kids 2;dsimp only;omega⟩ Yl (St.le_refl _) ?_
  rintro ⟨i,e1,m⟩ ⟨j1,j2,j3⟩
  dsimp only at j1 j2 j3
  by_cases hlt:i<n.kids.length
  .obtain ⟨x,hx⟩:∃x,n.kids[(i:Int).toNat]? =some x:=⟨_,List.getElem?_eq_getElem hlt⟩
   have hx':n.kids[i]? =some x:=hx
   have hxt:=Cp (List.mem_of_getElem? hx)
   have hxi:=EM x 1
   have hxs:=G5 (List.mem_of_getElem? hx)
   rw [Gx hx'] at j3
   rw [drop_at hx',Kl] at j2
   have hli:(i:Int)<(n.kids.length:Int):=AC
   have hit:∀{st:St} {R:As->St->Prop},R (.ret (.slice 6 (Bg (DN x 1)) .any)) st->PC 132 [enc x,.int .i64 1] st R:=λh=>Qj (i:=1) h
   by_cases hk:x.kind=33
   .rw [if_pos hk] at j2
    repeat' ((conv=>whnf);first|refine Wv hli ?_|refine Wm hx AC ?_|(refine AE ?_;intros)|refine BK (l:=e1) (λ_=>?_)|refine hit ?_|refine OZ (env:=e1) (Nat.le_refl _) AC AC AC ⟨λe2 U m2 hle=>?_,λf U b m2 hb=>?_⟩|refine Wq (a:=(i:Int)+1) AC AC ?_)
    all_goals rw [U] at j2
    .conv=>whnf
     have h3:=EW U
     exact ⟨(i+1,e2,m2),⟨St.le_trans j1 hle,j2,RL⟩,Nat.sub_lt_sub_left hlt (Nat.lt_succ_self i),Yl,St.le_refl _⟩
    .exact AF rfl (j2.no _ rfl _ _ (hb.up j1))
   .rw [if_neg hk] at j2
    repeat' ((conv=>whnf);first|refine Wv hli ?_|refine Wm hx AC ?_|(refine AE ?_;intros)|refine Wq (a:=(i:Int)+1) AC AC ?_)
    all_goals conv=>whnf
    all_goals exact ⟨(i+1,e1,m),⟨j1,j2,RL⟩,Nat.sub_lt_sub_left hlt (Nat.lt_succ_self i),Yl,St.le_refl _⟩
  .rw [List.drop_of_length_le AC,Kl] at j2
   have hli:¬(i:Int)<(n.kids.length:Int):=AC
   repeat' ((conv=>whnf);first|refine Ww hli ?_|(refine AE ?_;intros)|fail)
   all_goals exact AF rfl (j2.ok _ rfl _ j1)
 rw [if_neg h4] at h
 repeat' ((conv=>whnf);first|(refine AE ?_;intros)|fail)
 all_goals exact AF rfl (h.ok _ rfl _ (St.le_refl _))
structure RsK (st:St) (R:As->St->Prop) (z:Sum Ft Nd):Prop where
 ok:∀t,z=.inr t->∀m,st.le m->R (.ret (.Bc [enc t,.DI])) m
 no:∀f,z=.inl f->∀b m,gS st m b f->R (.ret (.Bc [enc Hv,rz b])) m
structure KsK (st:St) (R:As->St->Prop) (z:Sum Ft (List Nd)):Prop where
 ok:∀l,z=.inr l->∀m,st.le m->R (.ret (.Bc [.slice 6 (Bg l) .any,.DI])) m
 no:∀f,z=.inl f->∀b m,gS st m b f->R (.ret (.Bc [.slice 6 [] .any,rz b])) m
theorem mk_zero {st:St} {w:Nat} {Q:Prop} {K:Nat->Prop} (k:∀b,st.fresh b->K b):(0<=((0:Nat):Int)/\((0:Nat):Int)<=((0:Nat):Int)/\((0:Nat):Int)*(w:Int)<=140737488355328/\((0:Nat):Int)<(DR:Nat))/\((((0:Nat):Int)=0/\∀b,st.fresh b->K b)\/Q):=
 ⟨⟨Do,Do,by rw [show ((0:Nat):Int)=0 from rfl,Int.zero_mul];decide,Do⟩,.inl ⟨rfl,k⟩⟩
def jW (l:List Nd):Sum Ft (List Nd)->Sum Ft (List Nd)
 | .inl e=>.inl e
 | .inr U=>.inr (l++U)
def gT (k:Nat):Prop:=∀{env:List Fx} {p:Int} {n:Nd} {st:St} {R:As->St->Prop},n.size<=k->n.size<=100000000->env.length+uX n<=500000000->BX n<=100000000->RsK st R (Ig env p n)->PC 60 [.slice 3 (Az env) .any,enc n,.int .i64 p] st R
section
attribute [local irreducible] Go.Aw.Bu
theorem nM (ih:gT k) {all:List Fx} (hz:n.size<=k+1) (hz2:n.size<=100000000) (he:env.length+uX n<=500000000) (ha:all.length<=env.length+gd 3 n+gd 4 n+gd 6 n) (ht:BX n<=100000000)
 (h:KsK st R (Gh all n.kind p 0 (if n.kind=8 then env else all) n.kids)):PC 90 [.slice 3 (Az env) .any,enc n,.slice 3 (Az all) .any,.int .i64 p] st R:=by
 have htk:=Ce n
 have hsk:=FL n
 have hks:=Gw n
 have htu:=qG n
 have htx:tX n=gd 3 n+2*gd 4 n+gd 6 n:=rfl
 have hg4:(n.kids.map (gd 3)).sum=gd 4 n:=by rw [gd]
 refine AM Ac [] Tryz.func90 rfl Do rfl ?_
 refine Ad (Af Ac ?_)
 repeat' ((conv=>whnf);first|(refine AE ?_;intros)|(refine Bb ?_ ?_<;>intro _)|unfold Go.Aw.Bu)
 refine Ad (Af Ac ?_)
 repeat' ((conv=>whnf);first|(refine AE ?_;intros)|(refine Bb ?_ ?_<;>intro _)|unfold Go.Aw.Bu)
 have h0:∃here:List Fx,(if n.kind=8 then env else all)=here/\here.length<=env.length+gd 3 n+gd 4 n+gd 6 n:=⟨_,rfl,by split<;>omega⟩
 obtain ⟨here,hh,hhl⟩:=h0
 rw [hh] at h
 refine DL (α:=Unit) (λ_=>[(10,.slice 3 (Az here) .any)]) (λ_=>[]) [2,3,5] [0] (λ_=>st) (λ_=>True) (Af Ac ?_) ?_
 .by_cases h8:n.kind=8
  .rw [if_pos h8] at hh
   subst hh
   repeat' ((conv=>whnf);first|(refine AE ?_;intros)|(refine Bb ?_ ?_<;>intro _)|unfold Go.Aw.Bu)
   all_goals exact ⟨(),trivial,Yl,St.le_refl _⟩
  .rw [if_neg h8] at hh
   subst hh
   repeat' ((conv=>whnf);first|(refine AE ?_;intros)|(refine Bb ?_ ?_<;>intro _)|unfold Go.Aw.Bu)
   all_goals exact ⟨(),trivial,Yl,St.le_refl _⟩
 rintro _ _
 clear hh
 by_cases hk0:n.kids=[]
 .rw [hk0] at h
  refine Af Ac ?_
  have hl0:(Bg n.kids).length=0:=by rw [hk0];rfl
  repeat' ((conv=>whnf);first|refine IU (n:=0) hl0 ?_|(refine AE ?_;intros)|(refine Bb ?_ ?_<;>intro _)|refine mk_zero (λb fb=>?_)|unfold Go.Aw.Bu)
  refine VZ 28 [11,26,27] [0] 0 (λk=>k=0) rfl Yl ?_
  rintro i rfl
  repeat' ((conv=>whnf);first|(refine AE ?_;intros)|(refine Bb ?_ ?_<;>intro _)|unfold Go.Aw.Bu)
  all_goals exact AF rfl (h.ok _ rfl _ (St.Ec (St.le_refl _) fb.2 _))
 .have hne:n.kids.length≠0:=λe=>hk0 (List.length_eq_zero_iff.1 e)
  refine Ad (Af Ac ?_)
  repeat' ((conv=>whnf);first|(refine AE ?_;intros)|(refine Bb ?_ ?_<;>intro _)|refine Wl (λ_=>?_)|refine ue AC AC (λb fb=>?_)|unfold Go.Aw.Bu)
  refine DL (α:=St×List Nd) (λm=>[(11,.Gf 6 b n.kids.length n.kids.length)]) (λ_=>[]) [] [] (λm=>m.1) (λm=>m.1.box b=some (KZ m.2 n.kids.length)/\m.2.length=n.kids.length/\st.le m.1/\KsK st R (.inr m.2)) ?_ ?_
  .refine Ad (Af Ac ?_)
   repeat' ((conv=>whnf);first|(refine AE ?_;intros)|(refine Bb ?_ ?_<;>intro _)|refine Wl (λ_=>?_)|unfold Go.Aw.Bu)
   refine FP (Kx (α:=Nat×List Fx×List Nd×St) (λy=>[(10,.slice 3 (Az y.2.1) .any),(28,.int .i64 (y.1:Nat))]) (λ_=>[]) [2,3,5,11,26,27] [0] (λy=>y.2.2.2) (λy=>y.1<=n.kids.length/\y.2.2.1.length=y.1/\y.2.2.2.box b=some (KZ y.2.2.1 n.kids.length)/\st.le y.2.2.2/\KsK st R (jW y.2.2.1 (Gh all n.kind p y.1 y.2.1 (n.kids.drop y.1)))/\y.2.1.length+((n.kids.drop y.1).map (gd 3)).sum<=env.length+tX n) (λy=>n.kids.length - y.1) (0,here,[],_) ⟨Nat.zero_le _,rfl,(St.AX _ _ _).trans (congrArg some yk),St.Ag (St.le_refl _) fb.1 _,?_,?_⟩ Yl (St.le_refl _) ?_)
   .rw [List.drop_zero]
    cases hz:Gh all n.kind p 0 here n.kids with
    |inl e=>rw [hz] at h;exact h
    |inr l=>rw [hz] at h;exact h
   .dsimp only;rw [List.drop_zero];omega
   .rintro ⟨i,e1,l,m⟩ ⟨j1,j2,j3,j4,U,j6⟩
    dsimp only at j1 j2 j3 j4 U j6 |-
    by_cases hlt:i<n.kids.length
    .obtain ⟨x,hx⟩:∃x,n.kids[(i:Int).toNat]? =some x:=⟨_,List.getElem?_eq_getElem hlt⟩
     have hx':n.kids[i]? =some x:=hx
     have hmem:=List.mem_of_getElem? hx
     have hxt:=Cp hmem
     have hsz:=CC hmem
     rw [eN hx'] at j6
     have hux:=re hmem
     rw [drop_at hx',Gh] at U
     have hli:(i:Int)<(n.kids.length:Int):=AC
     have hxi:=EM x 1
     refine Ad (Af Ac ?_)
     repeat' ((conv=>whnf);first|refine Wv hli ?_|(refine AE ?_;intros)|(refine Bb ?_ ?_<;>intro _)|unfold Go.Aw.Bu)
     refine Ad (Af Ac ?_)
     repeat' ((conv=>whnf);first|(refine AE ?_;intros)|(refine Bb ?_ ?_<;>intro _)|unfold Go.Aw.Bu)
     refine Ad (FP (Ad (Af Ac ?_)))
     repeat' ((conv=>whnf);first|refine Wm hx AC ?_|(refine AE ?_;intros)|(refine Bb ?_ ?_<;>intro _)|unfold Go.Aw.Bu)
     refine Ad (Af Ac ?_)
     repeat' ((conv=>whnf);first|(refine AE ?_;intros)|(refine Bb ?_ ?_<;>intro _)|unfold Go.Aw.Bu)
     refine DL (α:=List Fx×St) (λy=>[(10,.slice 3 (Az y.1) .any),(14,.DI)]) (λ_=>[]) [2,3,5,11,12,13,26,27,28] [0,1] (λy=>y.2) (λy=>RT n.kind p i x e1=.inr y.1/\m.le y.2) (Af Ac ?_) ?_
     .unfold RT at U |-
      have hit:∀{st:St} {R:As->St->Prop},R (.ret (.slice 6 (Bg (DN x 1)) .any)) st->PC 132 [enc x,.int .i64 1] st R:=λh=>Qj (i:=1) h
      by_cases hc:MJ n.kind p=true/\x.kind=33/\(n.kind≠8\/2<=i)
      .rw [if_pos hc] at U |-
       obtain ⟨c1,c2,c3⟩:=hc
       repeat' ((conv=>whnf);first|refine M0 c1 ?_|(refine AE ?_;intros)|(refine Bb ?_ ?_<;>intro _)|refine gA ?_|refine hit ?_|refine BK (l:=e1) (λ_=>?_)|refine OZ (env:=e1) (Nat.le_refl _) AC AC AC ⟨λe2 he m2 hle=>?_,λf he b m2 hb=>?_⟩|unfold Go.Aw.Bu)
       all_goals conv=>whnf
       all_goals first
        |exact ⟨(e2,m2),⟨he,hle⟩,Yl,St.le_refl _⟩
        |(rw [he] at U;exact AF rfl (U.no _ rfl _ _ (hb.up j4)))
      .rw [if_neg hc] at U |-
       repeat' ((conv=>whnf);first|(refine AE ?_;intros)|(refine Bb ?_ ?_<;>intro _)|refine gA ?_|unfold Go.Aw.Bu)
       all_goals conv=>whnf
       all_goals first|exact ⟨(e1,m),⟨rfl,St.le_refl _⟩,Yl,St.le_refl _⟩|exact absurd ⟨FS,FS,AC⟩ hc
     .rintro ⟨e2,m2⟩ ⟨i1,i2⟩
      dsimp only at i1 i2 |-
      rw [i1] at U
      dsimp only at U
      have hhl2:=RU i1
      have hb2:=i2.1 _ _ j3
      have hle2:=St.le_trans j4 i2
      refine Ad (Af Ac ?_)
      repeat' ((conv=>whnf);first|(refine AE ?_;intros)|(refine Bb ?_ ?_<;>intro _)|unfold Go.Aw.Bu)
      have hw:∃wt:List Fx,(if n.kind=8/\i<2 then all else e2)=wt/\wt.length<=env.length+tX n:=⟨_,rfl,by split<;>omega⟩
      obtain ⟨wt,hwt,hwl⟩:=hw
      rw [hwt] at U
      refine DL (α:=Unit) (λ_=>[(15,.slice 3 (Az wt) .any)]) (λ_=>[]) [2,3,5,10,11,12,13,26,27,28] [0,1] (λ_=>m2) (λ_=>True) (Af Ac ?_) ?_
      .by_cases h8:n.kind=8/\i<2
       .rw [if_pos h8] at hwt
        subst hwt
        repeat' ((conv=>whnf);first|(refine AE ?_;intros)|(refine Bb ?_ ?_<;>intro _)|unfold Go.Aw.Bu)
        all_goals first|exact ⟨(),trivial,Yl,St.le_refl _⟩|(exfalso;omega)
       .rw [if_neg h8] at hwt
        subst hwt
        repeat' ((conv=>whnf);first|(refine AE ?_;intros)|(refine Bb ?_ ?_<;>intro _)|unfold Go.Aw.Bu)
        all_goals first|exact ⟨(),trivial,Yl,St.le_refl _⟩|(exfalso;omega)
      .rintro _ _
       clear hwt
       have hrec:∀{st:St} {R:As->St->Prop},RsK st R (Ig wt n.kind x)->PC 60 [.slice 3 (Az wt) .any,enc x,.int .i64 n.kind] st R:=λh=>ih AC AC AC AC h
       refine Af Ac ?_
       cases hr:Ig wt n.kind x with
       |inl f=>
        rw [hr] at U
        have hrec2:∀{st:St} {R:As->St->Prop},(∀b m,gS st m b f->R (.ret (.Bc [enc Hv,rz b])) m)->PC 60 [.slice 3 (Az wt) .any,enc x,.int .i64 n.kind] st R:=λh=>hrec ⟨λt e=>(by rw [hr] at e;cases e),λf' e=>(by rw [hr] at e;cases e;exact h)⟩
        repeat' ((conv=>whnf);first|(refine AE ?_;intros)|(refine Bb ?_ ?_<;>intro _)|refine hrec2 (λbf m3 hbf=>?_)|refine dZ (j:=i) rfl AC ?_|refine Al (hbf.le.1 _ _ hb2) ?_|refine Z0 j2 hlt ?_|unfold Go.Aw.Bu)
        have hbf':∀{m3:St} {bf:Nat},m2.le m3->m3.box bf=some (ftC f)->∀cs,(m3.Aa b cs).box bf=some (ftC f):=λ{m3 bf} h1 h2 cs=>by
         rw [St.Ak (λe=>?_)]
         .exact h2
         .subst e
          have h3:=h1.1 _ _ hb2
          rw [h2] at h3
          have h4:=congrArg List.length (Option.some.inj h3)
          rw [Sw AC] at h4
          have h5:3=n.kids.length*6:=h4
          omega
        all_goals exact AF rfl (U.no _ rfl _ _ ⟨St.Ag (St.le_trans hle2 hbf.le) fb.1 _,hbf' hbf.le hbf.box _,(hbf.up hle2).new⟩)
       |inr t=>
        rw [hr] at U
        have hrec2:∀{st:St} {R:As->St->Prop},(∀m,st.le m->R (.ret (.Bc [enc t,.DI])) m)->PC 60 [.slice 3 (Az wt) .any,enc x,.int .i64 n.kind] st R:=λh=>hrec ⟨λt e=>(by rw [hr] at e;cases e;exact h),λf' e=>(by rw [hr] at e;cases e)⟩
        repeat' ((conv=>whnf);first|(refine AE ?_;intros)|(refine Bb ?_ ?_<;>intro _)|refine hrec2 (λm3 hle3=>?_)|refine dZ (j:=i) rfl AC ?_|refine Al (hle3.1 _ _ hb2) ?_|refine Z0 j2 hlt ?_|unfold Go.Aw.Bu)
        refine Af Ac ?_
        repeat' ((conv=>whnf);first|(refine AE ?_;intros)|(refine Bb ?_ ?_<;>intro _)|refine Wq (a:=(i:Int)+1) AC AC ?_|unfold Go.Aw.Bu)
        all_goals conv=>whnf
        all_goals refine ⟨(i+1,e2,l++[t],m3.Aa b (KZ (l++[t]) n.kids.length)),⟨hlt,by rw [List.length_append,List.length_singleton,j2],St.AX _ _ _,St.Ag (St.le_trans hle2 hle3) fb.1 _,?_,RL⟩,Nat.sub_lt_sub_left hlt (Nat.lt_succ_self i),Yl,St.le_refl _⟩
        all_goals dsimp only at U |-
        all_goals cases hq:Gh all n.kind p (i+1) e2 (n.kids.drop (i+1)) with
        |inl f=>rw [hq] at U;exact U
        |inr ms=>rw [hq] at U;dsimp only [jW] at U |-;rw [List.append_assoc];exact U
    .have hi2:i=n.kids.length:=AC
     rw [List.drop_of_length_le AC,Gh,jW,List.append_nil] at U
     have hli:¬(i:Int)<(n.kids.length:Int):=AC
     refine Ad (Af Ac ?_)
     repeat' ((conv=>whnf);first|refine Ww hli ?_|(refine AE ?_;intros)|(refine Bb ?_ ?_<;>intro _)|unfold Go.Aw.Bu)
     refine Af Ac ?_
     repeat' ((conv=>whnf);first|(refine AE ?_;intros)|(refine Bb ?_ ?_<;>intro _)|unfold Go.Aw.Bu)
     all_goals conv=>whnf
     all_goals exact ⟨(m,l),⟨j3,RL,j4,U⟩,Yl,St.le_refl _⟩
  .rintro ⟨m,ks⟩ ⟨hb,hl,hle,hr⟩
   dsimp only at hb hl hle hr |-
   rw [oV hl] at hb
   refine gQ 11 [] rfl (show 11<Tryz.f90.ntmps by decide) hb (λe he=>by obtain ⟨s,_,rfl⟩:=List.mem_map.1 he;rfl) (by rw [List.length_map];exact hl) ?_
   refine Af Ac ?_
   repeat' ((conv=>whnf);first|(refine AE ?_;intros)|(refine Bb ?_ ?_<;>intro _)|unfold Go.Aw.Bu)
   all_goals exact AF (by rw [BF];rfl) (hr.ok _ rfl _ (R8 hle fb.1))
end
end
theorem RG {op:List UInt8}:∀{l:List Fx},(∀f ∈ l,0<=f.prec)->0<=(Ir op l).prec
 |[],_=>(by decide:(0:Int)<=9)
 |f::r,h=>by
  rw [Ir]
  split
  .exact h f List.mem_cons_self
  .exact RG λf hf=>h f (List.mem_cons_of_mem _ hf)
theorem cc:∀f ∈ IM,0<=f.prec:=Do
theorem RE {op:List UInt8}:∀{l:List Fx},0<=(eJ op l).prec
 |[]=>RG cc
 |f::r=>by
  rw [eJ]
  split
  .rename_i h
   have:=h.2
   unfold YX at this
   simp only [Bool.and_eq_true,decide_eq_true_eq] at this
   exact this.1.1.1
  .exact RE
theorem iW (env:List Fx) (n:Nd):0<=(RJ env n).prec:=RE
mutual
theorem Mu {env:List Fx}:∀(k:Nat) {o:Fx} {l:List Nd} {q:Nd×List Nd},Df env k o l=some q->AG l=A0 q.1++AG q.2/\BX q.1+Bf q.2<=Bf l
 |0,o,l,q,h=>by cases h
 |k+1,o,[],q,h=>by cases h
 |k+1,o,n::r,q,h=>by
  rw [Df] at h
  rw [AG,Bf]
  split at h
  .split at h
   .cases h
   .split at h
    .rename_i p U
     have h1:=Mu k U
     have h2:=O0 k h
     rw [D2 Do,AG,AG,AG,List.append_nil,List.append_assoc,<-h1.1] at h2
     exact ⟨h2.1,by
      have h3:BX (At 21 [n,p.1])=BX n+BX p.1:=by unfold At;rw [BX,Bf,Bf,Bf,List.length_nil];omega
      omega⟩
    .cases h
  .exact O0 k h
theorem O0 {env:List Fx}:∀(k:Nat) {o:Fx} {n:Nd} {l:List Nd} {q:Nd×List Nd},Eg env k o n l=some q->A0 n++AG l=A0 q.1++AG q.2/\BX q.1+Bf q.2<=BX n+Bf l
 |0,o,n,l,q,h=>by cases h
 |k+1,o,n,[],q,h=>by cases h;exact ⟨rfl,Nat.le_refl _⟩
 |k+1,o,n,p::r,q,h=>by
  rw [Eg] at h
  rw [AG,Bf]
  split at h
  .cases h
  .split at h
   .cases h;exact ⟨by rw [AG],by show BX n+Bf (p::r)<=_;rw [Bf];omega⟩
   .split at h
    .rename_i U hq
     have h1:=Mu k hq
     have h2:=O0 k h
     rw [D2 Do,AG,AG,AG,AG,List.append_nil,List.append_assoc,List.append_assoc,<-h1.1] at h2
     exact ⟨h2.1,by
      have h3:BX (At 20 [n,p,U.1])=BX n+(BX p+BX U.1):=by unfold At;rw [BX,Bf,Bf,Bf,Bf,List.length_nil];omega
      omega⟩
    .cases h
end
theorem Td {env:List Fx}:∀(k:Nat) {o:Fx} {n:Nd} {l:List Nd} {q:Nd×List Nd},o.prec<0->Eg env k o n l=some q->q.2=[]
 |0,o,n,l,q,_,h=>by cases h
 |k+1,o,n,[],q,_,h=>by cases h;rfl
 |k+1,o,n,p::r,q,U,h=>by
  have:=iW env p
  rw [Eg] at h
  split at h
  .cases h
  .rw [if_neg AC] at h
   split at h
   .exact Td k U h
   .cases h
theorem iV:∀(k:Nat) {o:Fx} {l:List Nd} {q:Nd×List Nd},o.prec<0->Df env k o l=some q->q.2=[]
 |0,o,l,q,_,h=>by cases h
 |k+1,o,[],q,_,h=>by cases h
 |k+1,o,n::r,q,U,h=>by
  rw [Df] at h
  split at h
  .split at h
   .cases h
   .split at h
    .exact Td k U h
    .cases h
  .exact Td k U h
theorem VW (h:¬n.kind=1):A0 n=AG n.kids:=by
 cases n
 rw [A0]
 exact if_neg h
theorem jQ {t:Nd} (h:OL env n=.inr t):A0 t=A0 n/\BX t<=BX n:=by
 unfold OL at h
 split at h
 .rename_i hk
  split at h
  .split at h
   .rename_i p U
    cases h
    have h1:=Mu _ U
    have h2:=iV _ Do U
    have h3:=Ce n
    rw [h2,AG,List.append_nil] at h1
    rw [VW (n:=n) (by rw [hk];decide)]
    exact ⟨h1.1.symm,AC⟩
   .cases h
  .cases h
 .cases h
  exact ⟨rfl,Nat.le_refl _⟩
theorem iQ {t:Nd} (h:X9 env n=.inr t):A0 t=A0 n/\BX t<=BX n:=by
 unfold X9 at h
 split at h
 .cases h
 .rename_i t' U
  cases h
  exact jQ U
mutual
theorem kr:∀(n:Nd) {env:List Fx} {p:Int} {t:Nd},Ig env p n=.inr t->A0 t=A0 n/\BX t<=BX n
 | .mk k f t l c ks,env,p,u,h=>by
   rw [Ig] at h
   split at h
   .cases h
   .split at h
    .cases h
    .rename_i ks' U
     have h1:=JW ks U
     have h2:=iQ h
     rw [h2.1,A0,A0,h1.1]
     have h3:=h2.2
     rw [BX] at h3 |-
     exact ⟨rfl,AC⟩
theorem JW:∀(l:List Nd) {all here:List Fx} {k p:Int} {i:Nat} {m:List Nd},Gh all k p i here l=.inr m->AG m=AG l/\Bf m<=Bf l
 |[],all,here,k,p,i,m,h=>by cases h;exact ⟨rfl,Nat.le_refl _⟩
 |n::r,all,here,k,p,i,m,h=>by
  rw [Gh] at h
  split at h
  .cases h
  .split at h
   .cases h
   .rename_i t ht
    split at h
    .cases h
    .rename_i ms U
     cases h
     have h1:=kr n ht
     have h2:=JW r U
     rw [AG,AG,Bf,Bf,h1.1,h2.1]
     exact ⟨rfl,AC⟩
end
end Go.Proofs.Z
namespace Go.Proofs.Z
open Go Go.Aw Go.RowKit Go.Extern.Stop Go.Stop Go.Extern
theorem U7 (t:Addr) (w:World):(ReflectliteValue.unpack (.iface 95 (.pointer (some t)))).run Tryz.prog w
 =.ok (.agg #[.pointer (some ⟨7,95,none⟩),.pointer (some ⟨w.heap.size,0,none⟩),.int .u64 150]) (w.alloc (.cells #[.pointer (some t)] 95)):=EQ
theorem ic (a : Addr) (w : World) : (ReflectliteValue.methodAny (ReflectliteValue.valueError "reflectlite.Value.Type" 0) (λt _ _ _ => ReflectliteType.toType t) #[.agg #[.pointer (some ⟨7, 95, none⟩), .pointer (some a), .int .u64 150]]).run Tryz.prog w
 =.ok (.iface 191 (.agg #[.pointer (some ⟨7,95,none⟩)])) w:=EQ
theorem TC (h : Value) (w : World) : (Go.method 486 191 (.agg #[h]) "Kind").run Tryz.prog w = .ok (437, h) w := by kernel_rfl
theorem ib (w:World):((ReflectliteType.abiMethod λt=>(λa:Nat=>Value.int IntKind.u8 (a:Int))<$>Rtype.kind t) #[.pointer (some ⟨7,95,none⟩)]).run Tryz.prog w=.ok (.int .u8 22) w:=EQ
theorem ia (w:World):((ReflectliteType.abiMethod λt=>(λa:Nat=>Value.int IntKind.u8 (a:Int))<$>Rtype.kind t) #[.pointer (some ⟨7,91,none⟩)]).run Tryz.prog w=.ok (.int .u8 22) w:=EQ
theorem rlm (z:Sem Value) (f:TypeId->Addr->Nat->Nat->Sem Value) (v:Value):
 ReflectliteValue.method z f #[v]=(do match <-ReflectliteValue.parts v with|none=>z|some (t,a,U)=>f t a U (U % 32)):=rfl
theorem QV (a:Addr) (w:World):(ReflectliteValue.parts (.agg #[.pointer (some ⟨7,95,none⟩),.pointer (some a),.int .u64 150])).run Tryz.prog w=.ok (some (95,a,150)) w:=EQ
theorem aR (a p:Addr) (W:World) (U:W.cell? a=some (.pointer (some p))):
 (ReflectliteValue.method (ReflectliteValue.valueError "reflectlite.Value.IsNil" 0) ReflectliteValue.isNil #[.agg #[.pointer (some ⟨7, 95, none⟩), .pointer (some a), .int .u64 150]]).run Tryz.prog W = .ok (.bool false) W := by
 rw [rlm]
 simp only [Sem.run_bind,QV,Result.andThen]
 simp [ReflectliteValue.isNil,loadVar,isAgg,underlying,Tryz.underlying95,U,Result.andThen]
theorem TB (h : Value) (w : World) : (Go.method 486 191 (.agg #[h]) "Elem").run Tryz.prog w = .ok (448, .agg #[h]) w := by kernel_rfl
theorem LX (h : Value) (w : World) : (Go.method 486 191 (.agg #[h]) "Implements").run Tryz.prog w = .ok (449, .agg #[h]) w := by kernel_rfl
theorem Ks (h : Value) (w : World) : (Go.method 486 191 (.agg #[h]) "AssignableTo").run Tryz.prog w = .ok (446, .agg #[h]) w := by kernel_rfl
theorem hU (w:World):(ReflectliteType.method ReflectliteType.elem #[.agg #[.pointer (some ⟨7,95,none⟩)]]).run Tryz.prog w=.ok (.iface 191 (.agg #[.pointer (some ⟨7,91,none⟩)])) w:=EQ
theorem PX (w : World) : (ReflectliteType.relation "Implements" ReflectliteType.implements_ #[.agg #[.pointer (some ⟨7, 91, none⟩)], .iface 191 (.agg #[.pointer (some ⟨7, 86, none⟩)])]).run Tryz.prog w = .ok (.bool true) w := by kernel_rfl
theorem XQ (v:Value) (w:World):(ReflectliteType.typeOf #[.iface 91 v]).run Tryz.prog w=.ok (.iface 191 (.agg #[.pointer (some ⟨7,91,none⟩)])) w:=EQ
theorem PW (w : World) : (ReflectliteType.relation "AssignableTo" ReflectliteType.assignableTo #[.agg #[.pointer (some ⟨7, 91, none⟩)], .iface 191 (.agg #[.pointer (some ⟨7, 91, none⟩)])]).run Tryz.prog w = .ok (.bool true) w := by kernel_rfl
theorem U6 (e:Addr) (w:World):(ReflectliteValue.unpack (.iface 91 (.pointer (some e)))).run Tryz.prog w
 =.ok (.agg #[.pointer (some ⟨7,91,none⟩),.pointer (some ⟨w.heap.size,0,none⟩),.int .u64 150]) (w.alloc (.cells #[.pointer (some e)] 91)):=EQ
theorem XO (w:World):(Rtype.elem? 95).run Tryz.prog w=.ok (some 91) w:=EQ
theorem rP (p:Addr) (w:World):(ReflectliteValue.mk 91 p ReflectliteValue.flagAddr).run Tryz.prog w=.ok (.agg #[.pointer (some ⟨7,91,none⟩),.pointer (some p),.int .u64 406]) w:=EQ
theorem aQ (a p:Addr) (W:World) (U:W.cell? a=some (.pointer (some p))):
 (ReflectliteValue.method (ReflectliteValue.valueError "reflectlite.Value.Elem" 0) ReflectliteValue.elem #[.agg #[.pointer (some ⟨7, 95, none⟩), .pointer (some a), .int .u64 150]]).run Tryz.prog W
   =.ok (.agg #[.pointer (some ⟨7,91,none⟩),.pointer (some p),.int .u64 406]) W:=by
 rw [rlm]
 simp only [Sem.run_bind,QV,Result.andThen]
 simp [ReflectliteValue.elem,loadVar,isAgg,underlying,Tryz.underlying95,U,Result.andThen,XO,rP]
theorem rls (v x:Value):ReflectliteValue.set #[v,x]=(do
 let (some (dst,a,U),some (src,b,_)):=(<-ReflectliteValue.parts v,<-ReflectliteValue.parts x)
  | unsupported (.noEntry "extern/(internal/reflectlite.Value).Set.zeroValue")
 if U / ReflectliteValue.flagAddr % 2 == 0 then unsupported (.noEntry "extern/(internal/reflectlite.Value).Set.unaddressable")
 let val <-loadVar src b
 if <-Rtype.directlyAssignable dst src then storeVar dst a val
 else if <-Rtype.implements dst src then
  if (<-Rtype.kind src)==20 then
   match val with
   | .nilIface => unsupported (.noEntry "extern/reflectlite: a nil value of one interface type handed on as a value of another")
   |_=>storeVar dst a val
  else storeVar dst a (.iface src val)
 else panicString ("reflectlite.Set: value of type " ++ (<- Rtype.spelt src) ++ " is not assignable to type " ++ (<- Rtype.spelt dst))
 pure (.tuple #[])):=rfl
theorem XP (a:Addr) (w:World):(ReflectliteValue.parts (.agg #[.pointer (some ⟨7,91,none⟩),.pointer (some a),.int .u64 406])).run Tryz.prog w=.ok (some (91,a,406)) w:=EQ
theorem aS (a:Addr) (w:World):(ReflectliteValue.parts (.agg #[.pointer (some ⟨7,91,none⟩),.pointer (some a),.int .u64 150])).run Tryz.prog w=.ok (some (91,a,150)) w:=EQ
theorem XN (w:World):(Rtype.directlyAssignable 91 91).run Tryz.prog w=.ok true w:=EQ
theorem lT (U b e:Addr) (Ie:Value) (W:World) (hb:W.cell? b=some (.pointer (some e))) (ht:W.cell? U=some Ie) (hf:W.frozen? U=false):
 (ReflectliteValue.set #[.agg #[.pointer (some ⟨7,91,none⟩),.pointer (some U),.int .u64 406],.agg #[.pointer (some ⟨7,91,none⟩),.pointer (some b),.int .u64 150]]).run Tryz.prog W
   =.ok (.tuple #[]) (W.setCell U (.pointer (some e))):=by
 rw [rls]
 simp only [Sem.run_bind,XP,aS,Result.andThen]
 simp [ReflectliteValue.flagAddr,loadVar,isAgg,underlying,Tryz.underlying91,hb,Result.andThen,XN,storeVar,Value.cells,storeCells,Addr.add]
 rw [run_store Tryz.prog W U _ _ H1]
 simp [ht,hf]
theorem xb (e t:Addr) (Ie:Value) (w:World) (hg:w.cell? ⟨0,0,none⟩=some (.iface 191 (.agg #[.pointer (some ⟨7,86,none⟩)]))) (U:w.cell? t=some Ie) (hf0:w.frozen? t=false):
 Calls Tryz.prog 61 #[.iface 91 (.pointer (some e)),.iface 95 (.pointer (some t))] w λev w'=>ev=.returned (.bool true)/\w'=((((w.alloc (.cells #[.pointer (some t)] 95)).alloc (.cells #[.pointer (some ⟨7,95,none⟩),.pointer (some ⟨w.heap.size,0,none⟩),.int .u64 150] 133)).alloc (.cells #[.pointer (some ⟨7,95,none⟩),.pointer (some ⟨w.heap.size,0,none⟩),.int .u64 150] 133)).alloc (.cells #[.pointer (some e)] 91)).setCell t (.pointer (some e)):=by
 have h6:=@run_callFunc_extern Tryz.prog 93 _ (λargs=>ReflectliteValue.unpack (args.getD 0 (.tuple #[]))) Tryz.func93 EQ EQ EQ EQ
 have h7 := @run_callFunc_extern Tryz.prog 94 _ (ReflectliteValue.methodAny (ReflectliteValue.valueError "reflectlite.Value.Type" 0) (λt _ _ _ => ReflectliteType.toType t)) Tryz.func94 EQ EQ EQ EQ
 have h8 := @run_callFunc_extern Tryz.prog 95 _ (ReflectliteValue.method (ReflectliteValue.valueError "reflectlite.Value.IsNil" 0) ReflectliteValue.isNil) Tryz.func95 EQ EQ EQ EQ
 have h27:=@run_callFunc_extern Tryz.prog 437 _ (ReflectliteType.abiMethod λt=>do pure (.int .u8 (<-Rtype.kind t))) Tryz.func437 EQ EQ EQ EQ
 have h37:=@run_callFunc_extern Tryz.prog 448 _ (ReflectliteType.method ReflectliteType.elem) Tryz.func448 EQ EQ EQ EQ
 have h38 := @run_callFunc_extern Tryz.prog 449 _ (ReflectliteType.relation "Implements" ReflectliteType.implements_) Tryz.func449 EQ EQ EQ EQ
 have h10:=@run_callFunc_extern Tryz.prog 141 _ ReflectliteType.typeOf Tryz.func141 EQ EQ EQ EQ
 have h35 := @run_callFunc_extern Tryz.prog 446 _ (ReflectliteType.relation "AssignableTo" ReflectliteType.assignableTo) Tryz.func446 EQ EQ EQ EQ
 have h11 := @run_callFunc_extern Tryz.prog 142 _ (ReflectliteValue.method (ReflectliteValue.valueError "reflectlite.Value.Elem" 0) ReflectliteValue.elem) Tryz.func142 EQ EQ EQ EQ
 have h12:=@run_callFunc_extern Tryz.prog 143 _ ReflectliteValue.set Tryz.func143 EQ EQ EQ EQ
 have tO:=XQ
 have mA:=Ks
 have a25:=PW
 have v25:=U6
 have f6:=U7
 have f7:=ic
 have mK:=TC
 have mE:=TB
 have mI:=LX
 have k27:=ib
 have k25:=ia
 have e27:=hU
 have i25:=PX
 have n8:=aR ⟨w.heap.size,0,none⟩ t ((w.alloc (.cells #[.pointer (some t)] 95)).alloc (.cells #[.pointer (some ⟨7,95,none⟩),.pointer (some ⟨w.heap.size,0,none⟩),.int .u64 150] 133)) GT
 have hlt:0<w.heap.size:=by
  rcases Nat.lt_or_ge 0 w.heap.size with h|h0
  .exact h
  .simp [World.cell?,Array.getElem?_eq_none h0] at hg
 have hg2:((w.alloc (.cells #[.pointer (some t)] 95)).alloc (.cells #[.pointer (some ⟨7,95,none⟩),.pointer (some ⟨w.heap.size,0,none⟩),.int .u64 150] 133)).cell? ⟨0,0,none⟩=some (.iface 191 (.agg #[.pointer (some ⟨7,86,none⟩)])):=by
  rw [World.cell?_alloc_lt _ _ ⟨0,0,none⟩ GT,World.cell?_alloc_lt _ _ ⟨0,0,none⟩ hlt];exact hg
 have htl:t.block<w.heap.size:=by
  rcases Nat.lt_or_ge t.block w.heap.size with h|h
  .exact h
  .simp [World.cell?,Array.getElem?_eq_none h] at U
 have el:=aQ ⟨w.heap.size,0,none⟩ t (((w.alloc (.cells #[.pointer (some t)] 95)).alloc (.cells #[.pointer (some ⟨7,95,none⟩),.pointer (some ⟨w.heap.size,0,none⟩),.int .u64 150] 133)).alloc (.cells #[.pointer (some ⟨7,95,none⟩),.pointer (some ⟨w.heap.size,0,none⟩),.int .u64 150] 133)) (by rw [World.cell?_alloc_lt _ _ ⟨w.heap.size,0,none⟩ So];simp)
 have st:=lT t ⟨w.heap.size+1+1+1,0,none⟩ e Ie ((((w.alloc (.cells #[.pointer (some t)] 95)).alloc (.cells #[.pointer (some ⟨7,95,none⟩),.pointer (some ⟨w.heap.size,0,none⟩),.int .u64 150] 133)).alloc (.cells #[.pointer (some ⟨7,95,none⟩),.pointer (some ⟨w.heap.size,0,none⟩),.int .u64 150] 133)).alloc (.cells #[.pointer (some e)] 91))
  (by rw [World.cell?_alloc_at _ _ _ _ GT];rfl)
  (by rw [World.cell?_alloc_lt _ _ t So,World.cell?_alloc_lt _ _ t So,World.cell?_alloc_lt _ _ t So,World.cell?_alloc_lt _ _ t htl];exact U)
  (by rw [World.frozen?_alloc_old _ _ t So,World.frozen?_alloc_old _ _ t So,World.frozen?_alloc_old _ _ t So,World.frozen?_alloc_old _ _ t (Nat.ne_of_lt htl)];exact hf0)
 go_enter Tryz.func61,Tryz.ntmps61
 go_wp2
 refine wp_loop_rounds 1 ?_
 rw [rounds_succ]
 go_wp2
 go_ret
 exact ⟨rfl,rfl⟩
end Go.Proofs.Z
namespace Go.Proofs.Z
open Go Go.Aw
section
variable {st:St} {R:As->St->Prop}
theorem z8 (ih:gT k):gT (k+1):=by
 intro env p n st R hz hz2 he ht h
 refine pB Tryz.func60 ?_
 cases n with
 |mk nk nf nt nl nc ks=>
  generalize hn:Nd.mk nk nf nt nl nc ks=n at hz hz2 he ht h |-
  have hks:n.kids=ks:=by rw [<-hn];rfl
  have hkk:n.kind=nk:=by rw [<-hn];rfl
  have hzk:=FL n
  cases hw:HC env n with
  |inl f=>
   have hr:Ig env p n=.inl f:=by rw [<-hn] at hw |-;rw [Ig,hw]
   have hwf:∀{st:St} {R:As->St->Prop},(∀b m,gS st m b f->R (.ret (.Bc [.slice 3 [] .any,rz b])) m)->PC 89 [.slice 3 (Az env) .any,enc n] st R:=λh=>aC AC AC ht (.inl hw h)
   repeat' ((conv=>whnf);first|(refine AE ?_;intros)|refine hwf (λb m hb=>?_))
   all_goals exact AF rfl (h.no _ hr _ _ hb)
  |inr all=>
   have hwl:=Oc hw
   have htu:=qG n
   have htx:tX n=gd 3 n+2*gd 4 n+gd 6 n:=rfl
   have hwf:∀{st:St} {R:As->St->Prop},(∀m,st.le m->R (.ret (.Bc [.slice 3 (Az all) .any,.DI])) m)->PC 89 [.slice 3 (Az env) .any,enc n] st R:=λh=>aC AC AC ht (.inr hw h)
   cases U:Gh all nk p 0 (if nk=8 then env else all) ks with
   |inl f=>
    have hr:Ig env p n=.inl f:=by rw [<-hn] at hw |-;rw [Ig,hw];dsimp only;rw [U]
    have hkf:∀{st:St} {R:As->St->Prop},(∀b m,gS st m b f->R (.ret (.Bc [.slice 6 [] .any,rz b])) m)->PC 90 [.slice 3 (Az env) .any,enc n,.slice 3 (Az all) .any,.int .i64 p] st R:=λh=>nM ih hz hz2 he hwl ht (by rw [hkk,hks,U];exact ⟨λl e=>(by cases e),λf e=>(by cases e;exact h)⟩)
    repeat' ((conv=>whnf);first|(refine AE ?_;intros)|refine hwf (λm hle=>?_)|refine hkf (λb m2 hb=>?_))
    all_goals exact AF rfl (h.no _ hr _ _ (hb.up hle))
   |inr ms=>
    have hr:Ig env p n=X9 all (.mk nk nf nt nl nc ms):=by rw [<-hn] at hw |-;rw [Ig,hw];dsimp only;rw [U]
    have hkp:=JW ks U
    have hkf:∀{st:St} {R:As->St->Prop},(∀m,st.le m->R (.ret (.Bc [.slice 6 (Bg ms) .any,.DI])) m)->PC 90 [.slice 3 (Az env) .any,enc n,.slice 3 (Az all) .any,.int .i64 p] st R:=λh=>nM ih hz hz2 he hwl ht (by rw [hkk,hks,U];exact ⟨λl e=>(by cases e;exact h),λf e=>(by cases e)⟩)
    have htn:BX (.mk nk nf nt nl nc ms)<=100000000:=by rw [<-hn] at ht;rw [BX] at ht |-;omega
    have hln:(A0 (.mk nk nf nt nl nc ms)).length<=100000000:=by
     have h1:=F1 n
     have h2:A0 (.mk nk nf nt nl nc ms)=A0 n:=by rw [<-hn,A0,A0,hkp.1]
     rw [h2];omega
    unfold X9 at hr
    have hf:n.form=nf:=by rw [<-hn];rfl
    have hx:n.text=nt:=by rw [<-hn];rfl
    have hl:n.line=nl:=by rw [<-hn];rfl
    have hc:n.BT=nc:=by rw [<-hn];rfl
    rw [<-hkk,<-hf,<-hx,<-hl,<-hc] at hr htn hln
    cases ho:OL all (.mk n.kind n.form n.text n.line n.BT ms) with
    |inl e=>
     rw [ho] at hr
     have hof:∀{st:St} {R:As->St->Prop},(∀m,st.le m->R (.ret (.Bc [enc Hv,.int .i64 e])) m)->PC 91 [.slice 3 (Az all) .any,enc (.mk n.kind n.form n.text n.line n.BT ms)] st R:=λh=>wq AC htn (λt h=>by rw [ho] at h;cases h) (λe h'=>by rw [ho] at h';cases h';exact h)
     have he0:e≠0:=by
      unfold OL at ho
      (repeat' split at ho)<;>first|(cases ho;decide)|cases ho
     repeat' ((conv=>whnf);first|(refine AE ?_;intros)|refine hwf (λm hle=>?_)|refine hkf (λm2 hle2=>?_)|refine hof (λm3 hle3=>?_)|refine xd (n:=.mk n.kind n.form n.text n.line n.BT ms) hln (λb m4 hb=>?_))
     all_goals exact AF rfl (h.no _ hr _ _ (hb.up (St.le_trans hle (St.le_trans hle2 hle3))))
    |inr t=>
     rw [ho] at hr
     have hof:∀{st:St} {R:As->St->Prop},(∀m,st.le m->R (.ret (.Bc [enc t,.int .i64 0])) m)->PC 91 [.slice 3 (Az all) .any,enc (.mk n.kind n.form n.text n.line n.BT ms)] st R:=λh=>wq AC htn (λt h'=>by rw [ho] at h';cases h';exact h) (λe h'=>by rw [ho] at h';cases h')
     repeat' ((conv=>whnf);first|(refine AE ?_;intros)|refine hwf (λm hle=>?_)|refine hkf (λm2 hle2=>?_)|refine hof (λm3 hle3=>?_))
     all_goals exact AF rfl (h.ok _ hr _ (St.le_trans hle (St.le_trans hle2 hle3)))
theorem yE:gT 0:=by
 unfold gT
 intro env p n st R U
 cases n
 rw [Nd.size] at U;omega
theorem yD:∀k,gT k
 |0=>yE
 |k+1=>z8 (yD k)
end
end Go.Proofs.Z
