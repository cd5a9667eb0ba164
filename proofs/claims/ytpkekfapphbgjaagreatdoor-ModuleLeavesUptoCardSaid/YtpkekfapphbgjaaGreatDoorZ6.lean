/-
  Parts of a proof: lemmas that the last text uses.
-/
import Derived.Test.YtpkekfapphbgjaaGreatDoorZ5
set_option linter.unusedVariables false
set_option linter.unusedSimpArgs false
set_option maxHeartbeats 16000000
variable {k:Int} {x w:List UInt8} {T:Go.Aw.Nd->Go.Aw.Nd->Prop} {b i d bo:Nat} {l:List Go.Proofs.Z.Tk} {m:List Go.Aw.Nd} {s t s':Go.Proofs.Z.Ae} {n:Go.Aw.Nd} {p:Go.Proofs.Z.Tk->Bool} {u:Go.Proofs.Z.Tk} {P:Go.Aw.Nd->Go.Proofs.Z.Ae->Prop} {Q:Go.Aw.Nd->Go.Aw.Nd->Go.Proofs.Z.Ae->Go.Proofs.Z.Ae->Prop} {ks:List Int} {α:Type} {o:Bool} {K:Nat->Prop}
namespace Go.Proofs.Z
open Go Go.Aw
structure Tst0 (p:Tk->Bool):Prop where
 e:p ⟨21,[],0,0⟩=false
 z:p Tz=false
 k:∀a b:Tk,a.kind=b.kind->a.text=b.text->p a=p b
structure Tst (p:Tk->Bool):Prop extends Tst0 p where
 c:p ⟨15,[41],0,0⟩=false
structure wH (p:Tk->Bool):Prop extends Tst p where
 s:p ⟨15,[59],0,0⟩=false
structure rD (p:Tk->Bool):Prop extends Tst0 p where
 b1:p ⟨15,[123],0,0⟩=false
 b2:p ⟨15,[125],0,0⟩=false
 v1:∀u:Tk,u.kind=18->p u=false
 v2:∀u:Tk,u.kind=20->p u=false
theorem XF (h:k≠0/\k≠21):Tst0 (λt=>t.kind==k&&t.text==x):=
 ⟨by grind,by show ((0:Int)==k&&_)=false;grind,λa b U h2=>by grind⟩
theorem qO (h:k≠0/\k≠21) (U:¬(k=15/\x=[41])):Tst (λt=>t.kind==k&&t.text==x):=
 ⟨XF h,by
   grind⟩
theorem vk (h:k≠0/\k≠21) (U:¬(k=15/\(x=[41]\/x=[59]))):wH (λt=>t.kind==k&&t.text==x):=
 ⟨qO h (λe=>U ⟨e.1,.inl e.2⟩),by
   grind⟩
theorem vl (h:k≠0/\k≠21) (hb:¬(k=15/\(x=[123]\/x=[125]))/\k≠18/\k≠20):rD (λt=>t.kind==k&&t.text==x):=
 ⟨XF h,by
   grind,by
   grind,λu e=>by grind,λu e=>by grind⟩
theorem P2:rD B1:=⟨⟨rfl,rfl,λa b U h2=>by unfold B1;grind⟩,rfl,rfl,λu e=>by unfold B1;grind,λu e=>by unfold B1;grind⟩
theorem Tg:wH B1:=⟨⟨⟨rfl,rfl,λa b U h2=>by unfold B1;grind⟩,rfl⟩,rfl⟩
inductive Bf (T:Nd->Nd->Prop):List Nd->List Nd->Prop where
 |nil:Bf T [] []
 |cons {a b:Nd} {l m:List Nd}:T a b->Bf T l m->Bf T (a::l) (b::m)
theorem Bf.one {a b:Nd} (h:T a b):Bf T [a] [b]:=.cons h .nil
theorem Bf.app {l l' U:List Nd} (h:Bf T l m) (k:Bf T l' U):Bf T (l++l') (m++U):=by
 induction h with
 |nil=>exact k
 |cons h1 _ ih=>exact .cons h1 ih
theorem Bf.len {l:List Nd} (h:Bf T l m):l.length=m.length:=by
 induction h with
 |nil=>rfl
 |cons _ _ U=>simp_all
structure Sm where
 R:Ae->Ae->Prop
 T:Nd->Nd->Prop
 Out:Ae->Prop
 zU:Ae->Prop
 out:∀{s s':Ae},Out s->mu s'<=mu s->Out s'
 D7:∀{s s':Ae},zU s->mu s'<mu s->Out s'
 yes:∀{s t:Ae} {p:Tk->Bool},R s t->rD p->p (Ab s).1=true->(Ab s).2.2=0->zU s\/(p (Ab t).1=true/\(Ab t).2.2=0/\R (Ab s).2.1 (Ab t).2.1/\T (Be (Ab s).1) (Be (Ab t).1))
 no:∀{s t:Ae} {p:Tk->Bool},R s t->wH p->p (Ab s).1=false->p (Ab t).1=false
 cno:∀{s t:Ae},R s t->AZ s 15 [41]=false->AZ t 15 [41]=false\/∀p,Tst p->p (Ab s).1=false
 mu:∀{s t s' t':Ae},R s t->R s' t'->Proofs.Z.mu s'<Proofs.Z.mu s->Proofs.Z.mu t'<Proofs.Z.mu t
 node:∀{k:Int} {l m:List Nd},Bf T l m->T (As k l) (As k m)
variable (S:Sm)
def ER {α:Type} (T:α->α->Prop) (q q':Sum (Int×Ae) (α×Ae)):Prop:=∀v s1,q=.inr (v,s1)->S.Out s1\/∃w U,q'=.inr (w,U)/\T v w/\S.R s1 U
def aI (A:Ae->Rs):Prop:=∀s t,S.R s t->ER S S.T (A s) (A t)
variable {S}
theorem Sm.is (hr:S.R s t) (U:k≠0/\k≠21) (hb:¬(k=15/\(x=[123]\/x=[125]))/\k≠18/\k≠20) (h:AZ s k x=true):S.zU s\/(AZ t k x=true/\S.R (Ab s).2.1 (Ab t).2.1/\S.T (Be (Ab s).1) (Be (Ab t).1)):=by
 rcases S.yes (p:=λt=>t.kind==k&&t.text==x) hr (vl U hb) h (Ev h U.1) with h|⟨h1,_,h3,h4⟩
 .simp_all
 .exact .inr ⟨h1,h3,h4⟩
theorem Sm.bY (hr:S.R s t) (hk:k≠0/\k≠21) (U:¬(k=15/\(x=[41]\/x=[59]))) (h:¬AZ s k x=true):¬AZ t k x=true:=by
 have:=S.no (p:=λt=>t.kind==k&&t.text==x) hr (vk hk U) (show AZ s k x=false from Bool.eq_false_iff.2 h)
 show ¬(((Ab t).1.kind==k&&(Ab t).1.text==x)=true)
 simp_all
section
variable {A Y:Ae->Rs}
theorem uN (hA:aI S A) (l:List Nd) (s:Ae):∀m t,Bf S.T l m->S.R s t->ER S (Bf S.T) (Gc A l s) (Gc A m t):=by
 fun_induction Gc A l s with
 |case1 l s h1 e1 h2=>intro m t hl U v s1 h;cases h
 |case2 l s h1 p h2 h3 ih=>
  intro m t hl U v s1 h
  have hm:=Xg _ _ _ _ h
  rcases S.yes U P2 h1 (DX (LZ h1).1) with ho|⟨y1,y2,y3,y4⟩
  .exact .inl (S.out (S.D7 ho h3) hm)
  .rcases hA s t U p.1 p.2 h2 with ho|⟨w,t1,e,ht,hr1⟩
   .exact .inl (S.out ho hm)
   .rw [fP (A:=A) (n:=w) (s':=t1) y1 e (S.mu U hr1 h3)]
    exact ih (m++[w]) t1 (hl.app (.one ht)) hr1 v s1 h
 |case3 l s h1 p h2 h3=>intro m t hl U v s1 h;cases h
 |case4 l s h1=>
  intro m t hl U v s1 h
  cases h
  exact .inr ⟨m,t,by rw [Gc,if_neg (by rw [S.no U Tg ke];decide)],hl,U⟩
theorem Xn (hA:aI S A):aI S (Gd A):=λs t hr v s1 h=>by
 unfold Gd at h
 split at h
 .cases h
 .rename_i p hp
  split at h
  .cases h
  .rename_i q hq
   have hm:=Xg _ _ _ _ hq
   have hs:s1=q.2:=by split at h<;>(cases h;rfl)
   rcases hA s t hr p.1 p.2 hp with ho|⟨w,t1,e,ht,U⟩
   .exact .inl (S.out ho ke)
   .rcases uN hA [p.1] p.2 [w] t1 (.one ht) U q.1 q.2 hq with ho|⟨m,t2,e2,hl,hr2⟩
    .simp_all
    .right
     have hlen:=hl.len
     unfold Gd
     rw [e]
     dsimp only
     rw [e2]
     dsimp only
     split at h
     .grind
     .cases h;rw [if_neg AC];exact ⟨_,t2,rfl,S.node hl,hr2⟩
theorem uL (hA:aI S A) (l:List Nd) (s:Ae):∀m t,Bf S.T l m->S.R s t->ER S (Bf S.T) (Gx A l s) (Gx A m t):=by
 fun_induction Gx A l s with
 |case1 l s h1 e1 h2=>intro m t hl U v s1 h;cases h
 |case2 l s h1 p h2 h3 ih=>
  intro m t hl U v s1 h
  have hm:=dP _ _ _ _ h
  rcases Sm.is U Do Do h1 with ho|⟨y1,y3,y4⟩
  .exact .inl (S.out (S.D7 ho h3) hm)
  .rcases Xn hA _ _ y3 p.1 p.2 h2 with ho|⟨w,t1,e,ht,hr1⟩
   .exact .inl (S.out ho hm)
   .rw [dO (A:=A) (n:=w) (s':=t1) y1 e (S.mu U hr1 h3)]
    exact ih _ t1 (hl.app (.cons y4 (.one ht))) hr1 v s1 h
 |case3 l s h1 p h2 h3=>intro m t hl U v s1 h;cases h
 |case4 l s h1=>
  intro m t hl U v s1 h
  cases h
  exact .inr ⟨m,t,by rw [Gx,if_neg (Sm.bY U Do Do h1)],hl,U⟩
theorem UJ (hA:aI S A) {n':Nd} (hn:S.T n n') (hr:S.R s t):ER S S.T (Dt A n s) (Dt A n' t):=λv s1 h=>by
 unfold Dt at h
 split at h
 .cases h
 .rename_i q hq
  have hs:s1=q.2:=by split at h<;>(cases h;rfl)
  rcases uL hA [n] s [n'] t (.one hn) hr q.1 q.2 hq with ho|⟨m,t2,e2,hl,U⟩
  .simp_all
  .right
   have hlen:=hl.len
   unfold Dt
   rw [e2]
   dsimp only
   split at h
   .grind
   .cases h;rw [if_neg AC];exact ⟨_,t2,rfl,S.node hl,U⟩
theorem SL (hA:aI S A):aI S (DC A):=λs t hr v s1 h=>by
 unfold DC at h
 split at h
 .cases h
 .rename_i p hp
  have hm:=Ln h
  rcases Xn hA s t hr p.1 p.2 hp with ho|⟨w,t1,e,ht,U⟩
  .exact .inl (S.out ho hm)
  .unfold DC
   rw [e]
   exact UJ hA ht U v s1 h
theorem uM (hF:A4 A) (hA:aI S A):aI S (F5 A):=λs t hr v s1 h=>by
 unfold F5 at h
 split at h
 .cases h
 .rename_i p hp
  rcases Xn hA s t hr p.1 p.2 hp with ho|⟨w,t1,e,ht,U⟩
  .left
   refine S.out ho ?_
   split at h
   .rename_i h1
    have:=C8 h1 Do Do
    split at h
    .cases h
    .rename_i q hq
     have:=EI hF _ _ _ hq
     grind
   .exact Ln h
  .unfold F5
   rw [e]
   dsimp only
   split at h
   .rename_i h1
    have:=C8 h1 Do Do
    split at h
    .cases h
    .rename_i q hq
     have:=EI hF _ _ _ hq
     rcases Sm.is U Do Do h1 with ho|⟨y1,y3,y4⟩
     .cases h;exact .inl (S.D7 ho AC)
     .rcases SL hA _ _ y3 q.1 q.2 hq with ho|⟨w2,t2,e2,ht2,hr2⟩
      .simp_all
      .cases h
       rw [if_pos y1,e2]
       exact .inr ⟨_,t2,rfl,S.node (.cons ht (.cons y4 (.one ht2))),hr2⟩
   .rename_i h1
    rw [if_neg (Sm.bY U Do Do h1)]
    exact UJ hA ht U v s1 h
theorem jF (hA:aI S A) (l:List Nd) (s:Ae):∀m t,Bf S.T l m->S.R s t->ER S (Bf S.T) (CE A l s) (CE A m t):=by
 fun_induction CE A l s with
 |case1 l s h1 e1 h2=>intro m t hl U v s1 h;cases h
 |case2 l s h1 p h2 h3 ih=>
  intro m t hl U v s1 h
  have hm:=JL _ _ _ _ h
  rcases Sm.is U Do Do h1 with ho|⟨y1,y3,y4⟩
  .exact .inl (S.out (S.D7 ho h3) hm)
  .rcases hA _ _ y3 p.1 p.2 h2 with ho|⟨w,t1,e,ht,hr1⟩
   .exact .inl (S.out ho hm)
   .rw [U1 (Y:=A) (n:=w) (s':=t1) y1 e (S.mu U hr1 h3)]
    exact ih _ t1 (hl.app (.cons y4 (.one ht))) hr1 v s1 h
 |case3 l s h1 p h2 h3=>intro m t hl U v s1 h;cases h
 |case4 l s h1=>
  intro m t hl U v s1 h
  cases h
  exact .inr ⟨m,t,by rw [CE,if_neg (Sm.bY U Do Do h1)],hl,U⟩
theorem pX (l:List Nd) (s:Ae):∀m t,Bf S.T l m->S.R s t->S.Out (Cs l s).2\/(Bf S.T (Cs l s).1 (Cs m t).1/\S.R (Cs l s).2 (Cs m t).2):=by
 fun_induction Cs l s with
 |case1 l s U h2 ih=>
  intro m t hl hr
  have hm:=Lq (l++[Be (Ab s).1]) (Ab s).2.1
  rcases Sm.is hr Do Do U with ho|⟨y1,y3,y4⟩
  .exact .inl (S.out (S.D7 ho h2) hm)
  .rw [show Cs m t=Cs (m++[Be (Ab t).1]) (Ab t).2.1 by rw [Cs,if_pos y1,if_pos (S.mu hr y3 h2)]]
   exact ih _ _ (hl.app (.one y4)) y3
 |case2 l s U h2=>exact absurd (C8 U Do Do) h2
 |case3 l s U=>
  intro m t hl hr
  rw [show Cs m t=(m,t) by rw [Cs,if_neg (Sm.bY hr Do Do U)]]
  simp_all
theorem SK {l:List Nd} (hx:x≠[123]/\x≠[125]) (hl:Bf S.T l m) (hr:S.R s t):ER S S.T (Hv k l s x) (Hv k m t x):=λv s1 h=>by
 have hm:=EJ h
 unfold Hv KA at h
 by_cases U:AZ s 15 x=true
 .rw [if_pos U,HD U Do] at h
  cases h
  rcases Sm.is hr Do ⟨λe=>e.2.elim hx.1 hx.2,Do,Do⟩ U with ho|⟨y1,y3,y4⟩
  .exact .inl (S.D7 ho hm)
  .right
   unfold Hv KA
   rw [if_pos y1,HD y1 Do]
   exact ⟨_,_,rfl,S.node (hl.app (.one y4)),y3⟩
 .rw [if_neg U] at h
  cases h
theorem Xo (hr:S.R s t) (U:B1 (Ab s).1=true):ER S S.T (Db s) (Db t):=λv s1 h=>by
 have hm:=L0 U h
 have hz:=DX (LZ U).1
 rcases S.yes hr P2 U hz with ho|⟨y1,y2,y3,y4⟩
 .exact .inl (S.D7 ho hm)
 .unfold Db at h |-
  grind
def Oq (Y:Ae->Rs):Prop:=∀s n s',Y s=.inr (n,s')->B1 (Ab s).1=true
theorem pY (hF:A4 Y) (hB:Oq Y) (hY:aI S Y) (hr:S.R s t) (hs:B1 (Ab s).1=true):ER S S.T (Fg Y s) (Fg Y t):=λv s1 h=>by
 have hm:=Zw hF hs h
 unfold Fg at h
 split at h
 .cases h
 .rename_i p hp
  rcases Xo hr hs p.1 p.2 hp with ho|⟨w,t1,e,ht,U⟩
  .left
   refine S.out ho ?_
   split at h
   .rename_i h1;have:=C8 h1 Do Do;have:=EJ h;omega
   split at h
   .have:=EJ h;omega
   split at h
   .have:=EJ h;have:=Lq [p.1] p.2;omega
   split at h
   .cases h
   .rename_i q hq
    have:=hF _ _ _ hq
    split at h
    .cases h
    .rename_i r hr
     have:=JL _ _ _ _ hr
     have:=EJ h
     omega
  .unfold Fg
   rw [e]
   dsimp only
   by_cases h1:AZ p.2 10 [45,62]=true
   .rw [if_pos h1] at h
    have:=C8 h1 Do Do
    rcases Sm.is U Do Do h1 with ho|⟨y1,y3,y4⟩
    .have:=EJ h;exact .inl (S.D7 ho AC)
    .rw [if_pos y1]
     exact SK Do (.cons ht (.one y4)) y3 v s1 h
   rw [if_neg h1] at h
   rw [if_neg (Sm.bY U Do Do h1)]
   by_cases h2:AZ p.2 15 [41]=true
   .rw [if_pos h2] at h
    rcases Sm.is U Do Do h2 with ho|⟨y1,y3,y4⟩
    .have:=EJ h;exact .inl (S.D7 ho AC)
    .rw [if_pos y1]
     exact SK Do (.one ht) U v s1 h
   rw [if_neg h2] at h
   by_cases h3:AZ p.2 15 [44]=true
   .rw [if_pos h3] at h
    rcases Sm.is U Do Do h3 with ho|⟨y1,y3,y4⟩
    .have:=EJ h;have:=Lq [p.1] p.2;exact .inl (S.D7 ho AC)
    .have hno:¬AZ t1 15 [41]=true:=λe=>by
      unfold AZ at e y1
      simp_all
     rw [if_neg hno,if_pos y1]
     rcases pX [p.1] p.2 [w] t1 (.one ht) U with ho|⟨hl,hr2⟩
     .have:=EJ h;exact .inl (S.out ho AC)
     .exact SK Do hl hr2 v s1 h
   rw [if_neg h3] at h
   split at h
   .cases h
   .rename_i q hq
    have hb:=hB _ _ _ hq
    have hf:=hF _ _ _ hq
    have hno:¬AZ t1 15 [41]=true:=λe=>by
     rcases S.cno U ke with h4|h4
     .simp_all
     .rw [h4 _ Tg.toTst] at hb;cases hb
    rw [if_neg hno,if_neg (Sm.bY U Do Do h3)]
    split at h
    .cases h
    .rename_i r hq2
     have hm2:=JL _ _ _ _ hq2
     have hm3:=EJ h
     rcases hY p.2 t1 U q.1 q.2 hq with ho|⟨w2,t2,e2,ht2,hr2⟩
     .exact .inl (S.out ho AC)
     .rw [e2]
      dsimp only
      rcases jF hY [p.1,q.1] q.2 [w,w2] t2 (.cons ht (.one ht2)) hr2 r.1 r.2 hq2 with ho|⟨m,t3,e3,hl,hr3⟩
      .exact .inl (S.out ho AC)
      .rw [e3]
       dsimp only
       rw [<-hl.len]
       exact SK Do hl hr3 v s1 h
theorem jE (hF:A4 Y) (hY:aI S Y) (hr:S.R s t) (hs:B1 (Ab s).1=true):ER S S.T (DY Y s) (DY Y t):=λv s1 h=>by
 unfold DY at h
 split at h
 .cases h
 .rename_i p hp
  rcases Xo hr hs p.1 p.2 hp with ho|⟨w,t1,e,ht,hr1⟩
  .left
   refine S.out ho ?_
   split at h
   .rename_i U;have:=C8 U Do Do;grind
   split at h
   .cases h
   .rename_i q hq
    have:=hF _ _ _ hq
    have:=EJ h
    omega
  .unfold DY
   rw [e]
   dsimp only
   by_cases U:AZ p.2 15 [93]=true
   .rw [if_pos U] at h
    have:=C8 U Do Do
    cases h
    rcases Sm.is hr1 Do Do U with ho|⟨y1,y3,y4⟩
    .exact .inl (S.D7 ho AC)
    .rw [if_pos y1]
     exact .inr ⟨_,_,rfl,S.node (.cons ht (.one y4)),y3⟩
   .rw [if_neg U] at h
    rw [if_neg (Sm.bY hr1 Do Do U)]
    split at h
    .cases h
    .rename_i q hq
     have hm3:=EJ h
     rcases hY p.2 t1 hr1 q.1 q.2 hq with ho|⟨w2,t2,e2,ht2,hr2⟩
     .exact .inl (S.out ho AC)
     .rw [e2]
      exact SK Do (.cons ht (.one ht2)) hr2 v s1 h
theorem Xm (hF:A4 Y) (hB:Oq Y) (hY:aI S Y):aI S (Dl Y):=λs t hr v s1 h=>by
 have hm:=BK hF _ _ _ h
 unfold Dl at h
 split at h
 .rename_i U
  have hz:=DX (LZ U).1
  have tk:rD (λu=>B1 u&&(decide (u.kind=(Ab s).1.kind)&&decide (u.text=(Ab s).1.text))):=⟨⟨rfl,rfl,λa b h1 h2=>by unfold B1;grind⟩,rfl,rfl,λu e=>by unfold B1;grind,λu e=>by unfold B1;grind⟩
  rcases S.yes hr tk (by simp [U]) hz with ho|⟨y1,_,_,_⟩
  .exact .inl (S.D7 ho hm)
  .simp only [Bool.and_eq_true,decide_eq_true_eq] at y1
   obtain ⟨y1,y2,y3⟩:=y1
   unfold Dl
   rw [if_pos y1,y2,y3]
   split at h
   .rename_i h1
    rw [if_pos h1]
    split at h
    .rename_i h2
     rw [if_pos h2]
     exact pY hF hB hY hr U v s1 h
    .rename_i h2
     rw [if_neg h2]
     exact jE hF hY hr U v s1 h
   .rename_i h1
    rw [if_neg h1]
    exact Xo hr U v s1 h
 .cases h
theorem XZ:Oq (Dl Y):=λs n s' h=>by
 unfold Dl at h
 split at h
 .omega
 .cases h
theorem Vj (hB:Oq A):Oq (DC A):=λs n s' h=>by
 unfold DC Gd at h
 cases U:A s with
 |inl p=>simp_all
 |inr p=>exact hB s p.1 p.2 U
theorem KG:∀d,Oq (DU d)
 |0=>λs n s' h=>by cases h
 |d+1=>Vj XZ
theorem Xp:∀d,aI S (DU d)
 |0=>λs t U v s1 h=>by cases h
 |d+1=>SL (Xm (Bo d) (KG d) (Xp d))
end
structure yO (T:Nd->Nd->Prop):Prop where
 kd:∀{a b:Nd},T a b->a.kind=b.kind
 fm:∀{a b:Nd},T a b->a.form=b.form
 may:∀{a b:Nd},T a b->H5 a=H5 b
 var:∀{a b:Nd},T a b->To a=To b
 lhs:∀{a b:Nd},T a b->(TN a).2.2=(TN b).2.2
 plain:∀{a b:Nd},T a b->GK a=GK b
 dig:∀{a b:Nd},T a b->JV a=JV b
 last:∀{a b:Nd},T a b->Fz a=Fz b
def rC (T:Nd->Nd->Prop) (s t:Ae):Prop:=(Ab s).1.kind=(Ab t).1.kind/\(Ab s).1.text=(Ab t).1.text/\T (Be (Ab s).1) (Be (Ab t).1)
def Mc (u:Tk):Bool:=(u.kind==15&&u.text==[123])||u.kind==18
def OA (u:Tk):Bool:=(u.kind==15&&u.text==[125])||u.kind==20
def rk (R:Nat->Ae->Ae->Prop) (d:Nat) (u:Tk) (s t:Ae):Prop:=if Mc u=true then R (d+1) s t else if OA u=true then ∃e,d=e+1/\R e s t else R d s t
def Sp (c:Nat) (s t:Ae):Prop:=AZ s 15 [125]=true/\AZ t 15 [59]=true/\mu s<=c
structure Sy where
 R:Nat->Ae->Ae->Prop
 T:Nd->Nd->Prop
 c:Nat
 next:∀{d:Nat} {s t:Ae},R d s t->(rC T s t/\((Ab s).2.2=0->(Ab t).2.2=0/\rk R d (Ab s).1 (Ab s).2.1 (Ab t).2.1))\/Sp c s t
 close:∀{d:Nat} {s t:Ae},R d s t->(Ck s).2=true->(Ck t).2=true/\∃e,d=e+1/\R e (Ck s).1 (Ck t).1
 imp:∀{d e:Nat} {s t s' t':Ae},R d s t->(Ab s).1.kind=18->R e s' t'->¬Sp c s' t'
 mu:∀{d e:Nat} {s t s' t':Ae},R d s t->R e s' t'->Proofs.Z.mu s'<Proofs.Z.mu s->Proofs.Z.mu t'<Proofs.Z.mu t
 node:∀{k:Int} {l m:List Nd},Bf T l m->T (As k l) (As k m)
 block:∀{f:Bool} {l m:List Nd},Bf T l m->T (C6 f l) (C6 f m)
 nd:T Gj Gj
 nt:yO T
structure KB (p:Tk->Bool):Prop where
 k:∀a b:Tk,a.kind=b.kind->a.text=b.text->p a=p b
 b:p ⟨15,[125],0,0⟩=false
 s:p ⟨15,[59],0,0⟩=false
 o:p ⟨15,[123],0,0⟩=false
 v1:∀u:Tk,u.kind=18->p u=false
 v2:∀u:Tk,u.kind=20->p u=false
theorem BI (h:AZ s k x=true):(Ab s).1.kind=k/\(Ab s).1.text=x:=by
 unfold AZ at h;simpa using h
theorem XG (h:¬(k=15/\(x=[125]\/x=[59]\/x=[123]))/\k≠18/\k≠20):KB (λt=>t.kind==k&&t.text==x):=⟨λa b U h2=>by rw [U,h2],by grind,by grind,by grind,λu e=>by grind,λu e=>by grind⟩
theorem KB.op (h:KB p) (e:p u=true):Mc u=false/\OA u=false:=by
 have h1:=h.k u
 refine ⟨Bool.eq_false_iff.2 λh2=>?_,Bool.eq_false_iff.2 λh2=>?_⟩
 .unfold Mc at h2
  rcases Bool.or_eq_true_iff.1 h2 with U|U
  .simp only [Bool.and_eq_true,beq_iff_eq] at U
   rw [h1 ⟨15,[123],0,0⟩ U.1 U.2,h.o] at e;cases e
  .rw [h.v1 u (beq_iff_eq.1 U)] at e;cases e
 .unfold OA at h2
  rcases Bool.or_eq_true_iff.1 h2 with U|U
  .simp only [Bool.and_eq_true,beq_iff_eq] at U
   rw [h1 ⟨15,[125],0,0⟩ U.1 U.2,h.b] at e;cases e
  .rw [h.v2 u (beq_iff_eq.1 U)] at e;cases e
variable (S:Sy)
def SW {α:Type} (P:α->Ae->Prop) (A B:Rd α) (s t:Ae) (Q:α->α->Ae->Ae->Prop):Prop:=
 ∀v s',A.run s=.inr (v,s')->S.c<=mu s'->P v s'->∃w U,B.run t=.inr (w,U)/\Q v w s' U
def SR (A:Rd Nd):Prop:=∀d s t,S.R d s t->SW S (λ_ _=>True) A A s t (λv w s1 U=>S.T v w/\S.R d s1 U)
def Nm (d:Nat) (s t:Ae):Prop:=rC S.T s t/\((Ab s).2.2=0->(Ab t).2.2=0/\S.R d (Ab s).2.1 (Ab t).2.1)
def goP {α σ:Type} (body:σ->Rd (Sum σ α)) (P:α->Ae->Prop):Sum σ α->Ae->Prop
 | .inr v,s=>P v s
 | .inl x,s=>∃v s',(Rd.loop body x).run s=.inr (v,s')/\S.c<=mu s'/\P v s'
def kT {α σ:Type} (d:Nat) (J:σ->σ->Prop) (Q:α->α->Ae->Ae->Prop):Sum σ α->Sum σ α->Ae->Ae->Prop
 | .inr v,.inr w,s,t=>Q v w s t
 | .inl x,.inl y,s,t=>J x y/\S.R d s t
 |_,_,_,_=>False
variable {S}
section
variable {α β σ:Type} {d:Nat} {s t:Ae} {P:α->Ae->Prop} {Q:α->α->Ae->Ae->Prop} {X Y:Rd α}
theorem Sp.no (h:Sp S.c s t) (U:KB p):p (Ab s).1=false/\p (Ab t).1=false:=
 ⟨by rw [U.k _ ⟨15,[125],0,0⟩ (BI h.1).1 (BI h.1).2];exact U.b,by rw [U.k _ ⟨15,[59],0,0⟩ (BI h.2.1).1 (BI h.2.1).2];exact U.s⟩
theorem Sp.lt (h:Sp S.c s t):mu (Ab s).2.1<S.c:=Nat.lt_of_lt_of_le (C8 h.1 Do Do) h.2.2
theorem SW.ret {v w:α} (h:Q v w s t):SW S P (.ret v) (.ret w) s t Q:=λU s' e _ _=>by cases e;exact ⟨w,t,rfl,h⟩
theorem SW.fail {e:Er}:SW S P (.fail e) Y s t Q:=λv s' h=>by cases h
theorem SW.Dm {u:Ae} {e:Er}:SW S P (.Dm u e) Y s t Q:=λv s' h=>by cases h
theorem SW.bad:SW S P HO Y s t Q:=λv s' h=>by cases h
theorem SW.look {f U:Ae->Rd α} (h:SW S P (f s) (U t) s t Q):SW S P (.look f) (.look U) s t Q:=h
theorem SW.seq {m m':Rd β} {k k':β->Rd α} (h:SW S (λv1 s1=>∃v s',(k v1).run s1=.inr (v,s')/\S.c<=mu s'/\P v s') m m' s t (λv w s1 t1=>SW S P (k v) (k' w) s1 t1 Q)):SW S P (.seq m k) (.seq m' k') s t Q:=λv s' e U hp=>by
 unfold Rd.seq at e
 dsimp only at e
 split at e
 .cases e
 .rename_i p hq
  obtain ⟨w,t1,h1,h2⟩:=h p.1 p.2 hq (Nat.le_trans U ((k p.1).le _ _ _ e)) ⟨v,s',e,U,hp⟩
  obtain ⟨w',t',h3,h4⟩:=h2 v s' e U hp
  exact ⟨w',t',by unfold Rd.seq;dsimp only;rw [h1];exact h3,h4⟩
theorem SW.ite {c U:Prop} [Decidable c] [Decidable U] {a b a' b':Rd α} (h:c↔U) (h1:c->SW S P a a' s t Q) (h2:¬c->SW S P b b' s t Q):SW S P (if c then a else b) (if U then a' else b') s t Q:=by
 by_cases e:c
 .rw [if_pos e,if_pos (h.1 e)];exact h1 e
 .rw [if_neg e,if_neg (λx=>e (h.2 x))];exact h2 e
theorem SW.no (h:∀v s',X.run s=.inr (v,s')->S.c<=mu s'->P v s'->False):SW S P X Y s t Q:=λv s' e U hp=>(h v s' e U hp).elim
theorem SW.wk {U:α->Ae->Prop} (h:SW S U X Y s t Q) (k:∀v s',P v s'->U v s'):SW S P X Y s t Q:=λv s' e hm hp=>h v s' e hm (k v s' hp)
theorem SW.mono {Q':α->α->Ae->Ae->Prop} (h:SW S P X Y s t Q) (k:∀v w s' U,Q v w s' U->Q' v w s' U):SW S P X Y s t Q':=λv s' e hm hp=>by
 obtain ⟨w,U,h1,h2⟩:=h v s' e hm hp
 exact ⟨w,U,h1,k _ _ _ _ h2⟩
theorem SW.A {P:Nd->Ae->Prop} {Q:Nd->Nd->Ae->Ae->Prop} {A:Rd Nd} (hA:SR S A) (hr:S.R d s t) (k:∀v w s1 U,S.T v w->S.R d s1 U->Q v w s1 U):SW S P A A s t Q:=((hA d s t hr).wk λ_ _ _=>trivial).mono λv w s' t' h=>k v w s' t' h.1 h.2
theorem SW.wx {P:Nd->Ae->Prop} {Q:Nd->Nd->Ae->Ae->Prop} (hr:S.R d s t) (k:rC S.T s t->(Ab s).2.2=0->rk S.R d (Ab s).1 (Ab s).2.1 (Ab t).2.1->Q (Be (Ab s).1) (Be (Ab t).1) (Ab s).2.1 (Ab t).2.1):SW S P Az Az s t Q:=λv s' e hm hp=>by
 by_cases U:(Ab s).2.2=0
 .rw [BQ U] at e
  cases e
  rcases S.next hr with ⟨h1,h4⟩|h1
  .exact ⟨_,_,BQ (h4 U).1,k h1 U (h4 U).2⟩
  .have:=h1.lt;omega
 .rw [Hf U] at e;cases e
theorem SW.take {P:Nd->Ae->Prop} {Q:Nd->Nd->Ae->Ae->Prop} (h:Nm S d s t) (k:∀v w s1 t1,S.T v w->S.R d s1 t1->Q v w s1 t1):SW S P Az Az s t Q:=λv s' e hm hp=>by
 by_cases U:(Ab s).2.2=0
 .rw [BQ U] at e
  cases e
  exact ⟨_,_,BQ (h.2 U).1,k _ _ _ _ h.1.2.2 (h.2 U).2⟩
 .rw [Hf U] at e;cases e
theorem SW.takeN {P:Nd->Ae->Prop} {Q:Nd->Nd->Ae->Ae->Prop} (h:Nm S d s t) (k:S.T (Be (Ab s).1) (Be (Ab t).1)->S.R d (Ab s).2.1 (Ab t).2.1->Q (Be (Ab s).1) (Be (Ab t).1) (Ab s).2.1 (Ab t).2.1):SW S P Az Az s t Q:=λv s' e hm hp=>by
 by_cases U:(Ab s).2.2=0
 .rw [BQ U] at e
  cases e
  exact ⟨_,_,BQ (h.2 U).1,k h.1.2.2 (h.2 U).2⟩
 .rw [Hf U] at e;cases e
theorem Nm.of (h:rC S.T s t/\((Ab s).2.2=0->(Ab t).2.2=0/\rk S.R d (Ab s).1 (Ab s).2.1 (Ab t).2.1)) (hp:KB p) (e:p (Ab s).1=true):Nm S d s t:=⟨h.1,λhz=>by
 obtain ⟨h1,U⟩:=h.2 hz
 obtain ⟨e1,e2⟩:=hp.op e
 unfold rk at U
 rw [e1,e2,if_neg Do,if_neg Do] at U
 exact ⟨h1,U⟩⟩
theorem SW.TA {a b a' b':Rd α} (hr:S.R d s t) (U:KB p) (h1:p (Ab s).1=true->Nm S d s t->SW S P a a' s t Q) (h2:p (Ab s).1=false->SW S P b b' s t Q):SW S P (if p (Ab s).1=true then a else b) (if p (Ab t).1=true then a' else b') s t Q:=by
 rcases S.next hr with h|h
 .refine SW.ite (by rw [U.k _ _ h.1.1 h.1.2.1]) (λe=>h1 e (Nm.of h U e)) λe=>h2 (Bool.eq_false_iff.2 e)
 .obtain ⟨e1,e2⟩:=h.no U
  rw [e1,e2];exact h2 e1
theorem SW.is {a b U b':Rd α} (hr:S.R d s t) (hk:¬(k=15/\(x=[125]\/x=[59]\/x=[123]))/\k≠18/\k≠20) (h1:AZ s k x=true->Nm S d s t->SW S P a U s t Q) (h2:AZ s k x=false->SW S P b b' s t Q):SW S P (if AZ s k x=true then a else b) (if AZ t k x=true then U else b') s t Q:=
 SW.TA (p:=λt=>t.kind==k&&t.text==x) hr (XG hk) h1 h2
theorem SW.isO {a b U b':Rd α} (hr:S.R d s t) (h1:AZ s 15 [123]=true->SW S P a U s t Q) (h2:SW S P b b' s t Q):SW S P (if AZ s 15 [123]=true then a else b) (if AZ t 15 [123]=true then U else b') s t Q:=by
 rcases S.next hr with h|h
 .exact SW.ite (by unfold AZ;rw [h.1.1,h.1.2.1]) h1 λ_=>h2
 .unfold AZ
  rw [(BI h.1).1,(BI h.1).2,(BI h.2.1).1,(BI h.2.1).2];exact h2
theorem SW.gb {P:Nd->Ae->Prop} {Q:Nd->Nd->Ae->Ae->Prop} (hr:S.R d s t) (ho:Mc (Ab s).1=true) (k:∀v w s1 U,S.T v w->S.R (d+1) s1 U->Q v w s1 U):SW S P Az Az s t Q:=SW.wx hr λh hz hb=>by
 unfold rk at hb
 rw [if_pos ho] at hb
 exact k _ _ _ _ h.2.2 hb
theorem cR (h:AZ s 15 [123]=true):Mc (Ab s).1=true:=by unfold AZ at h;unfold Mc;rw [h];rfl
theorem SW.want {U:Int} {P:Nd->Ae->Prop} {Q:Nd->Nd->Ae->Ae->Prop} (hr:S.R d s t) (hk:¬(U=15/\(x=[125]\/x=[59]\/x=[123]))/\U≠18/\U≠20) (k:∀v w s1 t1,S.T v w->S.R d s1 t1->Q v w s1 t1):SW S P (A0 U x) (A0 U x) s t Q:=
 SW.look (SW.is hr hk (λ_ h=>SW.take h k) λ_=>SW.bad)
theorem SW.zR {P:Nd->Ae->Prop} {Q:Nd->Nd->Ae->Ae->Prop} (U:S.R d s t) (k:∀v w s1 t1,S.T v w->S.R (d+1) s1 t1->Q v w s1 t1):SW S P (A0 15 [123]) (A0 15 [123]) s t Q:=
 SW.look (SW.isO U (λe=>SW.gb U (cR e) k) SW.bad)
theorem SW.qp {P:Nd->Ae->Prop} {Q:Nd->Nd->Ae->Ae->Prop} (hr:S.R (d+1) s t) (U:Mc (Ab s).1=false/\OA (Ab s).1=true) (k:∀v w s1 t1,S.T v w->S.R d s1 t1->Q v w s1 t1):SW S P Az Az s t Q:=SW.wx hr λh hz hb=>by
 unfold rk at hb
 rw [if_neg (by rw [U.1];decide),if_pos U.2] at hb
 obtain ⟨e,he,hb⟩:=hb
 obtain rfl:d=e:=AC
 exact k _ _ _ _ h.2.2 hb
theorem lY (h:AZ s 15 [125]=true):Mc (Ab s).1=false/\OA (Ab s).1=true:=by
 obtain ⟨U,h2⟩:=BI h
 unfold Mc OA
 rw [U,h2];decide
theorem SW.wy {P:Nd->Ae->Prop} {Q:Nd->Nd->Ae->Ae->Prop} (U:S.R (d+1) s t) (k:∀v w s1 t1,S.T v w->S.R d s1 t1->Q v w s1 t1):SW S P (A0 15 [125]) (A0 15 [125]) s t Q:=by
 rcases S.next U with h|h
 .exact SW.look (SW.ite (by unfold AZ;rw [h.1.1,h.1.2.1]) (λe=>SW.qp U (lY e) k) λ_=>SW.bad)
 .refine SW.no λv s' e hm _=>?_
  replace e:(if AZ s 15 [125]=true then Az else HO).run s=.inr (v,s'):=e
  rw [if_pos h.1,BQ (Ev h.1 Do)] at e
  cases e
  have:=h.lt
  omega
theorem SW.kind {ks:List Int} {P:Nd->Ae->Prop} {Q:Nd->Nd->Ae->Ae->Prop} (hr:S.R d s t) (U:ks.contains 15=false/\ks.contains 18=false/\ks.contains 20=false) (k:∀v w s1 t1,S.T v w->S.R d s1 t1->Q v w s1 t1):SW S P (CX ks) (CX ks) s t Q:=
 SW.look (SW.TA (p:=λu=>ks.contains u.kind) hr ⟨λa b h1 _=>by rw [h1],U.1,U.1,U.1,λu e=>by rw [e];exact U.2.1,λu e=>by rw [e];exact U.2.2⟩ (λ_ h=>SW.take h k) λ_=>SW.bad)
theorem SW.at {a b U b':Rd α} (hn:Nm S d s t) (hp:∀a b:Tk,a.kind=b.kind->a.text=b.text->p a=p b) (h1:p (Ab s).1=true->SW S P a U s t Q) (h2:p (Ab s).1=false->SW S P b b' s t Q):SW S P (if p (Ab s).1=true then a else b) (if p (Ab t).1=true then U else b') s t Q:=
 SW.ite (by rw [hp _ _ hn.1.1 hn.1.2.1]) h1 λe=>h2 (Bool.eq_false_iff.2 e)
theorem SW.is2 {a b U b':Rd α} (hz:(Ab s).2.2=0) (hn:Nm S d s t) (hk:¬(k=15/\(x=[125]\/x=[59]\/x=[123]))/\k≠18/\k≠20) (h1:AZ (Ab s).2.1 k x=true->Nm S d (Ab s).2.1 (Ab t).2.1->SW S P a U s t Q) (h2:SW S P b b' s t Q):SW S P (if AZ (Ab s).2.1 k x=true then a else b) (if AZ (Ab t).2.1 k x=true then U else b') s t Q:=by
 rcases S.next (hn.2 hz).2 with h|h
 .exact SW.ite (by unfold AZ;rw [h.1.1,h.1.2.1]) (λe=>h1 e (Nm.of h (p:=λt=>t.kind==k&&t.text==x) (XG hk) e)) λ_=>h2
 .obtain ⟨e1,e2⟩:=h.no (p:=λt=>t.kind==k&&t.text==x) (XG hk)
  refine SW.ite (iff_of_false (Bool.eq_false_iff.1 e1) (Bool.eq_false_iff.1 e2)) (λe=>absurd e (Bool.eq_false_iff.1 e1)) λ_=>h2
theorem SW.loop {body:σ->Rd (Sum σ α)} {J:σ->σ->Prop} (hb:∀x y s t,J x y->S.R d s t->SW S (goP S body P) (body x) (body y) s t (kT S d J Q)) {x y:σ} (hj:J x y) (U:S.R d s t):SW S P (.loop body x) (.loop body y) s t Q:=by
 suffices h:∀x s y t,J x y->S.R d s t->∀v s',Rd.iter body x s=.inr (v,s')->S.c<=mu s'->P v s'->∃w t',Rd.iter body y t=.inr (w,t')/\Q v w s' t' from h x s y t hj U
 intro x s
 fun_induction Rd.iter body x s with
 |case1 x s e h1=>intro y t hj U v s' e;cases e
 |case2 x s z s1 h1=>
  intro y t hj U v s' e hm hp
  cases e
  obtain ⟨r,t1,h2,h3⟩:=hb x y s t hj U _ _ h1 hm hp
  cases r with
  |inl y'=>exact h3.elim
  |inr w=>exact ⟨w,t1,by rw [Rd.iter,h2],h3⟩
 |case3 x s x' s1 h1 hlt ih=>
  intro y t hj U v s' e hm hp
  have hle:=Rd.eP body x' s1 v s' e
  obtain ⟨r,t1,h2,h3⟩:=hb x y s t hj U _ _ h1 AC ⟨v,s',e,hm,hp⟩
  cases r with
  |inr w=>exact h3.elim
  |inl y'=>
   obtain ⟨w,t',h4,h5⟩:=ih y' t1 h3.1 h3.2 v s' e hm hp
   exact ⟨w,t',by rw [Rd.iter,h2];dsimp only;rw [if_pos (S.mu U h3.2 hlt)];exact h4,h5⟩
 |case4 x s x' s1 h1 hlt=>intro y t hj U v s' e;cases e
end
def Sy.sm (S:Sy) (d:Nat):Sm where
 R:=S.R d
 T:=S.T
 Out:=λs=>Proofs.Z.mu s<S.c
 zU:=λs=>Proofs.Z.mu s<=S.c
 out:=λh k=>Nat.lt_of_le_of_lt k h
 D7:=λh k=>Nat.lt_of_lt_of_le k h
 yes:=λ{s t p} hr hp e hz=>by
  rcases S.next hr with ⟨h1,h4⟩|h
  .obtain ⟨h5,h6⟩:=h4 hz
   refine .inr ⟨by rw [<-hp.k _ _ h1.1 h1.2.1];exact e,h5,?_,h1.2.2⟩
   unfold rk at h6
   have e1:¬Mc (Ab s).1=true:=λh2=>?_
   have e2:¬OA (Ab s).1=true:=λh2=>?_
   .rw [if_neg e1,if_neg e2] at h6;exact h6
   .unfold OA at h2
    rcases Bool.or_eq_true_iff.1 h2 with U|U
    .simp only [Bool.and_eq_true,beq_iff_eq] at U
     rw [hp.k _ ⟨15,[125],0,0⟩ U.1 U.2,hp.b2] at e;cases e
    .rw [hp.v2 _ (beq_iff_eq.1 U)] at e;cases e
   .unfold Mc at h2
    rcases Bool.or_eq_true_iff.1 h2 with U|U
    .simp only [Bool.and_eq_true,beq_iff_eq] at U
     rw [hp.k _ ⟨15,[123],0,0⟩ U.1 U.2,hp.b1] at e;cases e
    .rw [hp.v1 _ (beq_iff_eq.1 U)] at e;cases e
  .exact .inl h.2.2
 no:=λ{s t p} hr hp e=>by
  rcases S.next hr with ⟨h1,_⟩|h
  .rw [<-hp.k _ _ h1.1 h1.2.1];exact e
  .rw [hp.k _ ⟨15,[59],0,0⟩ (BI h.2.1).1 (BI h.2.1).2];exact hp.s
 cno:=λ{s t} hr e=>by
  rcases S.next hr with ⟨h1,_⟩|h
  .left;unfold AZ at e |-;rw [<-h1.1,<-h1.2.1];exact e
  .left
   unfold AZ
   rw [(BI h.2.1).1,(BI h.2.1).2];rfl
 mu:=S.mu
 node:=S.node
theorem QP {S:Sy} {A:Ae->Rs} {hle:∀s v s',A s=.inr (v,s')->mu s'<=mu s} (h:∀d,aI (S.sm d) A):SR S (Ia A hle):=λd s t hr v s' e hm _=>by
 cases hA:A s with
 |inl p=>unfold Ia at e;grind
 |inr p=>
  rw [NU hA] at e
  cases e
  rcases h d s t (show (S.sm d).R s t from hr) _ _ hA with ho|⟨w,t1,e2,ht,U⟩
  .exact absurd hm (Nat.not_le.2 (show mu _<S.c from ho))
  .exact ⟨w,t1,NU e2,ht,U⟩
theorem Xu (S:Sy) (d:Nat):SR S (Kv d):=QP λ_=>uM (BK (Bo _)) (Xm (Bo _) (KG _) (Xp _))
variable {S:Sy}
theorem al:KB JH:=⟨λa b U h2=>by unfold JH;rw [U,h2],rfl,rfl,rfl,λu e=>by unfold JH;rw [e];rfl,λu e=>by unfold JH;rw [e];rfl⟩
theorem ak:KB J3:=⟨λa b U h2=>by unfold J3 JH;rw [U,h2],rfl,rfl,rfl,λu e=>by unfold J3 JH;rw [e];rfl,λu e=>by unfold J3 JH;rw [e];rfl⟩
theorem Te:KB Cq:=⟨λa b U h2=>by unfold Cq;rw [U,h2],rfl,rfl,rfl,λu e=>by unfold Cq;rw [e];rfl,λu e=>by unfold Cq;rw [e];rfl⟩
theorem aj:KB C3:=⟨λa b U h2=>by unfold C3 Cq;rw [U,h2],rfl,rfl,rfl,λu e=>by unfold C3 Cq;rw [e];rfl,λu e=>by unfold C3 Cq;rw [e];rfl⟩
theorem qN:KB EK:=⟨λa b U h2=>by unfold EK;rw [U,h2],rfl,rfl,rfl,λu e=>by unfold EK;rw [e];rfl,λu e=>by unfold EK;rw [e];rfl⟩
theorem Tf:KB IW:=⟨λa b U h2=>by unfold IW C3 EK Cq;rw [U,h2],rfl,rfl,rfl,λu e=>by unfold IW C3 EK Cq;rw [e];rfl,λu e=>by unfold IW C3 EK Cq;rw [e];rfl⟩
theorem HI (h:k≠15/\k≠18/\k≠20):KB (λt=>t.kind==k):=⟨λa b U _=>by rw [U],beq_eq_false_iff_ne.2 λe=>h.1 e.symm,beq_eq_false_iff_ne.2 λe=>h.1 e.symm,beq_eq_false_iff_ne.2 λe=>h.1 e.symm,λu e=>by grind,λu e=>by grind⟩
theorem xw:∀a b:Tk,a.kind=b.kind->a.text=b.text->(a.kind==k)=(b.kind==k):=λa b h _=>by rw [h]
theorem Ol:∀a b:Tk,a.kind=b.kind->a.text=b.text->(a.text==x)=(b.text==x):=λa b _ h=>by rw [h]
theorem O5:∀a b:Tk,a.kind=b.kind->a.text=b.text->Hc a=Hc b:=λa b U h2=>by unfold Hc;rw [U,h2]
section
variable {α σ:Type} {d:Nat} {s t:Ae} {P:α->Ae->Prop} {Q:α->α->Ae->Ae->Prop} {J:σ->σ->Prop}
theorem SW.go {P:Sum σ α->Ae->Prop} {x y:σ} (h:J x y) (U:S.R d s t):SW S P (.ret (.inl x)) (.ret (.inl y)) s t (kT S d J Q):=SW.ret ⟨h,U⟩
theorem SW.out {P:Sum σ α->Ae->Prop} {v w:α} (h:Q v w s t):SW S P (.ret (.inr v)) (.ret (.inr w)) s t (kT S d J Q):=SW.ret h
def Po (S:Sy) (A B:Rd Nd):Prop:=∀d s t,S.R d s t->SW S (λ_ _=>True) A B s t (λv w s1 U=>S.T v w/\S.R d s1 U)
def SG (S:Sy) (A B:Rd Nd):Prop:=∀d s t,S.R d s t->Nm S d s t->SW S (λ_ _=>True) A B s t (λv w s1 U=>S.T v w/\S.R d s1 U)
theorem SW.A2 {P:Nd->Ae->Prop} {Q:Nd->Nd->Ae->Ae->Prop} {A B:Rd Nd} (hA:Po S A B) (hr:S.R d s t) (k:∀v w s1 U,S.T v w->S.R d s1 U->Q v w s1 U):SW S P A B s t Q:=((hA d s t hr).wk λ_ _ _=>trivial).mono λv w s' t' h=>k v w s' t' h.1 h.2
theorem SW.AG {P:Nd->Ae->Prop} {Q:Nd->Nd->Ae->Ae->Prop} {A B:Rd Nd} (hA:SG S A B) (hr:S.R d s t) (h:Nm S d s t) (k:∀v w s1 U,S.T v w->S.R d s1 U->Q v w s1 U):SW S P A B s t Q:=((hA d s t hr h).wk λ_ _ _=>trivial).mono λv w s' t' h=>k v w s' t' h.1 h.2
theorem SW.spt {B:Rd α} {k:Unit->Rd α} (h:Sp S.c s t):SW S P (.seq Hl k) B s t Q:=SW.no λv s' e hm _=>by
 obtain ⟨a,s1,h1,h2⟩:=AU e
 obtain ⟨b,s2,U,h4⟩:=AU h1
 rw [BQ (Ev h.1 Do)] at U
 cases U
 cases h4
 have:=(k ()).le _ _ _ h2
 have:=h.lt
 omega
theorem Sp.want {k:Nd->Rd α} {v:α} (h:Sp S.c s t) (e:(Rd.seq (A0 15 [125]) k).run s=.inr (v,s')):mu s'<S.c:=by
 obtain ⟨a,s1,U,h2⟩:=AU e
 replace U:(if AZ s 15 [125]=true then Az else HO).run s=.inr (a,s1):=U
 rw [if_pos h.1,BQ (Ev h.1 Do)] at U
 cases U
 have:=(k _).le _ _ _ h2
 have:=h.lt
 omega
end
section
variable {d:Nat} {s t:Ae} {A B C D E:Rd Nd} {L:Fi} {n m o:Nd} {l l':List Nd}
structure Gv (S:Sy) (L:Fi):Prop where
 atom:SR S L.atom
 exp:SR S L.exp
 ops:SR S L.ops
 decls:SR S L.decls
 stmts:SR S L.stmts
 alts:SR S L.alts
 Ez:∀o o',S.T o o'->Po S (L.Ez o) (L.Ez o')
 list:∀o o',S.T o o'->Po S (L.list o) (L.list o')
theorem O9 {p:Nd->Bool} (hA:SR S A) (hp:∀{a b:Nd},S.T a b->p a=p b):SR S (Du A p):=λd s t U=>
 SW.look (SW.seq (SW.A hA U λv w s1 t1 hv U=>SW.ite (by rw [hp hv]) (λ_=>SW.ret ⟨hv,U⟩) λ_=>SW.Dm))
theorem jD {p:Nd->Bool} {A:Rd Nd} (hA:SG S A A) (hp:∀{a b:Nd},S.T a b->p a=p b):SG S (Du A p) (Du A p):=λd s t U h=>
 SW.look (SW.seq (SW.AG hA U h λv w s1 t1 hv U=>SW.ite (by rw [hp hv]) (λ_=>SW.ret ⟨hv,U⟩) λ_=>SW.Dm))
theorem Xw:SR S IE:=λd s t U=>SW.look (SW.TA U al (λ_ h=>SW.seq (SW.take h λv w s1 t1 hv U=>SW.ret ⟨S.node (.one hv),U⟩))
 λ_=>SW.seq (SW.want U Do λa a' s1 t1 ha U=>SW.seq (SW.kind U Do λb b' s1 t1 hb U=>SW.seq (SW.want U Do λc c' s1 t1 hc U=>SW.ret ⟨S.node (.cons ha (.cons hb (.one hc))),U⟩))))
theorem qm {P:List Nd->Ae->Prop} {Q:List Nd->List Nd->Ae->Ae->Prop} (hl:Bf S.T l l') (U:S.R d s t) (k:∀v w s1 t1,Bf S.T v w->S.R d s1 t1->Q v w s1 t1):SW S P (Se l) (Se l') s t Q:=
 SW.loop (J:=Bf S.T) (λx y s t hj U=>SW.look (SW.is U Do (λ_ h=>SW.seq (SW.take h λv w s1 t1 hv U=>SW.go (hj.app (.one (S.node (.one hv)))) U)) λ_=>SW.out (k _ _ _ _ hj U))) hl U
theorem qo {br:Bool} {P:List Nd×Bool->Ae->Prop} {Q:List Nd×Bool->List Nd×Bool->Ae->Ae->Prop} (hA:SR S A) (U:S.R d s t) (k:∀v w b s1 t1,Bf S.T v w->(b=true->Nm S d s1 t1)->S.R d s1 t1->Q (v,b) (w,b) s1 t1):SW S P (Pw A br) (Pw A br) s t Q:=by
 refine SW.loop (J:=Bf S.T) (λx y s t hj U=>SW.seq (qm hj U λv w s1 t1 hl U=>SW.seq (SW.A hA U λn n' s1 t1 hn U=>?_))) .nil U
 have h1:=hl.app (.one hn)
 refine SW.look (SW.TA U ak (λ_ _=>SW.seq (SW.A Xw U λo o' s1 t1 ho U=>?_)) λ_=>SW.out (k _ _ _ _ _ h1 (λe=>by cases e) U))
 have h2:=h1.app (.one ho)
 exact SW.ite Iff.rfl (λ_=>SW.look (SW.is U Do (λ_ h=>SW.out (k _ _ _ _ _ h2 (λ_=>h) U)) λ_=>SW.go h2 U)) λ_=>SW.go h2 U
theorem Bf.MP {k:Int} (h:Bf S.T l l'):S.T (MP k l) (MP k l'):=by
 unfold Proofs.Z.MP
 have:=h.len
 cases h with
 |nil=>exact S.node .nil
 |cons U h2=>
  cases h2 with
  |nil=>exact U
  |cons h3 h4=>rw [if_neg GT,if_neg GT];exact S.node (.cons U (.cons h3 h4))
theorem p9 (hA:SR S A):SR S (Zl A):=λd s t U=>SW.seq (qo hA U λv w b s1 t1 h _ U=>SW.ret ⟨h.MP,U⟩)
theorem Z0 (hA:SR S A) (hn:S.T n m):Po S (Le A n) (Le A m):=λd s t U=>SW.look (SW.is U Do (λ_ h=>SW.seq (SW.take h λv w s1 t1 hv U=>SW.seq (SW.A hA U λa b s1 t1 ha U=>SW.ret ⟨S.node (.cons hn (.cons hv (.one ha))),U⟩))) λ_=>SW.ret ⟨hn,U⟩)
theorem yu (hA:SR S A) (hB:SR S B):SR S (bC A B):=λd s t U=>SW.seq (SW.A (p9 hA) U λv w s1 t1 hv U=>Z0 hB hv _ _ _ U)
theorem ZW {a a' b b':Nd} (hL:Gv S L) (ha:S.T a a') (hb:S.T b b'):Po S (KW L a b) (KW L a' b'):=λd s t U=>SW.seq (SW.want U Do λi i' s1 t1 hi U=>SW.seq (SW.A hL.exp U λe e' s1 t1 he U=>SW.ret ⟨S.node (.cons ha (.cons hb (.cons hi (.one he)))),U⟩))
theorem yv (hL:Gv S L):SG S (iI L) (iI L):=λd s t U h=>SW.seq (SW.take h λv w s1 t1 hv U=>SW.seq (SW.A hL.decls U λa b s1 t1 ha U=>ZW hL hv ha _ _ _ U))
theorem jR (hL:Gv S L) (hA:SR S A):SG S (J4 L A) (J4 L A):=λd s t U h=>by
 have hs:∀{P:Sum (List Nd) (List Nd)->Ae->Prop} {Q:List Nd->List Nd->Ae->Ae->Prop} {l l':List Nd} {s t:Ae},Bf S.T l l'->S.R d s t->SW S P (LG A l) (LG A l') s t (kT S d (Bf S.T) Q):=λhl U=>SW.seq (SW.A (O9 hA S.nt.may) U λv w s1 t1 hv U=>SW.go (hl.app (.one hv)) U)
 refine SW.seq (SW.take h λv w s1 t1 hv U=>SW.seq (SW.loop (J:=Bf S.T) (λx y s t hj U=>SW.ite (by rw [hj.len]) (λ_=>hs hj U) λ_=>SW.look (SW.TA U Te (λ_ _=>hs hj U) λ_=>SW.out ?_)) (.one hv) U))
 exact SW.seq (SW.want U Do λa a' s1 t1 ha U=>SW.seq (SW.A hL.exp U λe e' s1 t1 he U=>SW.ret ⟨S.node ((hj.app (.one ha)).app (.one he)),U⟩))
theorem Nm.yl (h:rC S.T s t/\((Ab s).2.2=0->(Ab t).2.2=0/\rk S.R d (Ab s).1 (Ab s).2.1 (Ab t).2.1)) (e:Hc (Ab s).1=true):Nm S d s t:=⟨h.1,λhz=>by
 obtain ⟨h1,U⟩:=h.2 hz
 have e1:Mc (Ab s).1=false/\OA (Ab s).1=false:=by
  unfold Hc at e
  unfold Mc OA
  simp only [Bool.or_eq_true,Bool.and_eq_true,beq_iff_eq] at e
  rcases e with e|⟨e,e2⟩
  .rw [e];simp
  .rw [e,e2];decide
 unfold rk at U
 rw [e1.1,e1.2,if_neg Do,if_neg Do] at U
 exact ⟨h1,U⟩⟩
theorem u5 {P:Unit->Ae->Prop} {Q:Unit->Unit->Ae->Ae->Prop} (U:S.R d s t) (hP:Sp S.c s t->P () s->False) (k:∀s1 t1,S.R d s1 t1->Q () () s1 t1):SW S P (UI w) (UI w) s t Q:=by
 rcases S.next U with h|h
 .refine SW.look (SW.ite (by rw [O5 _ _ h.1.1 h.1.2.1]) (λe=>SW.is2 (DX (N5 e).1) (.yl h e) GT (λ_ _=>?_) (SW.ret (k _ _ U))) λ_=>SW.ret (k _ _ U))
  exact SW.seq (SW.take (.yl h e) λv w s1 t1 hv U=>SW.ret (k _ _ U))
 .refine SW.no λv s' e hm hp=>?_
  replace e:(if Hc (Ab s).1=true then (if AZ (Ab s).2.1 9 w=true then Hl else .ret ()) else .ret ():Rd Unit).run s=.inr (v,s'):=e
  rw [O5 _ ⟨15,[125],0,0⟩ (BI h.1).1 (BI h.1).2,if_neg Do] at e
  cases e
  exact hP h hp
theorem fZ {P:List Nd->Ae->Prop} {Q:List Nd->List Nd->Ae->Ae->Prop} (hL:Gv S L) (hl:Bf S.T l l') (U:S.R d s t) (k:∀v w s1 t1,Bf S.T v w->S.R d s1 t1->Q v w s1 t1):SW S P (Mo L l w) (Mo L l' w) s t Q:=by
 refine SW.seq (u5 U (λh hp=>?_) λs1 t1 U=>SW.seq (SW.want U GT λa a' s1 t1 ha U=>SW.seq (SW.A hL.exp U λe e' s1 t1 he U=>SW.ret (k _ _ _ _ ((hl.app (.one ha)).app (.one he)) U))))
 obtain ⟨v,s',e,_⟩:=hp
 obtain ⟨a,s1,h1,_⟩:=AU e
 replace h1:(if AZ s 9 w=true then Az else HO).run s=.inr (a,s1):=h1
 rw [if_neg (by unfold AZ;rw [(BI h.1).1];simp)] at h1
 cases h1
theorem jN (hL:Gv S L):SG S (JT L) (JT L):=λd s t U h=>SW.seq (SW.take h λv w s1 t1 hv U=>SW.seq (SW.A hL.exp U λc c' s1 t1 hc U=>SW.seq (fZ hL (.cons hv (.one hc)) U λl l' s1 t1 hl U=>SW.seq (fZ hL hl U λl l' s1 t1 hl U=>SW.ret ⟨S.node hl,U⟩))))
theorem uQ (hL:Gv S L):SG S (T6 L) (T6 L):=λd s t U h=>SW.seq (SW.take h λv w s1 t1 hv U=>SW.seq (SW.A hL.exp U λc c' s1 t1 hc U=>SW.seq (SW.want U Do λo o' s1 t1 ho U=>SW.seq (SW.A hL.alts U λa a' s1 t1 ha U=>SW.ret ⟨S.node (Bf.app (.cons hv (.cons hc (.one ho))) (.one ha)),U⟩))))
theorem qd (hL:Gv S L):SG S (MX L) (MX L):=λd s t U h=>SW.seq (SW.take h λv w s1 t1 hv U=>SW.seq (SW.A hL.stmts U λc c' s1 t1 hc U=>SW.ite (by rw [S.nt.last hc]) (λ_=>SW.fail) λ_=>SW.ret ⟨S.node (.cons hv (.one hc)),U⟩))
theorem SU (hA:SR S A):SR S (Mz A):=λd s t U=>SW.seq (SW.A hA U λn n' s1 t1 hn U=>SW.seq (SW.loop (J:=Bf S.T) (λx y s t hj U=>SW.look (SW.TA U Te (λ_ _=>SW.seq (SW.A hA U λv w s1 t1 hv U=>SW.go (hj.app (.one hv)) U)) λ_=>SW.out (SW.ret ⟨hj.MP,U⟩))) (.one hn) U))
theorem MW (hL:Gv S L) (hA:SR S A):SR S (Ib L A):=λd s t U=>SW.look (SW.TA (p:=λt=>t.kind==10) U (HI Do) (λ_ h=>SW.at (p:=λt=>t.text==[92]) h Ol (λ_=>jR hL hA _ _ _ U h) λ_=>SU hA _ _ _ U)
 λ_=>SW.TA (p:=λt=>t.kind==9) U (HI Do) (λ_ h=>SW.at (p:=λt=>t.text==qX) h Ol (λ_=>yv hL _ _ _ U h) λ_=>SW.at (p:=λt=>t.text==zZ) h Ol (λ_=>jN hL _ _ _ U h) λ_=>SW.at (p:=λt=>t.text==gA) h Ol (λ_=>uQ hL _ _ _ U h) λ_=>
  SW.at (p:=λt=>t.text==zY) h Ol (λ_=>qd hL _ _ _ U h) λ_=>SU hA _ _ _ U) λ_=>SU hA _ _ _ U)
theorem fW (ho:S.T o n):Po S (RT o) (RT n):=λd s t U=>SW.seq (SW.loop (J:=Bf S.T) (λx y s t hj U=>SW.look (SW.is U Do (λ_ h=>SW.seq (SW.take h λv w s1 t1 hv U=>SW.go (hj.app (.one hv)) U)) λ_=>SW.out (SW.seq (SW.want U Do λc c' s1 t1 hc U=>SW.ret ⟨S.node (hj.app (.one hc)),U⟩)))) (.one ho) U)
theorem UP (hL:Gv S L) (ho:S.T o n):Po S (MS L o) (MS L n):=λd s t U=>SW.look (SW.TA U ak (λ_ h=>SW.is U Do (λ_ _=>hL.Ez _ _ ho _ _ _ U) λ_=>SW.seq (SW.A Xw U λp p' s1 t1 hp U=>SW.seq (SW.A hL.ops U λe e' s1 t1 he U=>SW.seq (SW.want U Do λc c' s1 t1 hc U=>SW.ret ⟨S.node (.cons ho (.cons hp (.cons he (.one hc)))),U⟩))))
 λ_=>hL.Ez _ _ ho _ _ _ U)
theorem jU (hL:Gv S L) (ho:S.T o n):Po S (O1 L o) (O1 L n):=λd s t U=>SW.look (SW.TA U al (λe h=>SW.is2 (DX (Pb e).1) h Do (λ_ h2=>SW.seq (SW.takeN h λhp U=>SW.seq (SW.take h2 λc c' s1 t1 hc U=>SW.ret ⟨S.node (.cons ho (.cons hp (.one hc))),U⟩))) (UP hL ho _ _ _ U)) λ_=>UP hL ho _ _ _ U)
theorem qb (hL:Gv S L):SG S (MT L) (MT L):=λd s t U h=>SW.seq (SW.take h λv w s1 t1 hv U=>SW.look (SW.is U Do (λ_ _=>fW hv _ _ _ U) λ_=>SW.is U Do (λ_ _=>fW hv _ _ _ U) λ_=>jU hL hv _ _ _ U))
theorem jV (hL:Gv S L):SG S (Km L) (Km L):=λd s t U h=>SW.seq (SW.take h λv w s1 t1 hv U=>SW.look (SW.is U Do (λ_ h=>SW.seq (SW.take h λc c' s1 t1 hc U=>SW.ret ⟨S.node (.cons hv (.one hc)),U⟩)) λ_=>hL.list _ _ hv _ _ _ U))
theorem uP (hL:Gv S L):SR S (Q8 L):=λd s t U=>SW.look (SW.TA U Te (λ_ h=>SW.at (p:=λt=>t.kind==15) h xw (λ_=>SW.at (p:=λt=>t.text==[40]) h Ol (λ_=>qb hL _ _ _ U h) λ_=>jV hL _ _ _ U h)
 λ_=>SW.at (p:=λt=>t.kind==9) h xw (λ_=>SW.seq (SW.take h λw w' s1 t1 hw U=>SW.ret ⟨S.node (.one hw),U⟩))
 λ_=>SW.at (p:=λt=>t.kind==10) h xw (λ_=>SW.seq (SW.take h λw w' s1 t1 hw U=>SW.seq (SW.A hL.atom U λa a' s1 t1 ha U=>SW.ret ⟨S.node (.cons hw (.one ha)),U⟩)))
 λ_=>SW.seq (SW.take h λn n' s1 t1 hn U=>SW.ite (by rw [h.1.1]) (λ_=>SW.look (SW.is U Do (λ_ h=>SW.seq (SW.take h λw w' s1 t1 hw U=>SW.seq (SW.A hL.atom U λa a' s1 t1 ha U=>SW.ret ⟨S.node (.cons hn (.cons hw (.one ha))),U⟩))) λ_=>SW.ret ⟨hn,U⟩)) λ_=>SW.ret ⟨hn,U⟩)) λ_=>SW.bad)
theorem jT (hL:Gv S L) (hn:S.T n m) (U:S.R d s t) (ho:AZ s 15 [123]=true) (k:∀v w s1 t1,S.T v w->S.R d s1 t1->Q v w s1 t1):SW S P (IH L n) (IH L m) s t Q:=by
 refine SW.seq (SW.gb U (cR ho) λb b' s1 t1 hb U=>SW.seq (SW.loop (d:=d+1) (J:=Bf S.T) (λx y s t hj U=>?_) (.cons hn (.one hb)) U))
 have hend:∀{x y:List Nd} {s t:Ae} {P':Sum (List Nd) (List Nd)->Ae->Prop},Bf S.T x y->S.R (d+1) s t->SW S P' (.ret (.inr x)) (.ret (.inr y)) s t (kT S (d+1) (Bf S.T) λv w s1 t1=>SW S P (.seq (A0 15 [125]) λc=>.ret (As 12 (v++[c]))) (.seq (A0 15 [125]) λc=>.ret (As 12 (w++[c]))) s1 t1 Q):=λhl U=>
  SW.out (SW.seq (SW.wy U λc c' s1 t1 hc U=>SW.ret (k _ _ _ _ (S.node (hl.app (.one hc))) U)))
 have hf:∀{P':Sum (List Nd) (List Nd)->Ae->Prop},SW S P' (OK L x) (OK L y) s t (kT S (d+1) (Bf S.T) λv w s1 t1=>SW S P (.seq (A0 15 [125]) λc=>.ret (As 12 (v++[c]))) (.seq (A0 15 [125]) λc=>.ret (As 12 (w++[c]))) s1 t1 Q):=
  SW.seq (SW.kind U Do λa a' s1 t1 ha U=>SW.seq (SW.want U Do λq q' s1 t1 hq U=>SW.seq (SW.A hL.exp U λe e' s1 t1 he U=>by
   have h1:=hj.app (.one (S.node (k:=13) (.cons ha (.cons hq (.one he)))))
   exact SW.look (SW.is U Do (λ_ h=>SW.seq (SW.take h λc c' s1 t1 hc U=>SW.go (h1.app (.one hc)) U)) λ_=>hend h1 U))))
 rcases S.next U with h|h
 .exact SW.look (SW.ite (by unfold AZ;rw [h.1.1,h.1.2.1]) (λ_=>SW.ite (by rw [hj.len]) (λ_=>hf) λ_=>hend hj U) λ_=>hf)
 .refine SW.look ?_
  rw [if_pos h.1,if_neg (show ¬AZ t 15 [125]=true by unfold AZ;rw [(BI h.2.1).1,(BI h.2.1).2];decide)]
  by_cases h2:2<(x.length:Int)
  .rw [if_pos h2];exact hf
  .rw [if_neg h2]
   refine SW.no λv s' e hm hp=>?_
   cases e
   obtain ⟨v,s',e,hm,_⟩:=hp
   have:=h.want e
   omega
theorem K8 (hL:Gv S L):SR S (Mj L):=λd s t U=>SW.seq (SW.A (uP hL) U λn n' s1 t1 hn U=>SW.loop (J:=S.T) (λx y s t hj U=>SW.look (SW.isO U (λe=>SW.seq (jT hL hj U e λv w s1 t1 hv U=>SW.go hv U)) (SW.out ⟨hj,U⟩))) hn U)
theorem Bf.take {T:Nd->Nd->Prop} {l m:List Nd} (h:Bf T l m):∀k,Bf T (l.take k) (m.take k):=by
 induction h with
 |nil=>intro k;simp;exact .nil
 |cons U _ ih=>
  intro k
  cases k with
  |zero=>exact .nil
  |succ k=>exact .cons U (ih k)
theorem Bf.last {l m:List Nd} (U:T Gj Gj) (h:Bf T l m):T (l.getLastD Gj) (m.getLastD Gj):=by
 suffices k:∀a b,T a b->T (l.getLastD a) (m.getLastD b) from k _ _ U
 induction h with
 |nil=>intro a b h;exact h
 |cons h1 _ ih=>intro a b h;rw [List.getLastD_cons,List.getLastD_cons];exact ih _ _ h1
theorem p5 (hA:SR S A) (hB:SR S B) (hC:SR S C) (ho:S.T o n):Po S (Ec A B C o) (Ec A B C n):=λd s t U=>SW.seq (qo hA U λv w b s1 t1 hl hb U=>SW.ite Iff.rfl
 (λe=>SW.seq (SW.take (hb e) λc c' s1 t1 hc U=>SW.ret ⟨S.node (.cons ho (.cons (by dsimp only;rw [<-hl.len];exact (hl.take _).MP) (.cons (hl.last S.nd) (.one hc)))),U⟩))
 λ_=>SW.seq (SW.A2 (Z0 hB hl.MP) U λe e' s1 t1 he U=>SW.seq (SW.loop (J:=λp q=>p.1=q.1/\Bf S.T p.2 q.2) (λx y s t hj U=>SW.look (SW.is U Do (λ_ h=>SW.seq (SW.take h λc c' s1 t1 hc U=>SW.seq (SW.A hC U λe e' s1 t1 he U=>SW.go ⟨rfl,(hj.2.app (.one hc)).app (.one he)⟩ U)))
  λ_=>SW.out (SW.seq (SW.want U Do λc c' s1 t1 hc U=>SW.ret ⟨by rw [hj.1];exact S.node (hj.2.app (.one hc)),U⟩)))) ⟨rfl,.cons ho (.one he)⟩ U)))
theorem Z6 {P:List Nd->Ae->Prop} {Q:List Nd->List Nd->Ae->Ae->Prop} (hA:SR S A) (hl:Bf S.T l l') (U:S.R d s t) (k:∀v w s1 t1,Bf S.T v w->S.R d s1 t1->Q v w s1 t1):SW S P (FI A l) (FI A l') s t Q:=
 SW.seq (SW.want U Do λb b' s1 t1 hb U=>SW.seq (SW.A hA U λe e' s1 t1 he U=>SW.loop (J:=Bf S.T) (λx y s t hj U=>SW.look (SW.is U Do (λ_ h=>SW.seq (SW.take h λc c' s1 t1 hc U=>SW.seq (SW.A hA U λe e' s1 t1 he U=>SW.go ((hj.app (.one hc)).app (.one he)) U))) λ_=>SW.out (k _ _ _ _ hj U))) ((hl.app (.one hb)).app (.one he)) U))
theorem uT (hA:SR S A) (hB:SR S B) (ho:S.T o n):Po S (NL A B o) (NL A B n):=λd s t U=>by
 refine SW.seq (SW.A hA U λe e' s1 t1 he U=>SW.look (SW.is U Do (λ_ _=>SW.seq (Z6 hB (.cons ho (.one he)) U λl l' s1 t1 hl U=>SW.seq (SW.want U Do λc c' s1 t1 hc U=>SW.ret ⟨S.node (hl.app (.one hc)),U⟩))) λ_=>SW.seq (SW.loop (J:=Bf S.T) (λx y s t hj U=>?_) (.cons ho (.one he)) U)))
 have hend:∀{k:Int} {x y:List Nd} {s t:Ae} {P:Sum (List Nd) (Int×List Nd)->Ae->Prop},Bf S.T x y->S.R d s t->SW S P (.ret (.inr (k,x))) (.ret (.inr (k,y))) s t (kT S d (Bf S.T) λv w s1 t1=>SW S (λ_ _=>True) (.seq (A0 15 [93]) λc=>.ret (As v.1 (v.2++[c]))) (.seq (A0 15 [93]) λc=>.ret (As w.1 (w.2++[c]))) s1 t1 (λv w s1 t1=>S.T v w/\S.R d s1 t1)):=λhl U=>
  SW.out (SW.seq (SW.want U Do λc c' s1 t1 hc U=>SW.ret ⟨S.node (hl.app (.one hc)),U⟩))
 have hc:∀{P:Sum (List Nd) (Int×List Nd)->Ae->Prop},SW S P (Un A x) (Un A y) s t (kT S d (Bf S.T) λv w s1 t1=>SW S (λ_ _=>True) (.seq (A0 15 [93]) λc=>.ret (As v.1 (v.2++[c]))) (.seq (A0 15 [93]) λc=>.ret (As w.1 (w.2++[c]))) s1 t1 (λv w s1 t1=>S.T v w/\S.R d s1 t1)):=
  SW.look (SW.is U Do (λ_ h=>SW.seq (SW.take h λc c' s1 t1 hc U=>SW.seq (SW.A hA U λe e' s1 t1 he U=>SW.go ((hj.app (.one hc)).app (.one he)) U))) λ_=>hend hj U)
 refine SW.ite (by rw [hj.len]) (λ_=>SW.look (SW.is U Do (λ_ h=>SW.seq (SW.take h λd d' s1 t1 hd U=>?_)) λ_=>hc)) λ_=>hc
 exact SW.look (SW.is U Do (λ_ _=>hend (hj.app (.one hd)) U) λ_=>SW.seq (SW.A hA U λe e' s1 t1 he U=>hend ((hj.app (.one hd)).app (.one he)) U))
theorem fU (hA:SR S A) (hn:S.T n m):Po S (Q9 A n) (Q9 A m):=λd s t U=>SW.look (SW.is U Do (λ_ h=>SW.ite (by rw [S.nt.may hn]) (λ_=>SW.seq (SW.take h λa a' s1 t1 ha U=>SW.seq (SW.A hA U λe e' s1 t1 he U=>SW.ret ⟨S.node (.cons hn (.cons ha (.one he))),U⟩))) λ_=>SW.fail) λ_=>SW.ret ⟨hn,U⟩)
theorem uV (hL:Gv S L) (hA:SR S A):SR S (S4 L A):=λd s t U=>SW.look (SW.is U Do (λ_ h=>SW.seq (SW.take h λv w s1 t1 hv U=>SW.seq (SW.A hL.decls U λb b' s1 t1 hb U=>SW.look (SW.is U Do (λ_ _=>SW.seq (SW.A2 (ZW hL hv hb) U λn n' s1 t1 hn U=>fU hA hn _ _ _ U)) λ_=>SW.ret ⟨S.node (.cons hv (.one hb)),U⟩))))
 λ_=>SW.seq (SW.A hA U λn n' s1 t1 hn U=>fU hA hn _ _ _ U))
theorem Bf.hd {l m:List Nd} (U:T Gj Gj) (h:Bf T l m):T (l.headD Gj) (m.headD Gj):=by
 cases h with
 |nil=>exact U
 |cons h1 _=>exact h1
theorem fX (hL:Gv S L) (hA:SR S A) (hB:SR S B) (hl:Bf S.T l l'):Po S (c9 L A B x l) (c9 L A B x l'):=λd s t U=>by
 refine SW.seq (SW.loop (J:=Bf S.T) (λy z s t hj U=>?_) hl U)
 have hend:∀{P:Sum (List Nd) (List Nd)->Ae->Prop},SW S P (.ret (.inr y)) (.ret (.inr z)) s t (kT S d (Bf S.T) λv w s1 t1=>SW S (λ_ _=>True) (.look λs=>if AZ s 9 Dd=true then .seq Az λw=>.seq L.decls λb=>.ret (As 29 (v++[As 31 [w,b]])) else .ret (As 29 v)) (.look λs=>if AZ s 9 Dd=true then .seq Az λw'=>.seq L.decls λb=>.ret (As 29 (w++[As 31 [w',b]])) else .ret (As 29 w)) s1 t1 (λv w s1 t1=>S.T v w/\S.R d s1 t1)):=
  SW.out (SW.look (SW.is U Do (λ_ h=>SW.seq (SW.take h λw w' s1 t1 hw U=>SW.seq (SW.A hL.decls U λb b' s1 t1 hb U=>SW.ret ⟨S.node (hj.app (.one (S.node (.cons hw (.one hb))))),U⟩))) λ_=>SW.ret ⟨S.node hj,U⟩))
 have hs:∀{P:Sum (List Nd) (List Nd)->Ae->Prop} {Q:List Nd->List Nd->Ae->Ae->Prop},SW S P (MJ A B x y) (MJ A B x z) s t (kT S d (Bf S.T) Q):=
  SW.seq (Z6 hB .nil U λg g' s1 t1 hg U=>SW.seq (SW.want U GT λq q' s1 t1 hq U=>SW.seq (SW.A hA U λe e' s1 t1 he U=>SW.go (hj.app (.one (S.node ((hg.app (.one hq)).app (.one he))))) U)))
 exact SW.ite (by rw [hj.len]) (λ_=>hs) λ_=>SW.ite (by rw [S.nt.kd (hj.hd S.nd)]) (λ_=>SW.look (SW.is U Do (λ_ _=>hs) λ_=>hend)) λ_=>hend
theorem qa (hL:Gv S L) (hA:SR S A) (hB:SR S B):SR S (Zv L A B x):=λd s t U=>SW.look (SW.is U GT (λ_ h=>SW.seq (SW.take h λa a' s1 t1 ha U=>SW.seq (SW.A hA U λe e' s1 t1 he U=>fX hL hA hB (.cons ha (.one he)) _ _ _ U)))
 λ_=>SW.is U Do (λ_ _=>fX hL hA hB .nil _ _ _ U) λ_=>SW.bad)
theorem yt (hL:Gv S L) (hA:SR S A) (hB:SR S B) (hC:SR S C):SR S (aS L A B C):=λd s t U=>SW.seq (SW.A hA U λn n' s1 t1 hn U=>SW.ite (by rw [S.nt.may hn]) (λ_=>SW.seq (SW.A (qa hL hB hC) U λr r' s1 t1 h U=>SW.ret ⟨S.node (.cons hn (.one h)),U⟩)) λ_=>SW.fail)
theorem SZ (hl:Bf S.T l l'):Po S (JX l) (JX l'):=λd s t U=>
 have ho:=O9 (S:=S) (p:=GK) Xw S.nt.plain
 SW.seq (SW.A ho U λv w s1 t1 hv U=>SW.seq (SW.loop (J:=Bf S.T) (λx y s t hj U=>SW.look (SW.is U Do (λ_ h=>SW.seq (SW.take h λc c' s1 t1 hc U=>SW.seq (SW.A ho U λo o' s1 t1 ho U=>SW.go ((hj.app (.one hc)).app (.one ho)) U))) λ_=>SW.out (SW.ret ⟨S.node hj,U⟩))) (hl.app (.one hv)) U))
theorem qe:SG S Az Az:=λd s t U h=>SW.take h λv w s1 t1 hv U=>⟨hv,U⟩
theorem jQ:SG S JY JY:=λd s t U h=>SW.seq (SW.take h λf f' s1 t1 hf U=>SW.look (SW.TA (p:=λt=>t.kind==11) U (HI Do) (λ_ h=>SW.seq (SW.AG (jD qe S.nt.dig) U h λd d' s1 t1 hd U=>SZ (.cons hf (.one hd)) _ _ _ U)) λ_=>SZ (.one hf) _ _ _ U))
theorem qc (hA:SR S A) (hB:SR S B) (hn:S.T n m):Po S (ZG A B n) (ZG A B m):=λd s t U=>SW.ite (by rw [S.nt.var hn]) (λ_=>SW.seq (SW.loop (J:=Bf S.T) (λx y s t hj U=>SW.look (SW.is U Do (λ_ h=>SW.seq (SW.take h λc c' s1 t1 hc U=>SW.seq (SW.A (O9 hA S.nt.var) U λo o' s1 t1 ho U=>SW.go ((hj.app (.one hc)).app (.one ho)) U)))
 λ_=>SW.out (SW.seq (SW.want U Do λc c' s1 t1 hc U=>SW.seq (SW.A hB U λe e' s1 t1 he U=>SW.ret ⟨S.node ((hj.app (.one hc)).app (.one he)),U⟩))))) (.one hn) U)) λ_=>SW.fail
theorem uS (hL:Gv S L) (hA:SR S A) (hB:SR S B) (hC:SR S C) (hD:SR S D) (hE:SR S E):SR S (Rq L A B C D E):=λd s t U=>SW.look (SW.TA U qN (λ_ h=>jQ _ _ _ U h) λ_=>SW.seq (SW.A hB U λn n' s1 t1 hn U=>SW.look (SW.is U Do (λ_ _=>qc hA hE hn _ _ _ U) λ_=>SW.is U Do (λ_ _=>qc hA hE hn _ _ _ U)
 λ_=>SW.ite (by rw [S.nt.lhs hn]) (λ_=>SW.seq (SW.A (qa hL hC hD) U λr r' s1 t1 h U=>SW.ret ⟨S.node (.cons hn (.one h)),U⟩)) λ_=>SW.fail)))
theorem Z7 {P:Unit->Ae->Prop} {Q:Unit->Unit->Ae->Ae->Prop} (U:S.R d s t) (hP:∀{s t},S.R d s t->Sp S.c s t->P () s->False) (k:∀s1 t1,S.R d s1 t1->Q () () s1 t1):SW S P MU MU s t Q:=by
 refine SW.loop (J:=λ_ _=>True) (λx y s t _ U=>?_) trivial U
 rcases S.next U with h|h
 .exact SW.look (SW.ite (by rw [O5 _ _ h.1.1 h.1.2.1]) (λe=>SW.seq (SW.seq (SW.take (.yl h e) λv w s1 t1 hv U=>SW.ret (SW.go trivial U)))) λ_=>SW.out (k _ _ U))
 .refine SW.no λv s' e hm hp=>?_
  replace e:(if Hc (Ab s).1=true then .seq Hl λ_=>.ret (.inl ()) else .ret (.inr ()):Rd (Sum Unit Unit)).run s=.inr (v,s'):=e
  rw [O5 _ ⟨15,[125],0,0⟩ (BI h.1).1 (BI h.1).2,if_neg Do] at e
  cases e
  exact hP U h hp
theorem Sp.ended {b:Ae->Bool} {k:Bool->Rd α} {v:α} (h:Sp S.c s t) (e:(Rd.look λs=>.seq (FD true (b s)) k).run s=.inr (v,s')):mu s'<S.c:=by
 obtain ⟨a,s2,U,h3⟩:=AU (show (Rd.seq (FD true (b s)) k).run s=_ from e)
 replace U:(if AZ s 15 [125]=true then Rd.seq Hl λ_=>.ret true else if b s=true then HO else .ret false:Rd Bool).run s=.inr (a,s2):=U
 rw [if_pos h.1] at U
 obtain ⟨b,s3,h4,h5⟩:=AU U
 obtain ⟨b2,s4,h6,h7⟩:=AU h4
 rw [BQ (Ev h.1 Do)] at h6
 cases h6;cases h7;cases h5
 have:=(k _).le _ _ _ h3
 have:=h.lt
 omega
theorem UT {b b':Bool} {P:Bool->Ae->Prop} {Q:Bool->Bool->Ae->Ae->Prop} (U:S.R (d+1) s t) (hb:rC S.T s t->b=b') (k1:∀s1 t1,S.R d s1 t1->Q true true s1 t1) (k2:Q false false s t):SW S P (FD true b) (FD true b') s t Q:=by
 rcases S.next U with h|h
 .obtain rfl:=hb h.1
  exact SW.look (SW.ite (by unfold AZ;rw [h.1.1,h.1.2.1]) (λe=>SW.seq (SW.seq (SW.qp U (lY e) λv w s1 t1 hv U=>SW.ret (SW.ret (k1 _ _ U))))) λ_=>SW.ite Iff.rfl (λ_=>SW.bad) λ_=>SW.ret k2)
 .refine SW.look ?_
  rw [if_pos (show (if true=true then AZ s 15 [125] else (Ab s).1.kind==20)=true from h.1)]
  exact SW.spt h
theorem US {b b':Bool} {P:Bool->Ae->Prop} {Q:Bool->Bool->Ae->Ae->Prop} (U:S.R (d+1) s t) (h:rC S.T s t) (hb:b=b') (k1:∀s1 t1,S.R d s1 t1->Q true true s1 t1) (k2:Q false false s t):SW S P (FD false b) (FD false b') s t Q:=by
 subst hb
 have hk:(Ab s).1.kind==20->Mc (Ab s).1=false/\OA (Ab s).1=true:=λe=>by
  unfold Mc OA
  rw [beq_iff_eq.1 e];simp
 refine SW.look (SW.ite (by show ((Ab s).1.kind==20)=true↔((Ab t).1.kind==20)=true;rw [h.1]) (λe=>SW.seq (SW.seq (SW.qp U (hk e) λv w s1 t1 hv U=>SW.ret (SW.ret (k1 _ _ U))))) λ_=>SW.ite Iff.rfl (λ_=>SW.ite Iff.rfl (λ_=>SW.bad) λ_=>SW.seq ?_) λ_=>SW.ret k2)
 intro v s' e hm hp
 unfold MD at e |-
 dsimp only at e |-
 by_cases hc:(Ck s).2=true
 .rw [if_pos hc] at e
  cases e
  obtain ⟨h1,x,hx,h2⟩:=S.close U hc
  obtain rfl:d=x:=AC
  rw [if_pos h1]
  exact ⟨_,_,rfl,SW.ret (k1 _ _ h2)⟩
 .rw [if_neg hc] at e;cases e
theorem UN {item:List Nd->Rd Nd} (hp:KB p) (hA:∀{l l':List Nd},Bf S.T l l'->Po S (item l) (item l')):SR S (JS p item):=λd s t U=>by
 have h1:∀{s t:Ae},S.R (d+1) s t->SW S (λ_ _=>True) (.seq (.loop (Fx p item true) []) λl=>.ret (C6 true l)) (.seq (.loop (Fx p item true) []) λl=>.ret (C6 true l)) s t (λv w s1 t1=>S.T v w/\S.R d s1 t1):=λU=>by
  refine SW.seq (SW.loop (d:=d+1) (J:=Bf S.T) (λx y s t hj U=>SW.seq (Z7 U (@λs2 t2 U h hp=>?_) λs1 t1 U=>SW.look (SW.seq (UT U (λh=>by rw [hp.k _ _ h.1 h.2.1]) (λs1 t1 U=>?_) ?_)))) .nil U)
  .obtain ⟨v,s',e,hm,_⟩:=hp
   exact absurd hm (Nat.not_le.2 (h.ended e))
  .rw [if_pos rfl,if_pos rfl];exact SW.out (SW.ret ⟨S.block hj,U⟩)
  .rw [if_neg Do,if_neg Do]
   refine SW.seq (SW.A2 (hA hj) U λn n' s1 t1 hn U=>SW.look (SW.seq (UT U (λh=>by rw [O5 _ _ h.1 h.2.1]) (λs1 t1 U=>?_) ?_)))
   .rw [if_pos rfl,if_pos rfl];exact SW.out (SW.ret ⟨S.block (hj.app (.one hn)),U⟩)
   .rw [if_neg Do,if_neg Do];exact SW.go (hj.app (.one hn)) U
 have h0:(∀{e:Nat} {s t:Ae},S.R e s t->rC S.T s t)->∀{s t:Ae},S.R (d+1) s t->SW S (λ_ _=>True) (.seq (.loop (Fx p item false) []) λl=>.ret (C6 false l)) (.seq (.loop (Fx p item false) []) λl=>.ret (C6 false l)) s t (λv w s1 t1=>S.T v w/\S.R d s1 t1):=λhN {s t} U=>by
  refine SW.seq (SW.loop (d:=d+1) (J:=Bf S.T) (λx y s t hj U=>SW.seq (Z7 U (λU h hp=>?_) λs1 t1 U=>SW.look (SW.seq (US U (hN U) (by rw [hp.k _ _ (hN U).1 (hN U).2.1]) (λs1 t1 U=>?_) ?_)))) .nil U)
  .have h2:=(hN U).2.1
   rw [(BI h.1).2,(BI h.2.1).2] at h2
   cases h2
  .rw [if_pos rfl,if_pos rfl];exact SW.out (SW.ret ⟨S.block hj,U⟩)
  .rw [if_neg Do,if_neg Do]
   refine SW.seq (SW.A2 (hA hj) U λn n' s1 t1 hn U=>SW.look (SW.seq (US U (hN U) (by rw [O5 _ _ (hN U).1 (hN U).2.1]) (λs1 t1 U=>?_) ?_)))
   .rw [if_pos rfl,if_pos rfl];exact SW.out (SW.ret ⟨S.block (hj.app (.one hn)),U⟩)
   .rw [if_neg Do,if_neg Do];exact SW.go (hj.app (.one hn)) U
 rcases S.next U with h|h
 .refine SW.look (SW.ite (by rw [h.1.1]) (λe=>?_) λ_=>SW.seq (SW.zR U λv w s1 t1 hv U=>h1 U))
  have hN:∀{x:Nat} {s' t':Ae},S.R x s' t'->rC S.T s' t':=λhr'=>((S.next hr').resolve_right (S.imp U (beq_iff_eq.1 e) hr')).1
  exact SW.seq (SW.seq (SW.gb U (by unfold Mc;rw [e,Bool.or_true]) λv w s1 t1 hv U=>SW.ret (h0 hN U)))
 .refine SW.no λv s' e hm _=>?_
  have hk:((Ab s).1.kind==18)=false:=by rw [(BI h.1).1];rfl
  replace e:(if ((Ab s).1.kind==18)=true then Rd.seq Hl λ_=>.seq (.loop (Fx p item false) []) λl=>.ret (C6 false l) else .seq (A0 15 [123]) λ_=>.seq (.loop (Fx p item true) []) λl=>.ret (C6 true l):Rd Nd).run s=.inr (v,s'):=e
  rw [hk,if_neg Do] at e
  obtain ⟨a,s1,h1,_⟩:=AU e
  replace h1:(if AZ s 15 [123]=true then Az else HO).run s=.inr (a,s1):=h1
  rw [if_neg (by unfold AZ;rw [(BI h.1).1,(BI h.1).2];decide)] at h1
  cases h1
theorem Ob (hp:KB p) (U:SR S A):SR S (FB p A):=UN (item:=λ_=>A) hp λ_=>U
theorem LX (hF:SR S A) (U:Gv S L):SR S (P9 A L):=yu (MW U (K8 U)) hF
theorem Oc (hF:SR S A) (U:Gv S L):SR S (Mp A L):=uV U (LX hF U)
theorem Xx (U:Gv S L):SR S (opsL L):=p9 (MW U (K8 U))
theorem ZR (hF:SR S A) (U:Gv S L):SR S (Rp A L):=uS U (K8 U) (Xx U) (LX hF U) (Oc hF U) hF
theorem zJ (hF:SR S A) (U:Gv S L):Gv S (zX A L) where
 atom:=K8 U
 exp:=LX hF U
 ops:=Xx U
 decls:=Ob Tf (ZR hF U)
 stmts:=Ob aj (Oc hF U)
 alts:=Ob aj (yt U (Xx U) (LX hF U) (Oc hF U))
 Ez:=λo o' h=>p5 (MW U (K8 U)) hF (LX hF U) h
 list:=λo o' h=>uT (LX hF U) (Oc hF U) h
theorem p7 (S:Sy):∀d,Gv S (cz d)
 |0=>⟨λ_ _ _ _=>SW.fail,λ_ _ _ _=>SW.fail,λ_ _ _ _=>SW.fail,λ_ _ _ _=>SW.fail,λ_ _ _ _=>SW.fail,λ_ _ _ _=>SW.fail,λ_ _ _ _ _ _ _=>SW.fail,λ_ _ _ _ _ _ _=>SW.fail⟩
 |d+1=>zJ (Xu S _) (p7 S d)
theorem ZQ (S:Sy) (d:Nat):SR S (Ro d):=ZR (Xu S d) (p7 S _)
theorem jO (S:Sy) (d:Nat):SR S (Vx d):=Ob Tf (ZQ S d)
end
structure kY (T:Nd->Nd->Prop):Prop where
 f1:∀{a b:Nd},T a b->Uf a=Uf b
 sm:∀{a b:Nd},T a b->Dx a=Dx b
 st:∀{a b:Nd},T a b->DZ a=DZ b
 mr:∀{a b:Nd},T a b->Ff a=Ff b
 nr:∀{a b:Nd},T a b->ID a=ID b
 cl:∀{a b:Nd},T a b->FC a=FC b
 ns:∀{a b:Nd},T a b->Iy a=Iy b
 df:∀{a b:Nd},T a b->(a.kids.all λn=>n.kind==36)=(b.kids.all λn=>n.kind==36)
theorem aR:∀{l:List Nd},(l.all λ_=>true)=true
 |[]=>rfl
 |_::r=>by rw [List.all_cons,aR];rfl
variable {S:Sy}
theorem Bf.any {T:Nd->Nd->Prop} {l m:List Nd} {p:Nd->Bool} (h:Bf T l m) (hp:∀{a b:Nd},T a b->p a=p b):l.any p=m.any p:=by
 induction h with
 |nil=>rfl
 |cons U _ ih=>rw [List.any_cons,List.any_cons,ih,hp U]
section
variable {d:Nat} {s t:Ae} {A B C D E F:Rd Nd} {n m o:Nd} {l l':List Nd}
theorem UR {P:List Nd->Ae->Prop} {Q:List Nd->List Nd->Ae->Ae->Prop} (hx:x=[41]\/x=[125]) (hA:SR S A) (hl:Bf S.T l l') (U:S.R d s t)
 (hW:∀{l l':List Nd} {s t:Ae},Bf S.T l l'->S.R d s t->SW S P (.seq (A0 15 x) λc=>.ret (l++[c])) (.seq (A0 15 x) λc=>.ret (l'++[c])) s t Q):SW S P (DW A x l) (DW A x l') s t Q:=by
 refine SW.seq (SW.loop (d:=d) (J:=λp q=>p.1=q.1/\Bf S.T p.2 q.2) (λp q s t hj U=>?_) ⟨rfl,hl⟩ U)
 obtain ⟨b,y⟩:=p
 obtain ⟨b',z⟩:=q
 obtain ⟨rfl,hj⟩:=hj
 dsimp only at hj
 have hend:∀{y z:List Nd} {s t:Ae} {P':Sum (Bool×List Nd) (List Nd)->Ae->Prop},Bf S.T y z->S.R d s t->SW S P' (.ret (.inr y)) (.ret (.inr z)) s t (kT S d (λp q=>p.1=q.1/\Bf S.T p.2 q.2) λv w s1 t1=>SW S P (.seq (A0 15 x) λc=>.ret (v++[c])) (.seq (A0 15 x) λc=>.ret (w++[c])) s1 t1 Q):=λhl U=>SW.out (hW hl U)
 have hi:∀{P':Sum (Bool×List Nd) (List Nd)->Ae->Prop},SW S P' (.seq A λn=>.look λs=>if AZ s 15 [44]=true then .seq Az λc=>.ret (.inl (false,y++[n]++[c])) else .ret (.inr (y++[n]))) (.seq A λn=>.look λs=>if AZ s 15 [44]=true then .seq Az λc=>.ret (.inl (false,z++[n]++[c])) else .ret (.inr (z++[n]))) s t
  (kT S d (λp q=>p.1=q.1/\Bf S.T p.2 q.2) λv w s1 t1=>SW S P (.seq (A0 15 x) λc=>.ret (v++[c])) (.seq (A0 15 x) λc=>.ret (w++[c])) s1 t1 Q):=
  SW.seq (SW.A hA U λn n' s1 t1 hn U=>SW.look (SW.is U Do (λ_ h=>SW.seq (SW.take h λc c' s1 t1 hc U=>SW.go ⟨rfl,(hj.app (.one hn)).app (.one hc)⟩ U)) λ_=>hend (hj.app (.one hn)) U))
 unfold Vs
 refine SW.ite Iff.rfl (λ_=>SW.look ?_) λ_=>hi
 rcases S.next U with h|h
 .exact SW.ite (by unfold AZ;rw [h.1.1,h.1.2.1]) (λ_=>hend hj U) λ_=>hi
 .have ht:¬AZ t 15 x=true:=by
   unfold AZ
   rw [(BI h.2.1).1,(BI h.2.1).2]
   rcases hx with rfl|rfl<;>decide
  rw [if_neg ht]
  by_cases hs:AZ s 15 x=true
  .rw [if_pos hs]
   refine SW.no λv s' e hm hp=>?_
   cases e
   obtain ⟨v,s',e,hm,_⟩:=hp
   have e2:x=[125]:=by have:=(BI hs).2;rw [(BI h.1).2] at this;exact this.symm
   subst e2
   have:=h.want e
   omega
  .rw [if_neg hs];exact hi
theorem S5 {P:List Nd->Ae->Prop} {Q:List Nd->List Nd->Ae->Ae->Prop} (hA:SR S A) (hl:Bf S.T l l') (U:S.R d s t) (k:∀v w s1 t1,Bf S.T v w->S.R d s1 t1->Q v w s1 t1):SW S P (DW A [41] l) (DW A [41] l') s t Q:=
 UR (.inl rfl) hA hl U λhl U=>SW.seq (SW.want U Do λc c' s1 t1 hc U=>SW.ret (k _ _ _ _ (hl.app (.one hc)) U))
theorem ql {P:List Nd->Ae->Prop} {Q:List Nd->List Nd->Ae->Ae->Prop} (hA:SR S A) (hl:Bf S.T l l') (U:S.R (d+1) s t) (k:∀v w s1 t1,Bf S.T v w->S.R d s1 t1->Q v w s1 t1):SW S P (DW A [125] l) (DW A [125] l') s t Q:=
 UR (.inr rfl) hA hl U λhl U=>SW.seq (SW.wy U λc c' s1 t1 hc U=>SW.ret (k _ _ _ _ (hl.app (.one hc)) U))
theorem LY (hk:ks.contains 15=false/\ks.contains 18=false/\ks.contains 20=false):SR S (FA ks):=λd s t U=>SW.seq (SW.want U Do λa a' s1 t1 ha U=>SW.seq (SW.kind U hk λb b' s1 t1 hb U=>SW.seq (SW.want U Do λc c' s1 t1 hc U=>SW.ret ⟨S.node (.cons ha (.cons hb (.one hc))),U⟩)))
theorem Xv (hk:ks.contains 15=false/\ks.contains 18=false/\ks.contains 20=false):SR S (CX ks):=λd s t U=>SW.kind U hk λv w s1 t1 hv U=>⟨hv,U⟩
variable (N:kY S.T)
include N
theorem S3:SR S K6:=λd s t U=>SW.look (SW.is U Do (λ_ _=>SW.look (SW.seq (SW.A (LY Do) U λn n' s1 t1 hn U=>SW.ite (by rw [N.f1 hn]) (λ_=>SW.ret ⟨hn,U⟩) λ_=>SW.Dm))) λ_=>Xv Do _ _ _ U)
omit N in
theorem jS:SR S LK:=λd s t U=>SW.look (SW.is U Do (λ_ _=>LY Do _ _ _ U) λ_=>Xv Do _ _ _ U)
omit N in
theorem ZX (hl:Bf S.T l l'):Po S (Sj l) (Sj l'):=λd s t U=>SW.look (SW.is U Do (λ_ h=>SW.seq (SW.take h λo o' s1 t1 ho U=>SW.look (SW.is U Do (λ_ h=>SW.seq (SW.take h λd d' s1 t1 hd U=>SW.seq (SW.want U Do λc c' s1 t1 hc U=>SW.ret ⟨S.node ((hl.app (.one ho)).app (.cons hd (.one hc))),U⟩)))
 λ_=>SW.seq (S5 jS (hl.app (.one ho)) U λv w s1 t1 h U=>SW.ret ⟨S.node h,U⟩)))) λ_=>SW.ret ⟨S.node hl,U⟩)
omit N in
theorem ZY {o:Bool}:SR S (Y6 o):=λd s t U=>SW.look (SW.is U Do (λ_ _=>SW.seq (SW.A (LY (by cases o<;>decide)) U λn n' s1 t1 hn U=>SW.ret ⟨S.node (.one hn),U⟩))
 λ_=>SW.TA (p:=λt=>t.kind==2) U (HI Do) (λ_ _=>SW.seq (SW.kind U (by cases o<;>decide) λn n' s1 t1 hn U=>ZX (.one hn) _ _ _ U)) λ_=>SW.TA (p:=λt=>t.kind==4) U (HI Do) (λ_ _=>SW.seq (SW.kind U (by cases o<;>decide) λn n' s1 t1 hn U=>ZX (.one hn) _ _ _ U))
 λ_=>SW.seq (SW.kind U (by cases o<;>decide) λn n' s1 t1 hn U=>SW.ret ⟨S.node (.one hn),U⟩))
omit N in
theorem uU {o:Bool}:SR S (Uq o):=λd s t U=>SW.ite Iff.rfl (λ_=>ZY _ _ _ U) λ_=>SW.look (SW.is U Do (λ_ h=>SW.seq (SW.take h λm m' s1 t1 hm U=>SW.seq (SW.kind U (by cases o<;>decide) λn n' s1 t1 hn U=>SW.ret ⟨S.node (.cons hm (.one hn)),U⟩))) λ_=>ZY _ _ _ U)
omit N in
theorem p8 {o:Bool}:SR S (Ex o):=λd s t U=>SW.seq (SW.want U Do λo o' s1 t1 ho U=>SW.seq (SW.loop (J:=Bf S.T) (λx y s t hj U=>SW.look (SW.is U Do (λ_ _=>SW.out (SW.seq (SW.want U Do λc c' s1 t1 hc U=>SW.ret ⟨S.node (hj.app (.one hc)),U⟩)))
 λ_=>SW.seq (SW.A uU U λn n' s1 t1 hn U=>SW.look (SW.is U Do (λ_ h=>SW.seq (SW.take h λc c' s1 t1 hc U=>SW.go ((hj.app (.one hn)).app (.one hc)) U)) λ_=>SW.out (SW.seq (SW.want U Do λc c' s1 t1 hc U=>SW.ret ⟨S.node ((hj.app (.one hn)).app (.one hc)),U⟩)))))) (.one ho) U))
omit N in
theorem S2 (hl:Bf S.T l l'):Po S (LD l) (LD l'):=λd s t U=>SW.seq (SW.A p8 U λn n' s1 t1 hn U=>SW.ret ⟨S.node (hl.app (.one hn)),U⟩)
omit N in
theorem S1 (hl:Bf S.T l l'):Po S (LC l) (LC l'):=λd s t U=>SW.look (SW.is U Do (λ_ h=>SW.seq (SW.take h λh h' s1 t1 hh U=>S2 (hl.app (.one hh)) _ _ _ U)) λ_=>SW.is U Do (λ_ _=>S2 hl _ _ _ U) λ_=>SW.ret ⟨S.node hl,U⟩)
omit N in
theorem S0 (hl:Bf S.T l l'):Po S (LB l) (LB l'):=λd s t U=>SW.seq (SW.kind U Do λn n' s1 t1 hn U=>SW.look (SW.is U Do (λ_ h=>SW.seq (SW.take h λa a' s1 t1 ha U=>SW.seq (SW.kind U Do λm m' s1 t1 hm U=>S1 (((hl.app (.one hn)).app (.one ha)).app (.one hm)) _ _ _ U))) λ_=>S1 (hl.app (.one hn)) _ _ _ U))
omit N in
theorem dn:SG S G7 G7:=λd s t U h=>SW.seq (SW.take h λi i' s1 t1 hi U=>SW.look (SW.is U Do (λ_ h=>SW.seq (SW.take h λq q' s1 t1 hq U=>S0 (.cons hi (.one hq)) _ _ _ U)) λ_=>S0 (.one hi) _ _ _ U))
theorem PX (hA:SR S A) (hl:Bf S.T l l'):Po S (Jl A l) (Jl A l'):=λd s t U=>SW.seq (SW.A (S3 N) U λn n' s1 t1 hn U=>SW.seq (SW.want U Do λc c' s1 t1 hc U=>SW.seq (SW.A hA U λe e' s1 t1 he U=>SW.ret ⟨S.node (((hl.app (.one hn)).app (.one hc)).app (.one he)),U⟩)))
theorem K9 (hA:SR S A) (hl:Bf S.T l l'):Po S (HU A l) (HU A l'):=λd s t U=>SW.look (SW.TA (p:=λt=>t.kind==14) U (HI Do) (λ_ h=>SW.seq (SW.take h λx x' s1 t1 hx U=>PX N hA (hl.app (.one hx)) _ _ _ U)) λ_=>PX N hA hl _ _ _ U)
theorem ZU (hA:SR S A) (hl:Bf S.T l l'):Po S (KS A l) (KS A l'):=λd s t U=>by
 have hp:KB (λt:Tk=>if (t.kind==1&&t.text==qY)=true then true else t.kind==1&&t.text==XL):=⟨λa b h1 h2=>by rw [h1,h2],rfl,rfl,rfl,λu e=>by rw [e];rfl,λu e=>by rw [e];rfl⟩
 exact SW.look (SW.TA (p:=λt:Tk=>if (t.kind==1&&t.text==qY)=true then true else t.kind==1&&t.text==XL) U hp (λe h=>SW.is2 (DX (λe0=>by simp [e0] at e)) h Do (λ_ _=>K9 N hA hl _ _ _ U) (SW.seq (SW.take h λx x' s1 t1 hx U=>K9 N hA (hl.app (.one hx)) _ _ _ U))) λ_=>K9 N hA hl _ _ _ U)
theorem PW (hA:SR S A) (hl:Bf S.T l l'):SG S (Jk A l) (Jk A l'):=λd s t U h=>SW.seq (SW.take h λw w' s1 t1 hw U=>SW.seq (SW.kind U Do λn n' s1 t1 hn U=>ZU N hA ((hl.app (.one hw)).app (.one hn)) _ _ _ U))
theorem dm (hA:SR S A):SG S (G5 A) (G5 A):=λd s t U h=>SW.seq (SW.take h λf f' s1 t1 hf U=>SW.look (SW.is U Do (λ_ h=>PW N hA (.one hf) _ _ _ U h) λ_=>SW.is U Do (λ_ h=>PW N hA (.one hf) _ _ _ U h) λ_=>SW.bad))
omit N in
theorem ZS (hA:SR S A):SG S (FL A) (FL A):=λd s t U h=>SW.seq (SW.take h λd d' s1 t1 hd U=>SW.seq (SW.want U Do λo o' s1 t1 ho U=>SW.seq (S5 hA (.cons hd (.one ho)) U λv w s1 t1 h U=>SW.ret ⟨S.node h,U⟩)))
omit N in
theorem QR {P:List Nd×Nd->Ae->Prop} {Q:List Nd×Nd->List Nd×Nd->Ae->Ae->Prop} (hA:SR S A) (hl:Bf S.T l l') (U:S.R d s t) (k:∀v w n m s1 t1,Bf S.T v w->S.T n m->S.R d s1 t1->Q (v,n) (w,m) s1 t1):SW S P (Ix A l) (Ix A l') s t Q:=
 SW.seq (SW.A hA U λr r' s1 t1 h1 U=>SW.look (SW.is U Do (λ_ h=>SW.seq (SW.take h λa a' s1 t1 ha U=>SW.seq (SW.A hA U λq q' s1 t1 hq U=>SW.ret (k _ _ _ _ _ _ ((hl.app (.one h1)).app (.one ha)) hq U)))) λ_=>SW.ret (k _ _ _ _ _ _ hl h1 U)))
omit N in
theorem HC {b U:Bool} {P:Unit->Ae->Prop} {Q:Unit->Unit->Ae->Ae->Prop} (hb:b=U) (k:Q () () s t):SW S P (Gs b) (Gs U) s t Q:=SW.ite (by rw [hb]) (λ_=>SW.ret k) λ_=>SW.fail
theorem dq (hA:SR S A) (hB:SR S B):SG S (He A B) (He A B):=λd s t U h=>SW.seq (SW.take h λx x' s1 t1 hx U=>SW.seq (SW.A hA U λr r' s1 t1 h1 U=>SW.seq (HC (N.sm h1) (SW.seq (SW.want U Do λe e' s1 t1 he U=>SW.seq (SW.A hB U λw w' s1 t1 hw U=>SW.ret ⟨S.node (((Bf.cons hx (.one h1)).app (.one he)).app (.one hw)),U⟩))))))
omit N in
theorem UQ (hA:SR S A):SG S (HB A) (HB A):=λd s t U h=>SW.seq (SW.take h λx x' s1 t1 hx U=>SW.seq (SW.A hA U λa a' s1 t1 ha U=>SW.ret ⟨S.node (.cons hx (.one ha)),U⟩))
omit N in
theorem ZZ (hA:SR S A):SR S (Ii A):=λd s t U=>SW.look (SW.is U Do (λ_ h=>UQ hA _ _ _ U h) λ_=>SW.is U Do (λe h=>by
 rcases S.next (h.2 (Ev e Do)).2 with h2|h2
 .exact SW.ite (by rw [h2.1.1]) (λ_=>LY Do _ _ _ U) λ_=>hA _ _ _ U
 .rw [(BI h2.1).1,(BI h2.2.1).1];exact hA _ _ _ U) λ_=>hA _ _ _ U)
omit N in
theorem kD:KB Lc:=⟨λa b U h2=>by unfold Lc;rw [U,h2],rfl,rfl,rfl,λu e=>by unfold Lc;rw [e];rfl,λu e=>by unfold Lc;rw [e];rfl⟩
omit N in
theorem Z5 {P:List Nd->Ae->Prop} {Q:List Nd->List Nd->Ae->Ae->Prop} (hA:SR S A) (U:S.R d s t) (k:∀v w s1 t1,Bf S.T v w->S.R d s1 t1->Q v w s1 t1):SW S P (Jd A) (Jd A) s t Q:=
 SW.seq (SW.A (ZZ hA) U λn n' s1 t1 hn U=>SW.loop (J:=Bf S.T) (λx y s t hj U=>SW.look (SW.TA U kD (λ_ _=>SW.seq (SW.A (ZZ hA) U λn n' s1 t1 hn U=>SW.go (hj.app (.one hn)) U)) λ_=>SW.out (k _ _ _ _ hj U))) (.one hn) U)
theorem ga (U:Bf S.T l l') (k:∀v w,S.T v w->Q v w s t):SW S P (PT l) (PT l') s t Q:=
 SW.ite (by rw [U.len]) (λ_=>SW.ret (k _ _ (U.hd S.nd))) λ_=>SW.seq (HC (by rw [U.any N.st]) (SW.ret (k _ _ (S.node U))))
theorem jW (hA:SR S A) (hB:SR S B):SR S (IJ A B):=λd s t U=>SW.seq (SW.A (S3 N) U λn n' s1 t1 hn U=>SW.seq (SW.loop (J:=Bf S.T) (λx y s t hj U=>SW.look (SW.is U Do (λ_ h=>SW.seq (SW.take h λc c' s1 t1 hc U=>SW.seq (SW.A (S3 N) U λn n' s1 t1 hn U=>SW.go ((hj.app (.one hc)).app (.one hn)) U)))
 λ_=>SW.out (SW.seq (SW.want U Do λc c' s1 t1 hc U=>SW.look (SW.is U Do (λ_ h=>SW.seq (SW.AG (UQ hA) U h λe e' s1 t1 he U=>SW.ret ⟨S.node ((hj.app (.one hc)).app (.one he)),U⟩)) λ_=>SW.seq (SW.A hB U λe e' s1 t1 he U=>SW.ret ⟨S.node ((hj.app (.one hc)).app (.one he)),U⟩)))))) (.one hn) U))
omit N in
theorem qg:SG S M0 M0:=λd s t U h=>SW.look (SW.TA (p:=λt=>t.kind==6) U (HI Do) (λ_ h=>SW.seq (SW.take h λx x' s1 t1 hx U=>SW.ret ⟨S.node (.one hx),U⟩)) λ_=>SW.look (SW.seq (SW.take h λo o' s1 t1 ho U=>SW.seq (SW.kind U Do λn n' s1 t1 hn U=>SW.seq (SW.want U Do λc c' s1 t1 hc U=>
 SW.ite (by rw [S.nt.fm hn]) (λ_=>SW.ret ⟨S.node (.cons ho (.cons hn (.one hc))),U⟩) λ_=>SW.Dm)))))
theorem SX (hA:SR S A) (hl:Bf S.T l l'):SG S (GS A l) (GS A l'):=λd s t U h=>SW.seq (ga N hl λa a' ha=>SW.seq (SW.AG qg U h λo o' s1 t1 ho U=>SW.seq (Z5 hA U λr r' s1 t1 h1 U=>SW.seq (ga N h1 λb b' hb=>SW.ret ⟨S.node (.cons ha (.cons ho (.one hb))),U⟩))))
theorem SV (hA:SR S A) (hl:Bf S.T l l'):Po S (Hr A l) (Hr A l'):=λd s t U=>SW.look (SW.TA (p:=λt=>t.kind==6) U (HI Do) (λ_ h=>SX N hA hl _ _ _ U h) λ_=>SW.is U Do (λ_ h=>SX N hA hl _ _ _ U h) λ_=>SW.seq (HC (N.mr (hl.hd S.nd)) (SW.ret ⟨S.node hl,U⟩)))
theorem UO (hA:SR S A) (hB:SR S B):SR S (GU A B):=λd s t U=>SW.seq (Z5 hA U λl l' s1 t1 hl U=>SW.ite (by rw [hl.len,N.mr (hl.hd S.nd)]) (λ_=>SW.look (SW.isO U (λe=>SW.seq (SW.gb U (cR e) λo o' s1 t1 ho U=>SW.seq (ql (jW N hA hB) (hl.app (.one ho)) U λv w s1 t1 h U=>SW.ret ⟨S.node h,U⟩))) (SV N hA hl _ _ _ U))) λ_=>SV N hA hl _ _ _ U)
omit N in
theorem ZT:SG S FM FM:=λd s t U h=>SW.seq (SW.take h λd d' s1 t1 hd U=>SW.look (SW.is U Do (λ_ h=>SW.seq (SW.take h λo o' s1 t1 ho U=>SW.seq (S5 (Xv Do) (.cons hd (.one ho)) U λv w s1 t1 h U=>SW.ret ⟨S.node h,U⟩))) λ_=>SW.seq (SW.kind U Do λc c' s1 t1 hc U=>SW.ret ⟨S.node (.cons hd (.one hc)),U⟩)))
omit N in
theorem SY (hl:Bf S.T l l'):Po S (G2 k l) (G2 k l'):=λd s t U=>SW.look (SW.is U Do (λ_ h=>SW.seq (SW.AG ZT U h λd d' s1 t1 hd U=>SW.ret ⟨S.node (hl.app (.one hd)),U⟩)) λ_=>SW.ret ⟨S.node hl,U⟩)
theorem uR (hA:SR S A) (hB:SR S B) (hC:SR S C):SG S (Pu A B C) (Pu A B C):=λd s t U h=>SW.seq (SW.take h λd d' s1 t1 hd U=>SW.seq (QR hB (.one hd) U λv w n m s1 t1 hl hn U=>SW.seq (HC (N.sm hn) (SW.seq (SW.loop (J:=λp q=>(p.1=q.1/\p.1≠[125]/\p.1≠[59])/\Bf S.T p.2 q.2) (λp q s t hj U=>by
 obtain ⟨x,y⟩:=p
 obtain ⟨x',z⟩:=q
 obtain ⟨⟨rfl,h1,h2⟩,hj⟩:=hj
 dsimp only at hj h1 h2
 exact SW.look (SW.is U GT (λ_ h=>SW.seq (SW.take h λe e' s1 t1 he U=>SW.seq (SW.A (UO N hA hC) U λc c' s1 t1 hc U=>SW.go ⟨⟨rfl,GT,GT⟩,(hj.app (.one he)).app (.one hc)⟩ U))) λ_=>SW.out (SY hj _ _ _ U))) ⟨⟨rfl,GT,GT⟩,hl.app (.one hn)⟩ U)))))
theorem dp (hA:SR S A) (hB:SR S B) (hC:SR S C):SG S (Ha A B C) (Ha A B C):=λd s t U h=>SW.seq (SW.take h λd d' s1 t1 hd U=>SW.seq (QR hB (.one hd) U λv w n m s1 t1 hl hn U=>SW.seq (HC (N.sm hn) (SW.seq (SW.want U Do λe e' s1 t1 he U=>SW.seq (SW.A (UO N hA hC) U λc c' s1 t1 hc U=>SW.seq (HC (N.nr hc) (SY (((hl.app (.one hn)).app (.one he)).app (.one hc)) _ _ _ U))))))))
omit N in
theorem fV {p:Nd->Bool} (hA:SR S A) (hp:∀{a b:Nd},S.T a b->a.kids.all p=b.kids.all p) (hl:Bf S.T l l'):Po S (Pr A k l p) (Pr A k l' p):=λd s t U=>SW.look (SW.is U Do (λ_ h=>SW.seq (SW.take h λw w' s1 t1 hw U=>SW.seq (SW.A hA U λb b' s1 t1 hb U=>SW.seq (HC (hp hb) (SW.ret ⟨S.node (hl.app (.one (S.node (.cons hw (.one hb))))),U⟩))))) λ_=>SW.ret ⟨S.node hl,U⟩)
theorem p6 (hA:SR S A) (hB:SR S B):SG S (KL A B) (KL A B):=λd s t U h=>SW.seq (SW.take h λd d' s1 t1 hd U=>SW.seq (QR hA (.one hd) U λv w n m s1 t1 hl hn U=>SW.seq (HC (N.cl hn) (fV hB (λ_=>by rw [aR,aR]) (hl.app (.one hn)) _ _ _ U))))
theorem ZV (hA:SR S A) (hB:SR S B):SG S (FO A B) (FO A B):=λd s t U h=>SW.seq (SW.take h λd d' s1 t1 hd U=>SW.seq (QR hA (.one hd) U λv w n m s1 t1 hl hn U=>SW.seq (HC (N.ns hn) (fV hB N.df (hl.app (.one hn)) _ _ _ U))))
theorem uX (hA:SR S A) (hB:SR S B) (hC:SR S C) (hD:SR S D) (hE:SR S E) (hF:SR S F):SR S (af A B C D E F):=λd s t U=>SW.look (SW.TA (p:=λt=>t.kind==9) U (HI Do) (λ_ h=>SW.at (p:=λt=>t.text==QT) h Ol (λ_=>dn _ _ _ U h) λ_=>SW.at (p:=λt=>t.text==qZ) h Ol (λ_=>dq N hB hC _ _ _ U h) λ_=>SW.at (p:=λt=>t.text==qW) h Ol (λ_=>uR N hA hB hC _ _ _ U h)
 λ_=>SW.at (p:=λt=>t.text==Tr) h Ol (λ_=>dp N hA hB hC _ _ _ U h) λ_=>SW.at (p:=λt=>t.text==dC) h Ol (λ_=>p6 N hB hF _ _ _ U h) λ_=>SW.at (p:=λt=>t.text==Pj) h Ol (λ_=>ZV N hB hF _ _ _ U h) λ_=>SW.at (p:=λt=>t.text==Tp) h Ol (λ_=>ZS hC _ _ _ U h)
 λ_=>SW.at (p:=λt=>t.text==Tq) h Ol (λ_=>dm N hD _ _ _ U h) λ_=>hE _ _ _ U) λ_=>hE _ _ _ U)
omit N in
theorem jP (S:Sy):∀d,SR S (OC d)
 |0=>λ_ _ _ _=>SW.fail
 |d+1=>jO S _
theorem uW (d:Nat):SR S (kB d):=
 have U:=λe=>Xm (S:=S.sm e) (Bo (d - 1)) (KG _) (Xp _)
 uX N (QP U) (QP λe=>Xn (U e)) (QP λe=>SL (U e)) (Xu S d) (ZQ S d) (jP S _)
end
mutual
def Bv:Nd->Nd
 | .mk k f t _ _ ks=>.mk k f t 0 0 (IL ks)
def IL:List Nd->List Nd
 |[]=>[]
 |n::r=>Bv n::IL r
end
theorem JM:∀l:List Nd,IL l=l.map Bv
 |[]=>rfl
 |n::r=>by rw [IL,JM r];rfl
theorem uk:(Bv n).kind=n.kind:=by cases n;rfl
theorem uf:(Bv n).form=n.form:=by cases n;rfl
theorem ut:(Bv n).text=n.text:=by cases n;rfl
theorem us:(Bv n).kids=n.kids.map Bv:=by cases n;rw [Bv,JM];rfl
mutual
theorem uz:∀n:Nd,(Bv n).size=n.size
 | .mk _ _ _ _ _ ks=>by rw [Bv,Nd.size,Nd.size,uzs ks]
theorem uzs:∀l:List Nd,Dh (IL l)=Dh l
 |[]=>rfl
 |n::r=>by rw [IL,Dh,Dh,uz n,uzs r]
end
theorem FX:DV (Bv n) ks=DV n ks:=by unfold DV;rw [uk,uf]
theorem HJ {t:List UInt8}:FU (Bv n) k t=FU n k t:=by unfold FU;rw [FX,ut]
theorem Ik {p:Nd->Bool} {l:List Nd} (h:∀x,p (Bv x)=p x):(l.map Bv)[i]?.any p=l[i]?.any p:=by
 rw [List.getElem?_map]
 cases l[i]? with
 |none=>rfl
 |some x=>exact h x
theorem Tj {o s:List UInt8}:BX (Bv n) o s=(BX n o s).map (List.map Bv):=by
 unfold BX
 rw [us,List.length_map,Ik (λx=>HJ),Ik (λx=>HJ)]
 split
 .rw [Option.map_some,List.map_drop,List.map_take]
 .rfl
theorem U4:J9 (Bv n)=J9 n:=by unfold J9;rw [FX,HJ]
theorem aC:H6 (Bv n)=(H6 n).map Bv:=by
 unfold H6
 rw [uk,Tj]
 split
 .cases BX n [40] [41] with
  |none=>rfl
  |some l=>dsimp only [Option.map_some];rw [List.length_map,List.getElem?_map];split<;>rfl
 .rfl
theorem Lg:Eu (Bv n)=Eu n:=by
 unfold Eu
 rw [FX,ut,aC]
 cases H6 n with
 |none=>rfl
 |some x=>dsimp only [Option.map_some];rw [FX,ut]
theorem Tm:J8 (Bv n)=J8 n:=by
 unfold J8
 rw [FX,aC]
 cases H6 n with
 |none=>rfl
 |some x=>dsimp only [Option.map_some];rw [U4]
theorem P4:C4 (Bv n)=(Bv (C4 n).1,(C4 n).2):=by
 have U:Bv Lk=Lk:=rfl
 unfold C4
 rw [uk,us,List.length_map,Tj,List.getElem?_map]
 split
 .split
  .cases n.kids[0]? <;>rfl
  .split
   .cases BX n [96] [96] with
    |none=>rfl
    |some l=>dsimp only [Option.map_some];rw [List.getElem?_map];cases l[0]? <;>rfl
   .rfl
 .rfl
theorem aB:MM (Bv n)=MM n:=by unfold MM;rw [P4];dsimp only;rw [FX,U4]
theorem qQ:KH (Bv n)=KH n:=by unfold KH;rw [P4];dsimp only;rw [FX,FX,ut]
section
variable {p q:Nd->Bool}
theorem Tn (U:∀x,q (Bv x)=p x):∀{l:List Nd} {b:Bool},Gb q b (l.map Bv)=Gb p b l
 |[],_=>rfl
 |x::r,b=>by rw [List.map_cons,Gb,Gb,Tn U,HJ,U]
theorem U8 (U:∀x,q (Bv x)=p x) {l:List Nd}:IG q (l.map Bv)=IG p l:=by unfold IG;rw [List.length_map,Tn U]
theorem Ko (U:∀x,q (Bv x)=p x) {o s:List UInt8} {least:Int} {one:Bool}:EG q (Bv n) o s least one=EG p n o s least one:=by
 unfold EG
 rw [Tj]
 cases BX n o s with
 |none=>rfl
 |some l=>dsimp only [Option.map_some];rw [List.length_map,U8 U]
theorem gn (U:∀x,q (Bv x)=p x):∀{l:List Nd},TD q (l.map Bv)=TD p l
 |[]=>rfl
 |x::r=>by rw [List.map_cons,TD,TD,gn U,U]
theorem U3 (U:∀x,q (Bv x)=p x) {l:List Nd}:Ip q (l.map Bv)=Ip p l:=by
 unfold Ip
 rw [List.length_map,gn (p:=Iq p) (q:=Iq q) (λx=>by unfold Iq;rw [uk,U])]
theorem qR (U:∀x,q (Bv x)=p x):OJ q (Bv n)=OJ p n:=by
 unfold OJ
 rw [uk,us,List.length_map,Ik (λx=>FX),Ik (λx=>HJ),List.getElem?_map]
 cases n.kids[2]? with
 |none=>rfl
 |some x=>dsimp only [Option.map_some,Option.any_some];rw [U]
theorem Kp (U:∀x,q (Bv x)=p x):∀{s:Nat} {l:List Nd},Ge q s (l.map Bv)=Ge p s l
 |0,[]=>rfl
 |1,[]=>rfl
 |2,[]=>rfl
 |_+3,[]=>rfl
 |0,x::r=>by rw [List.map_cons,Ge,Ge,uk,Kp U,Kp U,U]
 |1,x::r=>by rw [List.map_cons,Ge,Ge,FX,Kp U]
 |2,x::r=>by rw [List.map_cons,Ge,Ge,aB,Kp U]<;>omega
 |n+3,x::r=>by rw [List.map_cons,Ge,Ge,aB,Kp U]<;>omega
end
theorem vp:Ui (Bv n)=Ui n:=by
 unfold Ui
 rw [Lg,Tm,Tj,Tj]
 congr 1
 cases BX n [91] [93] with
 |some l=>cases l<;>rfl
 |none=>
  cases BX n [40] [41] with
  |none=>rfl
  |some l=>
   dsimp only [Option.map_none,Option.map_some]
   rw [List.any_map]
   congr 2
   funext x
   show (!FU (Bv x) 15 [44])=_
   rw [HJ]
theorem kJ {p q:Nd->Bool} (U:∀x,q (Bv x)=p x):Kh q (Bv n)=Kh p n:=by
 unfold Kh
 rw [us,List.length_map,Ik (λx=>Tm),<-List.map_drop]
 have e:(Nd.mk 0 0 [] 0 0 ((n.kids.drop 1).map Bv))=Bv (.mk 0 0 [] 0 0 (n.kids.drop 1)):=by rw [Bv,JM]
 rw [e,Tj]
 cases BX (.mk 0 0 [] 0 0 (n.kids.drop 1)) [123] [125] with
 |none=>rfl
 |some l=>dsimp only [Option.map_some];rw [U8 (λx=>qR U)];cases l<;>rfl
theorem dB {p q:Nd->Bool} (U:∀x,q (Bv x)=p x):IB q (Bv n)=IB p n:=by
 have ha:∀i:Nat,(n.kids.map Bv)[i]?.any q=n.kids[i]?.any p:=λi=>by
  rw [List.getElem?_map]
  cases n.kids[i]? with
  |none=>rfl
  |some x=>exact U x
 unfold IB
 rw [uk,FX,us,vp,Ko U,Ko U,Ko U,kJ U,List.length_map,ha,ha,Kp U,<-List.map_drop,U3 U,Ik (p:=J8) (λx=>Tm)]
 rw [Ik (p:=(FU · 9 [95])) (λx=>HJ),Ik (p:=(DV · [1])) (λx=>FX),Ik (p:=(FU · 10 [64])) (λx=>HJ),Ik (p:=(FU · 10 [126])) (λx=>HJ)]
theorem XJ:∀{k:Nat} {n:Nd},Y3 k (Bv n)=Y3 k n
 |0,_=>rfl
 |k+1,n=>by rw [Y3,Y3,dB λx=>XJ]
theorem XI:H5 (Bv n)=H5 n:=by unfold H5;rw [uz,XJ]
theorem gw {p q:Nd->Bool} (U:∀x,q (Bv x)=p x) {l:List Nd}:SI q (l.map Bv)=SI p l:=by
 unfold SI
 rw [List.length_map,Kp U,List.getElem?_map]
 split
 .cases l[0]? with
  |none=>rfl
  |some x=>dsimp only [Option.map_some,Option.any_some];rw [uk,U]
 .rfl
theorem On {p q:Nd->Bool} (U:∀x,q (Bv x)=p x) {l:List Nd}:∀{r:List Nd} {i:Nat},Et q (l.map Bv) i (r.map Bv)=Et p l i r
 |[],_=>rfl
 |x::r,i=>by
  rw [List.map_cons,Et,Et,qQ,<-List.map_take,<-List.map_drop,gw U,gw U,On U]
theorem Qk {p q:Nd->Bool} {f g:Nd->List UInt8×Bool} (U:∀x,q (Bv x)=p x) (hf:∀x,g (Bv x)=f x):Cz q g (Bv n)=Cz p f n:=by
 unfold Cz
 rw [uk,us,List.length_map,<-List.map_drop,U3 U,On U,List.getElem?_map]
 cases n.kids[0]? with
 |none=>rfl
 |some x=>
  dsimp only [Option.map_some]
  rw [uk,Tj,Lg]
  cases BX x [40] [41] with
  |none=>rfl
  |some l=>
   dsimp only [Option.map_some]
   rw [List.length_map,List.getElem?_map]
   cases l[0]? with
   |none=>rfl
   |some y=>dsimp only [Option.map_some];rw [hf]
theorem gq:∀{k:Nat} {n:Nd},Yt k (Bv n)=Yt k n
 |0,_=>rfl
 |k+1,n=>by rw [Yt,Yt,Qk (λx=>XJ) λx=>gq]
theorem qS:TN (Bv n)=TN n:=by unfold TN;rw [uz,gq,XI]
theorem U5 {f g:Nd->List (List UInt8)} (U:∀x,g (Bv x)=f x) {b:Bool}:∀{l:List Nd} {i:Nat},EN g b i (l.map Bv)=EN f b i l
 |[],_=>rfl
 |x::r,i=>by rw [List.map_cons,EN,EN,U,U5 U]
theorem U6:∀{k:Nat} {n:Nd},F9 k (Bv n)=F9 k n
 |0,_=>rfl
 |k+1,n=>by rw [F9,F9,CM,CM,Lg,uk,us,U5 λx=>U6]
theorem qU:To (Bv n)=To n:=by
 unfold To GH
 rw [uk,XI,uz,U6]
theorem gu {p:Nd->Bool} (h:∀x,p (Bv x)=p x):(Bv n).kids.all p=n.kids.all p:=by
 rw [us,List.all_map]
 congr 1
 funext x
 exact h x
theorem zN:(Bv n).kids.headD Gj=Bv (n.kids.headD Gj):=by rw [us];cases n.kids<;>rfl
theorem U2:(Bv n).kids[i]?.getD Gj=Bv (n.kids[i]?.getD Gj):=by rw [us,List.getElem?_map];cases n.kids[i]? <;>rfl
theorem Tl:(Bv n).kids.length=n.kids.length:=by rw [us,List.length_map]
theorem U9:Dx (Bv n)=Dx n:=by
 unfold Dx
 rw [uk,FX,us]
 cases n.kids with
 |nil=>rfl
 |cons a r=>
  simp only [List.map_cons,List.head?_cons,List.tail_cons,Option.all_some,List.all_map]
  rw [FX]
  congr 2
  congr 1
  funext x
  exact FX
theorem L3:DZ (Bv n)=DZ n:=by unfold DZ;rw [uk]
theorem qT:Ff (Bv n)=Ff n:=by
 unfold Ff
 rw [FX,uk,Tl,us,Ik (λx=>FX)]
theorem U7:ID (Bv n)=ID n:=by
 unfold ID
 rw [zN,qT,Tl,U2,L3,U2,uk,Tl,U2,L3]
theorem av:FC (Bv n)=FC n:=by
 unfold FC
 rw [uk,Tl,U2,U2,FX,FX]
theorem gr:Iy (Bv n)=Iy n:=by
 unfold Iy
 rw [uk,Tl,U2,FX]
theorem aD:GK (Bv n)=GK n:=by
 unfold GK
 rw [us,List.length_map,List.getElem?_map]
 cases n.kids[n.kids.length / 2]? with
 |none=>rfl
 |some x=>dsimp only [Option.map_some];rw [uf]
theorem aw:JV (Bv n)=JV n:=by unfold JV;rw [ut]
theorem gv:Fz (Bv n)=Fz n:=by
 unfold Fz
 rw [us,List.getLast?_map]
 cases n.kids.getLast? with
 |none=>rfl
 |some x=>dsimp only [Option.map_some];rw [uk]
theorem aA:Uf (Bv n)=Uf n:=by
 unfold Uf
 rw [us,List.getElem?_map]
 cases n.kids[1]? with
 |none=>rfl
 |some x=>dsimp only [Option.map_some];rw [uf]
def rE (a b:Nd):Prop:=Bv a=Bv b
theorem yE:yO rE where
 kd h:=by rw [<-uk,h,uk]
 fm h:=by rw [<-uf,h,uf]
 may h:=by rw [<-XI,h,XI]
 var h:=by rw [<-qU,h,qU]
 lhs h:=by rw [<-qS,h,qS]
 plain h:=by rw [<-aD,h,aD]
 dig h:=by rw [<-aw,h,aw]
 last h:=by rw [<-gv,h,gv]
theorem vq:kY rE where
 f1 h:=by rw [<-aA,h,aA]
 sm h:=by rw [<-U9,h,U9]
 st h:=by rw [<-L3,h,L3]
 mr h:=by rw [<-qT,h,qT]
 nr h:=by rw [<-U7,h,U7]
 cl h:=by rw [<-av,h,av]
 ns h:=by rw [<-gr,h,gr]
 df h:=by rw [<-gu (λx=>by rw [uk]),h,gu (λx=>by rw [uk])]
theorem gz:∀{l m:List Nd},Bf rE l m->l.map Bv=m.map Bv
 |[],_,.nil=>rfl
 |_::_,_::_,.cons h k=>by rw [List.map_cons,List.map_cons,h,gz k]
theorem qV {f:Int} {t:List UInt8} {a b c d:Int} {l:List Nd} (h:Bf rE l m):rE (.mk k f t a b l) (.mk k f t c d m):=by
 unfold rE
 rw [Bv,Bv,JM,JM,gz h]
structure JO (P:Ae->Prop):Prop where
 nx:∀{s:Ae},P s->(Ab s).2.2=0->P (Ab s).2.1
 cl:∀{s:Ae},P s->(Ck s).2=true->P (Ck s).1
section
variable {α β σ:Type} {P:Ae->Prop} {A B C D E F:Rd Nd}
def Cr (P:Ae->Prop) (A:Rd α):Prop:=∀s,P s->Rd.wp A s (λ_=>P) (λ_=>P)
theorem Cr.ret {v:α}:Cr P (.ret v):=λs h=>h
theorem Cr.fail {e:Er}:Cr P (.fail e:Rd α):=λs h=>h
theorem Cr.Dm {t:Ae} {e:Er} (h:P t):Cr P (.Dm t e:Rd α):=λs _=>h
theorem Cr.bad:Cr P (HO:Rd α):=λs h=>h
theorem Cr.take (N:JO P):Cr P Az:=λs h=>by
 unfold Rd.wp
 by_cases e:(Ab s).2.2=0
 .rw [BQ e];exact N.nx h e
 .rw [Hf e];exact h
theorem Cr.close (N:JO P):Cr P MD:=λs h=>by
 unfold Rd.wp MD
 dsimp only
 by_cases e:(Ck s).2=true
 .rw [if_pos e];exact N.cl h e
 .rw [if_neg e];exact h
theorem Cr.seq {m:Rd β} {k:β->Rd α} (h:Cr P m) (g:∀v,Cr P (k v)):Cr P (.seq m k):=λs U=>by
 rw [Rd.wp_seq]
 exact Rd.wp_mono (h s U) (λv s' _ h=>g v s' h) (λ_ _ _ h=>h)
theorem Cr.look {f:Ae->Rd α} (h:∀s,P s->Cr P (f s)):Cr P (.look f):=λs U=>h s U s U
theorem Cr.ite {c:Prop} [Decidable c] {a b:Rd α} (h:Cr P a) (g:Cr P b):Cr P (if c then a else b):=by split<;>assumption
theorem Cr.inl {A:Rd α} (h:Cr P A) {s s':Ae} {e:Er} (hs:P s) (U:A.run s=.inl (e,s')):P s':=by
 have:=h s hs
 unfold Rd.wp at this
 rw [U] at this;exact this
theorem Cr.inr {A:Rd α} (h:Cr P A) {s s':Ae} {v:α} (hs:P s) (U:A.run s=.inr (v,s')):P s':=by
 have:=h s hs
 unfold Rd.wp at this
 rw [U] at this;exact this
theorem eQ {body:σ->Rd (Sum σ β)} (h:∀x,Cr P (body x)) (x:σ) (s:Ae):P s->(∀e s',Rd.iter body x s=.inl (e,s')->P s')/\∀v s',Rd.iter body x s=.inr (v,s')->P s':=by
 fun_induction Rd.iter body x s with
 |case1 x s e h1=>intro U;exact ⟨λe' s' e=>by cases e;exact (h x).inl U h1,λv s' e=>by cases e⟩
 |case2 x s y s1 h1=>intro U;exact ⟨λe' s' e=>(by cases e),λv s' e=>by cases e;exact (h x).inr U h1⟩
 |case3 x s x' s1 h1 hlt ih=>intro U;exact ih ((h x).inr U h1)
 |case4 x s x' s1 h1 hlt=>intro U;exact ⟨λe' s' e=>by cases e;exact U,λv s' e=>by cases e⟩
theorem Cr.loop {body:σ->Rd (Sum σ β)} (h:∀x,Cr P (body x)) {x:σ}:Cr P (.loop body x):=λs U=>
 Rd.Va (λv s' e=>(eQ h x s U).2 v s' e) (λe s' he=>(eQ h x s U).1 e s' he)
structure M6 (P:Ae->Prop) (L:Fi):Prop where
 atom:Cr P L.atom
 exp:Cr P L.exp
 ops:Cr P L.ops
 decls:Cr P L.decls
 stmts:Cr P L.stmts
 alts:Cr P L.alts
 Ez:∀n,Cr P (L.Ez n)
 list:∀n,Cr P (L.list n)
end
section
attribute [local irreducible] Cr Rd.ret Rd.seq Rd.look Rd.loop Rd.fail Rd.Dm
theorem xy {β:Type} {P:Ae->Prop} {it:β->Rd α} (h:∀l,Cr P (it l)) {l:β}:Cr P (it l):=h l
theorem kp {p:Prop} (h:p:=by repeat' (first|assumption|(with_reducible first|exact Cr.ret|exact Cr.fail|exact Cr.bad|exact Cr.take ‹_›|exact Cr.close ‹_›|exact Cr.Dm ‹_›|exact M6.Ez ‹_› _|exact M6.list ‹_› _|exact xy ‹_›)|refine Cr.look ?_|refine Cr.ite ?_ ?_|refine Cr.seq ?_ ?_|refine Cr.loop ?_|intro _)):p:=h
section
variable {α:Type} {P:Ae->Prop} {A B C D E F:Rd Nd} {L:Fi}
theorem MK (N:JO P) (U:M6 P L) (hA:Cr P A):Cr P (Ib L A):=by
 obtain ⟨h1,h2,h3,h4,h5,h6,h7,h8⟩:=id U;exact kp
theorem KV (N:JO P) (U:M6 P L):Cr P (Mj L):=by
 obtain ⟨h1,h2,h3,h4,h5,h6,h7,h8⟩:=id U;exact kp
theorem bZ (N:JO P) (U:Cr P A):Cr P (Zl A):=kp
theorem xz (N:JO P) (U:Cr P A) (hB:Cr P B):Cr P (bC A B):=kp
theorem VW (N:JO P) (U:Cr P A) (hB:Cr P B) (hC:Cr P C):Cr P (Ec A B C n):=kp
theorem th (N:JO P) (U:Cr P A) (hB:Cr P B):Cr P (NL A B n):=kp
theorem tj (N:JO P) (U:M6 P L) (hA:Cr P A):Cr P (S4 L A):=by
 obtain ⟨h1,h2,h3,h4,h5,h6,h7,h8⟩:=id U;exact kp
theorem ny (N:JO P) (U:M6 P L) (hA:Cr P A) (hB:Cr P B) {m:List UInt8}:Cr P (Zv L A B m):=by
 obtain ⟨h1,h2,h3,h4,h5,h6,h7,h8⟩:=id U;exact kp
theorem xx (N:JO P) (hL:M6 P L) (hA:Cr P A) (U:Cr P B) (hC:Cr P C):Cr P (aS L A B C):=by
 have:=ny N hL U hC (m:=[45,62])
 exact kp
theorem tg (N:JO P) (hL:M6 P L) (hA:Cr P A) (hB:Cr P B) (U:Cr P C) (hD:Cr P D) (hE:Cr P E):Cr P (Rq L A B C D E):=by
 have:=ny N hL U hD (m:=[61])
 exact kp
theorem iy (N:JO P) {it:List Nd->Rd Nd} (U:∀l,Cr P (it l)):Cr P (JS p it):=kp
theorem ND (N:JO P) (U:Cr P A):Cr P (FB p A):=kp
theorem tn (N:JO P) (U:Cr P A) (hB:Cr P B) (hC:Cr P C) (hD:Cr P D) (hE:Cr P E) (hF:Cr P F):Cr P (af A B C D E F):=kp
end
section
attribute [local semireducible] Cr
variable {α:Type} {P:Ae->Prop} {A B C D E F:Rd Nd} {L:Fi}
def KpO {β:Type} (P:Ae->Prop) (q:Sum (Int×Ae) (β×Ae)):Prop:=match q with| .inl p=>P p.2| .inr p=>P p.2
def TB (P:Ae->Prop) (A:Ae->Rs):Prop:=∀s,P s->KpO P (A s)
def z7 (P:Ae->Prop) (q:Ls):Prop:=KpO P q
variable {X Y:Ae->Rs}
theorem PA (N:JO P) (hs:P s) (h:AZ s k x=true) (U:k≠0):P (Ab s).2.1:=N.nx hs (Ev h U)
theorem NI (N:JO P):TB P Db:=λs U=>by
 unfold Db
 split
 .exact N.nx U ‹_›
 .exact U
theorem Cr.of {hle:∀s v s',X s=.inr (v,s')->mu s'<=mu s} (h:TB P X):Cr P (Ia X hle):=λs hs=>by
 have U:=h s hs
 unfold Rd.wp Ia
 dsimp only
 cases e:X s with
 |inl p=>
  rw [e] at U
  have U:P p.2:=U
  dsimp only
  by_cases h:p.1=0
  .rw [dif_pos h];exact U
  .rw [dif_neg h];exact U
 |inr p=>rw [e] at U;exact U
theorem ti (hX:TB P X) (l:List Nd) (s:Ae) (hs:P s):z7 P (Gc X l s):=by
 fun_induction Gc X l s with
 |case1 l s h1 e1 U=>have:=hX s hs;rw [U] at this;exact this
 |case2 l s h1 p U h3 ih=>have:=hX s hs;rw [U] at this;exact ih this
 |case3 l s h1 p U h3=>exact hs
 |case4 l s h1=>exact hs
theorem NH (hX:TB P X):TB P (Gd X):=λs hs=>by
 have U:=hX s hs
 unfold Gd
 cases e:X s with
 |inl p=>rw [e] at U;exact U
 |inr p=>
  rw [e] at U
  have h2:=ti hX [p.1] p.2 U
  dsimp only
  cases e2:Gc X [p.1] p.2 with
  |inl q=>rw [e2] at h2;exact h2
  |inr q=>rw [e2] at h2;dsimp only;split<;>exact h2
theorem te (N:JO P) (hX:TB P X) (l:List Nd) (s:Ae) (hs:P s):z7 P (Gx X l s):=by
 fun_induction Gx X l s with
 |case1 l s U e1 h2=>have:=NH hX _ (PA N hs U Do);rw [h2] at this;exact this
 |case2 l s U p h2 h3 ih=>have:=NH hX _ (PA N hs U Do);rw [h2] at this;exact ih this
 |case3 l s U p h2 h3=>exact hs
 |case4 l s U=>exact hs
theorem R0 (N:JO P) (hX:TB P X):TB P (Dt X n):=λs hs=>by
 have U:=te N hX [n] s hs
 unfold Dt
 cases e:Gx X [n] s with
 |inl q=>rw [e] at U;exact U
 |inr q=>rw [e] at U;dsimp only;split<;>exact U
theorem OP (N:JO P) (hX:TB P X):TB P (DC X):=λs hs=>by
 have U:=NH hX s hs
 unfold DC
 cases e:Gd X s with
 |inl p=>rw [e] at U;exact U
 |inr p=>rw [e] at U;exact R0 N hX _ U
theorem nz (N:JO P) (hX:TB P X):TB P (F5 X):=λs hs=>by
 have U:=NH hX s hs
 unfold F5
 cases e:Gd X s with
 |inl p=>rw [e] at U;exact U
 |inr p=>
  rw [e] at U
  dsimp only
  by_cases h2:AZ p.2 10 [61,62]=true
  .have h3:=OP N hX _ (PA N U h2 Do)
   rw [if_pos h2]
   cases e2:DC X (Ab p.2).2.1 with
   |inl q=>rw [e2] at h3;exact h3
   |inr q=>rw [e2] at h3;exact h3
  .rw [if_neg h2];exact R0 N hX _ U
theorem iC (N:JO P) (hY:TB P Y) (l:List Nd) (s:Ae) (hs:P s):z7 P (CE Y l s):=by
 fun_induction CE Y l s with
 |case1 l s U e1 h2=>have:=hY _ (PA N hs U Do);rw [h2] at this;exact this
 |case2 l s U p h2 h3 ih=>have:=hY _ (PA N hs U Do);rw [h2] at this;exact ih this
 |case3 l s U p h2 h3=>exact hs
 |case4 l s U=>exact hs
theorem iz (N:JO P) (l:List Nd) (s:Ae) (hs:P s):P (Cs l s).2:=by
 fun_induction Cs l s with
 |case1 l s U h2 ih=>exact ih (PA N hs U Do)
 |case2 l s U h2=>exact hs
 |case3 l s U=>exact hs
theorem NG (N:JO P) {l:List Nd}:TB P (λs=>Hv k l s x):=λs hs=>by
 have U:=NI N s hs
 dsimp only
 unfold Hv KA gI
 by_cases h:AZ s 15 x=true
 .rw [if_pos h]
  cases e:Db s with
  |inl q=>rw [e] at U;exact U
  |inr q=>rw [e] at U;exact U
 .rw [if_neg h];exact hs
theorem iD (N:JO P) (hY:TB P Y):TB P (Fg Y):=λs hs=>by
 have U:=NI N s hs
 unfold Fg
 cases e:Db s with
 |inl p=>rw [e] at U;exact U
 |inr p=>
  rw [e] at U
  dsimp only
  split
  .exact NG N _ (PA N U ‹_› Do)
  .split
   .exact NG N _ U
   .split
    .exact NG N _ (iz N _ _ U)
    .have h2:=hY p.2 U
     cases e2:Y p.2 with
     |inl q=>rw [e2] at h2;exact h2
     |inr q=>
      rw [e2] at h2
      dsimp only
      have h3:=iC N hY [p.1,q.1] q.2 h2
      cases e3:CE Y [p.1,q.1] q.2 with
      |inl r=>rw [e3] at h3;exact h3
      |inr r=>rw [e3] at h3;exact NG N _ h3
theorem cc (N:JO P) (hY:TB P Y):TB P (DY Y):=λs hs=>by
 have U:=NI N s hs
 unfold DY
 cases e:Db s with
 |inl p=>rw [e] at U;exact U
 |inr p=>
  rw [e] at U
  dsimp only
  split
  .exact PA N U ‹_› Do
  .have h2:=hY p.2 U
   cases e2:Y p.2 with
   |inl q=>rw [e2] at h2;exact h2
   |inr q=>rw [e2] at h2;exact NG N _ h2
theorem R1 (N:JO P) (hY:TB P Y):TB P (Dl Y):=λs U=>by
 have h1:=NI N s U
 have h2:=iD N hY s U
 have h3:=cc N hY s U
 unfold Dl gI
 split
 .split
  .split<;>assumption
  .exact h1
 .exact U
theorem R2 (N:JO P):∀d,TB P (DU d)
 |0=>λs U=>U
 |d+1=>OP N (R1 N (R2 N d))
theorem RY (N:JO P) (d:Nat):Cr P (Kv d):=.of (nz N (R1 N (R2 N _)))
theorem LF (N:JO P) (hF:Cr P A) (U:M6 P L):Cr P (P9 A L):=xz N (MK N U (KV N U)) hF
theorem NF (N:JO P) (hF:Cr P A) (U:M6 P L):Cr P (Mp A L):=tj N U (LF N hF U)
theorem YD (N:JO P) (hF:Cr P A) (U:M6 P L):Cr P (Rp A L):=tg N U (KV N U) (bZ N (MK N U (KV N U))) (LF N hF U) (NF N hF U) hF
theorem zi (N:JO P) (hF:Cr P A) (U:M6 P L):M6 P (zX A L):=
 have ho:=MK N U (KV N U)
 ⟨KV N U,LF N hF U,bZ N ho,ND N (YD N hF U),ND N (NF N hF U),ND N (xx N U (bZ N ho) (LF N hF U) (NF N hF U)),λn=>VW N ho hF (LF N hF U),λn=>th N (LF N hF U) (NF N hF U)⟩
theorem nw (N:JO P):∀d,M6 P (cz d)
 |0=>⟨Cr.fail,Cr.fail,Cr.fail,Cr.fail,Cr.fail,Cr.fail,λ_=>Cr.fail,λ_=>Cr.fail⟩
 |d+1=>zi N (RY N _) (nw N d)
theorem YC (N:JO P) (d:Nat):Cr P (Ro d):=YD N (RY N _) (nw N _)
theorem iA (N:JO P):∀d,Cr P (OC d)
 |0=>Cr.fail
 |d+1=>ND N (YC N _)
theorem ca (N:JO P) (d:Nat):Cr P (G0 d):=by
 have U:=R1 N (R2 N (d - 1))
 have ht:=tn N (Cr.of (hle:=λs v s' h=>Nat.le_of_lt (BK (Bo _) _ _ _ h)) U) (Cr.of (hle:=λs v s' h=>Nat.le_of_lt (FN (BK (Bo _)) _ _ _ h)) (NH U)) (Cr.of (hle:=λs v s' h=>Nat.le_of_lt (EI (BK (Bo _)) _ _ _ h)) (OP N U)) (RY N d) (YC N d) (iA N (d - 1))
 refine iy N λl=>?_
 have ht:Cr P (kB d):=ht
 exact kp
end
end
abbrev opT:Tk:=⟨15,[40],0,0⟩
abbrev yW:Tk:=⟨15,[41],0,0⟩
abbrev enT:Tk:=⟨21,[],0,0⟩
structure Pl (s:Ae):Prop where
 tk:∀t ∈ s.Ar,0<t.kind/\t.kind<16
 p0:0<=s.pos
 p1:s.pos<=s.Ar.length
 op:∀x ∈ s.DE,x=0
 wt:s.wait=0
def Lv (s:Ae):Ae:=⟨opT::(s.Ar++[yW]),s.pos+1,s.DE,s.wait⟩
theorem Pl.top (h:Pl s):Ey s=0:=by
 unfold Ey
 cases e:s.DE.getLast? with
 |none=>rfl
 |some x=>exact h.op x (List.mem_of_getLast? e)
theorem fA {l:List Int} (h:∀x ∈ l,x=0):(l.any λx=>decide (x<0))=false:=by grind
theorem Pl.may (h:Pl s):G9 s=true:=by
 unfold G9
 rw [h.wt,fA h.op,decide_eq_true h.p0,decide_eq_true h.p1];rfl
theorem Pl.Xai (h:Pl s):G9 (Lv s)=true:=by
 unfold G9 Lv
 have U:=h.p0
 have h1:=h.p1
 dsimp only
 rw [h.wt,fA h.op,decide_eq_true (show (0:Int)<=s.pos+1 by omega),decide_eq_true (show s.pos+1<=((opT::(s.Ar++[yW])).length:Int) by grind)];rfl
theorem Pl.next {t:Tk} (h:Pl s) (U:s.Ar[s.pos.toNat]? =some t):Ab s=BP t s:=by
 have hk:=h.tk t (List.mem_of_getElem? U)
 unfold Ab
 rw [if_pos h.may,Jw U h.p0,if_neg AC,if_neg AC]
theorem Pl.oG {t:Tk} (h:Pl s) (hk:t.kind≠16/\t.kind≠17) (U:(Lv s).Ar[(Lv s).pos.toNat]? =some t):Ab (Lv s)=BP t (Lv s):=by
 have h0:=h.p0
 unfold Ab
 rw [if_pos h.Xai,Jw U (show (0:Int)<=s.pos+1 by omega),if_neg AC,if_neg AC]
theorem mn {t:Tk} (U:0<=s.pos) (ht:s.Ar[s.pos.toNat]? =some t):(Lv s).Ar[(Lv s).pos.toNat]? =some t:=by
 unfold Lv
 grind
theorem sB (U:0<=s.pos) (h:s.pos=s.Ar.length):(Lv s).Ar[(Lv s).pos.toNat]? =some yW:=by
 unfold Lv
 simp_all
theorem Pl.yV {t:Tk} (h:Pl s) (ht:s.Ar[s.pos.toNat]? =some t) (hz:(BP t s).2.2=0):Pl (BP t s).2.1:=by
 have hl:=(List.getElem?_eq_some_iff.1 ht).1
 have h0:=h.p0
 unfold BP at hz |-
 split
 .exact ⟨h.tk,by grind,by show s.pos+1<=(s.Ar.length:Int);omega,λx U=>by
   rcases List.mem_append.1 U with U|U
   .exact h.op x U
   simp_all,h.wt⟩
 .rename_i e1
  rw [if_neg e1] at hz
  split
  .rename_i e2
   rw [if_pos e2] at hz
   split
   .omega
   .exact ⟨h.tk,by grind,by show s.pos+1<=(s.Ar.length:Int);omega,λx U=>h.op x ((List.dropLast_sublist _).subset U),h.wt⟩
  .exact ⟨h.tk,by grind,by grind,h.op,h.wt⟩
theorem T5 {t:Tk}:BP t (Lv s)=((BP t s).1,Lv (BP t s).2.1,(BP t s).2.2):=by
 unfold BP
 have e:Ey (Lv s)=Ey s:=rfl
 rw [e]
 by_cases U:t.kind=15/\t.text=[123]
 .rw [if_pos U,if_pos U];rfl
 .rw [if_neg U,if_neg U]
  by_cases h2:t.kind=15/\t.text=[125]
  .rw [if_pos h2,if_pos h2]
   by_cases h3:s.DE=[]\/Ey s≠0
   .rw [if_pos h3,if_pos (show (Lv s).DE=[]\/Ey s≠0 from h3)]
   .rw [if_neg h3,if_neg (show ¬((Lv s).DE=[]\/Ey s≠0) from h3)];rfl
  .rw [if_neg h2,if_neg h2];rfl
theorem Pl.cases (h:Pl s):(∃t,s.Ar[s.pos.toNat]? =some t)\/s.pos=s.Ar.length:=by
 have U:=h.p0
 have h1:=h.p1
 by_cases e:s.pos=s.Ar.length
 .omega
 .exact .inl ⟨_,List.getElem?_eq_getElem (show s.pos.toNat<s.Ar.length by omega)⟩
theorem Pl.fin (h:Pl s) (e:s.pos=s.Ar.length):(Ab s).1=enT\/(Ab s).1=Tz:=by
 unfold Ab
 rw [if_pos h.may,OU AC h.p0]
 unfold DK
 split
 .simp_all
 .rw [if_neg (by rw [h.top];decide)];simp_all
theorem Pl.Xac (h:Pl s) (e:s.pos=s.Ar.length):Ab (Lv s)=(yW,{Lv s with pos:=(Lv s).pos+1},0):=by
 rw [h.oG Do (sB h.p0 e)];rfl
theorem Pl.test (h:Pl s) (hp:Tst p):p (Ab (Lv s)).1=p (Ab s).1:=by
 rcases h.cases with ⟨t,ht⟩|e
 .have hk:=h.tk t (List.mem_of_getElem? ht)
  rw [h.next ht,h.oG AC (mn h.p0 ht),T5]
 .rw [h.Xac e]
  show p yW=_
  rw [hp.c]
  rcases h.fin e with U|U
  .rw [U];exact hp.e.symm
  .rw [U];exact hp.z.symm
theorem Pl.has (h:Pl s) (hp:Tst0 p) (e:p (Ab s).1=true):∃t,s.Ar[s.pos.toNat]? =some t:=by
 rcases h.cases with U|U
 .exact U
 .rcases h.fin U with h2|h2
  .rw [h2,hp.e] at e;cases e
  .rw [h2,hp.z] at e;cases e
theorem Pl.go {t:Tk} (h:Pl s) (U:s.Ar[s.pos.toNat]? =some t):Ab (Lv s)=((Ab s).1,Lv (Ab s).2.1,(Ab s).2.2)/\((Ab s).2.2=0->Pl (Ab s).2.1):=by
 have hk:=h.tk t (List.mem_of_getElem? U)
 rw [h.next U,h.oG AC (mn h.p0 U)]
 exact ⟨T5,h.yV U⟩
theorem Pl.is (h:Pl s) (hk:k≠0/\k≠21) (U:¬(k=15/\x=[41])):AZ (Lv s) k x=AZ s k x:=h.test (p:=λt=>t.kind==k&&t.text==x) (qO hk U)
theorem Pl.mu {s:Ae} (h:Pl s):mu (Lv s)=mu s+4:=by
 have U:=h.p0
 have h1:=h.p1
 unfold Proofs.Z.mu Lv
 grind
def JN {α:Type} (X:α->Ae->Prop) (a b:Rd α) (s:Ae):Prop:=∀v s',a.run s=.inr (v,s')->Pl s'/\(X v s'\/b.run (Lv s)=.inr (v,Lv s'))
abbrev zS {α:Type} (a b:Rd α) (s:Ae):Prop:=JN (λ_ _=>False) a b s
def Em {α:Type} (a:Rd α):Prop:=∀s,Pl s->zS a a s
def Rl (s:Ae):Prop:=∃t,s.Ar[s.pos.toNat]? =some t
def Fa {α:Type} (A:Rd α) (s:Ae):Prop:=Rd.wp A s (λ_ _=>False) (λ_ _=>True)
section
variable {α β σ:Type} {s:Ae} {X:α->Ae->Prop} {Y:β->Ae->Prop}
theorem Fa.no {A:Rd α} {v:α} (h:Fa A s) (e:A.run s=.inr (v,s')):False:=by
 unfold Fa Rd.wp at h
 simp_all
theorem Fa.of {A:Rd α} (h:∀v s',A.run s≠.inr (v,s')):Fa A s:=Rd.Va (λv s' e=>h v s' e) (λ_ _ _=>trivial)
theorem Fa.seq {m:Rd α} {k:α->Rd β} (h:Fa m s):Fa (.seq m k) s:=by
 unfold Fa
 rw [Rd.wp_seq]
 exact Rd.wp_mono h (λ_ _ _ f=>f.elim) (λ_ _ _ _=>trivial)
theorem JN.fa {A B:Rd α} (h:Fa A s):JN X A B s:=λv s' e=>(h.no e).elim
theorem JN.ret {v:α} (h:Pl s):JN X (.ret v) (.ret v) s:=λw s' e=>by cases e;exact ⟨h,.inr rfl⟩
theorem JN.fail {e:Er} {b:Rd α}:JN X (.fail e) b s:=λw s' h=>by cases h
theorem JN.Dm {t:Ae} {e:Er} {b:Rd α}:JN X (.Dm t e) b s:=λw s' h=>by cases h
theorem JN.bad {b:Rd α}:JN X HO b s:=λw s' h=>by cases h
theorem JN.wk {a b:Rd α} (h:zS a b s):JN X a b s:=λv s' e=>by
 obtain ⟨h1,U|U⟩:=h v s' e
 .simp_all
 simp_all
theorem JN.Xam {m m':Rd α} {k k':α->Rd β} (h:zS m m' s) (hk:∀v s',m.run s=.inr (v,s')->Pl s'->JN Y (k v) (k' v) s'):JN Y (.seq m k) (.seq m' k') s:=λv s' e=>by
 unfold Rd.seq at e |-
 dsimp only at e |-
 cases U:m.run s with
 |inl p=>simp_all
 |inr p=>
  rw [U] at e
  obtain ⟨h1,h2|h2⟩:=h p.1 p.2 U
  .simp_all
  .rw [h2]
   exact hk p.1 p.2 U h1 v s' e
theorem JN.seq {m m':Rd α} {k U:α->Rd β} (h:zS m m' s) (hk:∀v s',Pl s'->JN Y (k v) (U v) s'):JN Y (.seq m k) (.seq m' U) s:=JN.Xam h λv s' _=>hk v s'
theorem JN.look {f U:Ae->Rd α} (h:JN X (f s) (U (Lv s)) s):JN X (.look f) (.look U) s:=h
theorem JN.ite {c U:Prop} [Decidable c] [Decidable U] {a b a' b':Rd α} (h:U↔c) (h1:c->JN X a a' s) (h2:¬c->JN X b b' s):JN X (if c then a else b) (if U then a' else b') s:=by grind
theorem JN.TA {a b U b':Rd α} (h:Pl s) (hp:Tst p) (h1:Rl s->p (Ab s).1=true->JN X a U s) (h2:JN X b b' s):JN X (if p (Ab s).1=true then a else b) (if p (Ab (Lv s)).1=true then U else b') s:=by
 rw [h.test hp]
 by_cases e:p (Ab s).1=true
 .rw [if_pos e,if_pos e];exact h1 (h.has hp.toTst0 e) e
 simp_all
theorem JN.is {k:Int} {x:List UInt8} {a b U b':Rd α} (h:Pl s) (hk:k≠0/\k≠21) (hc:¬(k=15/\x=[41])) (h1:Rl s->JN X a U s) (h2:JN X b b' s):JN X (if AZ s k x=true then a else b) (if AZ (Lv s) k x=true then U else b') s:=
 JN.ite (by rw [h.is hk hc]) (λe=>h1 (h.has (p:=λt=>t.kind==k&&t.text==x) (XF hk) e)) λ_=>h2
theorem Pl.same (h:Pl s) (r:Rl s):(Ab (Lv s)).1=(Ab s).1:=by
 obtain ⟨t,U⟩:=r
 rw [(h.go U).1]
theorem JN.loop {body:σ->Rd (Sum σ α)} (h:∀x s,Pl s->JN (λr s1=>∃x',r=.inl x'/\Fa (.loop body x') s1) (body x) (body x) s) (x:σ):Em (.loop body x):=λs=>by
 show Pl s->∀v s',Rd.iter body x s=.inr (v,s')->Pl s'/\(False\/Rd.iter body x (Lv s)=.inr (v,Lv s'))
 fun_induction Rd.iter body x s with
 |case1 x s p h1=>simp_all
 |case2 x s y s1 h1=>
  intro hs v s' e
  cases e
  obtain ⟨h2,⟨x',U,_⟩|U⟩:=h x s hs _ _ h1
  .cases U
  .refine ⟨h2,.inr ?_⟩
   rw [Rd.iter,U]
 |case3 x s x' s1 h1 hlt ih=>
  intro hs v s' e
  obtain ⟨h2,⟨x2,U,h4⟩|U⟩:=h x s hs _ _ h1
  .cases U
   exact (h4.no (v:=v) (s':=s') e).elim
  .obtain ⟨h4,h5⟩:=ih h2 v s' e
   refine ⟨h4,?_⟩
   rw [Rd.iter,U]
   dsimp only
   rw [if_pos (by rw [hs.mu,h2.mu];omega)]
   exact h5
 |case4 x s x' s1 h1 hlt=>simp_all
theorem JN.tk {X:Nd->Ae->Prop} (h:Pl s) (r:Rl s):JN X Az Az s:=λv s' U=>by
 obtain ⟨t,ht⟩:=r
 obtain ⟨h1,h2⟩:=h.go ht
 by_cases hz:(Ab s).2.2=0
 .rw [BQ hz] at U
  cases U
  refine ⟨h2 hz,.inr ?_⟩
  rw [BQ ke,h1]
 .rw [Hf hz] at U;cases U
end
def mv (L:List Tk) (k:Int) (s:Ae):Ae:=⟨L,s.pos+k,s.DE,s.wait⟩
theorem lL {L:List Tk}:BP u (mv L k s)=((BP u s).1,mv L k (BP u s).2.1,(BP u s).2.2):=by
 unfold BP
 have e:Ey (mv L k s)=Ey s:=rfl
 have U:(mv L k s).DE=s.DE:=rfl
 rw [e,U]
 split
 .unfold mv Kc;dsimp only;congr 2;congr 1;omega
 .split
  .split
   .rfl
   .unfold mv EU;dsimp only;congr 2;congr 1;omega
  .unfold mv;dsimp only;congr 2;congr 1;omega
theorem Pl.end (h:Pl s) (e:s.pos=s.Ar.length):Ab s=if s.DE=[] then (enT,s,0) else (Tz,s,90):=by
 unfold Ab
 rw [if_pos h.may,OU AC h.p0]
 unfold DK
 split
 .rfl
 .rw [if_neg (by rw [h.top];decide)]
theorem Pl.at (h:Pl s) (U:s.Ar=l) (hu:s.Ar[s.pos.toNat]? =some u):l[s.pos.toNat]? =some u:=U ▸ hu
def tz (t:Tk):Tk:=⟨t.kind,t.text,0,t.Ch⟩
theorem Om {v:Tk} (h:tz u=tz v):u.kind=v.kind/\u.text=v.text/\u.Ch=v.Ch:=by
 unfold tz at h
 injection h with U h2 _ h3
 exact ⟨U,h2,h3⟩
theorem au {v:Tk} (U:u.kind=v.kind) (h2:u.text=v.text) (h3:u.Ch=v.Ch):tz u=tz v:=by unfold tz;rw [U,h2,h3]
theorem sE {t:Tk}:RC (TR t)=RC t+1:=by unfold RC TR;dsimp only;omega
theorem lE {x y:Int}:(x+1==y+1)=(x==y):=by rw [Bool.eq_iff_iff,beq_iff_eq,beq_iff_eq];omega
theorem n9 {a b:Tk}:FQ (some (TR a)) (TR b)=FQ (some a) b:=by
 unfold FQ
 dsimp only
 rw [sE]
 show (if (OT a&& !Ma b 15 [123])=true then (16:Int) else if (!(b.line+1==a.line+1)&& !(b.line+1==RC a+1))=true then 17 else 0)=_
 rw [lE,lE]
theorem Y2 {m:Int} {t:Tk}:markT m (TR t)=(markT m t).map TR:=by unfold markT;split<;>rfl
theorem Y1:∀{l:List Tk} {a:Tk},Cj (some (TR a)) (l.map TR)=(Cj (some a) l).map TR
 |[],_=>rfl
 |t::r,a=>by rw [List.map_cons,Cj,Cj,n9,Y2,Y1,List.map_append]
theorem nZ (hl:∀t ∈ l,1<=t.line) (hm:∀t,l[0]? =some t->Ma t 9 E9=false):∃W,BC (VS++l.map TR)=(⟨17,[],1,1⟩::VS)++W/\W.map tz=(BC l).map tz:=by
 have he:RC ⟨9,[119,104,101,114,101],1,10⟩=1:=GE
 have hg:∀r:List Tk,Cj none (VS++r)=(⟨17,[],1,1⟩::VS)++Cj (some ⟨9,[119,104,101,114,101],1,10⟩) r:=λr=>rfl
 cases l with
 |nil=>exact ⟨[⟨16,[],0,0⟩],rfl,rfl⟩
 |cons t r=>
  have h1:=hl t List.mem_cons_self
  have U:=hm t rfl
  have hp:FQ (some ⟨9,[119,104,101,114,101],1,10⟩) (TR t)=FQ none t:=by
   unfold FQ
   dsimp only
   rw [he]
   show (if (true&& !Ma t 15 [123])=true then (16:Int) else if (!(t.line+1==1)&& !(t.line+1==1))=true then 17 else 0)=if (Ma t 9 E9||Ma t 15 [123])=true then 17 else 16
   rw [U,show (t.line+1==(1:Int))=false from beq_eq_false_iff_ne.2 AC]
   cases Ma t 15 [123]<;>rfl
  have hE:G8 (VS++(t::r).map TR)=G8 (t::r):=by
   unfold G8
   rw [List.getLast?_append,List.getLast?_map]
   cases e:(t::r).getLast? with
   |none=>simp at e
   |some z=>rfl
  refine ⟨(markT (FQ none t) t++Cj (some t) r).map TR++G8 (t::r),?_,?_⟩
  .unfold BC
   rw [hE,hg,List.map_cons,Cj,hp,Y2,Y1,List.append_assoc,<-List.map_append]
  .unfold BC
   rw [List.map_append,List.map_map,Cj,List.map_append (l₂:=G8 _)]
   rfl
def Mv (L:List Tk) (k:Nat) (s:Ae):Prop:=0<=s.pos/\L.map tz=(L.take k).map tz++s.Ar.map tz/\k<=L.length
section
variable {L:List Tk} {k:Nat} {s:Ae}
theorem Mv.len (h:Mv L k s):L.length=s.Ar.length+k:=by
 have:=congrArg List.length h.2.1
 rw [List.length_append,List.length_map,List.length_map,List.length_map,List.length_take] at this
 have:=h.2.2
 omega
theorem Mv.tk (h:Mv L k s):(L[(mv L k s).pos.toNat]?).map tz=(s.Ar[s.pos.toNat]?).map tz:=by
 have U:=h.1
 have hk:=h.2.2
 show (L[(s.pos+(k:Int)).toNat]?).map tz=_
 rw [<-List.getElem?_map,h.2.1,List.getElem?_append_right (by rw [List.length_map,List.length_take];omega),List.length_map,List.length_take,List.getElem?_map]
 congr 2
 omega
theorem Mv.go (h:Mv L k s) {p:Int} {o:List Int} {w:Int} (U:0<=p):Mv L k ⟨s.Ar,p,o,w⟩:=⟨U,h.2⟩
theorem oq:DK (mv L k s)=((DK s).1,mv L k (DK s).2.1,(DK s).2.2):=by
 unfold DK
 rw [show Ey (mv L k s)=Ey s from rfl,show (mv L k s).DE=s.DE from rfl]
 split
 .rfl
 .split<;>rfl
theorem om {v:Tk} (h:tz u=tz v):tz (Eb u (mv L k s)).1=tz (Eb v s).1/\(Eb u (mv L k s)).2=mv L k (Eb v s).2:=by
 obtain ⟨h1,h2,U⟩:=Om h
 unfold Eb
 rw [show Ey (mv L k s)=Ey s from rfl,show (mv L k s).wait=s.wait from rfl,U]
 split
 .exact ⟨au rfl rfl U,rfl⟩
 .split
  .refine ⟨au rfl rfl U,?_⟩
   unfold mv Kc
   dsimp only
   congr 1
   omega
  .exact ⟨au rfl rfl U,rfl⟩
theorem tV {v:Tk} (h:tz u=tz v):tz (Da u (mv L k s)).1=tz (Da v s).1/\(Da u (mv L k s)).2=mv L k (Da v s).2:=by
 obtain ⟨h1,h2,U⟩:=Om h
 have e:({mv L k s with pos:=(mv L k s).pos+1,wait:=0}:Ae)=mv L k {s with pos:=s.pos+1,wait:=0}:=by unfold mv;dsimp only;congr 1;omega
 unfold Da
 rw [show Ey (mv L k s)=Ey s from rfl,U,e]
 split
 .exact ⟨au rfl rfl U,rfl⟩
 .split
  .exact ⟨au rfl rfl U,rfl⟩
  .exact ⟨rfl,rfl⟩
theorem oo {v:Tk} (h:tz u=tz v):tz (BP u (mv L k s)).1=tz (BP v s).1/\(BP u (mv L k s)).2=(mv L k (BP v s).2.1,(BP v s).2.2):=by
 obtain ⟨U,h2,h3⟩:=Om h
 rw [lL]
 unfold BP
 rw [U,h2]
 split
 .exact ⟨h,rfl⟩
 .split
  .split
   .exact ⟨rfl,rfl⟩
   .exact ⟨h,rfl⟩
  .exact ⟨h,rfl⟩
theorem Za:∀(n:Nat) (s:Ae),Mv L k s->tz (B3 n (mv L k s)).1=tz (B3 n s).1/\(B3 n (mv L k s)).2=(mv L k (B3 n s).2.1,(B3 n s).2.2)
 |0,s,h=>by rw [B3,B3,oq];exact ⟨rfl,rfl⟩
 |n+1,s,h=>by
  have ht:=h.tk
  rw [B3,B3]
  show tz (match L[(mv L k s).pos.toNat]? with|none=>_|some t=>_:Tk×Ae×Int).1=_/\(match L[(mv L k s).pos.toNat]? with|none=>_|some t=>_:Tk×Ae×Int).2=_
  cases e:s.Ar[s.pos.toNat]? with
  |none=>
   rw [e] at ht
   rw [Option.map_eq_none_iff.1 ht]
   dsimp only
   rw [oq];exact ⟨rfl,rfl⟩
  |some v=>
   rw [e] at ht
   obtain ⟨u,hu,U⟩:=Option.map_eq_some_iff.1 ht
   rw [hu]
   dsimp only
   obtain ⟨h1,h2,h3⟩:=Om U
   obtain ⟨b1,b2⟩:=om (L:=L) (k:=k) (s:=s) U
   obtain ⟨l1,l2⟩:=tV (L:=L) (k:=k) (s:=s) U
   obtain ⟨c1,c2⟩:=oo (L:=L) (k:=k) (s:=s) U
   have l3:=(Om l1).1
   have h0:=h.1
   rw [h1,show (mv L k s).wait=s.wait from rfl]
   split
   .exact ⟨b1,by rw [b2]⟩
   .split
    .rw [l3]
     split
     .rename_i hz
      have:=DT hz
      rw [l2,this]
      exact Za n _ (h.go AC)
     .exact ⟨l1,by rw [l2]⟩
    .exact ⟨c1,c2⟩
theorem ot (h:Mv L k s):G9 (mv L k s)=G9 s:=by
 have h0:=h.1
 have hl:=h.len
 have U:=h.tk
 unfold G9
 rw [show (mv L k s).wait=s.wait from rfl,show (mv L k s).DE=s.DE from rfl]
 have e1:decide (0<=(mv L k s).pos)=decide (0<=s.pos):=decide_eq_decide.2 (by show 0<=s.pos+(k:Int)↔_;omega)
 have e2:decide ((mv L k s).pos<=((mv L k s).Ar.length:Int))=decide (s.pos<=(s.Ar.length:Int)):=decide_eq_decide.2 (by show s.pos+(k:Int)<=(L.length:Int)↔_;omega)
 have e3:(match (mv L k s).Ar[(mv L k s).pos.toNat]? with|some t=>t.kind==16|none=>false)=(match s.Ar[s.pos.toNat]? with|some t=>t.kind==16|none=>false:Bool):=by
  show (match L[(mv L k s).pos.toNat]? with|some t=>t.kind==16|none=>false:Bool)=_
  cases e:s.Ar[s.pos.toNat]? with
  |none=>rw [e] at U;rw [Option.map_eq_none_iff.1 U]
  |some v=>
   rw [e] at U
   obtain ⟨u,hu,huv⟩:=Option.map_eq_some_iff.1 U
   rw [hu]
   dsimp only
   rw [(Om huv).1]
 rw [e1,e2]
 exact congrArg (λb=>(decide (0<=s.pos)&&decide (s.pos<=(s.Ar.length:Int))&&decide (0<=s.wait)&&decide (s.wait<=2)&&(decide (s.wait<=0)||b)&& !s.DE.any λx=>decide (x<0))) e3
theorem Si (h:Mv L k s):tz (Ab (mv L k s)).1=tz (Ab s).1/\(Ab (mv L k s)).2.2=(Ab s).2.2/\((Ab s).2.2=0->(Ab (mv L k s)).2.1=mv L k (Ab s).2.1):=by
 unfold Ab
 rw [ot h]
 split
 .have e:GI (mv L k s)=B3 (s.Ar.length - s.pos.toNat) (mv L k s):=by
   unfold GI
   have h0:=h.1
   have hl:=h.len
   congr 1
   show L.length - (s.pos+(k:Int)).toNat=_
   omega
  rw [e]
  obtain ⟨h1,U⟩:=Za (s.Ar.length - s.pos.toNat) s h
  exact ⟨h1,by rw [U];rfl,λ_=>by rw [U];rfl⟩
 .exact ⟨rfl,rfl,λx=>absurd x Do⟩
theorem ou (h:Mv L k s):mu (mv L k s)=mu s:=by
 have U:=h.1
 have hl:=h.len
 unfold mu
 show 4*(L.length - (s.pos+(k:Int)).toNat)+s.DE.length+(2 - s.wait.toNat)=_
 omega
end
theorem Qx (l:List Tk):JO (λs=>s.Ar=l/\0<=s.pos) where
 nx:=@λs U h=>by
  have hg:∀n (s:Ae),s.Ar=l/\0<=s.pos->(B3 n s).2.1.Ar=l/\0<=(B3 n s).2.1.pos:=by
   intro n
   induction n with
   |zero=>intro s U;rw [B3];unfold DK;split;exact U;split<;>exact U
   |succ n ih=>
    intro s U
    have h0:=U.2
    have h1:0<=s.pos+1:=AC
    rw [B3]
    split
    .unfold DK;split;exact U;split<;>exact U
    .split
     .unfold Eb;split;exact U;split;exact ⟨U.1,h1⟩;exact U
     .split
      .split
       .rename_i hz;rw [DT hz];exact ih _ ⟨U.1,h1⟩
       .unfold Da;split;exact U;split;exact ⟨U.1,h1⟩;exact ⟨U.1,h1⟩
      .unfold BP;split;exact ⟨U.1,h1⟩;split;split;exact U;exact ⟨U.1,h1⟩;exact ⟨U.1,h1⟩
  unfold Ab at h |-
  split
  .exact hg _ s U
  .rename_i hm;rw [if_neg hm] at h;cases h
 cl:=@λs U h=>by
  unfold Ck at h |-
  split
  .exact U
  .rename_i hc;rw [if_neg hc] at h;cases h
theorem l4 (h:(Ck s).2=true):mu (Ck s).1<mu s:=by
 unfold Ck at h |-
 split
 .rename_i U
  have hne:s.DE≠[]:=λe=>U.2.2 (by unfold Ey;rw [e];rfl)
  have:=HP hne
  simp only [mu,EU] at *
  omega
 .rename_i U;rw [if_neg U] at h;cases h
def syM (L:List Tk) (k:Nat) (l:List Tk):Sy where
 R d s t:=mu s<=d/\(s.Ar=l/\Mv L k s)/\t=mv L k s
 T:=rE
 c:=0
 next:=by
  rintro d s t ⟨hd,⟨hl,U⟩,rfl⟩
  obtain ⟨h1,h2,h3⟩:=Si U
  obtain ⟨k1,k2,k3⟩:=Om h1
  refine .inl ⟨⟨k1.symm,k2.symm,?_⟩,λhz=>⟨by rw [h2];exact hz,?_⟩⟩
  .unfold rE Be Bv;rw [k1,k2]
  .rw [h3 hz]
   have hk:=(Qx l).nx (s:=s) ⟨hl,U.1⟩ hz
   have hM:Mv L k (Ab s).2.1:=⟨hk.2,by rw [hk.1,<-hl];exact U.2.1,U.2.2⟩
   obtain ⟨m1,m2⟩:=EY hz
   unfold rk
   split
   .exact ⟨AC,⟨hk.1,hM⟩,rfl⟩
   .split
    .rename_i hc
     have:=m2 (λe=>by unfold OA at hc;rw [e] at hc;simp at hc)
     exact ⟨d - 1,AC,AC,⟨hk.1,hM⟩,rfl⟩
    .exact ⟨AC,⟨hk.1,hM⟩,rfl⟩
 close:=by
  rintro d s t ⟨hd,⟨hl,U⟩,rfl⟩ hc
  have hk:=(Qx l).cl (s:=s) ⟨hl,U.1⟩ hc
  have hM:Mv L k (Ck s).1:=⟨hk.2,by rw [hk.1,<-hl];exact U.2.1,U.2.2⟩
  have h1:=l4 hc
  have e:Ck (mv L k s)=(mv L k (Ck s).1,true):=by
   unfold Ck at hc |-
   rw [ot U,show Ey (mv L k s)=Ey s from rfl,show (mv L k s).wait=s.wait from rfl]
   split
   .rfl
   .rename_i hn;rw [if_neg hn] at hc;cases hc
  rw [e]
  exact ⟨rfl,d - 1,AC,AC,⟨hk.1,hM⟩,rfl⟩
 imp:=by
  rintro d e s t s' t' _ _ ⟨_,⟨_,U⟩,rfl⟩ ⟨h1,h2,_⟩
  have h3:=(Om (Si U).1).2.1
  rw [(BI h1).2,(BI h2).2] at h3
  cases h3
 mu:=by
  rintro d e s t s' t' ⟨_,⟨_,U⟩,rfl⟩ ⟨_,⟨_,hm'⟩,rfl⟩ h
  rw [ou U,ou hm'];exact h
 node h:=qV h
 block h:=qV h
 nd:=rfl
 nt:=yE
section
variable {S:Sy}
theorem qf {A:Rd Nd} {l l':List Nd} (hA:SR S A) (hl:Bf S.T l l'):Po S (Kn A l) (Kn A l'):=λd s t U=>
 SW.look (SW.seq (SW.A hA U λn n' s1 t1 hn U=>SW.ite (by rw [S.nt.kd hn,hl.any (p:=λx=> !(x.kind==50)) (λh=>by rw [S.nt.kd h])]) (λ_=>SW.Dm) λ_=>SW.ret ⟨hn,U⟩))
theorem kE:KB Oj:=⟨λa b U h2=>by unfold Oj C3 EK Cq;rw [U,h2],rfl,rfl,rfl,λu e=>by unfold Oj C3 EK Cq;rw [e];rfl,λu e=>by unfold Oj C3 EK Cq;rw [e];rfl⟩
theorem dr (N:kY S.T) (d:Nat):SR S (G0 d):=UN kE λU=>qf (uW N d) U
end
theorem Zd (hm:G9 s=true) (hu:s.Ar[s.pos.toNat]? =some u) (U:u.kind≠16/\u.kind≠17) (h2:u.kind≠15):Ab s=(u,{s with pos:=s.pos+1},0):=by
 have hlt:=(List.getElem?_eq_some_iff.1 hu).1
 unfold Ab GI
 rw [hm,if_pos rfl,show s.Ar.length - s.pos.toNat=(s.Ar.length - s.pos.toNat - 1)+1 by omega,B3,hu]
 dsimp only
 rw [if_neg (λx=>U.1 x.1),if_neg (λx=>x.elim U.1 U.2)]
 unfold BP
 rw [if_neg (λx=>h2 x.1),if_neg (λx=>h2 x.1)]
theorem Uw {m:Tk} (h0:l[0]? =some m) (hk:m.kind=17) (hu:l[1]? =some u) (U:u.kind≠16/\u.kind≠17) (h2:u.kind≠15):Ab ⟨l,0,[],0⟩=(u,⟨l,2,[],0⟩,0):=by
 have hlt:=(List.getElem?_eq_some_iff.1 hu).1
 have hm:G9 ⟨l,0,[],0⟩=true:=by unfold G9;simp
 unfold Ab GI
 rw [hm,if_pos rfl]
 show B3 (l.length - 0) _=_
 rw [show l.length - 0=(l.length - 2)+1+1 by omega,B3]
 show (match l[0]? with|none=>_|some t=>_:Tk×Ae×Int)=_
 rw [h0]
 dsimp only
 have hl:Da m ⟨l,0,[],0⟩=(Tz,⟨l,1,[],0⟩):=by
  unfold Da
  rw [if_neg (λx=>absurd x.1 (show ¬(0:Int)<0 by decide)),if_neg (λx=>absurd x.1 (show ¬(0:Int)<0 by decide))];rfl
 rw [if_neg (λx=>by rw [hk] at x;exact absurd x.1 Do),if_pos (.inr hk),hl,if_pos H1]
 show B3 (l.length - 2+1) ⟨l,1,[],0⟩=_
 rw [B3]
 show (match l[1]? with|none=>_|some t=>_:Tk×Ae×Int)=_
 rw [hu]
 dsimp only
 rw [if_neg (λx=>U.1 x.1),if_neg (λx=>x.elim U.1 U.2)]
 unfold BP
 rw [if_neg (λx=>h2 x.1),if_neg (λx=>h2 x.1)];rfl
theorem Yy (h:Fy.run s=.inr ([],s')):AZ s 9 E9=false/\s'=s:=by
 replace h:(if AZ s 9 E9=true then .seq Az λm=>.seq (CX [2,4]) λn=>.look λs=>
  if AZ s 15 [40]=true then .seq (Ex false) λx=>.seq (A0 9 Dd) λw=>.ret ([m]++[n]++[x]++[w]) else .seq (A0 9 Dd) λw=>.ret ([m]++[n]++[w])
 else .ret []:Rd (List Nd)).run s=.inr ([],s'):=h
 split at h
 .obtain ⟨m,s1,_,h⟩:=AU h
  obtain ⟨n,s2,_,h⟩:=AU h
  replace h:(if AZ s2 15 [40]=true then .seq (Ex false) λx=>.seq (A0 9 Dd) λw=>.ret ([m]++[n]++[x]++[w]) else .seq (A0 9 Dd) λw=>.ret ([m]++[n]++[w]):Rd (List Nd)).run s2=.inr ([],s'):=h
  split at h
  .obtain ⟨x,s3,_,h⟩:=AU h
   obtain ⟨w,s4,_,h⟩:=AU h
   cases h
  .obtain ⟨w,s4,_,h⟩:=AU h
   cases h
 .cases h;exact ⟨Bool.eq_false_iff.2 ‹_›,rfl⟩
theorem Sg {A:Rd Nd} (h:(QD A).run s=.inr (n,s')):∃l b s1,Fy.run s=.inr (l,s1)/\A.run s1=.inr (b,s')/\(Ab s').1.kind=21/\n=As 53 (l++[b]):=by
 obtain ⟨l,s1,U,h⟩:=AU h
 obtain ⟨b,s2,h2,h⟩:=AU h
 replace h:(if ((Ab s2).1.kind==21)=true then .ret (As 53 (l++[b])) else HO:Rd Nd).run s2=.inr (n,s'):=h
 split at h
 .rename_i hk;cases h;exact ⟨l,b,s1,U,h2,beq_iff_eq.1 hk,rfl⟩
 .cases h
theorem SH {β:Type} {m:Rd α} {k:α->Rd β} {s1:Ae} {a:α} {r:Rv β} (h:m.run s=.inr (a,s1)) (U:(k a).run s1=r):(Rd.seq m k).run s=r:=by
 unfold Rd.seq
 dsimp only
 rw [h];exact U
theorem jb {s1:Ae} (hl:∀t ∈ l,1<=t.line) (h:(CF d).run ⟨BC l,0,[],0⟩=.inr (n,s1)) (hk:n.kids.length=1):
 ∃b U s2,n.kids=[b]/\(CF d).run ⟨BC (VS++l.map TR),0,[],0⟩=.inr (As 53 (VS.map Be++[U]),s2)/\rE b U:=by
 obtain ⟨l0,b,s0,h1,h2,h3,rfl⟩:=Sg h
 have hk:(l0++[b]).length=1:=hk
 rw [List.length_append] at hk
 obtain rfl:l0=[]:=List.length_eq_zero_iff.1 (by have:[b].length=1:=rfl;omega)
 obtain ⟨hM,rfl⟩:=Yy h1
 obtain ⟨W,hW,hz⟩:=nZ hl (λt ht=>by
  cases e:Ma t 9 E9 with
  |false=>rfl
  |true=>
   unfold Ma at e
   simp only [Bool.and_eq_true,beq_iff_eq] at e
   cases l with
   |nil=>cases ht
   |cons t' r=>
    cases ht
    have e1:BC (t::r)=⟨17,[],t.line,t.Ch⟩::t::(Cj (some t) r++G8 (t::r)):=by
     unfold BC
     rw [Cj]
     have:FQ none t=17:=by unfold FQ Ma;rw [e.1,e.2];rfl
     rw [this];rfl
    have e2:=Uw (l:=BC (t::r)) (m:=⟨17,[],t.line,t.Ch⟩) (u:=t) (by rw [e1];rfl) rfl (by rw [e1];rfl) (by rw [e.1];decide) (by rw [e.1];decide)
    unfold AZ at hM
    rw [e2] at hM
    simp [e.1,e.2] at hM)
 have hT:(BC (VS++l.map TR))[0]? =some ⟨17,[],1,1⟩/\(BC (VS++l.map TR))[1]? =some ⟨9,E9,1,1⟩/\(BC (VS++l.map TR))[2]? =some ⟨2,[77],1,8⟩/\(BC (VS++l.map TR))[3]? =some ⟨9,Dd,1,10⟩:=by
  rw [hW];exact ⟨rfl,rfl,rfl,rfl⟩
 obtain ⟨t0,t1,t2,t3⟩:=hT
 have hmv:Mv (BC (VS++l.map TR)) 4 ⟨BC l,0,[],0⟩:=by
  refine ⟨Int.le_refl _,?_,?_⟩
  .rw [hW]
   show List.map tz _=List.map tz (⟨17,[],1,1⟩::VS)++_
   rw [List.map_append,hz]
  .rw [hW,List.length_append];exact Nat.le_add_right 4 _
 generalize BC (VS++l.map TR)=L at *
 have n0:=Uw t0 rfl t1 Do Do
 have lt3:=(List.getElem?_eq_some_iff.1 t3).1
 have hm2:G9 ⟨L,2,[],0⟩=true:=by unfold G9;simp;omega
 have hm3:G9 ⟨L,3,[],0⟩=true:=by unfold G9;simp;omega
 have n2:Ab ⟨L,2,[],0⟩=(⟨2,[77],1,8⟩,⟨L,3,[],0⟩,0):=Zd hm2 t2 Do Do
 have n3:Ab ⟨L,3,[],0⟩=(⟨9,Dd,1,10⟩,⟨L,4,[],0⟩,0):=Zd hm3 t3 Do Do
 have i0:AZ ⟨L,0,[],0⟩ 9 E9=true:=by unfold AZ;rw [n0];rfl
 have i3:AZ ⟨L,3,[],0⟩ 15 [40]=false:=by unfold AZ;rw [n3];rfl
 have i4:AZ ⟨L,3,[],0⟩ 9 Dd=true:=by unfold AZ;rw [n3];rfl
 have g0:Az.run ⟨L,0,[],0⟩=.inr (Be ⟨9,E9,1,1⟩,⟨L,2,[],0⟩):=by rw [BQ (by rw [n0]),n0]
 have g2:(CX [2,4]).run ⟨L,2,[],0⟩=.inr (Be ⟨2,[77],1,8⟩,⟨L,3,[],0⟩):=by
  show (if ([2,4]:List Int).contains (Ab ⟨L,2,[],0⟩).1.kind=true then Az else HO:Rd Nd).run _=_
  rw [n2,if_pos H1,BQ (by rw [n2]),n2]
 have g3:(A0 9 Dd).run ⟨L,3,[],0⟩=.inr (Be ⟨9,Dd,1,10⟩,⟨L,4,[],0⟩):=by
  show (if AZ ⟨L,3,[],0⟩ 9 Dd=true then Az else HO:Rd Nd).run _=_
  rw [i4,if_pos H1,BQ (by rw [n3]),n3]
 have gh:Fy.run ⟨L,0,[],0⟩=.inr (VS.map Be,⟨L,4,[],0⟩):=by
  show (if AZ ⟨L,0,[],0⟩ 9 E9=true then .seq Az λm=>.seq (CX [2,4]) λn=>.look λs=>
   if AZ s 15 [40]=true then .seq (Ex false) λx=>.seq (A0 9 Dd) λw=>.ret ([m]++[n]++[x]++[w]) else .seq (A0 9 Dd) λw=>.ret ([m]++[n]++[w])
  else .ret []:Rd (List Nd)).run _=_
  rw [i0,if_pos rfl]
  refine SH g0 (SH g2 ?_)
  show (if AZ ⟨L,3,[],0⟩ 15 [40]=true then _ else .seq (A0 9 Dd) λw=>.ret ([Be ⟨9,E9,1,1⟩]++[Be ⟨2,[77],1,8⟩]++[w]):Rd (List Nd)).run _=_
  rw [i3,if_neg Do]
  exact SH g3 rfl
 have hS:=dr (S:=syM L 4 (BC l)) vq d (mu ⟨BC l,0,[],0⟩) ⟨BC l,0,[],0⟩ ⟨L,4,[],0⟩ ⟨Nat.le_refl _,⟨rfl,hmv⟩,rfl⟩
 obtain ⟨U,s2,hr,hb,_,⟨_,hm'⟩,rfl⟩:=hS b s1 h2 (Nat.zero_le _) trivial
 refine ⟨b,U,mv L ((4:Nat):Int) s1,rfl,?_,hb⟩
 show (Rd.seq Fy λl=>.seq (G0 d) λb=>.look λs=>if ((Ab s).1.kind==21)=true then .ret (As 53 (l++[b])) else HO:Rd Nd).run _=_
 refine SH gh ?_
 show (Rd.seq (G0 d) λb=>.look λs=>if ((Ab s).1.kind==21)=true then .ret (As 53 (VS.map Be++[b])) else HO:Rd Nd).run _=_
 refine SH hr ?_
 show (if ((Ab (mv L ((4:Nat):Int) s1)).1.kind==21)=true then .ret (As 53 (VS.map Be++[U])) else HO:Rd Nd).run _=_
 rw [(Om (Si hm').1).1,h3];rfl
def ja (s:List UInt8) (notes:List Nt) (q:Nd×Ae×Int):Nd×List Nt×Int×Int×Int:=
 if q.2.2=0 then (q.1,notes,0,0,0) else if (PV q.2.1).1=0 then (q.1,[],(CL s s.length).1,(CL s s.length).2,q.2.2) else (q.1,[],(PV q.2.1).1,(PV q.2.1).2,q.2.2)
def CO (s:List UInt8):Nd×List Nt×Int×Int×Int:=match Ew s with
 | .inl q=>(Gj,[],(CL s q.1.toNat).1,(CL s q.1.toNat).2,q.2)
 | .inr x=>ja s x.notes (BV ⟨BC x.Ar,0,[],0⟩ 100 (CZ (CF 100) ⟨BC x.Ar,0,[],0⟩))
section
attribute [local irreducible] Cr Rd.ret Rd.seq Rd.look Rd.loop Rd.fail Rd.Dm
theorem iB {P:Ae->Prop} (N:JO P):Cr P Fy:=kp
theorem RZ {P:Ae->Prop} (N:JO P) (d:Nat):Cr P (CF d):=by
 have U:=iB N
 have h2:=ca N d
 unfold CF
 exact kp
end
theorem tU {e:Int} (h:BV ⟨l,0,[],0⟩ 100 (CZ (CF 100) ⟨l,0,[],0⟩)=(n,t,e)):t.Ar=l/\0<=t.pos:=by
 unfold BV at h
 rw [if_neg Do] at h
 unfold CZ at h
 cases U:(CF 100).run ⟨l,0,[],0⟩ with
 |inl p=>
  rw [U] at h
  cases h
  exact (RZ (Qx l) 100).inl ⟨rfl,Int.le_refl _⟩ U
 |inr p=>
  rw [U] at h
  cases h
  exact (RZ (Qx l) 100).inr ⟨rfl,Int.le_refl _⟩ U
section
variable {st:St} {R:AB->St->Prop}
attribute [local irreducible] Go.Aw.Am
theorem Sx {b1 b3 b4 b5 b6 b7 n:Nat} {s:List UInt8} {e l c:Int} {w:AH} {es:List (List V)} {U:St->Prop} (hl:s.length<=16000) (hn:n<=s.length) (k6:st.box b6=some [.int .i64 e]) (k4:st.box b4=some [.int .i64 l]) (k1:st.box b1=some [.str s]) (k7:st.box b7=some [.int .i64 (n:Int)]) (k5:st.box b5=some [.int .i64 c]) (k3:st.box b3=some [.slice 5 es w])
 (n45:b4≠b5) (n43:b4≠b3) (n53:b5≠b3) (h0:e=0\/l≠0->U st) (h1:e≠0->l=0->U (((st.Aa b4 [.int .i64 (CL s n).1]).Aa b5 [.int .i64 (CL s n).2]).Aa b3 [.slice 5 [] .full])):
 HM Tryz.prog 38 [.ptr b6 0,.ptr b4 0,.ptr b1 0,.ptr b7 0,.ptr b5 0,.ptr b3 0] none st U:=by
 refine Vu Ac [] Tryz.func38 rfl rfl ?_
 have hof:∀{st:St} {R:AB->St->Prop},R (.ret (.BM [.int .i64 (CL s n).1,.int .i64 (CL s n).2,.int .i64 0])) st->PC 39 [.str s,.int .i64 (n:Int)] st R:=λh=>zD AC hn h
 have k5':∀D,(st.Aa b4 D).box b5=some [.int .i64 c]:=λD=>by rw [St.Ai n45];exact k5
 have k3':∀D E,((st.Aa b4 D).Aa b5 E).box b3=some [.slice 5 es w]:=λD E=>by rw [St.Ai n53,St.Ai n43];exact k3
 refine An Ac ?_
 repeat' ((conv=>whnf);first|(refine Br ?_;intros)|(refine Bs ?_ ?_<;>intro _)|refine Gm (λ_=>?_) ?_|refine hof ?_|refine Ah k6 ?_|refine Ah k4 ?_|refine Ah k1 ?_|refine Ah k7 ?_|refine Ah (k5' _) ?_|refine Ah (k3' _ _) ?_)
 all_goals conv=>whnf
 all_goals first|exact h1 ‹_› ‹_›|exact h1 AC (by omega)|exact h0 AC
theorem tT {s:List UInt8} {l:List Nt}:ja s l (n,t,0)=(n,l,0,0,0):=if_pos rfl
structure PN (b1 b3 b4 b5 b6 b7:Nat):Prop where
 n13:b1≠b3
 n14:b1≠b4
 n15:b1≠b5
 n16:b1≠b6
 n17:b1≠b7
 n34:b3≠b4
 n35:b3≠b5
 n36:b3≠b6
 n37:b3≠b7
 n45:b4≠b5
 n46:b4≠b6
 xN:b4≠b7
 yJ:b5≠b6
 xO:b5≠b7
 xP:b6≠b7
structure PB (st0 st:St) (b1 b3 b4 b5 b6 b7:Nat) (s:List UInt8) (es:List (List V)) (w:AH) (l c e n:Int):Prop where
 k1:st.box b1=some [.str s]
 k3:st.box b3=some [.slice 5 es w]
 k4:st.box b4=some [.int .i64 l]
 k5:st.box b5=some [.int .i64 c]
 k6:st.box b6=some [.int .i64 e]
 k7:st.box b7=some [.int .i64 n]
 le:st0.le st
 f3:st0.box b3=none
 f4:st0.box b4=none
 f5:st0.box b5=none
 f6:st0.box b6=none
 f7:st0.box b7=none
section
variable {st0 st st':St} {b1 b3 b4 b5 b6 b7:Nat} {s:List UInt8} {es:List (List V)} {w:AH} {l c e n:Int}
theorem PB.mono (h:PB st0 st b1 b3 b4 b5 b6 b7 s es w l c e n) (k:st.le st'):PB st0 st' b1 b3 b4 b5 b6 b7 s es w l c e n:=⟨k.1 _ _ h.k1,k.1 _ _ h.k3,k.1 _ _ h.k4,k.1 _ _ h.k5,k.1 _ _ h.k6,k.1 _ _ h.k7,St.le_trans h.le k,h.f3,h.f4,h.f5,h.f6,h.f7⟩
theorem PB.s3 (h:PB st0 st b1 b3 b4 b5 b6 b7 s es w l c e n) (N:PN b1 b3 b4 b5 b6 b7) {es2:List (List V)} {w2:AH}:PB st0 (st.Aa b3 [.slice 5 es2 w2]) b1 b3 b4 b5 b6 b7 s es2 w2 l c e n:=⟨by rw [St.Ai N.n13.symm];exact h.k1,St.Aj ..,by rw [St.Ai N.n34];exact h.k4,by rw [St.Ai N.n35];exact h.k5,by rw [St.Ai N.n36];exact h.k6,by rw [St.Ai N.n37];exact h.k7,St.Ak h.le h.f3 _,h.f3,h.f4,h.f5,h.f6,h.f7⟩
theorem PB.s4 (h:PB st0 st b1 b3 b4 b5 b6 b7 s es w l c e n) (N:PN b1 b3 b4 b5 b6 b7) {x:Int}:PB st0 (st.Aa b4 [.int .i64 x]) b1 b3 b4 b5 b6 b7 s es w x c e n:=⟨by rw [St.Ai N.n14.symm];exact h.k1,by rw [St.Ai N.n34.symm];exact h.k3,St.Aj ..,by rw [St.Ai N.n45];exact h.k5,by rw [St.Ai N.n46];exact h.k6,by rw [St.Ai N.xN];exact h.k7,St.Ak h.le h.f4 _,h.f3,h.f4,h.f5,h.f6,h.f7⟩
theorem PB.s5 (h:PB st0 st b1 b3 b4 b5 b6 b7 s es w l c e n) (N:PN b1 b3 b4 b5 b6 b7) {x:Int}:PB st0 (st.Aa b5 [.int .i64 x]) b1 b3 b4 b5 b6 b7 s es w l x e n:=⟨by rw [St.Ai N.n15.symm];exact h.k1,by rw [St.Ai N.n35.symm];exact h.k3,by rw [St.Ai N.n45.symm];exact h.k4,St.Aj ..,by rw [St.Ai N.yJ];exact h.k6,by rw [St.Ai N.xO];exact h.k7,St.Ak h.le h.f5 _,h.f3,h.f4,h.f5,h.f6,h.f7⟩
theorem PB.s6 (h:PB st0 st b1 b3 b4 b5 b6 b7 s es w l c e n) (N:PN b1 b3 b4 b5 b6 b7) {x:Int}:PB st0 (st.Aa b6 [.int .i64 x]) b1 b3 b4 b5 b6 b7 s es w l c x n:=⟨by rw [St.Ai N.n16.symm];exact h.k1,by rw [St.Ai N.n36.symm];exact h.k3,by rw [St.Ai N.n46.symm];exact h.k4,by rw [St.Ai N.yJ.symm];exact h.k5,St.Aj ..,by rw [St.Ai N.xP];exact h.k7,St.Ak h.le h.f6 _,h.f3,h.f4,h.f5,h.f6,h.f7⟩
theorem PB.s7 (h:PB st0 st b1 b3 b4 b5 b6 b7 s es w l c e n) (N:PN b1 b3 b4 b5 b6 b7) {x:Int}:PB st0 (st.Aa b7 [.int .i64 x]) b1 b3 b4 b5 b6 b7 s es w l c e x:=⟨by rw [St.Ai N.n17.symm];exact h.k1,by rw [St.Ai N.n37.symm];exact h.k3,by rw [St.Ai N.xN.symm];exact h.k4,by rw [St.Ai N.xO.symm];exact h.k5,by rw [St.Ai N.xP.symm];exact h.k6,St.Aj ..,St.Ak h.le h.f7 _,h.f3,h.f4,h.f5,h.f6,h.f7⟩
end
noncomputable def uv:List Oper:=match Tryz.f16.body with|some (.seq _ (.seq _ (.seq _ (.seq _ (.seq (.seq _ (.cond _ (.seq _ (.seq (.region _ ops _) _)) _)) _)))))=>ops.toList|_=>[]
noncomputable def uw:List Oper:=match Tryz.f16.body with|some (.seq _ (.seq _ (.seq _ (.seq _ (.seq _ (.seq _ (.seq (.seq _ (.cond _ (.seq (.region _ ops _) _) _)) _)))))))=>ops.toList|_=>[]
noncomputable def o6:List Oper:=match Tryz.f16.body with|some (.seq _ (.seq _ (.seq _ (.seq _ (.seq _ (.seq _ (.seq _ (.seq _ (.seq (.region _ ops _) _)))))))))=>ops.toList|_=>[]
noncomputable def xZ (nx:Nat) (ops:List Oper) (vs:List V) (b3 b4 b5 b6:Nat) (U:List V) (bs:List Bool):Env:=
 {tmps:=Hb [(2,.B6 0 0),(3,.ptr b3 0),(4,.ptr b4 0),(5,.ptr b5 0),(6,.ptr b6 0)] ops vs bs,boxes:=[(0,U)],Bw:=nx,sz:=63,gl:=[1,3,4,5,6,7]}
def o7:List (List Bool×Nat):=[([false,false,false,false,false,false,false],0),([false,false,false,false,false,false,false],1),([true,false,false,false,false,false,false],1),([true,false,false,false,false,false,false],2),([false,true,false,false,false,false,false],0),([true,true,false,false,false,false,false],2),([true,false,true,false,false,false,false],1),([true,false,true,false,false,false,false],3),([true,true,true,false,false,false,false],3),([true,false,true,true,false,false,false],1),([true,false,true,true,false,false,false],4),([true,true,true,true,false,false,false],4),([true,false,true,true,true,false,false],1),([true,false,true,true,true,false,false],5),([true,true,true,true,true,false,false],5),([true,false,true,true,true,true,false],1),([true,true,true,true,true,true,false],6)]
def o8:List (List Bool×Nat):=[([false,false,false,false,false,false,false,false],0),([false,false,false,false,false,false,false,false],1),([false,false,false,false,false,false,false,false],2),([true,false,false,false,false,false,false,false],1),([true,false,false,false,false,false,false,false],2),([true,false,false,false,false,false,false,false],3),([false,true,false,false,false,false,false,false],0),([false,true,false,false,false,false,false,false],2),([false,false,true,false,false,false,false,false],0),([false,false,true,false,false,false,false,false],1),([true,true,false,false,false,false,false,false],2),([true,true,false,false,false,false,false,false],3),([true,false,true,false,false,false,false,false],1),([true,false,true,false,false,false,false,false],3),([true,false,false,true,false,false,false,false],1),([true,false,false,true,false,false,false,false],2),([false,true,true,false,false,false,false,false],0),([true,true,true,false,false,false,false,false],3),([true,true,false,true,false,false,false,false],2),([true,true,false,true,false,false,false,false],4),([true,false,true,true,false,false,false,false],1),([true,true,true,true,false,false,false,false],4),([true,true,false,true,true,false,false,false],2),([true,true,false,true,true,false,false,false],5),([true,true,true,true,true,false,false,false],5),([true,true,false,true,true,true,false,false],2),([true,true,false,true,true,true,false,false],6),([true,true,true,true,true,true,false,false],6),([true,true,false,true,true,true,true,false],2),([true,true,true,true,true,true,true,false],7)]
def fH:List (List Bool×Nat):=[([false,false,false,false,false,false,false,false,false],0),([false,false,false,false,false,false,false,false,false],1),([false,false,false,false,false,false,false,false,false],2),([false,false,false,false,false,false,false,false,false],3),([true,false,false,false,false,false,false,false,false],1),([true,false,false,false,false,false,false,false,false],2),([true,false,false,false,false,false,false,false,false],3),([true,false,false,false,false,false,false,false,false],4),([false,true,false,false,false,false,false,false,false],0),([false,true,false,false,false,false,false,false,false],2),([false,true,false,false,false,false,false,false,false],3),([false,false,true,false,false,false,false,false,false],0),([false,false,true,false,false,false,false,false,false],1),([false,false,true,false,false,false,false,false,false],3),([false,false,false,true,false,false,false,false,false],0),([false,false,false,true,false,false,false,false,false],1),([false,false,false,true,false,false,false,false,false],2),([true,true,false,false,false,false,false,false,false],2),([true,true,false,false,false,false,false,false,false],3),([true,true,false,false,false,false,false,false,false],4),([true,false,true,false,false,false,false,false,false],1),([true,false,true,false,false,false,false,false,false],3),([true,false,true,false,false,false,false,false,false],4),([true,false,false,true,false,false,false,false,false],1),([true,false,false,true,false,false,false,false,false],2),([true,false,false,true,false,false,false,false,false],4),([true,false,false,false,true,false,false,false,false],1),([true,false,false,false,true,false,false,false,false],2),([true,false,false,false,true,false,false,false,false],3),([true,false,false,false,true,false,false,false,false],5),([false,true,true,false,false,false,false,false,false],0),([false,true,true,false,false,false,false,false,false],3),([false,true,false,true,false,false,false,false,false],0),([false,true,false,true,false,false,false,false,false],2),([false,false,true,true,false,false,false,false,false],0),([false,false,true,true,false,false,false,false,false],1),([true,true,true,false,false,false,false,false,false],3),([true,true,true,false,false,false,false,false,false],4),([true,true,false,true,false,false,false,false,false],2),([true,true,false,true,false,false,false,false,false],4),([true,true,false,false,true,false,false,false,false],2),([true,true,false,false,true,false,false,false,false],3),([true,true,false,false,true,false,false,false,false],5),([true,false,true,true,false,false,false,false,false],1),([true,false,true,true,false,false,false,false,false],4),([true,false,true,false,true,false,false,false,false],1),([true,false,true,false,true,false,false,false,false],3),([true,false,true,false,true,false,false,false,false],5),([true,false,false,true,true,false,false,false,false],1),([true,false,false,true,true,false,false,false,false],2),([true,false,false,true,true,false,false,false,false],5),([true,false,false,false,true,true,false,false,false],1),([true,false,false,false,true,true,false,false,false],2),([true,false,false,false,true,true,false,false,false],3),([false,true,true,true,false,false,false,false,false],0),([true,true,true,true,false,false,false,false,false],4),([true,true,true,false,true,false,false,false,false],3),([true,true,true,false,true,false,false,false,false],5),([true,true,false,true,true,false,false,false,false],2),([true,true,false,true,true,false,false,false,false],5),([true,true,false,false,true,true,false,false,false],2),([true,true,false,false,true,true,false,false,false],3),([true,true,false,false,true,true,false,false,false],6),([true,false,true,true,true,false,false,false,false],1),([true,false,true,true,true,false,false,false,false],5),([true,false,true,false,true,true,false,false,false],1),([true,false,true,false,true,true,false,false,false],3),([true,false,false,true,true,true,false,false,false],1),([true,false,false,true,true,true,false,false,false],2),([true,true,true,true,true,false,false,false,false],5),([true,true,true,false,true,true,false,false,false],3),([true,true,true,false,true,true,false,false,false],6),([true,true,false,true,true,true,false,false,false],2),([true,true,false,true,true,true,false,false,false],6),([true,true,false,false,true,true,true,false,false],2),([true,true,false,false,true,true,true,false,false],3),([true,false,true,true,true,true,false,false,false],1),([true,true,true,true,true,true,false,false,false],6),([true,true,true,false,true,true,true,false,false],3),([true,true,true,false,true,true,true,false,false],7),([true,true,false,true,true,true,true,false,false],2),([true,true,true,true,true,true,true,false,false],7),([true,true,true,false,true,true,true,true,false],3),([true,true,true,true,true,true,true,true,false],8)]
def x7 (st:St) (b3:Nat) (bs:List Bool):St:=match bs[5]? with
 |some true=>st.Aa b3 [.slice 5 [] .full]
 |_=>st
theorem ur {s:List UInt8} (hl:s.length<=16000) (h:∀w st',st.le st'->R (.ret (.BM [enc (CO s).1,.slice 5 (Fm (CO s).2.1) w,.int .i64 (CO s).2.2.1,.int .i64 (CO s).2.2.2.1,.int .i64 (CO s).2.2.2.2])) st'):PC 16 [.str s] st R:=by
 refine A9.ends (Kd Ac [1,3,4,5,6,7] Tryz.func16 rfl Do rfl rfl rfl rfl rfl rfl ⟨_,Tryz.func38,rfl,Do⟩ rfl ?_)
 repeat' ((conv=>whnf);first|exact CH|(refine Br ?_;intros)|(refine CI ?_ ?_ ?_;rotate_left)|(refine Bs ?_ ?_<;>intro _)|refine Gm (λ_=>?_) ?_|refine NN (λb6 f6=>?_)|with_reducible refine WF ?_)
 rename_i b1 f1 b3 f3 b4 f4 b5 f5
 obtain ⟨n13,f3a⟩:=A5 f3
 obtain ⟨n34,f4a⟩:=A5 f4
 obtain ⟨n14,f4b⟩:=A5 f4a
 obtain ⟨n45,f5a⟩:=A5 f5
 obtain ⟨n35,f5b⟩:=A5 f5a
 obtain ⟨n15,f5c⟩:=A5 f5b
 obtain ⟨yJ,f6a⟩:=A5 f6
 obtain ⟨n46,f6b⟩:=A5 f6a
 obtain ⟨n36,f6c⟩:=A5 f6b
 obtain ⟨n16,f6d⟩:=A5 f6c
 have g1:(((((st.Aa b1 [.str s]).Aa b3 [.slice 5 [] .full]).Aa b4 [.int .i64 0]).Aa b5 [.int .i64 0]).Aa b6 [.int .i64 0]).box b1=some [.str s]:=by rw [St.Ai n16.symm,St.Ai n15.symm,St.Ai n14.symm,St.Ai n13.symm,St.Aj]
 repeat' ((conv=>whnf);first|exact CH|(refine Br ?_;intros)|(refine CI ?_ ?_ ?_;rotate_left)|(refine Bs ?_ ?_<;>intro _)|refine Gm (λ_=>?_) ?_|refine Ah g1 ?_|refine WJ (λ_=>?_)|refine NN (λb7 f7=>?_)|refine Ah (St.Aj ..) ?_|with_reducible refine WF ?_)
 obtain ⟨xP,f7a⟩:=A5 f7
 obtain ⟨xO,f7b⟩:=A5 f7a
 obtain ⟨xN,f7c⟩:=A5 f7b
 obtain ⟨n37,f7d⟩:=A5 f7c
 obtain ⟨n17,f7e⟩:=A5 f7d
 have N:PN b1 b3 b4 b5 b6 b7:=⟨n13,n14,n15,n16,n17,n34,n35,n36,n37,n45,n46,xN,yJ,xO,xP⟩
 conv=>whnf
 refine ⟨rfl,AR rfl ?_⟩
 generalize hst7:St.Aa _ b7 [V.int .i64 (s.length:Int)]=st7
 have H:PB st st7 b1 b3 b4 b5 b6 b7 s [] .full 0 0 0 s.length:=by
  subst hst7
  refine ⟨?_,?_,?_,?_,?_,St.Aj ..,?_,f3a.1,f4b.1,f5c.1,f6d.1,f7e.1⟩
  .rw [St.Ai n17.symm,St.Ai n17.symm];exact g1
  .rw [St.Ai n37.symm,St.Ai n37.symm,St.Ai n36.symm,St.Ai n35.symm,St.Ai n34.symm,St.Aj]
  .rw [St.Ai xN.symm,St.Ai xN.symm,St.Ai n46.symm,St.Ai n45.symm,St.Aj]
  .rw [St.Ai xO.symm,St.Ai xO.symm,St.Ai yJ.symm,St.Aj]
  .rw [St.Ai xP.symm,St.Ai xP.symm,St.Aj]
  .exact St.Ak (St.Ak (St.Ak (St.Ak (St.Ak (St.Ak (St.Ak (St.le_refl _) f1.1 _) f3a.1 _) f4b.1 _) f5c.1 _) f6d.1 _) f7e.1 _) f7e.1 _
 clear hst7 f1 f3 f3a f4 f4a f4b f5 f5a f5b f5c f6 f6a f6b f6c f6d f7 f7a f7b f7c f7d f7e g1 n13 n14 n15 n16 n17 n34 n35 n36 n37 n45 n46 xN yJ xO xP
 cases hx:Ew s with
 |inl q=>
  obtain ⟨i,e⟩:=q
  have he:=YL hx
  obtain ⟨hi0,hi1⟩:=tA hx
  obtain ⟨m,rfl⟩:∃m:Nat,i=m:=⟨i.toNat,AC⟩
  have hp:CO s=(Gj,[],(CL s m).1,(CL s m).2,e):=by unfold CO;rw [hx];rfl
  rw [hp] at h
  refine Al (An Ac ?_)
  repeat' ((conv=>whnf);first|exact CH|(refine Br ?_;intros)|(refine CI ?_ ?_ ?_;rotate_left)|(refine Bs ?_ ?_<;>intro _)|refine Gm (λ_=>?_) ?_|refine Ah H.k1 ?_|refine zn hx (λst1 hle1=>?_)|refine Ah (H.mono hle1).k3 ?_|refine Ah ((H.mono hle1).s3 N).k6 ?_|with_reducible refine WF ?_)
  have H8:=((H.mono hle1).s3 N (es2:=[]) (w2:=.full)).s6 N (x:=e)
  have U:=H8.s7 N (x:=(m:Int))
  refine Al (Al (An Ac ?_))
  repeat' ((conv=>whnf);first|exact CH|(refine Br ?_;intros)|(refine CI ?_ ?_ ?_;rotate_left)|(refine Bs ?_ ?_<;>intro _)|refine Gm (λ_=>?_) ?_|refine Ah H8.k6 ?_|with_reducible refine WF ?_)
  refine dF true rfl ?_
  rw [if_pos rfl]
  refine Al (An Ac ?_)
  repeat' ((conv=>whnf);first|exact CH|(refine Br ?_;intros)|(refine CI ?_ ?_ ?_;rotate_left)|(refine Bs ?_ ?_<;>intro _)|refine Gm (λ_=>?_) ?_|refine Ah H8.k7 ?_|with_reducible refine WF ?_)
  refine Al (Ox Ac (BU _) (xZ 1 uv [.agg Dy,.int .i64 e,.BN,.BN,.BN,.BN,.BN] b3 b4 b5 b6 Dy) (λ_=>_) o7 GE Yl (St.le_refl _) ?_ ?_)
  .unfold o7
   repeat' (first|refine List.forall_mem_cons.2 ⟨?_,?_⟩|exact λ_ h=>nomatch h)
   repeat' ((conv=>whnf);first|exact CH|(refine Br ?_;intros)|(refine CI ?_ ?_ ?_;rotate_left)|(refine Bs ?_ ?_<;>intro _)|refine Gm (λ_=>?_) ?_|refine Ah U.k6 ?_|refine Ah U.k3 ?_|refine Ah U.k4 ?_|refine Ah U.k5 ?_|with_reducible refine WF ?_)
   all_goals conv=>whnf
   all_goals (refine ⟨Yl,?_⟩)
   all_goals first|exact St.le_refl _|exact EX U.k3|exact EX U.k4|exact EX U.k5|exact EX U.k6
  .have H10:=((U.s4 N (x:=(CL s m).1)).s5 N (x:=(CL s m).2)).s3 N (es2:=[]) (w2:=.full)
   refine An Ac (Sx hl AC U.k6 U.k4 U.k1 U.k7 U.k5 U.k3 N.n45 N.n34.symm N.n35.symm (λh=>h.elim (λh=>absurd h he) (λh=>absurd rfl h)) (λ_ _=>?_))
   repeat' ((conv=>whnf);first|exact CH|(refine Br ?_;intros)|(refine CI ?_ ?_ ?_;rotate_left)|(refine Bs ?_ ?_<;>intro _)|refine Gm (λ_=>?_) ?_|refine Ah H10.k3 ?_|refine Ah H10.k4 ?_|refine Ah H10.k5 ?_|refine Ah H10.k6 ?_|with_reducible refine WF ?_)
   all_goals exact BR rfl (h .any _ H10.le)
 |inr x=>
  have hlen:=(R5 hx).1
  have hmk:=Uo x.Ar
  obtain ⟨n,t,e,hc⟩:∃n t e,BV ⟨BC x.Ar,0,[],0⟩ 100 (CZ (CF 100) ⟨BC x.Ar,0,[],0⟩)=(n,t,e):=⟨_,_,_,rfl⟩
  have hp:CO s=ja s x.notes (n,t,e):=by unfold CO;rw [hx];dsimp only;rw [hc]
  obtain ⟨htk,hpos⟩:=tU hc
  have hmu:mu ⟨BC x.Ar,0,[],0⟩<=100000000:=by unfold mu;simp only [List.length_nil];omega
  have hmod:∀{st:St} {R:AB->St->Prop},R (.ret (RB n t e)) st->PC 40 [.agg [.slice 4 (AQ (BC x.Ar)) .any,.int .i64 0,.slice 1 [] .full,.int .i64 0],.int .i64 100] st R:=λh=>OW (args':=[D4 ⟨BC x.Ar,0,[],0⟩,.int .i64 100]) rfl (kP hmu (by rw [show Ed 100=100 from rfl,hc];exact h))
  have hok:=nH AC hx
  refine Al (An Ac ?_)
  repeat' ((conv=>whnf);first|exact CH|(refine Br ?_;intros)|(refine CI ?_ ?_ ?_;rotate_left)|(refine Bs ?_ ?_<;>intro _)|refine Gm (λ_=>?_) ?_|refine Ah H.k1 ?_|refine vS hx (λw1 w2 st1 hle1=>?_)|refine Ah (H.mono hle1).k3 ?_|refine Ah ((H.mono hle1).s3 N).k6 ?_|with_reducible refine WF ?_)
  have H8:=((H.mono hle1).s3 N (es2:=Fm x.notes) (w2:=w2)).s6 N (x:=0)
  refine Al (An Ac ?_)
  repeat' ((conv=>whnf);first|exact CH|(refine Br ?_;intros)|(refine CI ?_ ?_ ?_;rotate_left)|(refine Bs ?_ ?_<;>intro _)|refine Gm (λ_=>?_) ?_|refine Ah H8.k6 ?_|with_reducible refine WF ?_)
  refine Al (An Ac ?_)
  repeat' ((conv=>whnf);first|exact CH|(refine Br ?_;intros)|(refine CI ?_ ?_ ?_;rotate_left)|(refine Bs ?_ ?_<;>intro _)|refine Gm (λ_=>?_) ?_|refine tS hok AC ?_|refine hmod ?_|refine Ah H8.k6 ?_|with_reducible refine WF ?_)
  have U:=H8.s6 N (x:=e)
  by_cases he:e=0
  .subst he
   have hp2:CO s=(n,x.notes,0,0,0):=hp.trans tT
   rw [hp2] at h
   refine Al (Al (An Ac ?_))
   repeat' ((conv=>whnf);first|exact CH|(refine Br ?_;intros)|(refine CI ?_ ?_ ?_;rotate_left)|(refine Bs ?_ ?_<;>intro _)|refine Gm (λ_=>?_) ?_|refine Ah U.k6 ?_|with_reducible refine WF ?_)
   refine dF true rfl ?_
   rw [if_pos rfl]
   refine Al (Ox Ac (BU _) (xZ 2 uw [.agg (AP n),.slice 5 (Fm x.notes) w2,.int .i64 0,.BN,.BN,.BN,.BN,.BN] b3 b4 b5 b6 (AP n)) (λ_=>_) o8 GE Yl (St.le_refl _) ?_ ?_)
   .unfold o8
    repeat' (first|refine List.forall_mem_cons.2 ⟨?_,?_⟩|exact λ_ h=>nomatch h)
    repeat' ((conv=>whnf);first|exact CH|(refine Br ?_;intros)|(refine CI ?_ ?_ ?_;rotate_left)|(refine Bs ?_ ?_<;>intro _)|refine Gm (λ_=>?_) ?_|refine Ah U.k6 ?_|refine Ah U.k3 ?_|refine Ah U.k4 ?_|refine Ah U.k5 ?_|with_reducible refine WF ?_)
    all_goals conv=>whnf
    all_goals (refine ⟨Yl,?_⟩)
    all_goals first|exact St.le_refl _|exact EX U.k3|exact EX U.k4|exact EX U.k5|exact EX U.k6
   .refine An Ac (Sx hl (Nat.le_refl _) U.k6 U.k4 U.k1 U.k7 U.k5 U.k3 N.n45 N.n34.symm N.n35.symm (λ_=>?_) (λh=>absurd rfl h))
    repeat' ((conv=>whnf);first|exact CH|(refine Br ?_;intros)|(refine CI ?_ ?_ ?_;rotate_left)|(refine Bs ?_ ?_<;>intro _)|refine Gm (λ_=>?_) ?_|refine Ah U.k3 ?_|refine Ah U.k4 ?_|refine Ah U.k5 ?_|refine Ah U.k6 ?_|with_reducible refine WF ?_)
    all_goals exact BR rfl (h .any _ U.le)
  .refine Al (An Ac ?_)
   repeat' ((conv=>whnf);first|exact CH|(refine Br ?_;intros)|(refine CI ?_ ?_ ?_;rotate_left)|(refine Bs ?_ ?_<;>intro _)|refine Gm (λ_=>?_) ?_|refine Ah U.k6 ?_|with_reducible refine WF ?_)
   refine kV (α:=Int×Int×St) (λ_=>[]) (λ_=>[]) [2,3,4,5,6] [0] (λp=>p.2.2) (λp=>PB st p.2.2 b1 b3 b4 b5 b6 b7 s (Fm x.notes) w2 p.1 p.2.1 e s.length/\PV t=(p.1,p.2.1)) (An Ac ?_) ?_
   .by_cases hlt:t.pos<(t.Ar.length:Int)
    .obtain ⟨u,hu⟩:∃u,t.Ar[t.pos.toNat]? =some u:=⟨_,List.getElem?_eq_getElem AC⟩
     have hs:PV t=(u.line,u.Ch):=by unfold PV;rw [if_pos hlt,hu]
     have H11:=(U.s4 N (x:=u.line)).s5 N (x:=u.Ch)
     repeat' ((conv=>whnf);first|exact CH|(refine Br ?_;intros)|(refine CI ?_ ?_ ?_;rotate_left)|(refine Bs ?_ ?_<;>intro _)|refine Gm (λ_=>?_) ?_|refine Wz (λ_=>?_)|refine WB hu AC ?_|refine Ah U.k4 ?_|refine Ah (U.s4 N).k5 ?_|refine Af [(0,true),(1,true),(2,true),(3,true),(4,true),(5,true),(6,true),(7,true),(8,true),(9,true),(10,true),(11,true),(12,true),(13,true),(14,false),(15,false)] [] GE ?_|with_reducible refine WF ?_)
     all_goals exact ⟨(u.line,u.Ch,_),⟨H11,hs⟩,Yl,St.le_refl _⟩
    .have hs:PV t=(0,0):=by unfold PV;rw [if_neg hlt]
     repeat' ((conv=>whnf);first|exact CH|(refine Br ?_;intros)|(refine CI ?_ ?_ ?_;rotate_left)|(refine Bs ?_ ?_<;>intro _)|refine Gm (λ_=>?_) ?_|refine Wz (λ_=>?_)|with_reducible refine WF ?_)
     all_goals exact ⟨(0,0,_),⟨U,hs⟩,Yl,St.le_refl _⟩
   .rintro ⟨l,c,m⟩ ⟨Hm,hs⟩
    dsimp only at Hm hs
    have hp2:CO s=if l=0 then (n,[],(CL s s.length).1,(CL s s.length).2,e) else (n,[],l,c,e):=by
     rw [hp]
     unfold ja
     rw [if_neg he,hs]
    rw [hp2] at h
    have Hn:=Hm.s3 N (es2:=[]) (w2:=.full)
    refine Al (Ox Ac (BU _) (xZ 2 o6 [.agg (AP n),.int .i64 l,.int .i64 c,.int .i64 e,.BN,.BN,.BN,.BN,.BN] b3 b4 b5 b6 (AP n)) (x7 m b3) fH GE Yl (St.le_refl _) ?_ ?_)
    .unfold fH
     repeat' (first|refine List.forall_mem_cons.2 ⟨?_,?_⟩|exact λ_ h=>nomatch h)
     repeat' ((conv=>whnf);first|exact CH|(refine Br ?_;intros)|(refine CI ?_ ?_ ?_;rotate_left)|(refine Bs ?_ ?_<;>intro _)|refine Gm (λ_=>?_) ?_|refine Ah Hm.k6 ?_|refine Ah Hm.k3 ?_|refine Ah Hm.k4 ?_|refine Ah Hm.k5 ?_|refine Ah Hn.k6 ?_|refine Ah Hn.k4 ?_|refine Ah Hn.k5 ?_|with_reducible refine WF ?_)
     all_goals conv=>whnf
     all_goals (refine ⟨Yl,?_⟩)
     all_goals first|exact St.le_refl _|exact EX Hn.k4|exact EX Hn.k5|exact EX Hn.k6
    .refine An Ac (Sx hl (Nat.le_refl _) Hn.k6 Hn.k4 Hn.k1 Hn.k7 Hn.k5 Hn.k3 N.n45 N.n34.symm N.n35.symm (λhz=>?_) (λ_ hz=>?_))
     .rw [if_neg (hz.elim (λh=>absurd h he) id)] at h
      repeat' ((conv=>whnf);first|exact CH|(refine Br ?_;intros)|(refine CI ?_ ?_ ?_;rotate_left)|(refine Bs ?_ ?_<;>intro _)|refine Gm (λ_=>?_) ?_|refine Ah Hn.k3 ?_|refine Ah Hn.k4 ?_|refine Ah Hn.k5 ?_|refine Ah Hn.k6 ?_|with_reducible refine WF ?_)
      all_goals exact BR rfl (h .any _ Hn.le)
     .rw [if_pos hz] at h
      have Ho:=((Hn.s4 N (x:=(CL s s.length).1)).s5 N (x:=(CL s s.length).2)).s3 N (es2:=[]) (w2:=.full)
      repeat' ((conv=>whnf);first|exact CH|(refine Br ?_;intros)|(refine CI ?_ ?_ ?_;rotate_left)|(refine Bs ?_ ?_<;>intro _)|refine Gm (λ_=>?_) ?_|refine Ah Ho.k3 ?_|refine Ah Ho.k4 ?_|refine Ah Ho.k5 ?_|refine Ah Ho.k6 ?_|with_reducible refine WF ?_)
      all_goals exact BR rfl (h .any _ Ho.le)
end
theorem Path.mu {s t:Ae} {l:List Tk} (h:Path s l t):Proofs.Z.mu t+l.length<=Proofs.Z.mu s:=by
 induction h with
 |nil s=>exact Nat.le_refl _
 |cons U h2 _ ih=>rw [List.length_cons];omega
theorem Ht (l:List Tk):(AQ l).length=l.length:=by unfold AQ;rw [List.length_map]
theorem aU {x:Tk} {own:AH} {st:St} {K:V->St->Prop} (h:own.BS st) (hb:l.length+1<=1000000000)
 (k:∀U:AH,U.BS st->K (.slice 4 (AQ (l++[x])) U) (U.st st ((l++[x]).length*4))):Am 4 40 (AQ l) own [x.cells] (own.st st (l.length*4)) K:=by
 have:=FZ (sz:=4) (bytes:=40) (es:=AQ l) (new:=[x.cells]) (K:=K) h (by rw [Ht];show (l.length+1)*40<=_;omega) (by rw [Ht];show l.length+1<D7;simp only [D7];omega) rfl (λU ho=>by
  have:=k U ho
  rw [Ht]
  have e:AQ l++[x.cells].map (·.map V.KD)=AQ (l++[x]):=by unfold AQ;rw [List.map_append];rfl
  rw [e]
  rw [List.length_append] at this
  exact this)
 rw [Ht] at this
 exact this
def iY (st:St) (bo:Nat) (l:List Tk) (own:AH):St:=own.st (st.Aa bo [.slice 4 (AQ l) own]) (l.length*4)
theorem WZ {own:AH} {st:St} {n:Nat}:(own.st st n).box b=st.box b:=by cases own<;>rfl
theorem eJ {own:AH} {st:St} {cs:List V} (hb:st.box b≠none) (h:own.BS st):own.BS (st.Aa b cs):=by
 cases own with
 |any=>exact h
 |full=>trivial
 |tok t=>
  have:b≠t:=λe=>by subst e;exact hb h.1
  exact ⟨by rw [St.Ai this];exact h.1,h.2⟩
theorem mW {own:AH} {st:St} {cs:List V} (h:own.BS (st.Aa b cs)):own.BS st:=by
 cases own with
 |any=>exact h
 |full=>trivial
 |tok t=>exact (A5 h).2
theorem nY {st:St} {own:AH}:(iY st bo l own).box bo=some [.slice 4 (AQ l) own]:=by unfold iY;rw [WZ,St.Aj]
theorem tQ {st:St} {own:AH} (h:bo≠b):(iY st bo l own).box b=st.box b:=by unfold iY;rw [WZ,St.Ai h]
theorem tR {st:St} {l':List Tk} {own U:AH}:(U.st (st.Aa bo [.slice 4 (AQ l) own]) (l'.length*4)).Aa bo [.slice 4 (AQ l') U]=iY st bo l' U:=by
 rw [W4,St.set_set];rfl
theorem ck (h:¬n.kind=1):B0 n=Bj n.kids:=by
 cases n with
 |mk a b c d e ks=>rw [B0,if_neg (show ¬a=1 from h)];rfl
theorem cm (h:n.kind=1):B0 n=[⟨n.form,n.text,n.line,n.Ch⟩]:=by
 cases n with
 |mk a b c d e ks=>rw [B0,if_pos (show a=1 from h)];rfl
theorem Ml {l:List Nd} {k:Nat} {x:Nd} (h:l[k]? =some x):Bj (l.take (k+1))=Bj (l.take k)++B0 x:=by
 rw [List.take_add_one,h,DD]
 show _++Bj [x]=_
 rw [Cc]
theorem PE {l:List Nd} {k:Nat} {x:Nd} (h:l[k]? =some x):(Bj (l.take k)).length+(B0 x).length<=(Bj l).length:=by
 have e:l=l.take (k+1)++l.drop (k+1):=(List.take_append_drop _ _).symm
 have:Bj l=Bj (l.take k)++B0 x++Bj (l.drop (k+1)):=by
  conv=>lhs;rw [e]
  rw [DD,Ml h]
 grind
section
variable {R:AB->St->Prop}
attribute [local irreducible] Go.Aw.Am
theorem iF:∀(m:Nat) {n:Nd} {st:St} {bo bw:Nat} {l:List Tk} {own:AH} {R:AB->St->Prop},n.size<=m->bo≠bw->st.box bo≠none->st.box bw=some [.func 52 [] [.ptr bo 0,.ptr bw 0]]->own.BS st->l.length+(B0 n).length<=100000000->
 (∀own':AH,own'.BS st->R (.ret (.BM [])) (iY st bo (l++B0 n) own'))->PC 52 [enc n,.ptr bo 0,.ptr bw 0] (iY st bo l own) R:=by
 intro m
 induction m with
 |zero=>intro n st bo bw l own R hm;cases n;rw [Nd.size] at hm;omega
 |succ m ih=>
  intro n st bo bw l own R hm hne hb hw hg hl h
  refine pB Tryz.func52 ?_
  by_cases hk:n.kind=1
  .rw [cm hk] at h hl
   have hn:l.length+1<=1000000000:=by simp only [List.length_singleton] at hl;omega
   repeat' ((conv=>whnf);first|(refine Br ?_;intros)|(refine Bs ?_ ?_<;>intro _)|refine Ah nY ?_|refine aU (st:=st.Aa bo [.slice 4 (AQ l) own]) (l:=l) (x:=⟨n.form,n.text,n.line,n.Ch⟩) (eJ hb hg) hn (λU ho1=>?_)|refine Ah (by rw [WZ,St.Aj]) ?_)
   all_goals exact bO rfl tR (h U (mW ho1))
  .rw [ck hk] at h hl
   repeat' ((conv=>whnf);first|(refine Br ?_;intros)|(refine Bs ?_ ?_<;>intro _)|fail)
   refine J6 (α:=Nat×AH) (λx=>[(24,.int .i64 (x.1:Nat))]) [22,23,1,2] (λx=>[]) [] (λx=>iY st bo (l++Bj (n.kids.take x.1)) x.2) (λx=>x.2.BS st/\x.1<=n.kids.length) (λx=>n.kids.length - x.1) (0,own) ⟨hg,Nat.zero_le _⟩ Yl
    (by show St.le (iY st bo (l++Bj (n.kids.take 0)) own) _;rw [List.take_zero,Bj,List.append_nil];exact St.le_refl _) ?_
   rintro ⟨k,U⟩ ⟨j1,j2⟩
   dsimp only at j1 j2
   by_cases hlt:k<n.kids.length
   .obtain ⟨x,hx⟩:∃x,n.kids[(k:Int).toNat]? =some x:=⟨_,List.getElem?_eq_getElem hlt⟩
    have hx':n.kids[k]? =some x:=hx
    have hxs:=Gf (List.mem_of_getElem? hx')
    have hle:=PE hx'
    have hll:∀k x,n.kids[k]? =some x->(l++Bj (n.kids.take k)).length+(B0 x).length<=100000000:=λk x e=>by have:=PE e;grind
    have hW:(iY st bo (l++Bj (n.kids.take k)) U).box bw=some [.func 52 [] [.ptr bo 0,.ptr bw 0]]:=by rw [tQ hne];exact hw
    repeat' ((conv=>whnf);first|(refine Br ?_;intros)|(refine Bs ?_ ?_<;>intro _)|refine Ah hW ?_|refine ih (n:=x) (l:=l++Bj (n.kids.take k)) AC hne hb hw j1 (hll k x hx') (λown2 ho2=>?_)|refine Wq (a:=(k:Int)+1) AC AC ?_)
    all_goals conv=>whnf
    all_goals exact ⟨(k+1,own2),⟨ho2,hlt⟩,Nat.sub_lt_sub_left hlt (Nat.lt_succ_self k),Yl,by
     show St.le (iY st bo (l++Bj (n.kids.take (k+1))) own2) _
     rw [Ml hx',<-List.append_assoc]
     exact St.le_refl _⟩
   .have hk2:k=n.kids.length:=AC
    repeat' ((conv=>whnf);first|(refine Br ?_;intros)|(refine Bs ?_ ?_<;>intro _)|fail)
    all_goals exact bO rfl (by rw [hk2,List.take_length]) (h U j1)
theorem mQ {own:AH}:AB.ret (.slice 4 (AQ l) .any)=(AB.ret (.slice 4 (AQ l) own)).wk:=rfl
theorem iG {st:St} {bw:Nat} {R:AB->St->Prop} (hne:bo≠bw) (hb:st.box bo=some [.slice 4 [] .full]) (hw:st.box bw=some [.func 52 [] [.ptr bo 0,.ptr bw 0]]) (hl:(B0 n).length<=100000000)
 (h:∀U:AH,U.BS st->R (.ret (.BM [])) (iY st bo (B0 n) U)):PC 52 [enc n,.ptr bo 0,.ptr bw 0] st R:=by
 have:=iF n.size (n:=n) (st:=st) (bo:=bo) (bw:=bw) (l:=[]) (own:=.full) (R:=R) (Nat.le_refl _) hne ke hw trivial ke h
 rw [show iY st bo [] .full=st from St.N7 hb] at this
 omega
theorem nC {st:St} (hl:(B0 n).length<=100000000) (h:R (.ret (.slice 4 (AQ (B0 n)) .any)) st):PC 19 [enc n] st R:=by
 refine K2 Ac [3,4] Tryz.func19 rfl Do ?_
 repeat' ((conv=>whnf);first|(refine Br ?_;intros)|(refine Bs ?_ ?_<;>intro _)|refine Gm (λ_=>?_) ?_|refine NN (λb f=>?_)|refine Ah (St.Aj ..) ?_)
 rename_i b1 f1
 have U:b1≠b:=(A5 f).1
 have hfb:st.fresh b:=(A5 (A5 f).2).2
 repeat' ((conv=>whnf);first|(refine Br ?_;intros)|(refine Bs ?_ ?_<;>intro _)|refine Gm (λ_=>?_) ?_|refine iG U (by rw [St.Ai U.symm,St.Ai U.symm,St.Aj]) (St.Aj ..) hl (λown1 ho1=>?_)|refine Ah nY ?_)
 all_goals refine EV ?_ mQ h
 all_goals exact St.le_trans (St.Ak (St.Ak (St.Ak (St.Ak (St.Ak (St.le_refl st) f1.1 _) f1.1 _) hfb.1 _) hfb.1 _) f1.1 _) (AH.BZ (eJ (by rw [St.Ai U.symm,St.Ai U.symm,St.Aj];exact λe=>by cases e) ho1))
end
end Go.Proofs.Z
namespace Go.Aw
theorem len_nil (k:0<D7->K 0):∀m,m=([]:List α).length->m<D7->K m:=λm U h=>by subst U;exact k h
end Go.Aw
namespace Go.Proofs.Z
open Go Go.Aw
section
variable {st:St} {R:AB->St->Prop}
attribute [local irreducible] Go.Aw.Am
theorem Yf {o1 o2:AH} {f:V} (h:R (.ret (.bool true)) st):PC 42 [.slice 6 [] o1,.slice 6 [] o2,f] st R:=by
 refine pB Tryz.func42 ?_
 repeat' ((conv=>whnf);first|refine len_nil (λ_=>?_)|(refine Br ?_;intros)|(refine Bs ?_ ?_<;>intro _)|fail)
 refine KX 17 [15,16] 0 (λk=>k=0) rfl Yl ?_
 intro k U
 subst U
 repeat' ((conv=>whnf);first|(refine Br ?_;intros)|(refine Bs ?_ ?_<;>intro _)|fail)
 all_goals exact fin h rfl
theorem jC (h:R (.ret (.bool true)) st):PC 17 [enc Gj,enc Gj] st R:=by
 refine pB Tryz.func17 ?_
 repeat' ((conv=>whnf);first|with_reducible refine Wt rfl ?_|with_reducible refine Wi ?_|(refine Br ?_;intros)|(refine Bs ?_ ?_<;>intro _)|refine Yf ?_)
 all_goals exact fin h rfl
theorem ZC (hn:n=Gj) (h:R (.ret (.bool true)) st):PC 17 [enc n,.agg Dy] st R:=by
 subst hn
 exact OW (args':=[enc Gj,enc Gj]) rfl (jC h)
end
section
variable {st:St} {R:AB->St->Prop}
attribute [local irreducible] Go.Aw.Am
theorem gT {deep e:Int} {A:Rd Nd} (h:BV s deep (CZ A s)=(n,s',e)) (he:¬e=0):n=Gj:=by
 unfold BV at h
 split at h
 .cases h;rfl
 .unfold CZ at h
  cases U:A.run s with
  |inl p=>rw [U] at h;cases h;rfl
  |inr p=>rw [U] at h;cases h;exact absurd rfl he
theorem gU {deep:Int} {A:Rd Nd} (h:BV s deep (CZ A s)=(n,s',0)):A.run s=.inr (n,s'):=by
 unfold BV at h
 split at h
 .cases h
 .unfold CZ at h
  cases U:A.run s with
  |inl p=>rw [U] at h;obtain ⟨⟨x,hx⟩,t⟩:=p;cases h;exact absurd rfl hx
  |inr p=>rw [U] at h;obtain ⟨a,b⟩:=p;cases h;rfl
end
theorem js (l:List UInt8):0<=(A8 l).1/\(A8 l).1<16:=by
 unfold A8 TU
 (repeat' split)<;>(dsimp only;omega)
theorem pb (k:Int):0<=JB k/\JB k<16:=by
 unfold JB
 (repeat' split)<;>decide
theorem pO {s:List UInt8} {n:Nat} (h:0<=k/\k<16):0<=(Fc s n k).1/\(Fc s n k).1<16:=by
 fun_induction Fc s n k with
 |case1 n k hn U ih=>exact ih (pb _)
 |case2 n k hn U=>exact h
 |case3 n k hn=>exact h
theorem tI {s:List UInt8} {p:Nat} (h:(BA s p).2.2=0):0<(BA s p).1/\(BA s p).1<16:=by
 unfold BA at h |-
 split
 .rename_i h1
  show 0<(Gp s p).1/\(Gp s p).1<16
  unfold Gp at h1 |-
  split
  .rename_i U;rw [if_pos U] at h1;exact absurd rfl h1
  .rename_i U
   show 0<(CN (s.drop p)).1/\(CN (s.drop p)).1<16
   unfold CN at U |-
   split
   .dsimp only;omega
   .rename_i h3
    rw [if_neg h3] at U
    split
    .rename_i h4;rw [if_pos h4] at U;exact absurd rfl U
    .show 0<(if _ then (12:Int) else 11)/\(if _ then (12:Int) else 11)<16
     split<;>exact ⟨Do,Do⟩
 .rename_i h1
  rw [if_neg h1] at h
  split
  .rename_i U
   rw [if_pos U] at h
   split
   .rename_i h3;rw [if_pos h3] at h;exact absurd h (show ¬(70:Int)=0 by decide)
   .rename_i h3
    show 0<(C1 s p).1/\(C1 s p).1<16
    unfold C1 at h3 |-
    split
    .rename_i h4;rw [if_pos h4] at h3;exact absurd rfl h3
    .rename_i h4
     have:=pO (s:=s.drop p) (n:=(A8 (s.drop p)).2) (js (s.drop p))
     show 0<(CB (s.drop p)).1/\(CB (s.drop p)).1<16
     unfold CB at h4 |-
     omega
  .rename_i U
   rw [if_neg U] at h
   have hq:(BD s p).1=0\/(BD s p).1=14\/(BD s p).1=13:=by
    unfold BD
    (repeat' split)<;>simp
   omega
theorem tF {s:List UInt8} {p:Nat} {x y:Lx} (h:∀t ∈ x.Ar,0<t.kind/\t.kind<16) (e:DA s p x=.inr y):∀t ∈ y.Ar,0<t.kind/\t.kind<16:=by
 fun_induction DA s p x with
 |case1 p x U h1=>cases e
 |case2 p x U h1 h2 h3 ih=>exact ih h e
 |case3 p x U h1 h2 h3=>injection e with e;subst e;exact h
 |case4 p x U h1 h2 h3=>cases e
 |case5 p x U h1 h2 h3 h4 ih=>
  refine ih (λt ht=>?_) e
  rcases List.mem_append.1 (show t ∈ x.Ar++[_] from ht) with ht|ht
  .exact h t ht
  .rw [List.mem_singleton.1 ht];exact tI AC
 |case6 p x U h1 h2 h3 h4=>injection e with e;subst e;exact h
 |case7 p x U=>injection e with e;subst e;exact h
theorem tC {s:List UInt8} {y:Lx} (e:Ew s=.inr y):∀t ∈ y.Ar,0<t.kind/\t.kind<16:=by
 unfold Ew at e
 split at e
 .cases e
 .split at e
  .cases e
  .split at e
   .cases e
   .exact tF (λt U=>by cases U) e
inductive rj:Nd->Nd->Prop where
 |mk {k f:Int} {t:List UInt8} {a b a' b':Int} {l m:List Nd}:Bf rj l m->rj (.mk k f t a b l) (.mk k f t a' b' m)
theorem Bf.at {T:Nd->Nd->Prop} {l m:List Nd} (h:Bf T l m):∀{i:Nat} {x y:Nd},l[i]? =some x->m[i]? =some y->T x y:=by
 induction h with
 |nil=>intro i x y h;simp at h
 |cons h1 _ ih=>
  intro i x y U hy
  cases i with
  |zero=>simp at U hy;subst U;subst hy;exact h1
  |succ i=>rw [List.getElem?_cons_succ] at U hy;exact ih U hy
mutual
theorem rj.pt:∀n:Nd,rj n n
 | .mk k f t a b l=>.mk (Bf.pt l)
theorem Bf.pt:∀l:List Nd,Bf rj l l
 |[]=>.nil
 |n::r=>.cons (rj.pt n) (Bf.pt r)
end
section
variable {st:St} {R:AB->St->Prop}
attribute [local irreducible] Go.Aw.Am
theorem mB {f:FuncId} {l l':List Nd} {o1 o2:AH} (hl:l.length=l'.length) (hf:∀(i:Nat) x y (st:St) (R:AB->St->Prop),l[i]? =some x->l'[i]? =some y->R (.ret (.bool true)) st->PC f [enc x,enc y] st R) (h:R (.ret (.bool true)) st):
 PC 42 [.slice 6 (CR l) o1,.slice 6 (CR l') o2,.func f [] []] st R:=by
 refine pB Tryz.func42 ?_
 repeat' ((conv=>whnf);first|(refine Br ?_;intros)|(refine Bs ?_ ?_<;>intro _)|fail)
 refine KX 17 [15,16,1,2] l.length (λk=>k<=l.length) (Nat.zero_le _) Yl ?_
 intro k hk
 by_cases U:k<l.length
 .obtain ⟨x,hx⟩:∃x,l[(k:Int).toNat]? =some x:=⟨_,List.getElem?_eq_getElem U⟩
  obtain ⟨y,hy⟩:∃y,l'[(k:Int).toNat]? =some y:=⟨_,List.getElem?_eq_getElem (show k<l'.length by omega)⟩
  repeat' ((conv=>whnf);first|(refine Br ?_;intros)|(refine Bs ?_ ?_<;>intro _)|refine hf k x y _ _ hx hy ?_|refine Wq (a:=(k:Int)+1) AC AC ?_)
  all_goals conv=>whnf
  all_goals exact ⟨k+1,U,Nat.sub_lt_sub_left U (Nat.lt_succ_self k),Yl,St.le_refl _⟩
 .skip
  repeat' ((conv=>whnf);first|(refine Br ?_;intros)|(refine Bs ?_ ?_<;>intro _)|fail)
  all_goals exact fin h rfl
theorem pN:∀(m:Nat) {n U:Nd} {st:St} {R:AB->St->Prop},n.size<=m->rj n U->R (.ret (.bool true)) st->PC 17 [enc n,enc U] st R:=by
 intro m
 induction m with
 |zero=>intro n U st R hm;cases n;rw [Nd.size] at hm;omega
 |succ m ih=>
  intro n U st R hm ha h
  cases ha with
  |@mk k f t a b a' b' l l' hl=>
   refine pB Tryz.func17 ?_
   repeat' ((conv=>whnf);first|with_reducible refine Wt rfl ?_|with_reducible refine Wi ?_|(refine Br ?_;intros)|(refine Bs ?_ ?_<;>intro _)|refine mB hl.len (λi x y st R hx hy h=>ih (by have:=Gf (n:=.mk k f t a b l) (List.mem_of_getElem? hx)<;>omega) (hl.at hx hy) h) ?_)
   all_goals exact fin h rfl
end
def KC (l:List Tk):List Tk:=l.filter λt=>PI t.kind t.text
theorem T7 (h:∀t ∈ l,t.kind≠16/\t.kind≠17):KC l=BG l:=by
 unfold KC BG
 refine List.filter_congr λt ht=>?_
 obtain ⟨U,h2⟩:=h t ht
 unfold gB
 rw [show (t.kind==16)=false from beq_eq_false_iff_ne.2 U,show (t.kind==17)=false from beq_eq_false_iff_ne.2 h2];rfl
theorem n8 (p:Option Tk) (t:Tk):FQ p t=0\/FQ p t=16\/FQ p t=17:=by
 unfold FQ
 split
 .split<;>simp
 .split
  .simp
  .split<;>simp
theorem od {m:Int} {t:Tk} (hm:m=0\/m=16\/m=17):BG (markT m t)=BG [t]/\(t.kind<16->∀u ∈ markT m t,u.kind<18):=by
 unfold markT
 split
 .exact ⟨rfl,λh u U=>by rw [List.mem_singleton.1 U];omega⟩
 .rename_i h0
  refine ⟨?_,λh u U=>?_⟩
  .show BG ([⟨m,[],t.line,t.Ch⟩]++[t])=_
   have:=L5 (t:=⟨m,[],t.line,t.Ch⟩) UV
   unfold BG at *
   rw [List.filter_append,this];rfl
  .rcases List.mem_cons.1 U with rfl|U
   .dsimp only;omega
   .rw [List.mem_singleton.1 U];omega
theorem Y0:∀{l:List Tk} {p:Option Tk},(∀t ∈ l,t.kind<16)->BG (Cj p l)=BG l/\∀u ∈ Cj p l,u.kind<18
 |[],_,_=>⟨rfl,λu U=>by cases U⟩
 |t::r,p,h=>by
  obtain ⟨h1,h2⟩:=od (t:=t) (n8 p t)
  obtain ⟨k1,k2⟩:=Y0 (l:=r) (p:=some t) λu U=>h u (List.mem_cons_of_mem _ U)
  rw [Cj]
  refine ⟨?_,λu U=>(List.mem_append.1 U).elim (h2 (h t List.mem_cons_self) u) (k2 u)⟩
  have e:BG (markT (FQ p t) t++Cj (some t) r)=BG (markT (FQ p t) t)++BG (Cj (some t) r):=by unfold BG;rw [List.filter_append]
  rw [e,h1,k1]
  unfold BG
  rw [<-List.filter_append];rfl
theorem n7 (h:∀t ∈ l,t.kind<16):BG (BC l)=BG l/\∀u ∈ BC l,u.kind<18:=by
 obtain ⟨h1,h2⟩:=Y0 (p:=none) h
 have hE:BG (G8 l)=[]/\∀u ∈ G8 l,u.kind<18:=by
  unfold G8
  split
  .exact ⟨rfl,λu U=>by rw [List.mem_singleton.1 U];decide⟩
  .split
   .exact ⟨rfl,λu U=>by rw [List.mem_singleton.1 U];decide⟩
   .exact ⟨rfl,λu U=>by cases U⟩
 unfold BC
 refine ⟨?_,λu U=>(List.mem_append.1 U).elim (h2 u) (hE.2 u)⟩
 have e:BG (Cj none l++G8 l)=BG (Cj none l)++BG (G8 l):=by unfold BG;rw [List.filter_append]
 rw [e,h1,hE.1,List.append_nil]
theorem Uu:∀(n:Nat) (s:Ae),(∀t ∈ s.Ar,t.kind<18)->0<=s.pos->s.pos<=s.Ar.length->n=s.Ar.length - s.pos.toNat->(B3 n s).1.kind=21->(B3 n s).2.2=0/\(B3 n s).2.1.pos=s.Ar.length
 |n,s,hN,h0,h1,hn,h=>by
  have U:∀{x:Tk×Ae×Int},x=DK s->s.Ar.length<=s.pos.toNat->x.1.kind=21->x.2.2=0/\x.2.1.pos=s.Ar.length:=λ{x} e hl hx=>by
   subst e
   unfold DK at hx |-
   split
   .exact ⟨rfl,by show s.pos=_;omega⟩
   .rename_i e1
    rw [if_neg e1] at hx
    split at hx<;>exact absurd hx (by dsimp only [Tz];decide)
  cases n with
  |zero=>exact U rfl AC h
  |succ n=>
   cases ht:s.Ar[s.pos.toNat]? with
   |none=>exact U (by rw [B3,ht]) (List.getElem?_eq_none_iff.1 ht) h
   |some t=>
    have hk:=hN t (List.mem_of_getElem? ht)
    have hl:=(List.getElem?_eq_some_iff.1 ht).1
    rw [B3,ht] at h |-
    dsimp only at h |-
    split
    .rename_i e1;rw [if_pos e1] at h;unfold Eb Ti at h;split at h;exact absurd h (by dsimp only [Tz];decide);split at h<;>exact absurd h (by dsimp only [Tz];decide)
    .rename_i e1
     rw [if_neg e1] at h
     split
     .rename_i e2
      rw [if_pos e2] at h
      split
      .rename_i hz
       rw [if_pos hz,DT hz] at h
       rw [DT hz]
       exact Uu n {s with pos:=s.pos+1,wait:=0} hN (by show 0<=s.pos+1;omega) (by show s.pos+1<=(s.Ar.length:Int);omega) (by show n=s.Ar.length - (s.pos+1).toNat;omega) h
      .rename_i hz
       rw [if_neg hz] at h
       unfold Da Ti at h
       split at h
       .exact absurd h (by dsimp only [Tz];decide)
       .split at h<;>exact absurd h (by dsimp only [Tz];decide)
     .rename_i e2
      rw [if_neg e2] at h
      unfold BP at h
      exfalso
      split at h
      .dsimp only at h;omega
      .split at h
       .split at h
        .exact absurd h (by dsimp only [Tz];decide)
        .dsimp only at h;omega
       .dsimp only at h;omega
theorem jh (hN:∀t ∈ s.Ar,t.kind<18) (h:(Ab s).1.kind=21):(Ab s).2.2=0/\(Ab s).2.1.pos=s.Ar.length:=by
 unfold Ab at h |-
 split
 .rename_i U
  rw [if_pos U] at h
  obtain ⟨h0,h1⟩:=V7 U
  exact Uu _ s hN h0 h1 rfl h
 .rename_i U;rw [if_neg U] at h;exact absurd h (by dsimp only [Tz];decide)
section
variable {s:Ae} {Q:List Nd->Ae->Prop}
theorem iO (k:∀l s1,Lf l s s1->Q l s1):Rd.wp Fy s Q DP:=by
 have hi:=YR (o:=false)
 simp only [Fy,Rd.Ag,Rd.Ax,Rd.wp_seq,Rd.wp_ret]
 repeat' (first
  |exact trivial
  |assumption
  |refine Bg (λe=>?_) (λe=>?_)
  |refine Fs (AO ‹_› Do Do) (λhn=>?_)
  |refine Fs (Bz ‹_› Do Do) (λhn=>?_)
  |refine Fs ‹_› (λhn=>?_)
  |refine TM Do Do (λn s1 hn=>?_)
  |refine R7 Do (λn s1 hn=>?_)
  |refine OS ?_
  |refine OR ‹_› (λn s1 hn=>?_)
  |exact k _ _ (.nil _)
  |refine k _ _ ?_
  |refine Lf.node Do ?_
  |apply Lf.app
  |apply Lf.CP)
theorem Sa (d:Nat):Gk (CF d):=λs=>by
 simp only [CF,QD,Rd.wp_seq,Rd.Ag,Rd.Ax,Rd.wp_ret]
 exact iO λl s1 U=>OR (ct d) λb s2 h1=>Bg (λ_=>Lf.node Do (.app U h1)) λ_=>trivial
end
theorem TO (hl:∀t ∈ l,0<t.kind/\t.kind<16) (h:(CF d).run ⟨BC l,0,[],0⟩=.inr (n,s')) (hk:(Ab s').1.kind=21):KC (B0 n)=KC l:=by
 obtain ⟨m1,m2⟩:=n7 λt ht=>(hl t ht).2
 have U:=Sa d ⟨BC l,0,[],0⟩
 unfold Rd.wp at U
 rw [h] at U
 replace U:Lf [n] ⟨BC l,0,[],0⟩ s':=U
 have hp:=U.2.1 m2
 rw [Cc] at hp
 have hN:∀t ∈ s'.Ar,t.kind<18:=by rw [hp.tk];exact m2
 obtain ⟨e1,e2⟩:=jh hN hk
 have hq:=hp.trans (QF hN e1)
 rw [show rm (Ab s').1=[] by unfold rm;rw [hk];rfl,List.append_nil] at hq
 have he:=hq.eq
 have hpos:(Ab s').2.1.pos=(BC l).length:=by rw [e2,hp.tk]
 rw [hpos] at he
 have hc:P8 (BC l) 0 ((BC l).length:Nat)=BC l:=by unfold P8;rw [Int.toNat_natCast,List.take_length];rfl
 replace he:BG (B0 n)=BG (P8 (BC l) 0 ((BC l).length:Nat)):=he
 rw [hc,m1] at he
 have hn:=U.2.2
 rw [Cc] at hn
 rw [T7 hn,he,T7]
 intro t ht
 have:=hl t ht
 omega
def xL:List UInt8:=[109,111,100,117,108,101,32,77,32,40,102,44,32,109,111,100,117,108,101,32,75,41,32,119,104,101,114,101,32,45,45,32,99,10,102,32,61,32,49]
def xM:List UInt8:=[102,32,61,32,41]
theorem zx:(match CO xL with|(n,c,l,k,e)=>n.kind==53&&n.kids.length==5&&c.length==1&&l==0&&k==0&&e==0)=true:=EQ
theorem zy:(match CO xM with|(n,c,l,k,e)=>l==1&&k==5&&e==110)=true:=EQ
theorem zq:∃n c,CO xL=(n,c,0,0,0)/\n.kind=53/\n.kids.length=5/\c.length=1:=by
 have h:=zx
 obtain ⟨n,c,l,k,e,U⟩:∃n c l k e,CO xL=(n,c,l,k,e):=⟨_,_,_,_,_,rfl⟩
 rw [U] at h
 simp only [Bool.and_eq_true,beq_iff_eq] at h
 obtain ⟨⟨⟨⟨⟨h1,h2⟩,h3⟩,rfl⟩,rfl⟩,rfl⟩:=h
 exact ⟨n,c,U,h1,h2,h3⟩
theorem zt:∃n c,CO xM=(n,c,1,5,110):=by
 have h:=zy
 obtain ⟨n,c,l,k,e,U⟩:∃n c l k e,CO xM=(n,c,l,k,e):=⟨_,_,_,_,_,rfl⟩
 rw [U] at h
 simp only [Bool.and_eq_true,beq_iff_eq] at h
 obtain ⟨⟨rfl,rfl⟩,rfl⟩:=h
 exact ⟨n,c,U⟩
theorem UA {s:List UInt8} {c:List Nt} {l:Int} (h:CO s=(n,c,l,k,0)):∃x s',Ew s=.inr x/\(CF 100).run ⟨BC x.Ar,0,[],0⟩=.inr (n,s')/\c=x.notes:=by
 unfold CO at h
 split at h
 .rename_i q hq
  simp only [Prod.mk.injEq] at h
  exact absurd h.2.2.2.2 (YL (i:=q.1) (e:=q.2) hq)
 .rename_i x hx
  obtain ⟨m,t,e,hc⟩:∃m t e,BV ⟨BC x.Ar,0,[],0⟩ 100 (CZ (CF 100) ⟨BC x.Ar,0,[],0⟩)=(m,t,e):=⟨_,_,_,rfl⟩
  rw [hc] at h
  unfold ja at h
  by_cases U:e=0
  .subst U
   rw [if_pos rfl] at h
   simp only [Prod.mk.injEq] at h
   obtain ⟨rfl,rfl,_⟩:=h
   exact ⟨x,t,hx,gU hc,rfl⟩
  .rw [if_neg U] at h
   split at h<;>(simp only [Prod.mk.injEq] at h;exact absurd h.2.2.2.2 U)
theorem jq {s:List UInt8} {c:List Nt} {l e:Int} (h:CO s=(n,c,l,k,e)) (he:¬e=0):n=Gj:=by
 unfold CO at h
 split at h
 .simp only [Prod.mk.injEq] at h;exact h.1.symm
 .rename_i x hx
  obtain ⟨m,t,e',hc⟩:∃m t e,BV ⟨BC x.Ar,0,[],0⟩ 100 (CZ (CF 100) ⟨BC x.Ar,0,[],0⟩)=(m,t,e):=⟨_,_,_,rfl⟩
  rw [hc] at h
  unfold ja at h
  by_cases U:e'=0
  .rw [if_pos U] at h
   simp only [Prod.mk.injEq] at h
   exact absurd h.2.2.2.2.symm he
  .rw [if_neg U] at h
   have:=gT hc U
   split at h<;>(simp only [Prod.mk.injEq] at h;rw [<-h.1];exact this)
theorem oY {s:List UInt8} {x:Lx} (U:Ew s=.inr x) (h:(CF 100).run ⟨BC x.Ar,0,[],0⟩=.inr (n,t)):CO s=(n,x.notes,0,0,0):=by
 unfold CO
 rw [U]
 dsimp only
 have:BV ⟨BC x.Ar,0,[],0⟩ 100 (CZ (CF 100) ⟨BC x.Ar,0,[],0⟩)=(n,t,0):=by
  unfold BV CZ
  rw [if_neg Do,h]
 rw [this];rfl
theorem X3 {k:Nat} {t:Tk} (h:l[k]? =some t):KC (l.take (k+1))=KC (l.take k)++(if PI t.kind t.text=true then [t] else []):=by
 rw [List.take_add_one,h]
 unfold KC
 rw [List.filter_append]
 congr 1
 simp only [Option.toList_some,List.filter_cons,List.filter_nil]
theorem ei {k:Nat}:(KC (l.take k)).length<=l.length:=by
 unfold KC
 exact Nat.le_trans (List.length_filter_le _ _) NE
section
variable {st:St} {R:AB->St->Prop}
attribute [local irreducible] Go.Aw.Am
theorem Qy {l:List Nt} (k:l.length<4611686018427387904->K l.length):∀m,m=(Fm l).length->m<D7->K m:=λm U h=>by
 rw [show (Fm l).length=l.length from List.length_map ..] at U;subst U;exact k h
theorem IF {s:List UInt8} {c:List Nt} {l e:Int} (U:s.length<=16000) (hp:CO s=(n,c,l,k,e)) (h:∀w st',st.le st'->R (.ret (.BM [enc n,.slice 5 (Fm c) w,.int .i64 l,.int .i64 k,.int .i64 e])) st'):PC 16 [.str s] st R:=ur U λw st' hle=>by
 rw [hp];exact h w st' hle
theorem H4 (h:∀st',st.le st'->R (.ret (.bool true)) st'):PC 15 [] st R:=by
 refine pB Tryz.func15 ?_
 obtain ⟨n,c,p1,a1,a2,a3⟩:=zq
 obtain ⟨m,d,p2⟩:=zt
 have hk:(n.kids.length:Int)=5:=by rw [a2];rfl
 have hc:(c.length:Int)=1:=by rw [a3];rfl
 repeat' ((conv=>whnf);first|(refine Br ?_;intros)|(refine Bs ?_ ?_<;>intro _)|refine IF (Nat.le_of_ble_eq_true rfl) p1 (λw1 st1 U=>?_)|refine IF (Nat.le_of_ble_eq_true rfl) p2 (λw2 st2 hle2=>?_)|refine Qy (λ_=>?_))
 all_goals exact fin (h _ (St.le_trans U hle2)) rfl
theorem Sf {s:List UInt8} (h:∀st',R (.ret (.bool true)) st'):PC 4 [.str s] st R:=by
 refine pB Tryz.func4 ?_
 by_cases hl:(s.length:Int)>4000
 .skip
  repeat' ((conv=>whnf);first|(refine Br ?_;intros)|(refine Bs ?_ ?_<;>intro _)|refine Gm (λ_=>?_) ?_|refine WJ (λ_=>?_)|refine H4 (λst1 hle1=>?_))
  all_goals exact fin (h _) rfl
 .have hl2:s.length<=4000:=AC
  have hl3:s.length<=16000:=AC
  obtain ⟨n,c,l,k,e,hp⟩:∃n c l k e,CO s=(n,c,l,k,e):=⟨_,_,_,_,_,rfl⟩
  by_cases he:e=0
  .subst he
   obtain ⟨x,s',hx,hr,rfl⟩:=UA hp
   have hkd:=tC hx
   have hlen:=(R5 hx).1
   have hmk:=Uo x.Ar
   obtain ⟨_,_,_,_,_,hend,_⟩:=Sg hr
   have hcc:=TO hkd hr hend
   have hL:=Sa 100 ⟨BC x.Ar,0,[],0⟩
   unfold Rd.wp at hL
   rw [hr] at hL
   have hL1:Lf [n] ⟨BC x.Ar,0,[],0⟩ s':=hL
   have hll:(B0 n).length<=100000000:=by
    have h1:=hL1.1
    rw [Cc] at h1
    have:mu ⟨BC x.Ar,0,[],0⟩<=100000:=by unfold mu;simp only [List.length_nil];omega
    omega
   have hlv:∀{st:St} {K:AB->St->Prop},K (.ret (.slice 4 (AQ (B0 n)) .any)) st->PC 19 [enc n] st K:=λh=>nC hll h
   generalize B0 n=L at hcc hlv hll
   clear hL hL1 hr hend hkd hmk
   repeat' ((conv=>whnf);first|(refine Br ?_;intros)|(refine Bs ?_ ?_<;>intro _)|refine Gm (λ_=>?_) ?_|refine WJ (λ_=>?_)|refine H4 (λst1 hle1=>?_)|refine IF hl3 hp (λw1 st2 hle2=>?_)|refine vS hx (λw2 w3 st3 hle3=>?_)|refine hlv ?_)
   refine J6 (α:=Nat×AH) (λy=>[(14,.slice 4 (AQ (KC (x.Ar.take y.1))) y.2),(16,.int .i64 (y.1:Nat))]) [3,9,12,13,15] (λy=>[]) [] (λy=>y.2.st st3 ((KC (x.Ar.take y.1)).length*4)) (λy=>y.2.BS st3/\y.1<=x.Ar.length) (λy=>x.Ar.length - y.1) (0,.full) ⟨trivial,Nat.zero_le _⟩ Yl (by rw [List.take_zero];exact St.le_refl _) ?_
   rintro ⟨k,w⟩ ⟨j1,j2⟩
   dsimp only at j1 j2
   by_cases U:k<x.Ar.length
   .obtain ⟨t,ht⟩:∃t,x.Ar[(k:Int).toNat]? =some t:=⟨_,List.getElem?_eq_getElem U⟩
    have hs:=X3 (show x.Ar[k]? =some t from ht)
    have hn:(KC (x.Ar.take k)).length+1<=1000000000:=by have:=ei (l:=x.Ar) (k:=k);omega
    cases n3:PI t.kind t.text with
    |true=>
     have hcn:∀{st:St} {R:AB->St->Prop},R (.ret (.bool true)) st->PC 20 [.agg [.int .i64 t.kind,.str t.text,.int .i64 t.line,.int .i64 t.Ch]] st R:=λh=>LO (by rw [n3];exact h)
     rw [n3,if_pos rfl] at hs
     repeat' ((conv=>whnf);first|(refine Br ?_;intros)|(refine Bs ?_ ?_<;>intro _)|refine Gm (λ_=>?_) ?_|refine hcn ?_|refine aU (l:=KC (x.Ar.take k)) (x:=t) j1 hn (λown1 ho1=>?_)|refine Wq (a:=(k:Int)+1) AC AC ?_)
     all_goals conv=>whnf
     all_goals exact ⟨(k+1,own1),⟨ho1,U⟩,Nat.sub_lt_sub_left U (Nat.lt_succ_self k),by dsimp only;rw [hs];exact Yl,by dsimp only;rw [hs];exact St.le_refl _⟩
    |false=>
     have hcn:∀{st:St} {R:AB->St->Prop},R (.ret (.bool false)) st->PC 20 [.agg [.int .i64 t.kind,.str t.text,.int .i64 t.line,.int .i64 t.Ch]] st R:=λh=>LO (by rw [n3];exact h)
     rw [n3,if_neg Do,List.append_nil] at hs
     repeat' ((conv=>whnf);first|(refine Br ?_;intros)|(refine Bs ?_ ?_<;>intro _)|refine Gm (λ_=>?_) ?_|refine hcn ?_|refine Wq (a:=(k:Int)+1) AC AC ?_)
     all_goals conv=>whnf
     all_goals exact ⟨(k+1,w),⟨j1,U⟩,Nat.sub_lt_sub_left U (Nat.lt_succ_self k),by dsimp only;rw [hs];exact Yl,by dsimp only;rw [hs];exact St.le_refl _⟩
   .have hk2:k=x.Ar.length:=AC
    subst hk2
    rw [List.take_length,<-hcc]
    generalize hst4:w.st st3 ((KC L).length*4)=st4
    repeat' ((conv=>whnf);first|(refine Br ?_;intros)|(refine Bs ?_ ?_<;>intro _)|refine Gm (λ_=>?_) ?_|fail)
    refine J6 (α:=Nat×AH) (λy=>[(15,.slice 4 (AQ (KC (L.take y.1))) y.2),(17,.int .i64 (y.1:Nat))]) [3,12,13,14] (λy=>[]) [] (λy=>y.2.st st4 ((KC (L.take y.1)).length*4)) (λy=>y.2.BS st4/\y.1<=L.length) (λy=>L.length - y.1) (0,.full) ⟨trivial,Nat.zero_le _⟩ Yl (by rw [List.take_zero];exact St.le_refl _) ?_
    rintro ⟨k,w'⟩ ⟨j3,j4⟩
    dsimp only at j3 j4
    by_cases U:k<L.length
    .obtain ⟨t,ht⟩:∃t,L[(k:Int).toNat]? =some t:=⟨_,List.getElem?_eq_getElem U⟩
     have hs:=X3 (show L[k]? =some t from ht)
     have hn:(KC (L.take k)).length+1<=1000000000:=by have:=ei (l:=L) (k:=k);omega
     cases n3:PI t.kind t.text with
     |true=>
      have hcn:∀{st:St} {R:AB->St->Prop},R (.ret (.bool true)) st->PC 20 [.agg [.int .i64 t.kind,.str t.text,.int .i64 t.line,.int .i64 t.Ch]] st R:=λh=>LO (by rw [n3];exact h)
      rw [n3,if_pos rfl] at hs
      repeat' ((conv=>whnf);first|(refine Br ?_;intros)|(refine Bs ?_ ?_<;>intro _)|refine Gm (λ_=>?_) ?_|refine hcn ?_|refine aU (l:=KC (L.take k)) (x:=t) j3 hn (λown1 ho1=>?_)|refine Wq (a:=(k:Int)+1) AC AC ?_)
      all_goals conv=>whnf
      all_goals exact ⟨(k+1,own1),⟨ho1,U⟩,Nat.sub_lt_sub_left U (Nat.lt_succ_self k),by dsimp only;rw [hs];exact Yl,by dsimp only;rw [hs];exact St.le_refl _⟩
     |false=>
      have hcn:∀{st:St} {R:AB->St->Prop},R (.ret (.bool false)) st->PC 20 [.agg [.int .i64 t.kind,.str t.text,.int .i64 t.line,.int .i64 t.Ch]] st R:=λh=>LO (by rw [n3];exact h)
      rw [n3,if_neg Do,List.append_nil] at hs
      repeat' ((conv=>whnf);first|(refine Br ?_;intros)|(refine Bs ?_ ?_<;>intro _)|refine Gm (λ_=>?_) ?_|refine hcn ?_|refine Wq (a:=(k:Int)+1) AC AC ?_)
      all_goals conv=>whnf
      all_goals exact ⟨(k+1,w'),⟨j3,U⟩,Nat.sub_lt_sub_left U (Nat.lt_succ_self k),by dsimp only;rw [hs];exact Yl,by dsimp only;rw [hs];exact St.le_refl _⟩
    .have hk2:k=L.length:=AC
     subst hk2
     rw [List.take_length]
     repeat' ((conv=>whnf);first|(refine Br ?_;intros)|(refine Bs ?_ ?_<;>intro _)|refine Gm (λ_=>?_) ?_|refine da ?_)
     all_goals exact fin (h _) rfl
  .have hn:n=Gj:=jq hp he
   repeat' ((conv=>whnf);first|(refine Br ?_;intros)|(refine Bs ?_ ?_<;>intro _)|refine Gm (λ_=>?_) ?_|refine WJ (λ_=>?_)|refine H4 (λst1 hle1=>?_)|refine IF hl3 hp (λw1 st2 hle2=>?_)|refine ZC hn ?_)
   all_goals exact fin (h _) rfl
end
mutual
theorem gy:∀a b:Nd,Bv a=Bv b->rj a b
 | .mk k f t x y l,.mk k' f' t' x' y' l',h=>by
   rw [Bv,Bv] at h
   injection h with U h2 h3 _ _ h4
   subst U;subst h2;subst h3
   exact .mk (aE l l' h4)
theorem aE:∀a b:List Nd,IL a=IL b->Bf rj a b
 |[],[],_=>.nil
 |[],_::_,h=>by rw [IL,IL] at h;cases h
 |_::_,[],h=>by rw [IL,IL] at h;cases h
 |a::l,b::m,h=>by
  rw [IL,IL] at h
  injection h with U h2
  exact .cons (gy a b U) (aE l m h2)
end
theorem bU {s:List UInt8} {x:Lx} {s1:Ae} (hl:s.length<=16000000) (hx:Ew s=.inr x) (hr:(CF 100).run ⟨BC x.Ar,0,[],0⟩=.inr (n,s1)) (hk:n.kids.length=1):
 ∃k1 k2 k3 b U,n.kids=[b]/\CO (Qa++s)=(As 53 [k1,k2,k3,U],x.notes.map (yK 3),0,0,0)/\rj b U:=by
 obtain ⟨y,hy,H⟩:=tB hl hx
 obtain ⟨b,U,s2,e1,e2,e3⟩:=jb (λt ht=>(YM hx t ht).2.1) hr hk
 rw [<-H.tk] at e2
 have:=oY hy e2
 rw [H.nt] at this
 exact ⟨_,_,_,b,U,e1,this,gy b U e3⟩
section
variable {st:St} {R:AB->St->Prop}
attribute [local irreducible] Go.Aw.Am
theorem Uz {l:List Nt} {i:Int} {x:Nt} {K:List V->Prop} (h:l[i.toNat]? =some x) (U:0<=i) (k:K x.cells):0<=i/\∃e,(Fm l)[i.toNat]? =some e/\K e:=
 ⟨U,x.cells,by simp [Fm,h],k⟩
theorem Qd {s:List UInt8} (h:∀st',R (.ret (.bool true)) st'):PC 3 [.str s] st R:=by
 refine pB Tryz.func3 ?_
 by_cases hl:(s.length:Int)>4000
 .skip
  repeat' ((conv=>whnf);first|exact CH|(refine Br ?_;intros)|(refine CI ?_ ?_ ?_;rotate_left)|(refine Bs ?_ ?_<;>intro _)|refine WJ (λ_=>?_)|refine H4 (λst1 U=>?_)|with_reducible refine WF ?_)
  all_goals exact fin (h _) rfl
 .have hl3:s.length<=16000:=AC
  obtain ⟨n,c,l,k,e,hp⟩:∃n c l k e,CO s=(n,c,l,k,e):=⟨_,_,_,_,_,rfl⟩
  by_cases he:e=0
  .subst he
   by_cases hk:(n.kids.length:Int)=1
   .obtain ⟨x,s',hx,hr,rfl⟩:=UA hp
    obtain ⟨k1,k2,k3,b,b',hb,hp2,hab⟩:=bU AC hx hr AC
    have hgap:∀a ∈ x.notes,0<=a.DL/\a.DL<=5000:=λa ha=>by
     obtain ⟨q,H⟩:=iJ hx
     have h1:=(H.np a ha).2
     have h2:=H.g
     have h3:=(R5 hx).1
     omega
    have hlen:(Qa++s).length<=16000:=by rw [List.length_append];show 15+s.length<=_;omega
    have hcat:Qa.length+s.length<D7:=by show 15+s.length<4611686018427387904;omega
    have hnl:((x.notes.map (yK 3)).length:Int)=(x.notes.length:Int):=by rw [List.length_map]
    have hb0:n.kids[(0:Int).toNat]? =some b:=by rw [hb];rfl
    have hb3:[k1,k2,k3,b'][(3:Int).toNat]? =some b':=rfl
    repeat' ((conv=>whnf);first|refine nD (es:=CR [k1,k2,k3,b']) (n:=4) rfl ?_|exact CH|(refine Br ?_;intros)|(refine CI ?_ ?_ ?_;rotate_left)|(refine Bs ?_ ?_<;>intro _)|refine WJ (λ_=>?_)|refine Qy (λ_=>?_)|refine H4 (λst1 U=>?_)|refine IF hl3 hp (λw1 st2 hle2=>?_)|refine ⟨hcat,?_⟩|refine IF hlen hp2 (λw2 st3 hle3=>?_)|with_reducible refine WF ?_)
    refine J6 (α:=Nat) (λi=>[(14,.int .i64 (i:Nat))]) [3,4,5,9,10] (λ_=>[]) [0,1] (λ_=>st3) (λi=>i<=x.notes.length) (λi=>x.notes.length - i) 0 (Nat.zero_le _) Yl (St.le_refl _) ?_
    rintro i j1
    by_cases hlt:i<x.notes.length
    .obtain ⟨a,ha⟩:∃a,x.notes[(i:Int).toNat]? =some a:=⟨_,List.getElem?_eq_getElem hlt⟩
     have hd:(x.notes.map (yK 3))[(i:Int).toNat]? =some (yK 3 a):=by rw [List.getElem?_map,ha];rfl
     have hg:=hgap a (List.mem_of_getElem? ha)
     repeat' ((conv=>whnf);first|exact CH|(refine Br ?_;intros)|(refine CI ?_ ?_ ?_;rotate_left)|(refine Bs ?_ ?_<;>intro _)|refine Qy (λ_=>?_)|refine Uz ha AC ?_|refine Uz hd AC ?_|refine Wq (a:=a.DL+3) AC AC ?_|refine Wq (a:=(i:Int)+1) AC AC ?_|with_reducible refine WF ?_)
     all_goals conv=>whnf
     all_goals first|exact ⟨i+1,hlt,Nat.sub_lt_sub_left hlt (Nat.lt_succ_self i),Yl,St.le_refl _⟩|(exfalso;rename_i e;first|exact e rfl|exact absurd e (by simp [yK]))
    .skip
     repeat' ((conv=>whnf);first|exact CH|(refine Br ?_;intros)|(refine CI ?_ ?_ ?_;rotate_left)|(refine Bs ?_ ?_<;>intro _)|refine Qy (λ_=>?_)|refine Wm hb0 AC ?_|refine Wm (ks:=[k1,k2,k3,b']) hb3 AC ?_|refine pN _ (Nat.le_refl _) hab ?_|refine Af [(0,true),(1,true),(2,true),(3,true),(4,true),(5,true),(6,true),(7,true),(8,true),(9,true),(10,false),(11,true),(12,true)] [] GE ?_|with_reducible refine WF ?_)
     all_goals exact fin (h _) rfl
   .skip
    repeat' ((conv=>whnf);first|exact CH|(refine Br ?_;intros)|(refine CI ?_ ?_ ?_;rotate_left)|(refine Bs ?_ ?_<;>intro _)|refine WJ (λ_=>?_)|refine H4 (λst1 U=>?_)|refine IF hl3 hp (λw1 st2 hle2=>?_)|with_reducible refine WF ?_)
    all_goals exact fin (h _) rfl
  .skip
   repeat' ((conv=>whnf);first|exact CH|(refine Br ?_;intros)|(refine CI ?_ ?_ ?_;rotate_left)|(refine Bs ?_ ?_<;>intro _)|refine WJ (λ_=>?_)|refine H4 (λst1 U=>?_)|refine IF hl3 hp (λw1 st2 hle2=>?_)|with_reducible refine WF ?_)
   all_goals exact fin (h _) rfl
end
end Go.Proofs.Z
