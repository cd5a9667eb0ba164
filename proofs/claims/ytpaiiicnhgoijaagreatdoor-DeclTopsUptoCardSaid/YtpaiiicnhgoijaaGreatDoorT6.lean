/-
  Parts of a proof: lemmas that the last text uses.
-/
import Derived.Test.YtpaiiicnhgoijaaGreatDoorT5
set_option linter.unusedVariables false
set_option linter.unusedSimpArgs false
set_option maxHeartbeats 16000000
variable {l:List Go.Aw.Nd} {s s':Go.Proofs.Z.Af} {n o:Go.Aw.Nd} {x m w:List UInt8} {ih:(Go.Aw.AG->Go.Aw.Env->Go.Aw.St->Prop)->Go.Aw.Env->Go.Aw.St->Prop} {Q0:Go.Aw.AG->Go.Aw.Env->Go.Aw.St->Prop} {D:Int} {X:Type}
namespace Go.Proofs.Z
open Go Go.Aw
variable {A:Af->Rs}
theorem Zc (l:List Nd) (s:Af):∀q s',GL A l s=.inr (q,s')->∃r,q=l++r:=by
 fun_induction GL A l s with
 |case1 l s U e1 h2=>simp_all
 |case2 l s U p h2 h3 ih=>grind
 |case3 l s U p h2 h3=>simp_all
 |case4 l s U=>simp_all
section
variable {st:St} {R:AD->St->Prop}
attribute [local irreducible] Go.Aw.Ai
theorem WR {a b:List Nd}:D0 (a++b)=D0 a+D0 b:=by
 induction a with
 |nil=>simp [D0]
 |cons x r ih=>rw [List.cons_append,D0,D0,ih];omega
end
def pT (k:Int):Nat:=if k=1 then 3 else if k=30 then 2 else 1
def Qp:List Nd->Nat
 |[]=>0
 |n::r=>pT n.kind+Qp r
theorem sP (k:Int):1<=pT k:=by
 unfold pT
 grind
theorem KO:∀{a b:List Nd},Qp (a++b)=Qp a+Qp b
 |[],b=>by rw [List.nil_append,Qp,Nat.zero_add]
 |n::r,b=>by rw [List.cons_append,Qp,Qp,KO];omega
theorem Q4:∀{l:List Nd},l.length<=Qp l
 |[]=>Nat.le_refl _
 |n::r=>by have:=Q4 (l:=r);have:=sP n.kind;rw [Qp,List.length_cons];omega
def IU (t:Tk):Bool:=t.kind==18||t.kind==19||t.kind==20||(t.kind==15&&(t.text==[123]||t.text==[125]||t.text==[59]))
inductive Bt:List Nd->Af->Af->Prop where
 |nil (s:Af):Bt [] s s
 |app {l m:List Nd} {s s1 s2:Af}:Bt l s s1->Bt m s1 s2->Bt (l++m) s s2
 |tok {s:Af}:(Aa s).2.2=0->(Aa s).1.kind<18->(Aa s).1.kind≠0->Bt [AJ (Aa s).1] s (Aa s).2.1
 |skip {s:Af}:(Aa s).2.2=0->IU (Aa s).1=true->Bt [] s (Aa s).2.1
 |close {s:Af}:(DX s).2=true->Bt [] s (DX s).1
 |node {k:Int} {l:List Nd} {s s':Af}:Bt l s s'->k≠1->1+pT k<=Qp l->Bt [Al k l] s s'
 |block {f:Bool} {l:List Nd} {s s':Af}:(Aa s).2.2=0->IU (Aa s).1=true->Bt l (Aa s).2.1 s'->Bt [Dn f l] s s'
theorem QI {t:Tk} (h:IU t=true):t.kind≠0/\t.kind≠21:=by
 unfold IU at h
 grind
theorem Bt.size {l:List Nd} {s s':Af} (h:Bt l s s'):D0 l+Qp l+4*mu s'<=4*mu s:=by
 induction h with
 |nil s=>simp only [D0,Qp];omega
 |app _ _ U h2=>rw [WR,KO];omega
 |tok U h2 h3=>
  rename_i s
  have:=(De U).2 H1
  have e:D0 [AJ (Aa s).1]+Qp [AJ (Aa s).1]=4:=rfl
  omega
 |skip U h2=>have:=(De U).1;simp only [D0,Qp];omega
 |close U=>have:=LY U;simp only [D0,Qp];omega
 |node U h2 h3 ih=>
  rename_i k l s s'
  have e:D0 [Al k l]+Qp [Al k l]=(1+D0 l+0)+(pT k+0):=by simp only [Al,D0,Nd.size,Qp];rfl
  omega
 |block U h2 h3 ih=>
  rename_i f l s s'
  have:=(De U).2 (QI h2).2
  have e:D0 [Dn f l]+Qp [Dn f l]=(1+D0 l+0)+(1+0):=by simp only [Dn,D0,Nd.size,Qp];rfl
  omega
theorem Bt.uC (h:Bt [n] s s'):n.size+4*mu s'<=4*mu s:=by
 have:=h.size
 simp only [D0] at this
 omega
theorem Bt.two {k:Int} (h:Bt l s s') (hk:k≠1) (U:k≠30) (hl:2<=l.length):Bt [Al k l] s s':=
 .node h hk (by have:=Q4 (l:=l);unfold pT;grind)
theorem Bt.is {k:Int} (h:AP s k x=true) (U:k≠0) (h1:k<18):Bt [AJ (Aa s).1] s (Aa s).2.1:=by
 have e:(Aa s).1.kind=k:=by
  unfold AP at h
  simp only [Bool.and_eq_true,beq_iff_eq] at h
  exact h.1
 exact .tok (Fp h U) H1 H1
theorem Bt.cons {s1 s2:Af} (h:Bt [n] s s1) (k:Bt l s1 s2):Bt (n::l) s s2:=.app h k
theorem Bt.snoc {s1 s2:Af} (h:Bt l s s1) (k:Bt [n] s1 s2):Bt (l++[n]) s s2:=.app h k
theorem Bt.one {k:Int} (h:Bt l s s') (hk:k≠1) (U:k≠30) (hl:1<=l.length):Bt [Jr k l] s s':=by
 unfold Jr
 split
 .match l,‹l.length=1› with
  |[x],_=>exact h
 .exact h.two hk U H1
def D1 (A:Af->Rs):Prop:=∀s n s',A s=.inr (n,s')->Bt [n] s s'
variable {A:Af->Rs}
theorem jc {t:Tk} (h:Ca t=true):t.kind≠0/\t.kind<18:=by
 unfold Ca at h
 grind
theorem Vh (hs:Ca (Aa s).1=true) (h:CP s=.inr (n,s')):Bt [n] s s':=by
 have U:=jc hs
 unfold CP at h
 split at h
 .rename_i e;cases h;exact .tok e U.2 U.1
 grind
theorem qG {k:Int} (U:k≠0) (h1:k<18) (h:DB s k x=.inr (n,s')):Bt [n] s s':=by
 unfold DB at h
 split at h
 .rename_i e
  rw [DK e U] at h
  cases h
  exact .is e U h1
 .cases h
theorem RM {k:Int} {s0:Af} (hk:k≠1) (U:k≠30) (hl:1<=l.length) (h0:Bt l s0 s) (h:Ek k l s x=.inr (n,s')):Bt [n] s0 s':=by
 unfold Ek at h
 split at h
 .cases h
 .rename_i p hp
  cases h
  exact (h0.snoc (qG IR IR hp)).two hk U lm
theorem qF (hA:D1 A) (l:List Nd) (s:Af):∀s0 q s',Bt l s0 s->GL A l s=.inr (q,s')->Bt q s0 s':=by
 fun_induction GL A l s with
 |case1 l s U e1 h2=>simp_all
 |case2 l s U p h2 h3 ih=>intro s0 q s' h0 h;exact ih s0 q s' (h0.snoc (hA s p.1 p.2 h2)) h
 |case3 l s U p h2 h3=>simp_all
 |case4 l s U=>simp_all
theorem aU (U:D1 A):D1 (A8 A):=λs n s' h=>by
 unfold A8 at h
 split at h
 .cases h
 .rename_i p hp
  have h1:=U s p.1 p.2 hp
  split at h
  .cases h
  .rename_i q hq
   have h2:=qF U _ _ _ _ _ h1 hq
   obtain ⟨r,hr⟩:=Zc _ _ _ _ hq
   split at h
   .simp_all
   .rename_i hl
    cases h
    exact h2.two IR IR GT
theorem qD (hA:D1 A) (l:List Nd) (s:Af):∀s0 q s',Bt l s0 s->Ga A l s=.inr (q,s')->Bt q s0 s'/\∃r,q=l++r:=by
 fun_induction Ga A l s with
 |case1 l s U e1 h2=>simp_all
 |case2 l s U p h2 h3 ih=>
  intro s0 q s' h0 h
  obtain ⟨k1,r,k2⟩:=ih s0 q s' (.app h0 (.cons (.is U IR IR) (aU hA _ p.1 p.2 h2))) h
  simp_all
 |case3 l s U p h2 h3=>simp_all
 |case4 l s U=>simp_all
theorem T0 (hA:D1 A) {U:Nd} {s0:Af} (h0:Bt [n] s0 s) (h:CB A n s=.inr (U,s')):Bt [U] s0 s':=by
 unfold CB at h
 split at h
 .cases h
 .rename_i q hq
  obtain ⟨k1,r,k3⟩:=qD hA _ _ _ _ _ h0 hq
  split at h
  .simp_all
  .rename_i hl
   cases h
   exact k1.two IR IR GT
theorem XM (U:D1 A):D1 (C9 A):=λs n s' h=>by
 unfold C9 at h
 split at h
 .cases h
 .rename_i p hp
  exact T0 U (aU U _ p.1 p.2 hp) h
theorem qE (U:D1 A):D1 (EJ A):=λs n s' h=>by
 unfold EJ at h
 split at h
 .cases h
 .rename_i p hp
  have h1:=aU U _ p.1 p.2 hp
  split at h
  .rename_i hi
   split at h
   .cases h
   .rename_i q hq
    cases h
    exact (h1.cons (.cons (.is hi IR IR) (XM U _ q.1 q.2 hq))).two IR IR (Nat.le_of_ble_eq_true rfl)
  .exact T0 U h1 h
theorem gy (hA:D1 A) (l:List Nd) (s:Af):∀s0 q s',Bt l s0 s->1<=l.length->CU A l s=.inr (q,s')->Bt q s0 s'/\1<=q.length:=by
 fun_induction CU A l s with
 |case1 l s U e1 h2=>simp_all
 |case2 l s U p h2 h3 ih=>
  intro s0 q s' h0 hl h
  exact ih s0 q s' (.app h0 (.cons (.is U IR IR) (hA _ p.1 p.2 h2))) lm h
 |case3 l s U p h2 h3=>simp_all
 |case4 l s U=>grind
theorem ll (l:List Nd) (s:Af):∀s0,Bt l s0 s->1<=l.length->Bt (CK l s).1 s0 (CK l s).2/\1<=(CK l s).1.length:=by
 fun_induction CK l s with
 |case1 l s U h2 ih=>intro s0 h0 hl;exact ih s0 (h0.snoc (.is U IR IR)) lm
 |case2 l s U h2=>simp_all
 |case3 l s U=>simp_all
theorem lp (hA:D1 A) (hs:Ca (Aa s).1=true) (h:G1 A s=.inr (n,s')):Bt [n] s s':=by
 unfold G1 at h
 split at h
 .cases h
 .rename_i p hp
  have U:=Vh hs (n:=p.1) (s':=p.2) hp
  split at h
  .rename_i hi
   exact RM IR IR (Nat.le_of_ble_eq_true rfl) (U.cons (.is hi IR IR)) h
  split at h
  .exact RM IR IR (Nat.le_of_ble_eq_true rfl) U h
  split at h
  .obtain ⟨k1,k2⟩:=ll [p.1] p.2 s U (Nat.le_of_ble_eq_true rfl)
   exact RM IR IR k2 k1 h
  split at h
  .cases h
  .rename_i q hq
   have h2:=hA _ q.1 q.2 hq
   split at h
   .cases h
   .rename_i r hr
    obtain ⟨k1,k2⟩:=gy hA _ _ _ _ _ (U.cons h2) (Nat.le_of_ble_eq_true rfl) hr
    exact RM H1 H1 k2 k1 h
theorem gx (hA:D1 A) (hs:Ca (Aa s).1=true) (h:Ff A s=.inr (n,s')):Bt [n] s s':=by
 unfold Ff at h
 split at h
 .cases h
 .rename_i p hp
  have U:=Vh hs (n:=p.1) (s':=p.2) hp
  split at h
  .rename_i hi
   cases h
   exact (U.cons (.is hi IR IR)).two IR IR (Nat.le_of_ble_eq_true rfl)
  split at h
  .cases h
  .rename_i q hq
   exact RM IR IR (Nat.le_of_ble_eq_true rfl) (U.cons (hA _ q.1 q.2 hq)) h
theorem dD (hA:D1 A):D1 (BN A):=λs n s' h=>by
 unfold BN at h
 split at h
 .rename_i U
  split at h
  .split at h
   .exact lp hA U h
   .exact gx hA U h
  .exact Vh U h
 .cases h
theorem dE:∀d,D1 (B8 d)
 |0=>λs n s' h=>by cases h
 |d+1=>XM (dD (dE d))
def Gc:Er->Af->Prop:=λ_ _=>True
def Dv (A:Rd Nd):Prop:=∀s,Rd.wp A s (λn s'=>Bt [n] s s') Gc
theorem Dv.at {A:Rd Nd} (h:Dv A) {s s':Af} {n:Nd} (e:A.run s=.inr (n,s')):Bt [n] s s':=by
 have:=h s
 unfold Rd.wp at this
 simp_all
theorem Dv.of {A:Rd Nd} (h:∀s n s',A.run s=.inr (n,s')->Bt [n] s s'):Dv A:=λs=>Rd.UQ (λn s' e=>h s n s' e) (λ_ _ _=>trivial)
theorem Dv.size {A:Rd Nd} (h:Dv A) {s s':Af} {n:Nd} (e:A.run s=.inr (n,s')):n.size+4*mu s'<=4*mu s:=(h.at e).uC
theorem Cg {c:Prop} [Decidable c] {P Q:Prop} (U:c->P) (h2:¬c->Q):if c then P else Q:=lm
structure Real (s:Af):Prop where
 ok:(Aa s).2.2=0
 lt:(Aa s).1.kind<18
 ne:(Aa s).1.kind≠0
section
variable {A B C:Rd Nd} {s s0 s1 s2 s':Af} {Q:Nd->Af->Prop} {L:DL}
theorem B6 {k:Int} (h:AP s k x=true) (U:k≠0) (h1:k<18):Real s:=by
 have e:(Aa s).1.kind=k:=by
  unfold AP at h
  simp only [Bool.and_eq_true,beq_iff_eq] at h
  exact h.1
 exact ⟨Fp h U,H1,H1⟩
theorem Oi (h:(Aa s).1.kind≠0) (U:(Aa s).1.kind<18):Real s:=⟨En h,U,h⟩
theorem Et {k:Int} (h:((Aa s).1.kind==k)=true) (U:k≠0) (h1:k<18):Real s:=by
 rw [beq_iff_eq] at h;exact Oi H1 H1
theorem Fb (h:DI (Aa s).1=true):Real s:=by
 unfold DI at h
 simp only [Bool.or_eq_true,Bool.and_eq_true,beq_iff_eq] at h
 exact Oi H1 H1
theorem Fe (h:HD (Aa s).1=true):Real s:=by
 unfold HD at h
 simp only [Bool.or_eq_true,Bool.and_eq_true,beq_iff_eq] at h
 exact Oi H1 H1
theorem Fc (h:Fo (Aa s).1=true):Real s:=by
 unfold Fo at h
 simp only [Bool.or_eq_true,Bool.and_eq_true,beq_iff_eq] at h
 exact Oi H1 H1
theorem T5 {t:Tk} (h:FG t=true):IU t=true:=by
 unfold FG at h
 unfold IU
 grind
theorem Ju (U:Dv A) (k:∀n s1,Bt [n] s s1->Q n s1):Rd.wp A s Q Gc:=Rd.wp_mono (U s) (λn s1 _ h=>k n s1 h) (λ_ _ _ _=>trivial)
theorem Dm (U:Real s) (k:Bt [AJ (Aa s).1] s (Aa s).2.1->Q (AJ (Aa s).1) (Aa s).2.1):Rd.wp AB s Q Gc:=by
 unfold Rd.wp
 rw [C8 U.ok]
 exact k (.tok U.ok U.lt U.ne)
theorem Tz {k:Int} (U:k≠0) (h1:k<18) (kk:∀n s1,Bt [n] s s1->Q n s1):Rd.wp (Bo k x) s Q Gc:=by
 unfold Bo
 rw [Rd.Ag,Rd.Ao]
 exact Cg (λe=>Dm (B6 e U h1) (kk _ _)) (λ_=>trivial)
theorem gz {ks:List Int} (U:(ks.all λk=>decide (k≠0)&&decide (k<18))=true) (kk:∀n s1,Bt [n] s s1->Q n s1):Rd.wp (Cm ks) s Q Gc:=by
 unfold Cm
 rw [Rd.Ag,Rd.Ao]
 refine Cg (λe=>?_) (λ_=>trivial)
 have:=List.all_eq_true.1 U _ (List.contains_iff_mem.1 e)
 simp only [Bool.and_eq_true,decide_eq_true_eq] at this
 exact Dm (Oi this.1 this.2) (kk _ _)
theorem yI {Q:Unit->Af->Prop} (hi:IU (Aa s).1=true) (k:Bt [] s (Aa s).2.1->Q () (Aa s).2.1):Rd.wp GN s Q Gc:=by
 have e:=En (QI hi).1
 unfold GN
 rw [Rd.wp_seq]
 unfold Rd.wp
 rw [C8 e]
 exact k (.skip e hi)
theorem FU {σ β:Type} {body:σ->Rd (Sum σ β)} {P:σ->Af->Prop} {Q:β->Af->Prop} (hb:∀x s,P x s->Rd.wp (body x) s (λr s'=>match r with| .inl x'=>P x' s'| .inr y=>Q y s') Gc) {x:σ} (h0:P x s):Rd.wp (Rd.loop body x) s Q Gc:=by
 have:∀y s',(Rd.loop body x).run s=.inr (y,s')->Q y s':=by
  show ∀y s',Rd.iter body x s=.inr (y,s')->Q y s'
  fun_induction Rd.iter body x s with
  |case1 x s e h=>simp_all
  |case2 x s y s1 h=>
   intro y' s' h';cases h'
   have:=hb x s h0
   unfold Rd.wp at this
   simp_all
  |case3 x s x' s1 h U ih=>
   have:=hb x s h0
   unfold Rd.wp at this
   simp_all
  |case4 x s x' s1 h U=>simp_all
 exact Rd.UQ this (λ_ _ _=>trivial)
theorem Bt.mi {k:Int} {t:Tk} (h:Bt [AJ t] s s') (hk:k≠1) (U:k≠30):Bt [Al k [AJ t]] s s':=.node h hk (by
 have:Qp [AJ t]=3:=rfl
 unfold pT;simp_all)
theorem Bt.gd (h:Bt l s s') (U:3<=l.length):Bt [Al 30 l] s s':=.node h IR (by have:=Q4 (l:=l);have:pT 30=2:=rfl;omega)
theorem Bt.JB {m:Nd} (h:Bt [n] s s1) (k:Bt (m::l) s1 s2):Bt (n::m::l) s s2:=.app h k
theorem Bt.pass (h:Bt l s s1) (k:Bt [] s1 s2):Bt l s s2:=by
 have:=Bt.app h k
 simp_all
theorem GH {α:Type} {l:List α} {a b:α}:2<=(l++[a]++[b]).length:=lm
structure Ms (L:DL):Prop where
 atom:Dv L.atom
 exp:Dv L.exp
 ops:Dv L.ops
 decls:Dv L.decls
 stmts:Dv L.stmts
 alts:Dv L.alts
 F1:∀o s,Rd.wp (L.F1 o) s (λn s'=>∀s0,Bt [o] s0 s->Bt [n] s0 s') Gc
 list:∀o s,Rd.wp (L.list o) s (λn s'=>∀s0,Bt [o] s0 s->Bt [n] s0 s') Gc
theorem zj {B:Nd->Rd Nd} (hB:∀o s,Rd.wp (B o) s (λn s'=>∀s0,Bt [o] s0 s->Bt [n] s0 s') Gc) (U:Bt [o] s0 s) (k:∀n s1,Bt [n] s0 s1->Q n s1):Rd.wp (B o) s Q Gc:=
 Rd.wp_mono (hB o s) (λn s1 _ h=>k n s1 (h s0 U)) (λ_ _ _ _=>trivial)
theorem Vj:Dv EB:=λs=>by
 simp only [EB,Rd.Ag,Rd.Ao,Rd.wp_seq,Rd.wp_ret]
 repeat' (first
  |exact trivial
  |assumption
  |refine Cg (λe=>?_) (λe=>?_)
  |refine Dm (B6 ‹_› IR IR) (λhn=>?_)
  |refine Dm (Et ‹_› IR IR) (λhn=>?_)
  |refine Dm (Fb ‹_›) (λhn=>?_)
  |refine Dm (Fe ‹_›) (λhn=>?_)
  |refine Dm (Fc ‹_›) (λhn=>?_)
  |refine Dm ‹_› (λhn=>?_)
  |refine Tz IR IR (λn s1 hn=>?_)
  |refine gz IR (λn s1 hn=>?_)
  |refine Ju ‹_› (λn s1 hn=>?_)
  |exact Bt.mi ‹_› IR IR
  |refine Bt.two ?_ IR IR EQ
  |apply Bt.JB
  |apply Bt.app)
theorem OZ {p:Nd->Bool} (U:Dv A):Dv (CY A p):=λs=>by
 simp only [CY,Rd.Ag,Rd.Ao,Rd.wp_seq,Rd.wp_ret,Rd.Df]
 repeat' (first
  |exact trivial
  |assumption
  |refine Cg (λe=>?_) (λe=>?_)
  |refine Dm (B6 ‹_› IR IR) (λhn=>?_)
  |refine Dm (Et ‹_› IR IR) (λhn=>?_)
  |refine Dm (Fb ‹_›) (λhn=>?_)
  |refine Dm (Fe ‹_›) (λhn=>?_)
  |refine Dm (Fc ‹_›) (λhn=>?_)
  |refine Dm ‹_› (λhn=>?_)
  |refine Tz IR IR (λn s1 hn=>?_)
  |refine gz IR (λn s1 hn=>?_)
  |refine Ju ‹_› (λn s1 hn=>?_)
  |refine Bt.two ?_ IR IR EQ
  |apply Bt.JB
  |apply Bt.app)
theorem lu {Q:List Nd->Af->Prop} (U:Bt l s0 s) (k:∀l s1,Bt l s0 s1->Q l s1):Rd.wp (VL l) s Q Gc:=by
 refine FU (P:=λl s=>Bt l s0 s) (λl s U=>?_) U
 simp only [VK,Rd.Ag,Rd.Ao,Rd.wp_seq,Rd.wp_ret]
 repeat' (first
  |exact trivial
  |assumption
  |refine Cg (λe=>?_) (λe=>?_)
  |refine Dm (B6 ‹_› IR IR) (λhn=>?_)
  |refine Dm (Et ‹_› IR IR) (λhn=>?_)
  |refine Dm (Fb ‹_›) (λhn=>?_)
  |refine Dm (Fe ‹_›) (λhn=>?_)
  |refine Dm (Fc ‹_›) (λhn=>?_)
  |refine Dm ‹_› (λhn=>?_)
  |refine Tz IR IR (λn s1 hn=>?_)
  |refine gz IR (λn s1 hn=>?_)
  |refine Ju ‹_› (λn s1 hn=>?_)
  |exact Bt.snoc U (Bt.mi ‹_› IR IR)
  |exact k _ _ U
  |refine Bt.two ?_ IR IR EQ
  |apply Bt.JB
  |apply Bt.app)
theorem ly {b:Bool} {Q:List Nd×Bool->Af->Prop} (hA:Dv A) (k:∀l b s1,1<=l.length->(b=true->2<=l.length/\AP s1 15 [41]=true)->Bt l s s1->Q (l,b) s1):Rd.wp (H8 A b) s Q Gc:=by
 refine FU (P:=λl s1=>Bt l s s1) (λl s1 h0=>?_) (Bt.nil s)
 simp only [Zb,Rd.Ag,Rd.Ao,Rd.wp_seq,Rd.wp_ret]
 refine lu h0 (λl s1 h0=>?_)
 have ho:=Vj
 refine Ju hA (λn s2 hn=>?_)
 refine Cg (λe=>?_) (λe=>k _ _ _ lm (λh=>by cases h) (h0.snoc hn))
 refine Ju ho (λo s3 U=>?_)
 exact Cg (λ_=>Cg (λe=>k _ _ _ (Nat.le_trans IR GH) (λ_=>⟨GH,e⟩) ((h0.snoc hn).snoc U)) λe=>(h0.snoc hn).snoc U) λe=>(h0.snoc hn).snoc U
theorem M5 (hA:Dv A):Dv (Pg A):=λs=>by
 simp only [Pg,Rd.wp_seq,Rd.wp_ret]
 exact ly hA λl b s1 U _ h=>h.one IR IR U
theorem XP (hA:Dv A) (U:Bt [n] s0 s) (k:∀n s1,Bt [n] s0 s1->Q n s1):Rd.wp (Jt A n) s Q Gc:=by
 simp only [Jt,Rd.Ag,Rd.Ao,Rd.wp_seq,Rd.wp_ret]
 repeat' (first
  |exact trivial
  |assumption
  |refine Cg (λe=>?_) (λe=>?_)
  |refine Dm (B6 ‹_› IR IR) (λhn=>?_)
  |refine Dm (Et ‹_› IR IR) (λhn=>?_)
  |refine Dm (Fb ‹_›) (λhn=>?_)
  |refine Dm (Fe ‹_›) (λhn=>?_)
  |refine Dm (Fc ‹_›) (λhn=>?_)
  |refine Dm ‹_› (λhn=>?_)
  |refine Tz IR IR (λn s1 hn=>?_)
  |refine gz IR (λn s1 hn=>?_)
  |refine Ju ‹_› (λn s1 hn=>?_)
  |refine k _ _ ?_
  |refine Bt.two ?_ IR IR EQ
  |apply Bt.JB
  |apply Bt.app)
theorem vc (U:Dv A) (hB:Dv B):Dv (aY A B):=λs=>by
 simp only [aY,Rd.wp_seq]
 exact Ju (M5 U) λn s1 h=>XP hB h λn s1 h=>h
theorem RP {a b:Nd} (hL:Ms L) (U:Bt [a,b] s0 s) (k:∀n s1,Bt [n] s0 s1->Q n s1):Rd.wp (Ii L a b) s Q Gc:=by
 have h1:=hL.exp
 simp only [Ii,Rd.wp_seq,Rd.wp_ret]
 repeat' (first
  |exact trivial
  |assumption
  |refine Cg (λe=>?_) (λe=>?_)
  |refine Dm (B6 ‹_› IR IR) (λhn=>?_)
  |refine Dm (Et ‹_› IR IR) (λhn=>?_)
  |refine Dm (Fb ‹_›) (λhn=>?_)
  |refine Dm (Fe ‹_›) (λhn=>?_)
  |refine Dm (Fc ‹_›) (λhn=>?_)
  |refine Dm ‹_› (λhn=>?_)
  |refine Tz IR IR (λn s1 hn=>?_)
  |refine gz IR (λn s1 hn=>?_)
  |refine Ju ‹_› (λn s1 hn=>?_)
  |exact k _ _ (Bt.two (l:=[a,b,_,_]) (Bt.app U (Bt.JB ‹_› ‹_›)) IR IR (Nat.le_of_ble_eq_true rfl))
  |refine Bt.two ?_ IR IR EQ
  |apply Bt.JB
  |apply Bt.app)
theorem gC (hL:Ms L) (hA:Dv A) (hr:Real s) (k:∀n s1,Bt [n] s s1->Q n s1):Rd.wp (Kz L A) s Q Gc:=by
 have h1:=hL.exp
 simp only [Kz,Rd.wp_seq]
 refine Dm hr λU=>?_
 refine FU (P:=λl s1=>Bt l s s1) (λl s1 U=>?_) U
 .have h2:=OZ (p:=Hr) hA
  simp only [L7,KA,Rd.Ag,Rd.Ao,Rd.wp_seq,Rd.wp_ret]
  repeat' (first
   |exact trivial
   |assumption
   |refine Cg (λe=>?_) (λe=>?_)
   |refine Dm (B6 ‹_› IR IR) (λhn=>?_)
   |refine Dm (Et ‹_› IR IR) (λhn=>?_)
   |refine Dm (Fb ‹_›) (λhn=>?_)
   |refine Dm (Fe ‹_›) (λhn=>?_)
   |refine Dm (Fc ‹_›) (λhn=>?_)
   |refine Dm ‹_› (λhn=>?_)
   |refine Tz IR IR (λn s1 hn=>?_)
   |refine gz IR (λn s1 hn=>?_)
   |refine Ju ‹_› (λn s1 hn=>?_)
   |exact k _ _ (Bt.two (Bt.snoc (Bt.snoc U ‹_›) ‹_›) IR IR GH)
   |refine Bt.two ?_ IR IR (by first|exact Nat.le_of_ble_eq_true rfl|exact GH|(simp only [List.length_append,List.length_cons,List.length_nil];omega))
   |apply Bt.JB
   |apply Bt.app)
theorem qL {Q:Unit->Af->Prop} (k:∀s1,Bt [] s s1->Q () s1):Rd.wp (P8 w) s Q Gc:=by
 simp only [P8,Rd.Ag,Rd.Ao,Rd.wp_ret]
 exact Cg (λe=>Cg (λ_=>yI (T5 e) (k _)) λ_=>k _ (.nil _)) λ_=>k _ (.nil _)
theorem dI {Q:List Nd->Af->Prop} (hL:Ms L) (U:Bt l s0 s) (k:∀a e s1,Bt (l++[a]++[e]) s0 s1->Q (l++[a]++[e]) s1):Rd.wp (Od L l w) s Q Gc:=by
 have h1:=hL.exp
 simp only [Od,Rd.wp_seq,Rd.wp_ret]
 refine qL λs1 hs=>?_
 have U:=U.pass hs
 repeat' (first
  |exact trivial
  |assumption
  |refine Cg (λe=>?_) (λe=>?_)
  |refine Dm (B6 ‹_› IR IR) (λhn=>?_)
  |refine Dm (Et ‹_› IR IR) (λhn=>?_)
  |refine Dm (Fb ‹_›) (λhn=>?_)
  |refine Dm (Fe ‹_›) (λhn=>?_)
  |refine Dm (Fc ‹_›) (λhn=>?_)
  |refine Dm ‹_› (λhn=>?_)
  |refine Tz IR IR (λn s1 hn=>?_)
  |refine gz IR (λn s1 hn=>?_)
  |refine Ju ‹_› (λn s1 hn=>?_)
  |refine k _ _ _ ?_
  |refine Bt.two ?_ IR IR EQ
  |apply Bt.JB
  |apply Bt.app)
theorem gA (U:Ms L) (hr:Real s) (k:∀n s1,Bt [n] s s1->Q n s1):Rd.wp (Km L) s Q Gc:=by
 have h1:=U.exp
 simp only [Km,Rd.wp_seq,Rd.wp_ret]
 refine Dm hr λh0=>?_
 refine Ju h1 λc s1 hc=>?_
 exact dI U (h0.cons hc) λa e s2 h2=>dI U h2 λa e s3 h3=>k _ _ (h3.two IR IR GH)
theorem qI (U:Ms L) (hr:Real s) (k:∀n s1,Bt [n] s s1->Q n s1):Rd.wp (TS L) s Q Gc:=by
 have h1:=U.exp
 have h2:=U.alts
 simp only [TS,Rd.wp_seq,Rd.wp_ret]
 refine Dm hr λh0=>?_
 repeat' (first
  |exact trivial
  |assumption
  |refine Cg (λe=>?_) (λe=>?_)
  |refine Dm (B6 ‹_› IR IR) (λhn=>?_)
  |refine Dm (Et ‹_› IR IR) (λhn=>?_)
  |refine Dm (Fb ‹_›) (λhn=>?_)
  |refine Dm (Fe ‹_›) (λhn=>?_)
  |refine Dm (Fc ‹_›) (λhn=>?_)
  |refine Dm ‹_› (λhn=>?_)
  |refine Tz IR IR (λn s1 hn=>?_)
  |refine gz IR (λn s1 hn=>?_)
  |refine Ju ‹_› (λn s1 hn=>?_)
  |refine k _ _ ?_
  |refine Bt.two ?_ IR IR EQ
  |apply Bt.JB
  |apply Bt.app)
theorem lB (U:Ms L) (hr:Real s) (k:∀n s1,Bt [n] s s1->Q n s1):Rd.wp (Nr L) s Q Gc:=by
 have h1:=U.stmts
 simp only [Nr,Rd.wp_seq,Rd.wp_ret,Rd.Ao,Rd.BD]
 refine Dm hr λh0=>?_
 repeat' (first
  |exact trivial
  |assumption
  |refine Cg (λe=>?_) (λe=>?_)
  |refine Dm (B6 ‹_› IR IR) (λhn=>?_)
  |refine Dm (Et ‹_› IR IR) (λhn=>?_)
  |refine Dm (Fb ‹_›) (λhn=>?_)
  |refine Dm (Fe ‹_›) (λhn=>?_)
  |refine Dm (Fc ‹_›) (λhn=>?_)
  |refine Dm ‹_› (λhn=>?_)
  |refine Tz IR IR (λn s1 hn=>?_)
  |refine gz IR (λn s1 hn=>?_)
  |refine Ju ‹_› (λn s1 hn=>?_)
  |refine k _ _ ?_
  |refine Bt.two ?_ IR IR EQ
  |apply Bt.JB
  |apply Bt.app)
theorem ve (U:Ms L) (hr:Real s) (k:∀n s1,Bt [n] s s1->Q n s1):Rd.wp (gW L) s Q Gc:=by
 have h1:=U.decls
 simp only [gW,Rd.wp_seq]
 refine Dm hr λh0=>?_
 exact Ju h1 λb s1 hb=>RP U (h0.cons hb) k
theorem lq (hA:Dv A) (k:∀n s1,Bt [n] s s1->Q n s1):Rd.wp (MV A) s Q Gc:=by
 simp only [MV,Rd.wp_seq,Rd.wp_ret]
 refine Ju hA λn s1 hn=>?_
 refine FU (P:=λl s1=>Bt l s s1/\1<=l.length) (λl s1 U=>?_) ⟨hn,Nat.le_refl _⟩
 obtain ⟨U,hl⟩:=U
 simp only [MU,Rd.Ag,Rd.Ao,Rd.wp_seq,Rd.wp_ret]
 exact Cg (λ_=>Ju hA λn s1 hn=>⟨U.snoc hn,lm⟩) λ_=>k _ _ (U.one IR IR hl)
theorem aV (hL:Ms L) (hA:Dv A):Dv (Iq L A):=λs=>by
 simp only [Iq,Rd.Ag,Rd.Ao]
 have U:=lq (s:=s) (Q:=λn s'=>Bt [n] s s') hA λ_ _ h=>h
 refine Cg (λe=>Cg (λ_=>gC hL hA (Et e IR IR) λ_ _ h=>h) λ_=>U) λ_=>Cg (λe=>?_) λ_=>U
 have hr:=Et e IR IR
 exact Cg (λ_=>ve hL hr λ_ _ h=>h) λ_=>Cg (λ_=>gA hL hr λ_ _ h=>h) λ_=>Cg (λ_=>qI hL hr λ_ _ h=>h) λ_=>Cg (λ_=>lB hL hr λ_ _ h=>h) λ_=>U
theorem dH (U:Bt [o] s0 s) (k:∀n s1,Bt [n] s0 s1->Q n s1):Rd.wp (N1 o) s Q Gc:=by
 simp only [N1,Rd.wp_seq,Rd.wp_ret]
 refine FU (P:=λl s1=>Bt l s0 s1/\1<=l.length) (λl s1 U=>?_) ⟨U,Nat.le_refl _⟩
 obtain ⟨U,hl⟩:=U
 simp only [NP,Rd.Ag,Rd.Ao,Rd.wp_seq,Rd.wp_ret]
 exact Cg (λe=>Dm (B6 e IR IR) λh=>⟨U.snoc h,lm⟩) λ_=>Tz IR IR λn s1 h=>k _ _ ((U.snoc h).two IR IR lm)
theorem gF (U:Ms L) (h0:Bt [o] s0 s) (k:∀n s1,Bt [n] s0 s1->Q n s1):Rd.wp (KM L o) s Q Gc:=by
 have h1:=U.ops
 have h2:=Vj
 simp only [KM,Rd.Ag,Rd.Ao,Rd.wp_seq,Rd.wp_ret]
 repeat' (first
  |exact trivial
  |assumption
  |refine Cg (λe=>?_) (λe=>?_)
  |refine Dm (B6 ‹_› IR IR) (λhn=>?_)
  |refine Dm (Et ‹_› IR IR) (λhn=>?_)
  |refine Dm (Fb ‹_›) (λhn=>?_)
  |refine Dm (Fe ‹_›) (λhn=>?_)
  |refine Dm (Fc ‹_›) (λhn=>?_)
  |refine Dm ‹_› (λhn=>?_)
  |refine Tz IR IR (λn s1 hn=>?_)
  |refine gz IR (λn s1 hn=>?_)
  |refine Ju ‹_› (λn s1 hn=>?_)
  |exact zj U.F1 h0 k
  |refine k _ _ ?_
  |refine Bt.two ?_ IR IR EQ
  |apply Bt.JB
  |apply Bt.app)
theorem gE (hL:Ms L) (U:Bt [o] s0 s) (k:∀n s1,Bt [n] s0 s1->Q n s1):Rd.wp (Pn L o) s Q Gc:=by
 simp only [Pn,Rd.Ag,Rd.Ao,Rd.wp_seq,Rd.wp_ret]
 have hc:=gF (Q:=Q) hL U k
 refine Cg (λe=>Cg (λe2=>?_) λ_=>hc) λ_=>hc
 exact Dm (Fe e) λh1=>Dm (B6 e2 IR IR) λh2=>k _ _ ((U.cons (h1.cons h2)).two IR IR (Nat.le_of_ble_eq_true rfl))
theorem lx (hL:Ms L) (hr:Real s) (k:∀n s1,Bt [n] s s1->Q n s1):Rd.wp (Po L) s Q Gc:=by
 simp only [Po,Rd.Ag,Rd.Ao,Rd.wp_seq]
 exact Dm hr λU=>Cg (λ_=>dH U k) λ_=>Cg (λ_=>dH U k) λ_=>gE hL U k
theorem gG (hL:Ms L) (hr:Real s) (k:∀n s1,Bt [n] s s1->Q n s1):Rd.wp (Mn L) s Q Gc:=by
 simp only [Mn,Rd.Ag,Rd.Ao,Rd.wp_seq,Rd.wp_ret]
 refine Dm hr λU=>?_
 repeat' (first
  |exact trivial
  |assumption
  |refine Cg (λe=>?_) (λe=>?_)
  |refine Dm (B6 ‹_› IR IR) (λhn=>?_)
  |refine Dm (Et ‹_› IR IR) (λhn=>?_)
  |refine Dm (Fb ‹_›) (λhn=>?_)
  |refine Dm (Fe ‹_›) (λhn=>?_)
  |refine Dm (Fc ‹_›) (λhn=>?_)
  |refine Dm ‹_› (λhn=>?_)
  |refine Tz IR IR (λn s1 hn=>?_)
  |refine gz IR (λn s1 hn=>?_)
  |refine Ju ‹_› (λn s1 hn=>?_)
  |exact zj hL.list U k
  |refine k _ _ ?_
  |refine Bt.two ?_ IR IR EQ
  |apply Bt.JB
  |apply Bt.app)
theorem qH (U:Ms L):Dv (KT L):=λs=>by
 have h1:=U.atom
 simp only [KT,Rd.Ag,Rd.Ao,Rd.wp_seq,Rd.wp_ret]
 refine Cg (λe=>?_) λ_=>trivial
 have hr:=Fb e
 repeat' (first
  |exact trivial
  |assumption
  |refine Cg (λe=>?_) (λe=>?_)
  |refine Dm (B6 ‹_› IR IR) (λhn=>?_)
  |refine Dm (Et ‹_› IR IR) (λhn=>?_)
  |refine Dm (Fb ‹_›) (λhn=>?_)
  |refine Dm (Fe ‹_›) (λhn=>?_)
  |refine Dm (Fc ‹_›) (λhn=>?_)
  |refine Dm ‹_› (λhn=>?_)
  |refine Tz IR IR (λn s1 hn=>?_)
  |refine gz IR (λn s1 hn=>?_)
  |refine Ju ‹_› (λn s1 hn=>?_)
  |exact lx U hr λ_ _ h=>h
  |exact gG U hr λ_ _ h=>h
  |exact Bt.mi ‹_› IR IR
  |refine Bt.two ?_ IR IR EQ
  |apply Bt.JB
  |apply Bt.app)
theorem gD (hL:Ms L) (hr:Real s) (U:Bt [n] s0 s) (k:∀n s1,Bt [n] s0 s1->Q n s1):Rd.wp (HQ L n) s Q Gc:=by
 have h1:=hL.exp
 simp only [HQ,Rd.wp_seq,Rd.wp_ret]
 refine Dm hr λhb=>?_
 refine FU (P:=λl s1=>Bt l s0 s1/\1<=l.length) (λl s1 U=>?_) ⟨U.cons hb,Nat.le_of_ble_eq_true rfl⟩
 obtain ⟨U,hl⟩:=U
 have hend:∀{l:List Nd} {s:Af},Bt l s0 s->1<=l.length->Rd.wp (Bo 15 [125]) s (λc s'=>Q (Al 12 (l++[c])) s') Gc:=λU hl=>Tz IR IR λn s1 h=>k _ _ ((U.snoc h).two IR IR lm)
 simp only [Oj,O6,Rd.Ag,Rd.Ao,Rd.wp_seq,Rd.wp_ret]
 have hf:Rd.wp (Cm [1,3]) s1 (λnm s'=>Rd.wp (Bo 10 [61]) s' (λq s'=>Rd.wp L.exp s' (λe s'=>if AP s' 15 [44]=true then Rd.wp AB s' (λc s'=>Bt (l++[Al 13 [nm,q,e]]++[c]) s0 s'/\1<=(l++[Al 13 [nm,q,e]]++[c]).length) Gc
  else Rd.wp (Bo 15 [125]) s' (λc s'=>Q (Al 12 (l++[Al 13 [nm,q,e]]++[c])) s') Gc) Gc) Gc) Gc:=by
  refine gz IR λnm s2 g1=>Tz IR IR λq s3 g2=>Ju h1 λe s4 g3=>?_
  have h2:=U.snoc ((g1.cons (g2.cons g3)).two (k:=13) IR IR (Nat.le_of_ble_eq_true rfl))
  exact Cg (λe=>Dm (B6 e IR IR) λh=>⟨h2.snoc h,Nat.le_trans IR GH⟩) λ_=>hend h2 lm
 simp_all
theorem Lj (hL:Ms L):Dv (KS L):=λs=>by
 simp only [KS,Rd.wp_seq]
 refine Ju (qH hL) λn s1 hn=>?_
 refine FU (P:=λn s1=>Bt [n] s s1) (λn s1 U=>?_) hn
 simp only [Xw,Rd.Ag,Rd.Ao,Rd.wp_seq,Rd.wp_ret]
 exact Cg (λe=>gD hL (B6 e IR IR) U λ_ _ h=>h) λ_=>U
end
section
variable {A B C D E:Rd Nd} {s s0 s1 s2 s':Af} {Q:Nd->Af->Prop} {L:DL}
theorem UF:∀{l:List Nd},2<=l.length->l.take (l.length - 1)++[l.getLastD BC]=l/\1<=(l.take (l.length - 1)).length:=λ{l} h=>by
 have U:l≠[]:=λe=>by simp_all
 refine ⟨?_,GT⟩
 have h1:=List.dropLast_concat_getLast U
 grind
theorem Bt.split:∀{l:List Nd} {s s':Af},Bt l s s'->∀{a b:List Nd},l=a++b->∃s1,Bt a s s1/\Bt b s1 s':=by
 intro l s s' h
 induction h with
 |nil s=>intro a b e;obtain ⟨rfl,rfl⟩:=List.append_eq_nil_iff.1 e.symm;exact ⟨s,.nil s,.nil s⟩
 |app h1 h2 i1 i2=>
  intro a b e
  rcases List.append_eq_append_iff.1 e with ⟨x,U,e2⟩|⟨x,U,e2⟩
  .obtain ⟨s1,k1,k2⟩:=i2 e2
   subst U
   exact ⟨s1,.app h1 k1,k2⟩
  .obtain ⟨s1,k1,k2⟩:=i1 U
   subst e2
   exact ⟨s1,k1,.app k2 h2⟩
 |tok g1 g2 g3=>
  intro a b e
  match a with
  |[]=>rw [List.nil_append] at e;subst e;exact ⟨_,.nil _,.tok g1 g2 g3⟩
  |x::r=>
   rw [List.cons_append] at e
   injection e with U e2
   obtain ⟨rfl,rfl⟩:=List.append_eq_nil_iff.1 e2.symm
   subst U
   exact ⟨_,.tok g1 g2 g3,.nil _⟩
 |skip g1 g2=>intro a b e;obtain ⟨rfl,rfl⟩:=List.append_eq_nil_iff.1 e.symm;exact ⟨_,.nil _,.skip g1 g2⟩
 |close g1=>intro a b e;obtain ⟨rfl,rfl⟩:=List.append_eq_nil_iff.1 e.symm;exact ⟨_,.nil _,.close g1⟩
 |node g1 g2 g3 ih=>
  intro a b e
  match a with
  |[]=>rw [List.nil_append] at e;subst e;exact ⟨_,.nil _,.node g1 g2 g3⟩
  |x::r=>
   rw [List.cons_append] at e
   injection e with U e2
   obtain ⟨rfl,rfl⟩:=List.append_eq_nil_iff.1 e2.symm
   subst U
   exact ⟨_,.node g1 g2 g3,.nil _⟩
 |block g1 g2 g3 ih=>
  intro a b e
  match a with
  |[]=>rw [List.nil_append] at e;subst e;exact ⟨_,.nil _,.block g1 g2 g3⟩
  |x::r=>
   rw [List.cons_append] at e
   injection e with U e2
   obtain ⟨rfl,rfl⟩:=List.append_eq_nil_iff.1 e2.symm
   subst U
   exact ⟨_,.block g1 g2 g3,.nil _⟩
theorem lr (hA:Dv A) (hB:Dv B) (hC:Dv C):∀s,Rd.wp (ER A B C o) s (λn s'=>∀s0,Bt [o] s0 s->Bt [n] s0 s') Gc:=λs=>by
 simp only [ER,Rd.Ao,Rd.wp_seq,Rd.wp_ret]
 refine ly hA λl b s1 h1 h2 hl=>?_
 dsimp only
 refine Cg (λe=>?_) λ_=>?_
 .obtain ⟨h3,h4⟩:=h2 e
  obtain ⟨t1,t2⟩:=UF h3
  obtain ⟨s2,k1,k2⟩:=hl.split t1.symm
  exact Dm (B6 h4 IR IR) λg1 s0 U=>(U.cons ((k1.one IR IR t2).cons (k2.cons g1))).two IR IR (Nat.le_of_ble_eq_true rfl)
 .refine XP hB (hl.one IR IR h1) λn s1 hn=>?_
  refine FU (P:=λq s1=>(q.1=4\/q.1=5)/\2<=q.2.length/\∀s0,Bt [o] s0 s->Bt q.2 s0 s1) (λq s1 h0=>?_) ⟨.inl rfl,Nat.le_refl _,λs0 U=>U.cons hn⟩
  obtain ⟨hq,hl,h0⟩:=h0
  simp only [Ti,Rd.Ag,Rd.Ao,Rd.wp_seq,Rd.wp_ret]
  refine Cg (λe=>Dm (B6 e IR IR) λg1=>Ju hC λn s2 g2=>⟨.inr trivial,GH,λs0 U=>((h0 s0 U).snoc g1).snoc g2⟩) λ_=>Tz IR IR λc s2 hc s0 U=>?_
  exact ((h0 s0 U).snoc hc).two H1 H1 GT
theorem XO {Q:List Nd->Af->Prop} (hA:Dv A) (h0:Bt l s0 s) (k:∀U s1,l.length+2<=U.length->Bt U s0 s1->Q U s1):Rd.wp (Es A l) s Q Gc:=by
 simp only [Es,Rd.wp_seq]
 refine Tz IR IR λb s1 hb=>Ju hA λt s2 ht=>?_
 refine FU (P:=λU s1=>Bt U s0 s1/\l.length+2<=U.length) (λU s1 h0=>?_) ⟨(h0.snoc hb).snoc ht,lm⟩
 obtain ⟨h0,hl⟩:=h0
 simp only [LA,Rd.Ag,Rd.Ao,Rd.wp_seq,Rd.wp_ret]
 exact Cg (λe=>Dm (B6 e IR IR) λg1=>Ju hA λn s2 g2=>⟨(h0.snoc g1).snoc g2,GT⟩) λ_=>k _ _ hl h0
theorem qK (hA:Dv A) (hB:Dv B):∀s,Rd.wp (PW A B o) s (λn s'=>∀s0,Bt [o] s0 s->Bt [n] s0 s') Gc:=λs=>by
 simp only [PW,Rd.Ag,Rd.Ao,Rd.wp_seq,Rd.wp_ret]
 refine Ju hA λe s1 he=>Cg (λ_=>?_) λ_=>?_
 .have:Rd.wp (Es B [o,e]) s1 (λl s2=>Rd.wp (Bo 15 [93]) s2 (λc s'=>∀s0,Bt [o] s0 s->Bt [Al 8 (l++[c])] s0 s') Gc) Gc:=by
   refine Rd.UQ (λl s2 hr=>?_) (λ_ _ _=>trivial)
   refine Tz IR IR λc s3 hc s0 ho=>?_
   have h1:Rd.wp (Es B [o,e]) s1 (λl s2=>Bt l s0 s2/\2<=l.length) Gc:=XO hB (ho.cons he) λl' s1 hl h=>⟨h,H1⟩
   unfold Rd.wp at h1
   rw [hr] at h1
   exact (h1.1.snoc hc).two IR IR GT
  omega
 .refine FU (P:=λl s1=>2<=l.length/\∀s0,Bt [o] s0 s->Bt l s0 s1) (λl s1 h0=>?_) ⟨Nat.le_refl _,λs0 ho=>ho.cons he⟩
  obtain ⟨hl,h0⟩:=h0
  have U:∀{k:Int} {l:List Nd} {s1:Af},k≠1->k≠30->2<=l.length->(∀s0,Bt [o] s0 s->Bt l s0 s1)->Rd.wp (Bo 15 [93]) s1 (λc s'=>∀s0,Bt [o] s0 s->Bt [Al k (l++[c])] s0 s') Gc:=λhk h30 hl h0=>
   Tz IR IR λc s3 hc s0 ho=>((h0 s0 ho).snoc hc).two hk h30 GT
  simp only [Yj,Yk,Rd.Ag,Rd.Ao,Rd.wp_seq,Rd.wp_ret]
  have hc:if AP s1 15 [44]=true then Rd.wp AB s1 (λc s'=>Rd.wp A s' (λe s'=>2<=(l++[c]++[e]).length/\∀s0,Bt [o] s0 s->Bt (l++[c]++[e]) s0 s') Gc) Gc
   else Rd.wp (Bo 15 [93]) s1 (λc s'=>∀s0,Bt [o] s0 s->Bt [Al 6 (l++[c])] s0 s') Gc:=
   Cg (λe=>Dm (B6 e IR IR) λg1=>Ju hA λn s2 g2=>⟨GH,λs0 ho=>((h0 s0 ho).snoc g1).snoc g2⟩) λ_=>U IR IR hl h0
  refine Cg (λ_=>Cg (λe=>Dm (B6 e IR IR) λg1=>Cg (λ_=>?_) λ_=>Ju hA λn s2 g2=>?_) λ_=>hc) λ_=>hc
  .exact U IR IR GT λs0 ho=>(h0 s0 ho).snoc g1
  .exact U IR IR GH λs0 ho=>((h0 s0 ho).snoc g1).snoc g2
theorem dF (hA:Dv A) (U:Bt [n] s0 s) (k:∀n s1,Bt [n] s0 s1->Q n s1):Rd.wp (TP A n) s Q Gc:=by
 simp only [TP,Rd.Ag,Rd.Ao,Rd.wp_seq,Rd.wp_ret,Rd.BD]
 exact Cg (λe=>Cg (λ_=>Dm (B6 e IR IR) λg1=>Ju hA λm s2 g2=>k _ _ ((U.cons (g1.cons g2)).two IR IR (Nat.le_of_ble_eq_true rfl))) λ_=>trivial) λ_=>k _ _ U
theorem qM (hL:Ms L) (U:Dv A):Dv (Ta L A):=λs=>by
 simp only [Ta,Rd.Ag,Rd.Ao,Rd.wp_seq,Rd.wp_ret]
 exact Cg (λe=>Dm (B6 e IR IR) λg1=>Ju hL.decls λb s2 g2=>Cg (λ_=>RP hL (g1.cons g2) λn s3 g3=>dF U g3 λ_ _ h=>h) λ_=>(g1.cons g2).two IR IR (Nat.le_of_ble_eq_true rfl))
  λ_=>Ju U λn s3 g3=>dF U g3 λ_ _ h=>h
theorem dJ (hL:Ms L) (hA:Dv A) (hB:Dv B) (U:Bt l s0 s) (hl:l=[]\/2<=Qp l) (k:∀n s1,Bt [n] s0 s1->Q n s1):Rd.wp (Pm L A B m l) s Q Gc:=by
 simp only [Pm,Rd.wp_seq,Rd.Ag,Rd.Ao,Rd.wp_ret]
 refine FU (P:=λl s1=>Bt l s0 s1/\(l=[]\/2<=Qp l)) (λl s1 U=>?_) ⟨U,hl⟩
 obtain ⟨U,hl⟩:=U
 have hs:Rd.wp (Es B []) s1 (λg s'=>Rd.wp (Bo 10 m) s' (λq s'=>Rd.wp A s' (λe s'=>Bt (l++[Al 30 (g++[q]++[e])]) s0 s'/\(l++[Al 30 (g++[q]++[e])]=[]\/2<=Qp (l++[Al 30 (g++[q]++[e])]))) Gc) Gc) Gc:=by
  refine XO hB (.nil s1) λg s2 hg h=>Tz IR IR λq s3 g1=>Ju hA λe s4 g2=>⟨U.snoc (Bt.gd ((h.snoc g1).snoc g2) GT),.inr ?_⟩
  rw [KO]
  have:Qp [Al 30 (g++[q]++[e])]=2:=rfl
  omega
 have he:∀{l:List Nd} {s1:Af},Bt l s0 s1->2<=Qp l->if AP s1 9 Xg=true then Rd.wp AB s1 (λw s'=>Rd.wp L.decls s' (λb s'=>Q (Al 29 (l++[Al 31 [w,b]])) s') Gc) Gc else Q (Al 29 l) s1:=λ{l s1} U hl=>
  Cg (λe=>Dm (B6 e IR IR) λg1=>Ju hL.decls λb s2 g2=>k _ _ (.node (U.snoc ((g1.cons g2).two IR IR (Nat.le_of_ble_eq_true rfl))) IR (by rw [KO];have:pT 29=1:=rfl;omega)))
   λ_=>k _ _ (.node U IR (by have:pT 29=1:=rfl;omega))
 simp only [Ib,Nc,Rd.Ag,Rd.Ao,Rd.wp_seq,Rd.wp_ret]
 grind
theorem lv (hL:Ms L) (hA:Dv A) (hB:Dv B):Dv (Y6 L A B m):=λs=>by
 simp only [Y6,Rd.Ag,Rd.Ao,Rd.wp_seq]
 refine Cg (λe=>?_) λ_=>Cg (λ_=>dJ hL hA hB (.nil s) (.inl rfl) λ_ _ h=>h) λ_=>trivial
 by_cases U:Real s
 .exact Dm U λg1=>Ju hA λe s2 g2=>dJ hL hA hB (g1.cons g2) (.inr (Nat.le_trans (Nat.le_of_ble_eq_true rfl) Q4)) λ_ _ h=>h
 .exact absurd (B6 e IR IR) U
theorem vb (hL:Ms L) (U:Dv A) (hB:Dv B) (hC:Dv C):Dv (aE L A B C):=λs=>by
 simp only [aE,Rd.Ao,Rd.wp_seq,Rd.wp_ret,Rd.BD]
 exact Ju U λn s1 g1=>Cg (λ_=>Ju (lv hL hB hC) λr s2 g2=>(g1.cons g2).two IR IR (Nat.le_of_ble_eq_true rfl)) λ_=>trivial
theorem RO (U:Bt l s0 s) (hl:1<=l.length) (k:∀n s1,Bt [n] s0 s1->Q n s1):Rd.wp (Gl l) s Q Gc:=by
 have ho:=OZ (p:=EH) Vj
 simp only [Gl,Rd.wp_seq]
 refine Ju ho λo s1 g1=>?_
 refine FU (P:=λl s1=>Bt l s0 s1/\2<=l.length) (λl s1 U=>?_) ⟨U.snoc g1,lm⟩
 obtain ⟨U,hl⟩:=U
 simp only [L3,Rd.Ag,Rd.Ao,Rd.wp_seq,Rd.wp_ret]
 exact Cg (λe=>Dm (B6 e IR IR) λg1=>Ju ho λo s2 g2=>⟨(U.snoc g1).snoc g2,GH⟩) λ_=>k _ _ (U.two IR IR hl)
theorem gB (U:Real s) (k:∀n s1,Bt [n] s s1->Q n s1):Rd.wp HM s Q Gc:=by
 simp only [HM,Rd.Ag,Rd.Ao,Rd.wp_seq]
 refine Dm U λg1=>Cg (λe=>?_) λ_=>RO g1 (Nat.le_of_ble_eq_true rfl) k
 simp only [CY,Rd.Ag,Rd.Ao,Rd.wp_seq,Rd.wp_ret,Rd.Df]
 exact Dm (Et e IR IR) λg2=>Cg (λ_=>RO (g1.cons g2) (Nat.le_of_ble_eq_true rfl) k) λ_=>trivial
theorem lA (hA:Dv A) (hB:Dv B) (U:Bt [n] s0 s) (k:∀n s1,Bt [n] s0 s1->Q n s1):Rd.wp (Zs A B n) s Q Gc:=by
 have ho:=OZ (p:=Nx) hA
 simp only [Zs,Rd.Ao,Rd.wp_seq,Rd.BD]
 refine Cg (λ_=>?_) λ_=>trivial
 refine FU (P:=λl s1=>Bt l s0 s1) (λl s1 U=>?_) U
 simp only [oC,Rd.Ag,Rd.Ao,Rd.wp_seq,Rd.wp_ret]
 exact Cg (λe=>Dm (B6 e IR IR) λg1=>Ju ho λo s2 g2=>(U.snoc g1).snoc g2) λ_=>Tz IR IR λc s2 g1=>Ju hB λt s3 g2=>k _ _ (((U.snoc g1).snoc g2).two IR IR GH)
theorem qJ (hL:Ms L) (U:Dv A) (hB:Dv B) (hC:Dv C) (hD:Dv D) (hE:Dv E):Dv (RH L A B C D E):=λs=>by
 simp only [RH,Rd.Ag,Rd.Ao,Rd.wp_seq,Rd.wp_ret,Rd.BD]
 exact Cg (λe=>gB (Fc e) λ_ _ h=>h) λ_=>Ju hB λn s1 g1=>Cg (λ_=>lA U hE g1 λ_ _ h=>h) λ_=>Cg (λ_=>lA U hE g1 λ_ _ h=>h) λ_=>
  Cg (λ_=>Ju (lv hL hC hD) λr s2 g2=>(g1.cons g2).two IR IR (Nat.le_of_ble_eq_true rfl)) λ_=>trivial
theorem lz {Q:Unit->Af->Prop} (k:∀s1,Bt [] s s1->Q () s1):Rd.wp LK s Q Gc:=by
 refine FU (P:=λ_ s1=>Bt [] s s1) (λ_ s1 U=>?_) (.nil s)
 simp only [Np,Rd.Ag,Rd.Ao,Rd.wp_seq,Rd.wp_ret]
 exact Cg (λe=>yI (T5 e) λh=>U.pass h) λ_=>k _ U
theorem XN {f m:Bool} {Q:Bool->Af->Prop} (k:∀b s1,Bt [] s s1->Q b s1):Rd.wp (Gi f m) s Q Gc:=by
 simp only [Gi,Rd.Ag,Rd.Ao,Rd.wp_seq,Rd.wp_ret]
 have hi:∀{f:Bool},(if f then AP s 15 [125] else (Aa s).1.kind==20)=true->IU (Aa s).1=true:=λ{f} e=>by
  unfold IU
  cases f with
  |true=>
   rw [if_pos rfl] at e
   unfold AP at e
   simp_all
  |false=>
   simp_all
 refine Cg (λe=>yI (hi e) λh=>k _ _ h) λ_=>Cg (λ_=>Cg (λ_=>trivial) λ_=>?_) λ_=>k _ _ (.nil s)
 unfold Rd.wp OW
 dsimp only
 by_cases e:(DX s).2=true
 .rw [if_pos e];exact k _ _ (.close e)
 .rw [if_neg e];trivial
theorem RN {p:Tk->Bool} (hA:Dv A):Dv (Dp p A):=λs=>by
 simp only [Dp,Rd.Ag,Rd.Ao,Rd.wp_seq,Rd.wp_ret]
 have hb:∀{f:Bool} {s1:Af},(Aa s).2.2=0->IU (Aa s).1=true->(Aa s).2.1=s1->Rd.wp (Rd.loop (Le p A f) []) s1 (λl s'=>Bt [Dn f l] s s') Gc:=λ{f s1} e1 e2 e3=>by
  subst e3
  refine FU (P:=λl s1=>Bt l (Aa s).2.1 s1) (λl s1 U=>?_) (.nil _)
  simp only [Le,Rd.Ag,Rd.Ao,Rd.wp_seq,Rd.wp_ret]
  refine lz λs2 g2=>XN λb s3 g3=>Cg (λ_=>.block e1 e2 ((U.pass g2).pass g3)) λ_=>Ju hA λn s4 g4=>XN λb s5 g5=>Cg (λ_=>.block e1 e2 ((((U.pass g2).pass g3).snoc g4).pass g5)) λ_=>(((U.pass g2).pass g3).snoc g4).pass g5
 refine Cg (λe=>?_) λ_=>?_
 .have hi:IU (Aa s).1=true:=by rw [beq_iff_eq] at e;simp [IU,e]
  exact yI hi λ_=>hb (En (QI hi).1) hi rfl
 .unfold Bo
  rw [Rd.Ag,Rd.Ao]
  refine Cg (λe=>?_) λ_=>trivial
  have hi:IU (Aa s).1=true:=by
   unfold AP at e
   simp only [Bool.and_eq_true,beq_iff_eq] at e
   simp [IU,e.1,e.2]
  exact Dm (B6 e IR IR) λ_=>hb (En (QI hi).1) hi rfl
theorem Lk (d:Nat):Dv (CH d):=Dv.of λs n s' h=>by
 have U:D1 (EJ (BN (B8 (d - 1)))):=qE (dD (dE _))
 refine U s n s' ?_
 unfold CH Ly at h
 grind
theorem dG {e:Er}:∀s,Rd.wp (Rd.fail e:Rd Nd) s (λn s'=>∀s0,Bt [o] s0 s->Bt [n] s0 s') Gc:=λs=>trivial
theorem M4 (U:Ms L):Dv (ca L):=aV U (Lj U)
theorem IL (U:Dv A) (hL:Ms L):Dv (Qm A L):=vc (M4 hL) U
theorem JE (hA:Dv A) (U:Ms L):Dv (K1 A L):=qM U (IL hA U)
theorem Vi (hA:Dv A) (U:Ms L):Dv (aD A L):=vb U (M5 (M4 U)) (IL hA U) (JE hA U)
theorem NT (hA:Dv A) (U:Ms L):Dv (F2 A L):=qJ U (Lj U) (M5 (M4 U)) (IL hA U) (JE hA U) hA
theorem xF (hA:Dv A) (U:Ms L):Ms (zq A L) where
 atom:=Lj U
 exp:=IL hA U
 ops:=M5 (M4 U)
 decls:=RN (NT hA U)
 stmts:=RN (JE hA U)
 alts:=RN (Vi hA U)
 F1:=λo=>lr (M4 U) hA (IL hA U)
 list:=λo=>qK (IL hA U) (JE hA U)
theorem O0:∀d,Ms (Jq d)
 |0=>⟨λ_=>trivial,λ_=>trivial,λ_=>trivial,λ_=>trivial,λ_=>trivial,λ_=>trivial,λo=>dG,λo=>dG⟩
 |d+1=>xF (Lk _) (O0 d)
end
namespace Rd
variable {α β γ σ:Type}
theorem seq_assoc {m:Rd α} {f:α->Rd β} {g:β->Rd γ}:seq (seq m f) g=seq m (λx=>seq (f x) g):=ext' λs=>by
 unfold seq
 dsimp only
 cases m.run s<;>rfl
theorem On {v:α} {f:α->Rd β}:seq (ret v) f=f v:=ext' λs=>rfl
theorem p4 {body:σ->Rd (Sum σ β)} {m:Rd γ} {g:γ->σ} {Q:β->Af->Prop} {E:Er->Af->Prop} (U:mu s'<mu s) (h:wp m s' (λt s2=>again body s Q E (.inl (g t)) s2) E):wp m s' (λt s2=>wp (loop body (g t)) s2 Q E) E:=
 wp_mono h (λv s2 hr h=>Bh h (Nat.lt_of_le_of_lt (m.le _ _ _ hr) U)) (λ_ _ _ h=>h)
end Rd
theorem Yy {exp:Rd Nd} {k:Int} {U:List Nd} (h:(Gu exp k x l).run s=.inr (U,s')):U.length=l.length+2:=by
 unfold Gu at h
 obtain ⟨_,_,_,h⟩:=Bn h
 obtain ⟨_,_,_,h⟩:=Bn h
 cases h
 simp
theorem Dv.yL {A:Rd Nd} (h:Dv A) (U:A.run s=.inr (n,s')) (hm:mu s<=100000000):n.size<=1000000000:=by have:=h.size U;omega
theorem OE {Q:Nd->Af->Prop} {E:Er->Af->Prop} (h:(Aa s).2.2=0):Rd.wp AB s Q E=Q (AJ (Aa s).1) (Aa s).2.1:=by unfold Rd.wp;rw [C8 h]
section
variable {st0 st:St} {s:Af} {rows:List (Ay×List Nd)} {K:AD->St->Prop} {E:Er->Af->Prop}
theorem Hg {σ β:Type} {env:Env} {Q:β->Af->Prop} (T:σ->Rd β) {x0:σ}
 (f:σ->Af->Ay->List (Nat×V)) (g:σ->Af->Ay->List (Nat×List V)) (keep kb:List Nat) (rw:σ->Ay->List (Ay×List Nd)) (wt:σ->Nat) (U:Ay) (hm:mu s<=100000000) (hc:Rx st0 st (rw x0 U)) (h:Rd.wp (T x0) s Q E) (hl:wt x0+4*mu s<=500000000)
 (he:(env.EG (f x0 s U) (g x0 s U) keep kb).C3 env)
 (hb:∀x s1 st1 own1,mu s1<=100000000->mu s1<=mu s->Rx st0 st1 (rw x own1)->Rd.wp (T x) s1 Q E->wt x+4*mu s1<=500000000->
   ih (Bz (λenv' st'=>∃y:LS σ,(mu y.s<=100000000/\mu y.s<=mu s/\Rx st0 y.m (rw y.x y.o)/\Rd.wp (T y.x) y.s Q E/\wt y.x+4*mu y.s<=500000000)/\mu y.s<mu s1/\(env.EG (f y.x y.s y.o) (g y.x y.s y.o) keep kb).C3 env'/\St.le y.m st') Q0)
    (env.EG (f x s1 own1) (g x s1 own1) keep kb) st1):
 ∃(α:Type) (E:α->Env) (S:α->St) (J:α->Prop) (μ:α->Nat) (x0:α),J x0/\(E x0).C3 env/\St.le (S x0) st/\
  ∀x,J x->ih (Bz (λenv' st'=>∃y,J y/\μ y<μ x/\(E y).C3 env'/\St.le (S y) st') Q0) (E x) (S x):=
 ⟨LS σ,λy=>env.EG (f y.x y.s y.o) (g y.x y.s y.o) keep kb,λy=>y.m,
   λy=>mu y.s<=100000000/\mu y.s<=mu s/\Rx st0 y.m (rw y.x y.o)/\Rd.wp (T y.x) y.s Q E/\wt y.x+4*mu y.s<=500000000,λy=>mu y.s,⟨x0,s,st,U⟩,⟨hm,Nat.le_refl _,hc,h,hl⟩,he,St.le_refl _,
   λy ⟨j1,j2,j3,j4,j5⟩=>hb y.x y.s y.m y.o j1 j2 j3 j4 j5⟩
theorem Pa {env:Env} (f:List (Nat×V)) (g:List (Nat×List V)) (keep U:List Nat) (he:(env.EG f g keep U).C3 env)
 (hb:∀P:Env->St->Prop,ih (Bz P Q0) (env.EG f g keep U) st):
 ∃(α:Type) (E:α->Env) (S:α->St) (J:α->Prop) (μ:α->Nat) (x0:α),J x0/\(E x0).C3 env/\St.le (S x0) st/\
  ∀x,J x->ih (Bz (λenv' st'=>∃y,J y/\μ y<μ x/\(E y).C3 env'/\St.le (S y) st') Q0) (E x) (S x):=
 ⟨Unit,λ_=>env.EG f g keep U,λ_=>st,λ_=>True,λ_=>0,(),trivial,he,St.le_refl _,λ_ _=>hb _⟩
theorem OG {P R:Prop} (U:n.size<=1000000000) (h:if Hr n=true then P else R) (k1:Hr n=true->P->K (.ret (.int .i64 0)) st) (k2:Hr n=false->R->K (.ret (.int .i64 120)) st):PC 321 [enc n] st K:=by
 refine iA U ?_
 unfold OS
 cases e:Hr n with
 |true=>rw [if_pos rfl];exact k1 e (by rw [if_pos e] at h;exact h)
 |false=>rw [if_neg IR];exact k2 e (by rw [if_neg (by rw [e];decide)] at h;exact h)
theorem yA {Q:Unit->Af->Prop} (hm:mu s<=100000000) (h:Rd.wp (P8 w) s Q E) (k:∀s',mu s'<=mu s->mu s'<=100000000->Q () s'->K (.ret (Am s')) st):PC 369 [Am s,.str w] st K:=by
 simp only [P8,Rd.Ag,Rd.Ao,Rd.wp_ret] at h
 refine pB Tryz.func369 ?_
 cases hs:FG (Aa s).1 with
 |true=>
  have hz:=En (Ja hs).1
  have hm1:mu (Aa s).2.1<=100000000:=Nat.le_trans (De hz).1 hm
  rw [if_pos hs] at h
  have hk:∀(p:Prop),((Aa s).1.kind=19->p)->((Aa s).1.kind=15->(Aa s).1.text=[59]->p)->p:=λp a b=>by
   unfold FG at hs
   simp only [Bool.or_eq_true,Bool.and_eq_true,beq_iff_eq] at hs
   rcases hs with e|⟨e1,e2⟩
   .exact a e
   .exact b e1 e2
  cases hi:AP (Aa s).2.1 9 w with
  |true=>
   rw [if_pos hi] at h
   unfold GN at h
   rw [Rd.wp_seq,OE hz,Rd.wp_ret] at h
   have U:=k _ (De hz).1 hm1 h
   refine hk _ (λe1=>?_) (λe1 e2=>?_)
   .skip
    repeat' ((conv=>whnf);(first|refine AV ?_|refine BU ?_ ?_|refine CJ ?_|fail)<;>intros)
    all_goals exact AU rfl U
   .skip
    repeat' ((conv=>whnf);(first|refine AV ?_|refine BU ?_ ?_|refine CJ ?_|fail)<;>intros)
    all_goals exact AU rfl U
  |false=>
   rw [if_neg (by rw [hi];decide)] at h
   have U:=k _ (Nat.le_refl _) hm h
   refine hk _ (λe1=>?_) (λe1 e2=>?_)
   .skip
    repeat' ((conv=>whnf);(first|refine AV ?_|refine BU ?_ ?_|refine CJ ?_|fail)<;>intros)
    all_goals exact AU rfl U
   .skip
    repeat' ((conv=>whnf);(first|refine AV ?_|refine BU ?_ ?_|refine CJ ?_|fail)<;>intros)
    all_goals exact AU rfl U
 |false=>
  rw [if_neg (by rw [hs];decide)] at h
  have U:=k _ (Nat.le_refl _) hm h
  have h1:¬(Aa s).1.kind=19:=λe=>by unfold FG at hs;rw [e] at hs;cases hs
  by_cases h2:(Aa s).1.kind=15
  .have h3:¬(Aa s).1.text=[59]:=λe=>by unfold FG at hs;rw [h2,e] at hs;cases hs
   repeat' ((conv=>whnf);(first|refine AV ?_|refine BU ?_ ?_|refine CJ ?_|fail)<;>intros)
   all_goals exact AU rfl U
  .skip
   repeat' ((conv=>whnf);(first|refine AV ?_|refine BU ?_ ?_|refine CJ ?_|fail)<;>intros)
   all_goals exact AU rfl U
attribute [local irreducible] Go.Aw.Ai
theorem FF {exp:Rd Nd} {k:Int} (U:k≠0) (he:Ba 258 (λs=>[Am s,.int .i64 D]) exp):aw 900000000 191 (λs v=>[v,Am s,.int .i64 k,.str x,.int .i64 D]) (Gu exp k x):=by
 refine ⟨λ{st0 s st rows K own l} hl hm hc h=>?_⟩
 simp only [Gu,Rd.Ag,Rd.Ao,Rd.wp_seq,Rd.wp_ret] at h
 refine pB Tryz.func191 ?_
 repeat' ((conv=>whnf);(first|exact C1|refine AV ?_|(refine C2 ?_ ?_ ?_;rotate_left)|refine Ba.go (J5 U) hm ‹_› ‹_› ?_ ?_|refine LP.go (by first|exact Ba.q) ?_ ?_|refine El ?_|exact CV|refine Ad 4 [3] [1] ?_|refine Ad 4 [3] [1] ?_|fail)<;>intros)
theorem cD {e d:Int} (U:¬e=0) (h:K (.ret (Ax n s e)) st):PC 320 [Ax n s e,.int .i64 d] st K:=by
 refine pB Tryz.func320 ?_
 repeat' ((conv=>whnf);(first|refine AV ?_|fail)<;>intros)
 all_goals exact AU rfl h
theorem Uy {full:Rd Nd} (hf:Ba 108 (λs=>[Am s,.int .i64 D]) full):Ba 320 (λs=>[Ax n s 0,.int .i64 D]) (Jt full n):=by
 refine ⟨λ{st0 s st rows K} U hc h=>?_⟩
 simp only [Jt,Rd.Ag,Rd.Ao,Rd.wp_seq,Rd.wp_ret] at h
 refine pB Tryz.func320 ?_
 repeat' ((conv=>whnf);(first|refine AV ?_|refine LP.go (by first|exact Ba.q) ?_ ?_|refine CJ ?_|refine IE ?_ ?_|refine Jx ?_|refine El ?_|exact CV|fail)<;>intros)
theorem sB (h:l≠[]):sA (l++[n],false)=Al 17 (l++[n]):=by
 unfold sA Jr
 dsimp only
 rw [if_neg IR,if_neg (by rw [List.length_append,List.length_singleton];have:=List.length_pos_iff.2 h;omega)]
theorem fm {br:Bool} {opd:Rd Nd} (ho:Ba 241 (λs=>[Am s,.int .i64 D]) opd):tK 186 (λs=>[Am s,.int .i64 D,.bool br]) (H8 opd br):=by
 refine ⟨λ{st0 s st rows K} hm hc h=>?_⟩
 unfold H8 at h
 refine pB Tryz.func186 ?_
 repeat' ((conv=>whnf);(first|exact C1|refine AV ?_|(refine C2 ?_ ?_ ?_;rotate_left)|refine Ej ?_ ?_|fail)<;>intros)
 refine KB (λl s own=>[(8,.slice 6 (l.map Ap) own),(7,.bool false)]) (λl s own=>[(0,s.cells)]) [1,2,3,6] [1] (λl own=>(own,l)::rows) (λl=>l.length) .full hm (Rx.push ‹_› []) ‹_› li Yl ?_
 intro l s1 st1 own1 hm1 hm2 hc h hl
 simp only [Zb,Rd.Ag,Rd.Ao,Rd.wp_seq,Rd.wp_ret,Rd.AO] at h
 repeat' ((conv=>whnf);(first|exact C1|refine AV ?_|(refine C2 ?_ ?_ ?_;rotate_left)|refine Ej ?_ ?_|fail)<;>intros)
 unfold VL at h
 refine KB (λl s own=>[(8,.slice 6 (l.map Ap) own),(7,.bool false)]) (λl s own=>[(0,s.cells)]) [1,2,3,6] [1] (λl own=>(own,l)::rows) (λl=>l.length) own1 hm1 ‹_› ‹_› hl Yl ?_
 intro l2 s2 st2 own2 hm3 hm4 hc h hl
 simp only [VK,Rd.Ag,Rd.Ao,Rd.wp_seq,Rd.wp_ret,Rd.AO] at h
 by_cases hn:l2=[]
 .subst hn
  have U:∀n:Nd,((([]++[n]:List Nd).length:Nat):Int)=1:=λ_=>rfl
  cases br
  .simp only [Bool.false_eq_true,if_false] at h
   repeat' ((conv=>whnf);(first|refine Wt (U _) ?_|exact C1|refine AV ?_|(refine C2 ?_ ?_ ?_;rotate_left)|refine Ej ?_ ?_|refine LP.go (by first|exact Ba.q) ?_ ?_|refine Ba.Tr Gx GQ ‹_› ‹_› ‹_› ?_ ?_|refine MT (l:=[]++[_]) rfl H1 ?_|refine CJ ?_|refine IE ?_ ?_|refine Jx ?_|refine El ?_|refine BH ?_|exact CV|refine Az [1,5,2,7,8,11] [1] ?_|refine Ad 7 [5] [1] ?_|refine Az [1,5,2,7,8,11] [1] ?_|fail)<;>intros)
  .simp only [if_true] at h
   repeat' ((conv=>whnf);(first|refine Wt (U _) ?_|exact C1|refine AV ?_|(refine C2 ?_ ?_ ?_;rotate_left)|refine Ej ?_ ?_|refine LP.go (by first|exact Ba.q) ?_ ?_|refine Ba.Tr Gx GQ ‹_› ‹_› ‹_› ?_ ?_|refine MT (l:=[]++[_]) rfl H1 ?_|refine CJ ?_|refine IE ?_ ?_|refine Jx ?_|refine El ?_|refine BH ?_|exact CV|refine Az [1,5,2,7,8,11] [1] ?_|refine Ad 7 [5] [1] ?_|refine Az [1,5,2,7,8,11] [1] ?_|fail)<;>intros)
 .have U:∀n:Nd,¬((((l2++[n]:List Nd).length:Nat):Int)=1):=λ_=>by rw [List.length_append,List.length_singleton];have:=List.length_pos_iff.2 hn;omega
  simp only [sB hn] at h
  cases br
  .simp only [Bool.false_eq_true,if_false] at h
   repeat' ((conv=>whnf);(first|refine Wu (U _) ?_|exact C1|refine AV ?_|(refine C2 ?_ ?_ ?_;rotate_left)|refine Ej ?_ ?_|refine LP.go (by first|exact Ba.q) ?_ ?_|refine Ba.Tr Gx GQ ‹_› ‹_› ‹_› ?_ ?_|refine CJ ?_|refine IE ?_ ?_|refine Jx ?_|refine El ?_|refine BH ?_|exact CV|refine Az [1,5,2,7,8,11] [1] ?_|refine Ad 7 [5] [1] ?_|refine Az [1,5,2,7,8,11] [1] ?_|fail)<;>intros)
  .simp only [if_true] at h
   repeat' ((conv=>whnf);(first|refine Wu (U _) ?_|exact C1|refine AV ?_|(refine C2 ?_ ?_ ?_;rotate_left)|refine Ej ?_ ?_|refine LP.go (by first|exact Ba.q) ?_ ?_|refine Ba.Tr Gx GQ ‹_› ‹_› ‹_› ?_ ?_|refine CJ ?_|refine IE ?_ ?_|refine Jx ?_|refine El ?_|refine BH ?_|exact CV|refine Az [1,5,2,7,8,11] [1] ?_|refine Ad 7 [5] [1] ?_|refine Az [1,5,2,7,8,11] [1] ?_|fail)<;>intros)
theorem wG {opd:Rd Nd} {Q:List Nd×Bool->Af->Prop} (ho:Ba 241 (λs=>[Am s,.int .i64 D]) opd) (hm:mu s<=100000000) (hc:Rx st0 st rows) (h:Rd.wp (H8 opd false) s Q E)
 (k:∀l s' st',mu s'<=100000000->Rx st0 st' rows->Q (l,false) s'->K (.ret (.Bl [Ax (Jr 17 l) s' 0,.bool false])) st')
 (kb:∀e n s' st',¬e.1=0->Rx st0 st' rows->E e s'->K (.ret (.Bl [Ax n s' e.1,.bool false])) st'):PC 186 [Am s,.int .i64 D,.bool false] st K:=
 tK.go (fm ho) hm hc h (λn s' st' hr hl U hc q=>by
  obtain ⟨l,b⟩:=n
  cases b with
  |false=>exact k l s' st' U hc q
  |true=>exact absurd (fe hr rfl).1 IR) kb
theorem QV {opd:Rd Nd} (U:Ba 241 (λs=>[Am s,.int .i64 D]) opd):Ba 110 (λs=>[Am s,.int .i64 D]) (Pg opd):=by
 refine ⟨λ{st0 s st rows K} hm hc h=>?_⟩
 simp only [Pg,Rd.Ag,Rd.Ao,Rd.wp_seq,Rd.wp_ret] at h
 refine pB Tryz.func110 ?_
 repeat' ((conv=>whnf);(first|refine AV ?_|refine wG U ‹_› ‹_› ‹_› ?_ ?_|exact CV|fail)<;>intros)
end
end Go.Proofs.Z
namespace Go.Proofs.Z
open Go Go.Aw
open Rd (ret seq fail M6 look loop)
def aP (item:Rd Nd) (l:List Nd):Rd (Sum (List Nd) (List Nd)):=.seq item λn=>.look λs=>if AP s 15 [44]=true then .seq AB λc=>.ret (.inl (l++[n]++[c])) else .ret (.inr (l++[n]))
def H5 (item:Rd Nd) (shut:List UInt8) (p:Bool×List Nd):Rd (Sum (Bool×List Nd) (List Nd)):=
 if p.1=true then .look λs=>if AP s 15 shut=true then .ret (.inr p.2) else .seq item λn=>.look λs=>if AP s 15 [44]=true then .seq AB λc=>.ret (.inl (false,p.2++[n]++[c])) else .ret (.inr (p.2++[n]))
 else .seq item λn=>.look λs=>if AP s 15 [44]=true then .seq AB λc=>.ret (.inl (false,p.2++[n]++[c])) else .ret (.inr (p.2++[n]))
def D3 (item:Rd Nd) (shut:List UInt8) (l:List Nd):Rd (List Nd):=.seq (.loop (H5 item shut) (true,l)) λl=>.seq (Bo 15 shut) λc=>.ret (l++[c])
def D5 (ks:List Int):Rd Nd:=.seq (Bo 15 [40]) λo=>.seq (Cm ks) λn=>.seq (Bo 15 [41]) λc=>.ret (Al 3 [o,n,c])
def X6 (n:Nd):Int:=match n.kids[1]? with
 |some x=>x.form
 |none=>0
def HC:Rd Nd:=.look λs=>if AP s 15 [40]=true then .look λs0=>.seq (D5 [5,6]) λn=>if (X6 n==5)=true then .ret n else .M6 s0 Fj else Cm [1]
def N6:Rd Nd:=.look λs=>if AP s 15 [40]=true then D5 [5,6] else Cm [1,2]
def S2 (own:Bool):List Int:=if own then [1] else [1,3]
def Nb (own:Bool):List Int:=if own then [2] else [2,4]
def ZJ (own:Bool):List Int:=if own then [5,6] else [5,6,7,8]
abbrev fF:List UInt8:=[109,111,100,117,108,101]
abbrev c8:List UInt8:=[113,117,97,108,105,102,105,101,100]
abbrev zG:List UInt8:=[97,115]
abbrev tp:List UInt8:=[104,105,100,105,110,103]
abbrev Xe:List UInt8:=[105,109,112,111,114,116]
abbrev tn:List UInt8:=[101,120,112,111,114,116]
abbrev ym:List UInt8:=[115,97,102,101]
abbrev tq:List UInt8:=[117,110,115,97,102,101]
abbrev uH:List UInt8:=[116,121,112,101]
abbrev uG:List UInt8:=[100,97,116,97]
abbrev Z2:List UInt8:=[110,101,119,116,121,112,101]
abbrev pn:List UInt8:=[99,108,97,115,115]
abbrev UM:List UInt8:=[105,110,115,116,97,110,99,101]
abbrev Z0:List UInt8:=[100,101,102,97,117,108,116]
abbrev Z1:List UInt8:=[102,111,114,101,105,103,110]
abbrev jD:List UInt8:=[100,101,114,105,118,105,110,103]
def Yz (l:List Nd):Rd Nd:=.look λs=>if AP s 15 [40]=true then .seq AB λo=>.look λs=>if AP s 10 [46,46]=true then .seq AB λd=>.seq (Bo 15 [41]) λc=>.ret (Al 52 (l++[o]++[d,c]))
 else .seq (D3 N6 [41] (l++[o])) λl=>.ret (Al 52 l)
 else .ret (Al 52 l)
def YA (own:Bool):Rd Nd:=.look λs=>if AP s 15 [40]=true then .seq (D5 (ZJ own)) λn=>.ret (Al 52 [n])
 else if ((Aa s).1.kind==2)=true then .seq (Cm (Nb own)) λn=>Yz [n]
 else if ((Aa s).1.kind==4)=true then .seq (Cm (Nb own)) λn=>Yz [n]
 else .seq (Cm (S2 own)) λn=>.ret (Al 52 [n])
def PX (own:Bool):Rd Nd:=if own=true then YA own else .look λs=>if AP s 9 fF=true then .seq AB λm=>.seq (Cm (Nb own)) λn=>.ret (Al 52 [m,n]) else YA own
def Nh (own:Bool) (l:List Nd):Rd (Sum (List Nd) (List Nd)):=.look λs=>if AP s 15 [41]=true then .ret (.inr l) else aP (PX own) l
def Pf (own:Bool):Rd Nd:=.seq (Bo 15 [40]) λo=>.seq (.loop (Nh own) [o]) λl=>.seq (Bo 15 [41]) λc=>.ret (Al 51 (l++[c]))
def QL (l:List Nd):Rd Nd:=.seq (Pf true) λn=>.ret (Al 50 (l++[n]))
def QK (l:List Nd):Rd Nd:=.look λs=>if AP s 1 tp=true then .seq AB λh=>QL (l++[h])
 else if AP s 15 [40]=true then QL l else .ret (Al 50 l)
def QJ (l:List Nd):Rd Nd:=.seq (Cm [2,4]) λn=>.look λs=>if AP s 1 zG=true then .seq AB λa=>.seq (Cm [2,4]) λm=>QK (l++[n]++[a]++[m]) else QK (l++[n])
def JP:Rd Nd:=.seq AB λi=>.look λs=>if AP s 1 c8=true then .seq AB λq=>QJ ([i]++[q]) else QJ [i]
def Lp (full:Rd Nd) (l:List Nd):Rd Nd:=.seq HC λn=>.seq (Bo 10 [58,58]) λc=>.seq full λt=>.ret (Al 47 (l++[n]++[c]++[t]))
def JI (full:Rd Nd) (l:List Nd):Rd Nd:=.look λs=>if ((Aa s).1.kind==14)=true then .seq AB λt=>Lp full (l++[t]) else Lp full l
def Sf (full:Rd Nd) (l:List Nd):Rd Nd:=.look λs=>if (if AP s 1 ym=true then true else AP s 1 tq)=true then
 (if AP (Aa s).2.1 10 [58,58]=true then JI full l else .seq AB λt=>JI full (l++[t]))
 else JI full l
def Lo (full:Rd Nd) (l:List Nd):Rd Nd:=.seq AB λw=>.seq (Cm [1]) λn=>Sf full (l++[w]++[n])
def JJ (full:Rd Nd):Rd Nd:=.seq AB λf=>.look λs=>if AP s 9 Xe=true then Lo full [f] else if AP s 1 tn=true then Lo full [f] else MX
def HX (whole:Rd Nd):Rd Nd:=.seq AB λd=>.seq (Bo 15 [40]) λo=>.seq (D3 whole [41] [d,o]) λl=>.ret (Al 46 l)
def CN (n:Nd):Bool:=if n.kind==39 then n.kids.head?.all (BR · [2])&&n.kids.tail.all (BR · [1]) else BR n [2]
def KW (row:Rd Nd) (l:List Nd):Rd (List Nd×Nd):=.seq row λr=>.look λs=>if AP s 10 [61,62]=true then .seq AB λa=>.seq row λq=>.ret (l++[r]++[a],q) else .ret (l,r)
def FB (b:Bool):Rd Unit:=if b=true then .ret () else .fail Fj
def J7 (row whole:Rd Nd):Rd Nd:=.seq AB λt=>.seq row λr=>.seq (FB (CN r)) λ_=>.seq (Bo 10 [61]) λe=>.seq whole λw=>.ret (Al 41 ([t,r]++[e]++[w]))
def HR (atom:Rd Nd):Rd Nd:=.seq AB λb=>.seq atom λa=>.ret (Al 40 [b,a])
def GF (atom:Rd Nd):Rd Nd:=.look λs=>if AP s 5 [33]=true then HR atom
 else if AP s 15 [40]=true then (if ((Aa (Aa s).2.1).1.kind==6)=true then D5 [6] else atom)
 else atom
def Pw (t:Tk):Bool:=if t.kind==5 then t.text==[33] else if t.kind==15 then t.text==[40]||t.text==[91] else t.kind==2||t.kind==4||t.kind==1
def SF (atom:Rd Nd) (l:List Nd):Rd (Sum (List Nd) (List Nd)):=.look λs=>if Pw (Aa s).1=true then .seq (GF atom) λn=>.ret (.inl (l++[n])) else .ret (.inr l)
def Lz (atom:Rd Nd):Rd (List Nd):=.seq (GF atom) λn=>.loop (SF atom) [n]
def C0 (n:Nd):Bool:=n.kind==40
def SZ (l:List Nd):Rd Nd:=if l.length=1 then .ret (l.headD BC) else .seq (FB (!l.any C0)) λ_=>.ret (Al 39 l)
def EV (n:Nd):Bool:=BR n [2]||(n.kind==3&&n.kids.length==3&&n.kids[1]?.any (BR · [6]))
def O5 (l:List Nd):Rd (Sum (List Nd) (List Nd)):=.look λs=>if AP s 15 [44]=true then .seq AB λc=>.seq HC λn=>.ret (.inl (l++[c]++[n])) else .ret (.inr l)
def Hm (atom whole:Rd Nd):Rd Nd:=.seq HC λn=>.seq (.loop O5 [n]) λl=>.seq (Bo 10 [58,58]) λc=>.look λs=>
 if AP s 5 [33]=true then .seq (HR atom) λt=>.ret (Al 13 (l++[c]++[t])) else .seq whole λt=>.ret (Al 13 (l++[c]++[t]))
def Py:Rd Nd:=.look λs=>if ((Aa s).1.kind==6)=true then .seq AB λt=>.ret (Al 18 [t])
 else .look λs0=>.seq AB λo=>.seq (Cm [1,2,3,4]) λn=>.seq (Bo 15 [96]) λc=>if (n.form==2)=true then .ret (Al 18 [o,n,c]) else .M6 s0 Fj
def Kq (atom:Rd Nd) (l:List Nd):Rd Nd:=.seq (SZ l) λa=>.seq Py λo=>.seq (Lz atom) λr=>.seq (SZ r) λb=>.ret (Al 48 [a,o,b])
def Kp (atom:Rd Nd) (l:List Nd):Rd Nd:=.look λs=>if ((Aa s).1.kind==6)=true then Kq atom l else if AP s 15 [96]=true then Kq atom l
 else .seq (FB (EV (l.headD BC))) λ_=>.ret (Al 48 l)
def FO (atom whole:Rd Nd):Rd Nd:=.seq (Lz atom) λl=>if (l.length==1&&EV (l.headD BC))=true then
 .look λs=>if AP s 15 [123]=true then .seq AB λo=>.seq (D3 (Hm atom whole) [125] (l++[o])) λl=>.ret (Al 48 l) else Kp atom l
 else Kp atom l
def HY:Rd Nd:=.seq AB λd=>.look λs=>if AP s 15 [40]=true then .seq AB λo=>.seq (D3 (Cm [2,4]) [41] ([d]++[o])) λl=>.ret (Al 49 l) else .seq (Cm [2,4]) λc=>.ret (Al 49 ([d]++[c]))
def JC (k:Int) (l:List Nd):Rd Nd:=.look λs=>if AP s 9 jD=true then .seq HY λd=>.ret (Al k (l++[d])) else .ret (Al k l)
def TV (atom whole:Rd Nd) (p:List UInt8×List Nd):Rd (Sum (List UInt8×List Nd) (List Nd)):=.look λs=>if AP s 10 p.1=true then .seq AB λe=>.seq (FO atom whole) λc=>.ret (.inl ([124],p.2++[e]++[c])) else .ret (.inr p.2)
def TW (atom row whole:Rd Nd):Rd Nd:=.seq AB λd=>.seq (KW row [d]) λp=>.seq (FB (CN p.2)) λ_=>.seq (.loop (TV atom whole) ([61],p.1++[p.2])) λl=>JC 42 l
def HO (n:Nd):Bool:=if EV (n.kids.headD BC) then
 (if n.kids.length=2 then !C0 (n.kids[1]?.getD BC)
 else if n.kids.length=4/\(n.kids[2]?.getD BC).kind=13 then decide ((n.kids[2]?.getD BC).kids.length=3)&& !C0 ((n.kids[2]?.getD BC).kids[2]?.getD BC) else false)
 else false
def JV (atom row whole:Rd Nd):Rd Nd:=.seq AB λd=>.seq (KW row [d]) λp=>.seq (FB (CN p.2)) λ_=>.seq (Bo 10 [61]) λe=>.seq (FO atom whole) λc=>.seq (FB (HO c)) λ_=>JC 43 (p.1++[p.2]++[e]++[c])
def TR (decls:Rd Nd) (k:Int) (l:List Nd) (U:Nd->Bool):Rd Nd:=.look λs=>if AP s 9 Xg=true then .seq AB λw=>.seq decls λb=>.seq (FB (b.kids.all U)) λ_=>.ret (Al k (l++[Al 31 [w,b]])) else .ret (Al k l)
def Gf (n:Nd):Bool:=n.kind==39&&n.kids.length==2&&BR (n.kids[0]?.getD BC) [2]&&BR (n.kids[1]?.getD BC) [1]
def Ih (n:Nd):Bool:=n.kind==39&&n.kids.length==2&&BR (n.kids[0]?.getD BC) [2,4]
def OU (row decls:Rd Nd):Rd Nd:=.seq AB λc=>.seq (KW row [c]) λp=>.seq (FB (Gf p.2)) λ_=>TR decls 44 (p.1++[p.2]) λ_=>true
def HZ (row decls:Rd Nd):Rd Nd:=.seq AB λc=>.seq (KW row [c]) λp=>.seq (FB (Ih p.2)) λ_=>TR decls 45 (p.1++[p.2]) λn=>n.kind==36
def Tg (atom row whole full decl decls:Rd Nd):Rd Nd:=.look λs=>if ((Aa s).1.kind==9)=true then
 (if ((Aa s).1.text==Xe)=true then JP
 else if ((Aa s).1.text==uH)=true then J7 row whole
 else if ((Aa s).1.text==uG)=true then TW atom row whole
 else if ((Aa s).1.text==Z2)=true then JV atom row whole
 else if ((Aa s).1.text==pn)=true then OU row decls
 else if ((Aa s).1.text==UM)=true then HZ row decls
 else if ((Aa s).1.text==Z0)=true then HX whole
 else if ((Aa s).1.text==Z1)=true then JJ full
 else decl)
 else decl
def Qf (t:Tk):Bool:=(t.kind==9&&(t.text==Xe||t.text==uH||t.text==uG||t.text==Z2||t.text==pn||t.text==UM||t.text==Z0||t.text==Z1))||(D2 t||Fo t)
def G5 (d:Nat):Rd Nd:=Ly (BN (B8 (d - 1))) λs v s' h=>Nat.le_of_lt (BL (Bv _) _ _ _ h)
def Kd (d:Nat):Rd Nd:=Ly (A8 (BN (B8 (d - 1)))) λs v s' h=>Nat.le_of_lt (DN (BL (Bv _)) _ _ _ h)
def GG (d:Nat):Rd Nd:=Ly (C9 (BN (B8 (d - 1)))) λs v s' h=>Nat.le_of_lt (IP (BL (Bv _)) _ _ _ h)
end Go.Proofs.Z
namespace Go.Proofs.Z
open Go Go.Aw
section
variable {st0 st:St} {s:Af} {rows:List (Ay×List Nd)} {K:AD->St->Prop} {Q:Nd->Af->Prop} {E:Er->Af->Prop}
attribute [local irreducible] Go.Aw.Ai
theorem yB {k:Int} (U:k≠0) (hm:mu s<=100000000) (h:K (.ret (.bool (AP s k x))) st):PC 94 [Am s,.int .i64 k,.str x] st K:=by
 refine pB Tryz.func94 ?_
 repeat' ((conv=>whnf);first|  (refine CD ?_ ?_<;>intro _)|refine jJ U hm ?_)
 all_goals conv=>whnf
 all_goals exact An h ‹_›
theorem yC (U:mu s<=100000000) (h:K (.ret (.bool (AP s 15 x))) st):PC 51 [Am s,.str x] st K:=by
 refine pB Tryz.func51 ?_
 repeat' ((conv=>whnf);first|  (refine CD ?_ ?_<;>intro _)|refine jJ IR U ?_)
 all_goals conv=>whnf
 all_goals exact An h ‹_›
section
variable {k:Int} {x:List UInt8} {P R:Prop}
theorem IB (hm:mu s<=100000000) (e:AP s k x=true) (U:k≠0) (h:K (.ret (.bool true)) st):PC 94 [Am s,.int .i64 k,.str x] st K:=yB U hm (by rw [e];exact h)
theorem HA (hm:mu s<=100000000) (e:AP s k x=false) (U:k≠0) (h:K (.ret (.bool false)) st):PC 94 [Am s,.int .i64 k,.str x] st K:=yB U hm (by rw [e];exact h)
theorem EI (hm:mu s<=100000000) (U:k≠0) (h:if AP s k x=true then P else R) (k1:AP s k x=true->P->K (.ret (.bool true)) st) (k2:AP s k x=false->R->K (.ret (.bool false)) st):PC 94 [Am s,.int .i64 k,.str x] st K:=by
 cases e:AP s k x with
 |true=>exact IB hm e U (k1 e (by rw [if_pos e] at h;exact h))
 |false=>exact HA hm e U (k2 e (by rw [if_neg (by rw [e];decide)] at h;exact h))
theorem Tn (U:mu s<=100000000) (e:AP s 15 x=true) (h:K (.ret (.bool true)) st):PC 51 [Am s,.str x] st K:=yC U (by rw [e];exact h)
theorem TH (U:mu s<=100000000) (e:AP s 15 x=false) (h:K (.ret (.bool false)) st):PC 51 [Am s,.str x] st K:=yC U (by rw [e];exact h)
theorem Gd (U:mu s<=100000000) (h:if AP s 15 x=true then P else R) (k1:AP s 15 x=true->P->K (.ret (.bool true)) st) (k2:AP s 15 x=false->R->K (.ret (.bool false)) st):PC 51 [Am s,.str x] st K:=by
 cases e:AP s 15 x with
 |true=>exact Tn U e (k1 e (by rw [if_pos e] at h;exact h))
 |false=>exact TH U e (k2 e (by rw [if_neg (by rw [e];decide)] at h;exact h))
end
theorem A2 {k:Int} {own:Ay} (h:K (.ret (enc (Al k l))) st):PC 96 [.int .i64 k,.slice 6 (l.map Ap) own] st K:=by
 refine pB Tryz.func96 ?_
 repeat' ((conv=>whnf);first|  fail)
 all_goals exact CS (St.le_refl _) Ck h
theorem IC {k:Int} {a:Nd} {own:Ay} (h:K (.ret (enc (Al k [a]))) st):PC 96 [.int .i64 k,.slice 6 [Ap a] own] st K:=A2 (l:=[a]) h
theorem BK {own:Ay} (hl:l.length<=900000000) (hm:mu s<=100000000) (hc:Rx st0 st ((own,l)::rows)) (h:Rd.wp AB s Q E) (hk:(Aa s).1.kind≠0/\(Aa s).1.kind≠21)
 (kk:∀s1 U st',mu s1<mu s->mu s1<=100000000->Rx st0 st' ((U,l++[AJ (Aa s).1])::rows)->Q (AJ (Aa s).1) s1->K (.ret (.Bl [.slice 6 ((l++[AJ (Aa s).1]).map Ap) U,Am s1])) st'):PC 53 [.slice 6 (l.map Ap) own,Am s] st K:=by
 refine pB Tryz.func53 ?_
 repeat' ((conv=>whnf);first|exact B1|(refine B2 ?_ ?_ ?_;rotate_left)|refine Cn hm h hk (λs1 e1 hlt hm1 q=>?_)|refine Rx.BE hc H1 (λown1 st1 hc=>?_)|refine Ad 5 [4] [1] ?_|fail)
 all_goals exact ⟨_,_,.inl rfl,St.le_refl _,kk _ _ _ hlt hm1 hc q⟩
theorem F9 {k:Int} {own:Ay} (hk:k≠0) (hl:l.length<=900000000) (hm:mu s<=100000000) (hc:Rx st0 st ((own,l)::rows)) (h:Rd.wp (Bo k x) s Q E)
 (k1:∀n s1 U st',(Bo k x).run s=.inr (n,s1)->mu s1<=mu s->mu s1<=100000000->Rx st0 st' ((U,l++[n])::rows)->Q n s1->K (.ret (.Bl [.slice 6 ((l++[n]).map Ap) U,Ax n s1 0])) st')
 (k2:∀e n s1 U st',¬e.1=0->Rx st0 st' ((U,l++[n])::rows)->E e s1->K (.ret (.Bl [.slice 6 ((l++[n]).map Ap) U,Ax n s1 e.1])) st'):PC 50 [.slice 6 (l.map Ap) own,Am s,.int .i64 k,.str x] st K:=by
 refine pB Tryz.func50 ?_
 repeat' ((conv=>whnf);first|exact B1|(refine B2 ?_ ?_ ?_;rotate_left)|refine Ba.go (J5 hk) hm hc h (λn s1 st1 hr hmm hm1 hc h=>?_) (λe n s1 st1 he hc h=>?_)|refine Rx.BE hc H1 (λown1 st1 hc=>?_)|refine Ad 4 [3] [1] ?_|fail)
 all_goals first
  |exact ⟨_,_,.inl rfl,St.le_refl _,k1 _ _ _ _ hr hmm hm1 hc h⟩
  |exact ⟨_,_,.inl rfl,St.le_refl _,k2 _ _ _ _ _ he hc h⟩
theorem Qk {a b:Int} {v:Bool} (U:mu s<=100000000) (hv:((Aa s).1.kind==a||(Aa s).1.kind==b)=v) (h:K (.ret (.bool v)) st):PC 174 [Am s,.int .i64 a,.int .i64 b] st K:=by
 refine pB Tryz.func174 ?_
 repeat' ((conv=>whnf);first|  (refine CD ?_ ?_<;>intro _)|refine DU U ?_)
 all_goals conv=>whnf
 all_goals (refine An h ?_;clear h;subst hv;simp_all)
theorem A5 {a b:Int} (ha:a≠0/\a≠21) (hb:b≠0/\b≠21):Ba 95 (λs=>[Am s,.int .i64 a,.int .i64 b]) (Cm [a,b]):=by
 refine ⟨λ{st0 s st rows K} U hc h=>?_⟩
 simp only [Cm,Rd.Ag,Rd.Ao] at h
 have e0:([a,b]:List Int).contains (Aa s).1.kind=((Aa s).1.kind==a||(Aa s).1.kind==b):=by simp only [List.contains_cons,List.contains_nil,Bool.or_false]
 rw [e0] at h
 refine pB Tryz.func95 ?_
 cases hv:((Aa s).1.kind==a||(Aa s).1.kind==b) with
 |true=>
  rw [hv,if_pos rfl] at h
  repeat' ((conv=>whnf);first|(refine Bc ?_;intros)|refine Qk U hv ?_|refine Zh.go U hc h (λn s1 st1 hr hmm hm1 hc h=>?_) (λe n s1 st1 he hc h=>?_))
  all_goals first
   |exact Ae hc h rfl
   |exact At hc h rfl
 |false=>
  rw [hv,if_neg IR] at h
  repeat' ((conv=>whnf);first|(refine Bc ?_;intros)|refine Qk U hv ?_|refine Fl U h (λe he h=>?_))
  all_goals first
   |exact Ae hc (h BC) rfl
   |exact Ae hc h rfl
   |exact At hc h rfl
theorem Fg {k:Int} {own:Ay} (hl:l.length<=900000000) (hm:mu s<=100000000) (hc:Rx st0 st ((own,l)::rows)) (h:Rd.wp (Bo 15 [41]) s Q E)
 (k1:∀c s1 st',mu s1<=mu s->mu s1<=100000000->Rx st0 st' rows->Q c s1->K (.ret (Ax (Al k (l++[c])) s1 0)) st')
 (k2:∀e n s1 st',¬e.1=0->Rx st0 st' rows->E e s1->K (.ret (Ax n s1 e.1)) st'):PC 54 [.int .i64 k,.slice 6 (l.map Ap) own,Am s] st K:=by
 refine pB Tryz.func54 ?_
 repeat' ((conv=>whnf);first|  refine F9 IR hl hm hc h (λn s1 U st1 hr hmm hm1 hc h=>?_) (λe n s1 U st1 he hc h=>?_)|refine A2 ?_)
 all_goals first
  |exact ⟨_,_,.inr rfl,St.le_refl _,k1 _ _ _ hmm hm1 hc.drop h⟩
  |exact ⟨_,_,.inr rfl,St.le_refl _,k2 _ _ _ _ he hc.drop h⟩
end
theorem uo {k a b:Int} (e:(k==a||k==b)=true) (U:a≠0/\a≠21) (hb:b≠0/\b≠21):k≠0/\k≠21:=by
 rw [Bool.or_eq_true,beq_iff_eq,beq_iff_eq] at e
 rcases e with rfl|rfl
 .exact U
 .exact hb
theorem wR {k:Int} {o:Bool}:(ZJ o).contains k=((k==5||k==6)||(!o&&(k==7||k==8))):=by
 unfold ZJ
 cases o
 .simp only [Bool.false_eq_true,if_false,List.contains_cons,List.contains_nil,Bool.or_false,Bool.not_false,Bool.true_and,Bool.or_assoc]
 .simp only [if_true,List.contains_cons,List.contains_nil,Bool.or_false,Bool.not_true,Bool.false_and]
section
variable {st0 st:St} {s:Af} {rows:List (Ay×List Nd)} {K:AD->St->Prop} {Q:Nd->Af->Prop} {E:Er->Af->Prop}
attribute [local irreducible] Go.Aw.Ai
theorem AF {o:Bool}:Ba 107 (λs=>[Am s,.bool o]) (D5 (ZJ o)):=by
 refine ⟨λ{st0 s st rows K} hm hc h=>?_⟩
 simp only [D5,Cm,Rd.Ag,Rd.Ao,Rd.wp_seq,Rd.wp_ret,wR] at h
 refine AQ Ac [] Tryz.func107 rfl IR rfl ?_
 refine Ah (Aj Ac ?_)
 repeat' ((conv=>whnf);first|(refine Bc ?_;intros)|fail)
 refine Ah (Aj Ac ?_)
 repeat' ((conv=>whnf);first|(refine Bc ?_;intros)|refine F9 (l:=[]) IR (Nat.zero_le _) hm (hc.push []) h (λn s1 own1 U hr hmm hm1 hc h=>?_) (λe n s1 own1 U he hc h=>?_))
 .cases e5:((Aa s1).1.kind==5||(Aa s1).1.kind==6) with
  |true=>
   have hk:=uo e5 IR IR
   rw [e5,Bool.true_or,if_pos rfl] at h
   refine Aj Ac ?_
   repeat' ((conv=>whnf);first|(refine Bc ?_;intros)|refine Qk ‹_› e5 ?_|refine BK (l:=[]++[_]) (Nat.le_of_ble_eq_true rfl) ‹_› hc h hk (λs2 own2 st2 hlt hm2 hc h=>?_)|refine Fg (l:=[]++[_]++[_]) (Nat.le_of_ble_eq_true rfl) ‹_› hc h (λn s1 U hmm hm1 hc h=>?_) (λe n s1 U he hc h=>?_)|refine Fl ‹_› h (λe he h=>?_)|exact Ae hc h rfl|exact At hc h rfl|exact Ae hc.drop (h BC) rfl|fail)
  |false=>
   cases o with
   |true=>
    rw [e5,Bool.not_true,Bool.false_and,Bool.or_false,if_neg IR] at h
    have hk:True:=trivial
    refine Aj Ac ?_
    repeat' ((conv=>whnf);first|(refine Bc ?_;intros)|refine Qk ‹_› e5 ?_|refine BK (l:=[]++[_]) (Nat.le_of_ble_eq_true rfl) ‹_› hc h hk (λs2 own2 st2 hlt hm2 hc h=>?_)|refine Fg (l:=[]++[_]++[_]) (Nat.le_of_ble_eq_true rfl) ‹_› hc h (λn s1 U hmm hm1 hc h=>?_) (λe n s1 U he hc h=>?_)|refine Fl ‹_› h (λe he h=>?_)|exact Ae hc h rfl|exact At hc h rfl|exact Ae hc.drop (h BC) rfl|fail)
   |false=>
    cases e7:((Aa s1).1.kind==7||(Aa s1).1.kind==8) with
    |true=>
     have hk:=uo e7 IR IR
     rw [e5,e7,if_pos PP] at h
     refine Aj Ac ?_
     repeat' ((conv=>whnf);first|(refine Bc ?_;intros)|refine Qk ‹_› e5 ?_|refine Qk ‹_› e7 ?_|refine BK (l:=[]++[_]) (Nat.le_of_ble_eq_true rfl) ‹_› hc h hk (λs2 own2 st2 hlt hm2 hc h=>?_)|refine Fg (l:=[]++[_]++[_]) (Nat.le_of_ble_eq_true rfl) ‹_› hc h (λn s1 U hmm hm1 hc h=>?_) (λe n s1 U he hc h=>?_)|refine Fl ‹_› h (λe he h=>?_)|exact Ae hc h rfl|exact At hc h rfl|exact Ae hc.drop (h BC) rfl|fail)
    |false=>
     rw [e5,e7,if_neg IR] at h
     have hk:True:=trivial
     refine Aj Ac ?_
     repeat' ((conv=>whnf);first|(refine Bc ?_;intros)|refine Qk ‹_› e5 ?_|refine Qk ‹_› e7 ?_|refine BK (l:=[]++[_]) (Nat.le_of_ble_eq_true rfl) ‹_› hc h hk (λs2 own2 st2 hlt hm2 hc h=>?_)|refine Fg (l:=[]++[_]++[_]) (Nat.le_of_ble_eq_true rfl) ‹_› hc h (λn s1 U hmm hm1 hc h=>?_) (λe n s1 U he hc h=>?_)|refine Fl ‹_› h (λe he h=>?_)|exact Ae hc h rfl|exact At hc h rfl|exact Ae hc.drop (h BC) rfl|fail)
 .refine Aj Ac ?_
  repeat' ((conv=>whnf);first|(refine Bc ?_;intros)|exact At hc.drop h rfl|fail)
theorem A9 {k:Int} (e:AP s k x=true) (U:k≠0/\k≠21):(Aa s).1.kind≠0/\(Aa s).1.kind≠21:=by
 unfold AP at e
 simp only [Bool.and_eq_true,beq_iff_eq] at e
 rw [e.1];exact U
theorem KQ {own:Ay} (hm:mu s<=100000000) (hc:Rx st0 st ((own,[n])::rows)) (e0:AP s 15 [40]=true)
 (h:Rd.wp AB s (λo s'=>if AP s' 10 [46,46]=true then Rd.wp AB s' (λd s'=>Rd.wp (Bo 15 [41]) s' (λc s'=>Q (Al 52 ([n]++[o]++[d,c])) s') E) E
   else Rd.wp (Rd.loop (H5 N6 [41]) (true,[n]++[o])) s' (λl s'=>Rd.wp (Bo 15 [41]) s' (λc s'=>Q (Al 52 (l++[c])) s') E) E) E)
 (hQ:∀v s',Q v s'->∀st',Rx st0 st' rows->K (.ret (Ax v s' 0)) st') (hE:∀e s',E e s'->∀n st',Rx st0 st' rows->K (.ret (Ax n s' e.1)) st'):PC 124 [.slice 6 [Ap n] own,Am s] st K:=by
 refine pB Tryz.func124 ?_
 repeat' ((conv=>whnf);first|(refine Bc ?_;intros)|refine BK (l:=[_]) (by first|exact Nat.le_of_ble_eq_true rfl|(simp only [List.length_append,List.length_cons,List.length_nil]<;>omega)) ‹_› hc h (A9 ‹_› IR) (λs2 own2 st2 hlt hm2 hc h=>?_)|refine BK (l:=[_]++[_]) (by first|exact Nat.le_of_ble_eq_true rfl|(simp only [List.length_append,List.length_cons,List.length_nil]<;>omega)) ‹_› hc h (A9 ‹_› IR) (λs2 own2 st2 hlt hm2 hc h=>?_)|refine EI ‹_› IR h (λe h=>?_) (λe h=>?_)|refine Gd ‹_› h (λe h=>?_) (λe h=>?_)|refine Fg (l:=[_]++[_]++[_]) (Nat.le_of_ble_eq_true rfl) ‹_› hc h (λc s1 U hmm hm1 hc h=>?_) (λe n s1 U he hc h=>?_)|exact Ae hc (hQ _ _ h) rfl|exact At hc (hE _ _ h) rfl|fail)
 refine KB (x0:=(true,[n]++[AJ (Aa s).1])) (λ(p:Bool×List Nd) s own=>[(5,.bool p.1),(0,.slice 6 (p.2.map Ap) own)]) (λp s own=>[(0,s.cells)]) [3,4] [1] (λp own=>(own,p.2)::rows) (λp=>p.2.length) own2 hm2 hc h (by show 2+_<=_;omega) Yl ?_
 intro p s3 st3 own3 hm3 hm4 hc h hl
 obtain ⟨f,l⟩:=p
 dsimp only at hc hl
 simp only [H5,N6,Rd.Ag,Rd.Ao,Rd.wp_seq,Rd.wp_ret,Rd.AO] at h
 cases f
 all_goals simp only [Bool.false_eq_true,if_false,if_true] at h
 all_goals (repeat' ((conv=>whnf);first|(refine Bc ?_;intros)|exact ⟨⟨(false,_),_,_,_⟩,⟨‹_›,Do,hc,Rd.Bh h Do,Do⟩,Do,Yl,St.le_refl _⟩|refine EI ‹_› IR h (λe h=>?_) (λe h=>?_)|refine Gd ‹_› h (λe h=>?_) (λe h=>?_)|refine Ba.go (AF (o:=true)) ‹_› hc h (λn s1 U hr hmm hm1 hc h=>?_) (λe n s1 U he hc h=>?_)|refine Ba.go (A5 (a:=1) (b:=2) IR IR) ‹_› hc h (λn s1 U hr hmm hm1 hc h=>?_) (λe n s1 U he hc h=>?_)|refine Rx.BE (l:=l) hc H1 (λown1 U hc=>?_)|refine BK (l:=l++[_]) (by rw [List.length_append]<;>show l.length+1<=_<;>omega) ‹_› hc h (A9 ‹_› IR) (λs2 own2 st2 hlt hm2 hc h=>?_)|refine Fg (l:=l) H1 ‹_› hc h (λc s1 U hmm hm1 hc h=>?_) (λe n s1 U he hc h=>?_)|refine Fg (l:=l++[_]) (by rw [List.length_append]<;>show l.length+1<=_<;>omega) ‹_› hc h (λc s1 U hmm hm1 hc h=>?_) (λe n s1 U he hc h=>?_)|exact Ae hc (hQ _ _ h) rfl|exact At hc (hE _ _ h) rfl|exact At hc.drop (hE _ _ h) rfl|fail))
theorem pN {o:Bool}:Ba 52 (λs=>[Am s,.bool o]) (PX o):=by
 refine ⟨λ{st0 s st rows K} hm hc h=>?_⟩
 refine pB Tryz.func52 ?_
 have hcase:(Aa s).1.kind=1\/(Aa s).1.kind=2\/(Aa s).1.kind=3\/(Aa s).1.kind=4\/(¬(Aa s).1.kind=1/\¬(Aa s).1.kind=2/\¬(Aa s).1.kind=3/\¬(Aa s).1.kind=4):=H1
 cases o with
 |false=>
  simp only [PX,YA,Yz,D3,Nb,S2,Bool.false_eq_true,if_false,Rd.Ag,Rd.Ao,Rd.wp_seq,Rd.wp_ret] at h
  cases em:AP s 9 fF with
  |true=>
   have hk:=A9 em IR
   rw [em,if_pos rfl] at h
   repeat' ((conv=>whnf);first|exact B1|(refine Bc ?_;intros)|(refine B2 ?_ ?_ ?_;rotate_left)|refine IB ‹_› ‹_› IR ?_|refine HA ‹_› ‹_› IR ?_|refine Tn ‹_› ‹_› ?_|refine TH ‹_› ‹_› ?_|refine Gd ‹_› h (λe h=>?_) (λe h=>?_)|refine DU ‹_› ?_|refine Ba.go (AF) ‹_› hc h (λn s1 U hr hmm hm1 hc h=>?_) (λe n s1 U he hc h=>?_)|refine Ba.go (A5 (a:=2) (b:=4) IR IR) ‹_› hc h (λn s1 U hr hmm hm1 hc h=>?_) (λe n s1 U he hc h=>?_)|refine BK (l:=[]) (Nat.zero_le _) ‹_› (hc.push []) h hk (λs2 own2 st2 hlt hm2 hc h=>?_)|refine Cn ‹_› h hk (λs1 e1 hlt hm1 h=>?_)|refine KQ (Q:=λv s'=>∀st',Rx st0 st' rows->K (.ret (Ax v s' 0)) st') (E:=λe s'=>∀n st',Rx st0 st' rows->K (.ret (Ax n s' e.1)) st') ‹_› hc ‹_› h (λv s1 h U hc=>?_) (λe s1 h n U hc=>?_)|refine Rx.BE (l:=[]++[_]) hc (Nat.le_of_ble_eq_true rfl) (λown1 U hc=>?_)|refine IC ?_|refine A2 (l:=[]++[_]++[_]) ?_|refine A2 (l:=[]++[_]) ?_|refine Fl ‹_› h (λe he h=>?_)|refine Az [1,5,2,7,8] [1] ?_|exact Ae hc h rfl|exact At hc h rfl|exact Ae hc.drop h rfl|exact At hc.drop h rfl|exact Ae hc (h BC) rfl|fail|fail)
  |false=>
   rw [em,if_neg IR] at h
   cases ep:AP s 15 [40] with
   |true=>
    rw [ep,if_pos rfl] at h
    have hk:=A9 ep IR
    repeat' ((conv=>whnf);first|exact B1|(refine Bc ?_;intros)|(refine B2 ?_ ?_ ?_;rotate_left)|refine IB ‹_› ‹_› IR ?_|refine HA ‹_› ‹_› IR ?_|refine Tn ‹_› ‹_› ?_|refine TH ‹_› ‹_› ?_|refine Gd ‹_› h (λe h=>?_) (λe h=>?_)|refine DU ‹_› ?_|refine Ba.go (AF) ‹_› hc h (λn s1 U hr hmm hm1 hc h=>?_) (λe n s1 U he hc h=>?_)|refine Ba.go (A5 (a:=2) (b:=4) IR IR) ‹_› hc h (λn s1 U hr hmm hm1 hc h=>?_) (λe n s1 U he hc h=>?_)|refine BK (l:=[]) (Nat.zero_le _) ‹_› (hc.push []) h hk (λs2 own2 st2 hlt hm2 hc h=>?_)|refine Cn ‹_› h hk (λs1 e1 hlt hm1 h=>?_)|refine KQ (Q:=λv s'=>∀st',Rx st0 st' rows->K (.ret (Ax v s' 0)) st') (E:=λe s'=>∀n st',Rx st0 st' rows->K (.ret (Ax n s' e.1)) st') ‹_› hc ‹_› h (λv s1 h U hc=>?_) (λe s1 h n U hc=>?_)|refine Rx.BE (l:=[]++[_]) hc (Nat.le_of_ble_eq_true rfl) (λown1 U hc=>?_)|refine IC ?_|refine A2 (l:=[]++[_]++[_]) ?_|refine A2 (l:=[]++[_]) ?_|refine Fl ‹_› h (λe he h=>?_)|refine Az [1,5,2,7,8] [1] ?_|exact Ae hc h rfl|exact At hc h rfl|exact Ae hc.drop h rfl|exact At hc.drop h rfl|exact Ae hc (h BC) rfl|fail|fail)
   |false=>
    rw [ep,if_neg IR] at h
    rcases hcase with ck|ck|ck|ck|⟨c1,c2,c3,c4⟩
    iterate 4
     .have hk:(Aa s).1.kind≠0/\(Aa s).1.kind≠21:=by rw [ck];decide
      have c1:(Aa s).1.kind=1\/¬(Aa s).1.kind=1:=H1
      have c2:(Aa s).1.kind=2\/¬(Aa s).1.kind=2:=H1
      have c3:(Aa s).1.kind=3\/¬(Aa s).1.kind=3:=H1
      have c4:(Aa s).1.kind=4\/¬(Aa s).1.kind=4:=H1
      simp (config:={decide:=true}) only [Cm,Rd.Ag,Rd.Ao,ck,if_true,if_false] at h
      rcases c1 with c1|c1<;>first|omega|(rcases c2 with c2|c2<;>first|omega|(rcases c3 with c3|c3<;>first|omega|(rcases c4 with c4|c4<;>first|omega|skip)))
      repeat' ((conv=>whnf);first|exact B1|(refine Bc ?_;intros)|(refine B2 ?_ ?_ ?_;rotate_left)|refine IB ‹_› ‹_› IR ?_|refine HA ‹_› ‹_› IR ?_|refine Tn ‹_› ‹_› ?_|refine TH ‹_› ‹_› ?_|refine Gd ‹_› h (λe h=>?_) (λe h=>?_)|refine DU ‹_› ?_|refine Ba.go (AF) ‹_› hc h (λn s1 U hr hmm hm1 hc h=>?_) (λe n s1 U he hc h=>?_)|refine Ba.go (A5 (a:=2) (b:=4) IR IR) ‹_› hc h (λn s1 U hr hmm hm1 hc h=>?_) (λe n s1 U he hc h=>?_)|refine BK (l:=[]) (Nat.zero_le _) ‹_› (hc.push []) h hk (λs2 own2 st2 hlt hm2 hc h=>?_)|refine Cn ‹_› h hk (λs1 e1 hlt hm1 h=>?_)|refine KQ (Q:=λv s'=>∀st',Rx st0 st' rows->K (.ret (Ax v s' 0)) st') (E:=λe s'=>∀n st',Rx st0 st' rows->K (.ret (Ax n s' e.1)) st') ‹_› hc ‹_› h (λv s1 h U hc=>?_) (λe s1 h n U hc=>?_)|refine Rx.BE (l:=[]++[_]) hc (Nat.le_of_ble_eq_true rfl) (λown1 U hc=>?_)|refine IC ?_|refine A2 (l:=[]++[_]++[_]) ?_|refine A2 (l:=[]++[_]) ?_|refine Fl ‹_› h (λe he h=>?_)|refine Az [1,5,2,7,8] [1] ?_|exact Ae hc h rfl|exact At hc h rfl|exact Ae hc.drop h rfl|exact At hc.drop h rfl|exact Ae hc (h BC) rfl|fail|fail)
    .have d1:((Aa s).1.kind==1)=false:=by simpa using c1
     have d2:((Aa s).1.kind==2)=false:=by simpa using c2
     have d3:((Aa s).1.kind==3)=false:=by simpa using c3
     have d4:((Aa s).1.kind==4)=false:=by simpa using c4
     have hk:True:=trivial
     simp only [Cm,Rd.Ag,Rd.Ao,List.contains_cons,List.contains_nil,d1,d2,d3,d4,Bool.or_false,Bool.false_eq_true,if_false] at h
     repeat' ((conv=>whnf);first|exact B1|(refine Bc ?_;intros)|(refine B2 ?_ ?_ ?_;rotate_left)|refine IB ‹_› ‹_› IR ?_|refine HA ‹_› ‹_› IR ?_|refine Tn ‹_› ‹_› ?_|refine TH ‹_› ‹_› ?_|refine Gd ‹_› h (λe h=>?_) (λe h=>?_)|refine DU ‹_› ?_|refine Ba.go (AF) ‹_› hc h (λn s1 U hr hmm hm1 hc h=>?_) (λe n s1 U he hc h=>?_)|refine Ba.go (A5 (a:=2) (b:=4) IR IR) ‹_› hc h (λn s1 U hr hmm hm1 hc h=>?_) (λe n s1 U he hc h=>?_)|refine BK (l:=[]) (Nat.zero_le _) ‹_› (hc.push []) h hk (λs2 own2 st2 hlt hm2 hc h=>?_)|refine Cn ‹_› h hk (λs1 e1 hlt hm1 h=>?_)|refine KQ (Q:=λv s'=>∀st',Rx st0 st' rows->K (.ret (Ax v s' 0)) st') (E:=λe s'=>∀n st',Rx st0 st' rows->K (.ret (Ax n s' e.1)) st') ‹_› hc ‹_› h (λv s1 h U hc=>?_) (λe s1 h n U hc=>?_)|refine Rx.BE (l:=[]++[_]) hc (Nat.le_of_ble_eq_true rfl) (λown1 U hc=>?_)|refine IC ?_|refine A2 (l:=[]++[_]++[_]) ?_|refine A2 (l:=[]++[_]) ?_|refine Fl ‹_› h (λe he h=>?_)|refine Az [1,5,2,7,8] [1] ?_|exact Ae hc h rfl|exact At hc h rfl|exact Ae hc.drop h rfl|exact At hc.drop h rfl|exact Ae hc (h BC) rfl|fail|fail)
 |true=>
  simp only [PX,YA,Yz,D3,Nb,S2,if_true,Rd.Ag,Rd.Ao,Rd.wp_seq,Rd.wp_ret] at h
  cases ep:AP s 15 [40] with
  |true=>
   rw [ep,if_pos rfl] at h
   have hk:=A9 ep IR
   repeat' ((conv=>whnf);first|exact B1|(refine Bc ?_;intros)|(refine B2 ?_ ?_ ?_;rotate_left)|refine IB ‹_› ‹_› IR ?_|refine HA ‹_› ‹_› IR ?_|refine Tn ‹_› ‹_› ?_|refine TH ‹_› ‹_› ?_|refine Gd ‹_› h (λe h=>?_) (λe h=>?_)|refine DU ‹_› ?_|refine Ba.go (AF) ‹_› hc h (λn s1 U hr hmm hm1 hc h=>?_) (λe n s1 U he hc h=>?_)|refine Ba.go (A5 (a:=2) (b:=4) IR IR) ‹_› hc h (λn s1 U hr hmm hm1 hc h=>?_) (λe n s1 U he hc h=>?_)|refine BK (l:=[]) (Nat.zero_le _) ‹_› (hc.push []) h hk (λs2 own2 st2 hlt hm2 hc h=>?_)|refine Cn ‹_› h hk (λs1 e1 hlt hm1 h=>?_)|refine KQ (Q:=λv s'=>∀st',Rx st0 st' rows->K (.ret (Ax v s' 0)) st') (E:=λe s'=>∀n st',Rx st0 st' rows->K (.ret (Ax n s' e.1)) st') ‹_› hc ‹_› h (λv s1 h U hc=>?_) (λe s1 h n U hc=>?_)|refine Rx.BE (l:=[]++[_]) hc (Nat.le_of_ble_eq_true rfl) (λown1 U hc=>?_)|refine IC ?_|refine A2 (l:=[]++[_]++[_]) ?_|refine A2 (l:=[]++[_]) ?_|refine Fl ‹_› h (λe he h=>?_)|refine Az [1,5,2,7,8] [1] ?_|exact Ae hc h rfl|exact At hc h rfl|exact Ae hc.drop h rfl|exact At hc.drop h rfl|exact Ae hc (h BC) rfl|fail|fail)
  |false=>
   rw [ep,if_neg IR] at h
   rcases hcase with ck|ck|ck|ck|⟨c1,c2,c3,c4⟩
   iterate 4
    .have hk:(Aa s).1.kind≠0/\(Aa s).1.kind≠21:=by rw [ck];decide
     have c1:(Aa s).1.kind=1\/¬(Aa s).1.kind=1:=H1
     have c2:(Aa s).1.kind=2\/¬(Aa s).1.kind=2:=H1
     have c3:(Aa s).1.kind=3\/¬(Aa s).1.kind=3:=H1
     have c4:(Aa s).1.kind=4\/¬(Aa s).1.kind=4:=H1
     simp (config:={decide:=true}) only [Cm,Rd.Ag,Rd.Ao,ck,if_true,if_false] at h
     rcases c1 with c1|c1<;>first|omega|(rcases c2 with c2|c2<;>first|omega|(rcases c3 with c3|c3<;>first|omega|(rcases c4 with c4|c4<;>first|omega|skip)))
     repeat' ((conv=>whnf);first|exact B1|(refine Bc ?_;intros)|(refine B2 ?_ ?_ ?_;rotate_left)|refine IB ‹_› ‹_› IR ?_|refine HA ‹_› ‹_› IR ?_|refine Tn ‹_› ‹_› ?_|refine TH ‹_› ‹_› ?_|refine Gd ‹_› h (λe h=>?_) (λe h=>?_)|refine DU ‹_› ?_|refine Ba.go (AF) ‹_› hc h (λn s1 U hr hmm hm1 hc h=>?_) (λe n s1 U he hc h=>?_)|refine Ba.go (A5 (a:=2) (b:=4) IR IR) ‹_› hc h (λn s1 U hr hmm hm1 hc h=>?_) (λe n s1 U he hc h=>?_)|refine BK (l:=[]) (Nat.zero_le _) ‹_› (hc.push []) h hk (λs2 own2 st2 hlt hm2 hc h=>?_)|refine Cn ‹_› h hk (λs1 e1 hlt hm1 h=>?_)|refine KQ (Q:=λv s'=>∀st',Rx st0 st' rows->K (.ret (Ax v s' 0)) st') (E:=λe s'=>∀n st',Rx st0 st' rows->K (.ret (Ax n s' e.1)) st') ‹_› hc ‹_› h (λv s1 h U hc=>?_) (λe s1 h n U hc=>?_)|refine Rx.BE (l:=[]++[_]) hc (Nat.le_of_ble_eq_true rfl) (λown1 U hc=>?_)|refine IC ?_|refine A2 (l:=[]++[_]++[_]) ?_|refine A2 (l:=[]++[_]) ?_|refine Fl ‹_› h (λe he h=>?_)|refine Az [1,5,2,7,8] [1] ?_|exact Ae hc h rfl|exact At hc h rfl|exact Ae hc.drop h rfl|exact At hc.drop h rfl|exact Ae hc (h BC) rfl|fail|fail)
   .have d1:((Aa s).1.kind==1)=false:=by simpa using c1
    have d2:((Aa s).1.kind==2)=false:=by simpa using c2
    have d3:((Aa s).1.kind==3)=false:=by simpa using c3
    have d4:((Aa s).1.kind==4)=false:=by simpa using c4
    have hk:True:=trivial
    simp only [Cm,Rd.Ag,Rd.Ao,List.contains_cons,List.contains_nil,d1,d2,d3,d4,Bool.or_false,Bool.false_eq_true,if_false] at h
    repeat' ((conv=>whnf);first|exact B1|(refine Bc ?_;intros)|(refine B2 ?_ ?_ ?_;rotate_left)|refine IB ‹_› ‹_› IR ?_|refine HA ‹_› ‹_› IR ?_|refine Tn ‹_› ‹_› ?_|refine TH ‹_› ‹_› ?_|refine Gd ‹_› h (λe h=>?_) (λe h=>?_)|refine DU ‹_› ?_|refine Ba.go (AF) ‹_› hc h (λn s1 U hr hmm hm1 hc h=>?_) (λe n s1 U he hc h=>?_)|refine Ba.go (A5 (a:=2) (b:=4) IR IR) ‹_› hc h (λn s1 U hr hmm hm1 hc h=>?_) (λe n s1 U he hc h=>?_)|refine BK (l:=[]) (Nat.zero_le _) ‹_› (hc.push []) h hk (λs2 own2 st2 hlt hm2 hc h=>?_)|refine Cn ‹_› h hk (λs1 e1 hlt hm1 h=>?_)|refine KQ (Q:=λv s'=>∀st',Rx st0 st' rows->K (.ret (Ax v s' 0)) st') (E:=λe s'=>∀n st',Rx st0 st' rows->K (.ret (Ax n s' e.1)) st') ‹_› hc ‹_› h (λv s1 h U hc=>?_) (λe s1 h n U hc=>?_)|refine Rx.BE (l:=[]++[_]) hc (Nat.le_of_ble_eq_true rfl) (λown1 U hc=>?_)|refine IC ?_|refine A2 (l:=[]++[_]++[_]) ?_|refine A2 (l:=[]++[_]) ?_|refine Fl ‹_› h (λe he h=>?_)|refine Az [1,5,2,7,8] [1] ?_|exact Ae hc h rfl|exact At hc h rfl|exact Ae hc.drop h rfl|exact At hc.drop h rfl|exact Ae hc (h BC) rfl|fail|fail)
end
end Go.Proofs.Z
namespace Go.Aw
open Go
section
variable {D:List Deferred} {P:Program} {T:List (Nat×Ty)} {I0 I:Mem} {st0 st:St} {w0 w:World} {β:Nat->Option Nat} {env:Env} {a:Act}
theorem TD (hP:TK P T) {f:FuncId} {fn:Func} (gl:List Nat) {args:List V} {R:AD->St->Prop} (hf:P.funcs[f]? =some fn) {c0 c1 c2 rest:Code} {rid:Nat} {mk df:Oper}
 (hb : fn.body = some (.seq c0 (.seq c1 (.seq c2 (.seq (.region rid #[mk, df] false) rest))))) (hn : (fn.name == "runtime.NumGoroutine") = false) {g : FuncId} {cap : Array Operand} {tf : Nat}
 (h1:mk.op=.makeFunc (.func g) #[] cap) (h2:mk.dst=some tf) (h3:mk.guard=none) (h4:df.op=.defer {callee:=.value (.tmp tf),args:=#[],argTypes:=#[]}) (h5:df.guard=none) (h6:df.dst=none)
 (hg:Plain P g) (hle:Nat.ble args.length fn.ntmps=true)
 (h:AW P c0 (Bz (λenv st=>AW P c1 (Bz (λenv st=>AW P c2 (λae env st=>match ae with
   | .normal=>Xn env cap.toList λvs=>vs.all V.dW=true/\env.go (some tf) (.func g [] vs) λenv=>AW P rest (bH P T g vs fn R) env st
   | .ret=>Y5 T fn R env st
   |_=>False) env st) pR) env st) pR) {tmps:=KR 0 args,boxes:=[],BS:=0,sz:=fn.ntmps,gl} st):Bp P f args st R:=by
 refine ⟨?_,fn,hf,lm,hn⟩
 intro I w cargs hs hargs
 refine calls_of_wp_defers hf hb ?_
 refine wp_seq (wp_mono (h [] I st w I _ _ w (H3 gl hs hargs hle)) ?_)
 rintro e a w1 ⟨I1,β1,env1,st1,ae,r1,x1,k1⟩
 cases ae with
 |exit _|goto _|ret|Ci _=>exact k1.elim
 |normal=>
 cases e with
 |exit _|goto _|ret|panic _|outgrown=>exact x1.elim
 |normal=>
 refine wp_seq (wp_mono (k1 [] I st w I1 _ _ w1 r1) ?_)
 rintro e a w2 ⟨I2,β2,env2,st2,ae,U,x2,k2⟩
 cases ae with
 |exit _|goto _|ret|Ci _=>exact k2.elim
 |normal=>
 cases e with
 |exit _|goto _|ret|panic _|outgrown=>exact x2.elim
 |normal=>
 refine wp_seq (wp_mono (k2 [] I st w I2 _ _ w2 U) ?_)
 clear k2 U x2
 rintro e a w2 ⟨I2,β2,env2,st2,ae,U,x2,k2⟩
 cases ae with
 |exit _|goto _|Ci _=>exact k2.elim
 |ret=>
  cases e with
  |normal|exit _|goto _|panic _|outgrown=>exact x2.elim
  |ret=>
   obtain ⟨v,c,g1,g2,g3⟩:=Dz (P:=P) hP.t U k2
   show Leaves P fn a.tmps _ a.defers _ w2
   rw [U.f.defers]
   exact ⟨c,g1,I2,st2,.ret v,U.fr,U.s,g2,g3⟩
 |normal=>
 cases e with
 |exit _|goto _|ret|panic _|outgrown=>exact x2.elim
 |normal=>
 refine wp_seq (wp_region_list ?_)
 show wpList P #[mk,df] _ [mk,df] a w2
 unfold wpList
 rw [if_pos (by simp [Region.wanted,h3])]
 left
 obtain ⟨vs,hv,kp,kg⟩:=GP U.f (show Xn env2 cap.toList _ from k2)
 have hcv:A0 I2 (.func g [] vs) (.func (.func g) #[] (cap.map a.eval)):=by
  simp only [A0]
  exact ⟨[],cap.toList.map a.eval,by congr 1;grind,PP,hv⟩
 obtain ⟨env3,r3,k3⟩:=Dr U (Bg.of hcv) kg
 have htf:tf<a.tmps.size:=by
  rw [U.f.size]
  exact (FV kg).1 tf rfl
 unfold Oper.wp
 rw [show (execOp a.eval mk).run P w2=.ok (.value (.func (.func g) #[] (cap.map a.eval))) w2 by simp only [execOp,h1,Array.map_empty];rfl]
 show wpList P #[mk,df] _ [df] (a.put mk.dst _) w2
 rw [h2]
 unfold wpList
 rw [if_pos (by simp [Region.wanted,h5])]
 left
 have hev:(a.put (some tf) (.func (.func g) #[] (cap.map a.eval))).eval (.tmp tf)=.func (.func g) #[] (cap.map a.eval):=by
  simp [Act.put,Act.eval,htf]
 unfold Oper.wp
 rw [show (execOp (a.put (some tf) (.func (.func g) #[] (cap.map a.eval))).eval df).run P w2=.ok (.defer {target:=.fn (.func g) (cap.map a.eval),args:=#[]}) w2 by
  simp only [execOp,h4,resolve,hev,Deferred.ofValue,Array.map_empty,Array.empty_append];rfl]
 rw [Oper.upon_defer]
 rw [h6]
 unfold wpList
 show rest.wp P _ _ _
 have r4:=r3.defer {target:=.fn (.func g) (cap.map a.eval),args:=#[]}
 refine wp_mono (k3 _ I st w I2 _ _ w2 r4) ?_
 rintro e a5 w5 ⟨I5,β5,env5,st5,ae,r5,x5,k5⟩
 have hd:=r5.f.defers
 obtain ⟨fn2,p1,p2,p3⟩:=hg
 have hinv:(invoke (.fn (.func g) (cap.map a.eval)) #[]).run P w5=.ok (.enter g (cap.toList.map a.eval).toArray) w5:=by
  have hb:fn2.body.isNone=false:=by cases hb:fn2.body<;>simp_all
  simp only [invoke,callFunc,Sem.run_bind,Sem.run_pure,Result.andThen_ok,run_program,p1]
  rw [p3]
  simp [hb]
  apply Array.ext';simp
 have last:∀{u:FrameMode} {x:Option V},u≠.run->(match x with|none=>u=.returning|some v=>∃c,u=.panicking [{v:=c,recovered:=false}]/\A0 I5 v c)->Kf P g vs x st5 (λst'=>Y5 T fn R env5 st')->
  Leaves P fn a5.tmps (λe w'=>∃I' st' r,Fr I st w I' st' w'/\Db I' st' w'/\Y3 I' e r/\R r st') a5.defers u w5:=by
  intro u x hu hx k
  rw [hd]
  refine leaves_cons hu hinv ((k I5 w5 _ u r5.s (Ar.we hv kp) hx).mono ?_)
  rintro e u' w6 ⟨⟨v,rfl⟩,hset,I6,st6,q1,q2,q3⟩
  show Leaves P fn a5.tmps _ [] (settle u') w6
  rw [hset]
  have r6:=r5.called q1 q2
  obtain ⟨v,c,g1,g2,g3⟩:=Dz (P:=P) hP.t r6 q3
  exact ⟨c,g1,I6,st6,.ret v,r6.fr,r6.s,g2,g3⟩
 cases ae with
 |normal=>
  cases e with
  |normal=>exact last (x:=none) Pi rfl k5
  |_=>exact x5.elim
 |ret=>
  cases e with
  |ret=>exact last (x:=none) Pi rfl k5
  |_=>exact x5.elim
 |Ci v=>
  cases e with
  |panic chain=>
   obtain ⟨c,rfl,hc⟩:=x5
   exact last (x:=some v) Pi ⟨c,rfl,hc⟩ k5
  |_=>exact x5.elim
 |exit _=>exact k5.elim
 |goto _=>exact k5.elim
end
section
variable {D:List Deferred} {P:Program} {T:List (Nat×Ty)} {C:FuncId->List V->St->(AD->St->Prop)->Prop} {I0 I:Mem} {st0 st:St} {w0 w:World} {β:Nat->Option Nat} {env:Env} {a:Act}
def oL {X:Type} (T:List (Nat×Ty)) (C:FuncId->List V->St->(AD->St->Prop)->Prop) (all:List Oper) (Q:AG->Env->St->Prop) (E:X->List Bool->Env) (S:X->List Bool->St) (J:X->List Bool->Prop) (x:X) (p:List Bool×Nat):Prop:=
 match all[p.2]? with
 |some o=>Bx all o (E x p.1) (FD T C o (E x p.1) (S x p.1) (λv env st=>env.go o.dst v λenv=>∃y,J y (p.1.set p.2 true)/\(E y (p.1.set p.2 true)).C3 env/\St.le (S y (p.1.set p.2 true)) st) Q)
   ((E x p.1).go o.dst (.Bl []) λenv=>∃y,J y (p.1.set p.2 true)/\(E y (p.1.set p.2 true)).C3 env/\St.le (S y (p.1.set p.2 true)) (S x p.1))
 |none=>True
theorem aF (hT:HG P T) (hC:∀f args st R,C f args st R->DE P f args st R/\Plain P f) {all:List Oper} {Q:AG->Env->St->Prop} {E:X->List Bool->Env} {S:X->List Bool->St} {J:X->List Bool->Prop} {PL:List (List Bool×Nat)}
 (hc:IJ all PL=true) (step:∀p ∈ PL,∀x,J x p.1->oL T C all Q E S J x p) (fin:∀x,J x (List.replicate all.length true)->Q .normal (E x (List.replicate all.length true)) (S x (List.replicate all.length true))):
 ∀(fuel:Nat) (bs:List Bool) (listed:Array Bool) (I:Mem) (β:Nat->Option Nat) (a:Act) (w:World),bs.length=all.length->listed.toList=bs->bs.count false<=fuel->
  (∀j,j<all.length->BP all bs j=true->(bs,j) ∈ PL)->(bs=List.replicate all.length true\/∃j,j<all.length/\BP all bs j=true)->
  ∀x,J x bs->Rel D I0 st0 w0 I β (E x bs) (S x bs) a w->wpAny P .any all.toArray (DH D I0 st0 w0 Q) fuel listed a w:=by
 have full:∀{bs:List Bool},bs.length=all.length->bs.count false=0->bs=List.replicate all.length true:=λ{bs} hb h0=>by
  rw [List.eq_replicate_iff]
  grind
 have noready:∀{j:Nat},BP all (List.replicate all.length true) j=true->j<all.length->False:=λ{j} h U=>by
  unfold BP at h
  simp_all
 simp only [IJ,Bool.and_eq_true,List.all_eq_true] at hc
 intro fuel
 induction fuel with
 |zero=>
  intro bs listed I β a w hb hl hf hp hr x U h
  have:=full hb H1
  subst this
  refine ⟨?_,⟨I,β,_,_,.normal,h,trivial,fin x U⟩⟩
  rw [List.eq_nil_iff_forall_not_mem]
  intro j U
  obtain ⟨h1,h2⟩:=(Fa hl hb).1 U
  grind
 |succ fuel ih=>
  intro bs listed I β a w hb hl hf hp hr x U h
  refine ⟨λh0=>?_,λi hi=>?_⟩
  .rcases hr with rfl|⟨j,h1,h2⟩
   .exact ⟨I,β,_,_,.normal,h,trivial,fin x U⟩
   .have:=(Fa hl hb).2 ⟨h1,h2⟩
    simp_all
  .obtain ⟨h1,h2⟩:=(Fa hl hb).1 hi
   have hm:=hp i h1 h2
   have hs:=step _ hm x U
   unfold oL at hs
   have ho:all[i]? =some all[i]:=List.getElem?_eq_getElem h1
   simp only [ho] at hs
   obtain ⟨⟨c1,c2⟩,c3⟩:=hc.2 _ hm
   refine NA hT hC (Q:=Q) ho (λ{I β env st a w} h k=>?_) h hs (K:=λenv st=>∃y,J y (bs.set i true)/\(E y (bs.set i true)).C3 env/\St.le (S y (bs.set i true)) st)
   .obtain ⟨y,kj,k⟩:=k
    have hbi:i<bs.length:=H1
    refine ih (bs.set i true) _ I _ a w lm (by simp [hl]) ?_ (λj U hr=>?_) ?_ y kj ((h.Iw k.2).JF (Env.JS k.1))
    .have:=List.count_set (a:=true) (i:=i) (l:=bs) (b:=false) hbi
     unfold BP at h2
     grind
    .grind
    grind
theorem qf (hP:TK P T) (hC:∀f args st R,C f args st R->DE P f args st R/\Plain P f) {id:Nat} {ops:Array Oper} {Q:AG->Env->St->Prop} (E:X->List Bool->Env) (S:X->List Bool->St) (J:X->List Bool->Prop) (x0:X) (PL:List (List Bool×Nat))
 (hc:IJ ops.toList PL=true) (j0:J x0 (List.replicate ops.toList.length false)) (h0:(E x0 (List.replicate ops.toList.length false)).C3 env) (s0:St.le (S x0 (List.replicate ops.toList.length false)) st) (step:∀p ∈ PL,∀x,J x p.1->oL T C ops.toList Q E S J x p)
 (fin:∀x,J x (List.replicate ops.toList.length true)->Q .normal (E x (List.replicate ops.toList.length true)) (S x (List.replicate ops.toList.length true))):AW P (.region id ops true) Q env st:=λD I0 st0 w0 I β a w h=>
 wp_region_any hP.m (by
  have U:=hc
  simp only [IJ,Bool.and_eq_true,List.all_eq_true] at U
  have:=aF (D:=D) hP.t hC hc step fin ops.size (List.replicate ops.toList.length false) (Array.replicate ops.size false) I _ a _ Pi Pi Pi (λj hj hr=>?_) ?_ x0 j0 (((h.Kx (Jd.drew w)).Iw s0).JF (Env.JS h0))
  .simp_all
  .grind
  simp_all)
end
end Go.Aw
