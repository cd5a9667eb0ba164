/-
  Parts of a proof: lemmas that the last text uses.
-/
import Derived.Test.YtpaiiicnhgoijaaGreatDoorS2
set_option linter.unusedVariables false
set_option linter.unusedSimpArgs false
set_option maxHeartbeats 16000000
variable {s x t l r:List UInt8} {n k m p b pos d n1 n2:Nat} {c i v base ln Ds:Int} {Q:Go.Aw.AG->Go.Aw.Env->Go.Aw.St->Prop} {o:List Int} {f:Go.FuncId} {j tx:Bool} {cs args:List Go.Aw.V} {J:Go.Aw.Mem} {R:Go.Aw.Ay->Go.Aw.St->Prop} {env:Go.Aw.Env} {st' st0:Go.Aw.St} {fn:Go.Func} {K:Go.Aw.V->Go.Aw.St->Prop} {w1 w2:Go.Aw.AB} {g:List (Nat×Nat)} {X:Type} {AA notes:List (List Go.Aw.V)}
namespace Go.Proofs.Z
open Go Go.Aw
def Dc:Er->Ag->Prop:=λ_ _=>True
def Dv (A:Rd Nd):Prop:=∀s,Rd.wp A s (λn s'=>A7 [n] s s') Dc
theorem Dv.at {A:Rd Nd} (h:Dv A) {s s':Ag} {n:Nd} (e:A.run s=.inr (n,s')):A7 [n] s s':=by
 have:=h s
 unfold Rd.wp at this
 simp_all
theorem Dv.of {A:Rd Nd} (h:∀s n s',A.run s=.inr (n,s')->A7 [n] s s'):Dv A:=λs=>Rd.ar (λn s' e=>h s n s' e) (λ_ _ _=>trivial)
theorem Dv.size {A:Rd Nd} (h:Dv A) {s s':Ag} {n:Nd} (e:A.run s=.inr (n,s')):n.size+4*mu s'<=4*mu s:=(h.at e).qU
theorem A6 {c:Prop} [Decidable c] {P Q:Prop} (U:c->P) (h2:¬c->Q):if c then P else Q:=ke
structure Real (s:Ag):Prop where
 ok:(Ab s).2.2=0
 lt:(Ab s).1.kind<18
 ne:(Ab s).1.kind≠0
section
variable {A B C:Rd Nd} {s s0 s1 s2 s':Ag} {Q:Nd->Ag->Prop} {L:ER}
theorem AL {k:Int} (h:Bn s k x=true) (U:k≠0) (h1:k<18):Real s:=by
 have e:(Ab s).1.kind=k:=by
  unfold Bn at h
  simp only [Bool.and_eq_true,beq_iff_eq] at h
  exact h.1
 exact ⟨GQ h U,AC,AC⟩
theorem Mm (h:(Ab s).1.kind≠0) (U:(Ab s).1.kind<18):Real s:=⟨FO h,U,h⟩
theorem Bl {k:Int} (h:((Ab s).1.kind==k)=true) (U:k≠0) (h1:k<18):Real s:=by
 rw [beq_iff_eq] at h;exact Mm AC AC
theorem D5 (h:EV (Ab s).1=true):Real s:=by
 unfold EV at h
 simp only [Bool.or_eq_true,Bool.and_eq_true,beq_iff_eq] at h
 exact Mm AC AC
theorem D7 (h:Ni (Ab s).1=true):Real s:=by
 unfold Ni at h
 simp only [Bool.or_eq_true,Bool.and_eq_true,beq_iff_eq] at h
 exact Mm AC AC
theorem D6 (h:K3 (Ab s).1=true):Real s:=by
 unfold K3 at h
 simp only [Bool.or_eq_true,Bool.and_eq_true,beq_iff_eq] at h
 exact Mm AC AC
theorem Ru {t:Tk} (h:KO t=true):Ey t=true:=by
 unfold KO at h
 unfold Ey
 grind
theorem HE (U:Dv A) (k:∀n s1,A7 [n] s s1->Q n s1):Rd.wp A s Q Dc:=Rd.wp_mono (U s) (λn s1 _ h=>k n s1 h) (λ_ _ _ _=>trivial)
theorem Cz (U:Real s) (k:A7 [Bv (Ab s).1] s (Ab s).2.1->Q (Bv (Ab s).1) (Ab s).2.1):Rd.wp AO s Q Dc:=by
 unfold Rd.wp
 rw [Fh U.ok]
 exact k (.tok U.ok U.lt U.ne)
theorem QL {k:Int} (U:k≠0) (h1:k<18) (kk:∀n s1,A7 [n] s s1->Q n s1):Rd.wp (BA k x) s Q Dc:=by
 unfold BA
 rw [Rd.Af,Rd.As]
 exact A6 (λe=>Cz (AL e U h1) (kk _ _)) (λ_=>trivial)
theorem Zc {ks:List Int} (U:(ks.all λk=>decide (k≠0)&&decide (k<18))=true) (kk:∀n s1,A7 [n] s s1->Q n s1):Rd.wp (Dm ks) s Q Dc:=by
 unfold Dm
 rw [Rd.Af,Rd.As]
 refine A6 (λe=>?_) (λ_=>trivial)
 have:=List.all_eq_true.1 U _ (List.contains_iff_mem.1 e)
 simp only [Bool.and_eq_true,decide_eq_true_eq] at this
 exact Cz (Mm this.1 this.2) (kk _ _)
theorem qq {Q:Unit->Ag->Prop} (hi:Ey (Ab s).1=true) (k:A7 [] s (Ab s).2.1->Q () (Ab s).2.1):Rd.wp Ji s Q Dc:=by
 have e:=FO (Kb hi).1
 unfold Ji
 rw [Rd.wp_seq]
 unfold Rd.wp
 rw [Fh e]
 exact k (.skip e hi)
theorem Db {σ β:Type} {body:σ->Rd (Sum σ β)} {P:σ->Ag->Prop} {Q:β->Ag->Prop} (hb:∀x s,P x s->Rd.wp (body x) s (λr s'=>match r with| .inl x'=>P x' s'| .inr y=>Q y s') Dc) {x:σ} {s:Ag} (h0:P x s):Rd.wp (Rd.loop body x) s Q Dc:=by
 have:∀y s',(Rd.loop body x).run s=.inr (y,s')->Q y s':=by
  show ∀y s',Rd.iter body x s=.inr (y,s')->Q y s'
  fun_induction Rd.iter body x s with
  |case1 x s e h=>simp_all
  |case2 x s y s1 h=>
   intro y' s' h';cases h'
   have:=hb x s h0
   unfold Rd.wp at this
   simp_all
  |case3 x s x' s1 h U ih=>
   have:=hb x s h0
   unfold Rd.wp at this
   simp_all
  |case4 x s x' s1 h U=>simp_all
 exact Rd.ar this (λ_ _ _=>trivial)
theorem A7.fW {k:Int} {t:Tk} (h:A7 [Bv t] s s') (hk:k≠1) (U:k≠30):A7 [Au k [Bv t]] s s':=.node h hk (by
 have:N9 [Bv t]=3:=rfl
 unfold jF;simp_all)
theorem A7.gd {l:List Nd} (h:A7 l s s') (U:3<=l.length):A7 [Au 30 l] s s':=.node h Do (by have:=OP (l:=l);have:jF 30=2:=rfl;omega)
theorem A7.Ci {n m:Nd} {l:List Nd} (h:A7 [n] s s1) (k:A7 (m::l) s1 s2):A7 (n::m::l) s s2:=.app h k
theorem A7.pass {l:List Nd} (h:A7 l s s1) (k:A7 [] s1 s2):A7 l s s2:=by
 have:=A7.app h k
 simp_all
theorem A7.pre {l:List Nd} (h:A7 [] s s1) (k:A7 l s1 s2):A7 l s s2:=A7.app h k
theorem Cb {α:Type} {l:List α} {a b:α}:2<=(l++[a]++[b]).length:=ke
structure Lo (L:ER):Prop where
 atom:Dv L.atom
 exp:Dv L.exp
 ops:Dv L.ops
 decls:Dv L.decls
 stmts:Dv L.stmts
 alts:Dv L.alts
 Fo:∀o s,Rd.wp (L.Fo o) s (λn s'=>∀s0,A7 [o] s0 s->A7 [n] s0 s') Dc
 list:∀o s,Rd.wp (L.list o) s (λn s'=>∀s0,A7 [o] s0 s->A7 [n] s0 s') Dc
theorem rN {o:Nd} {B:Nd->Rd Nd} (hB:∀o s,Rd.wp (B o) s (λn s'=>∀s0,A7 [o] s0 s->A7 [n] s0 s') Dc) (U:A7 [o] s0 s) (k:∀n s1,A7 [n] s0 s1->Q n s1):Rd.wp (B o) s Q Dc:=
 Rd.wp_mono (hB o s) (λn s1 _ h=>k n s1 (h s0 U)) (λ_ _ _ _=>trivial)
theorem SD:Dv H2:=λs=>by
 simp only [H2,Rd.Af,Rd.As,Rd.wp_seq,Rd.wp_ret]
 repeat' (first
  |exact trivial
  |assumption
  |refine A6 (λe=>?_) (λe=>?_)
  |refine Cz (AL ‹_› Do Do) (λhn=>?_)
  |refine Cz (Bl ‹_› Do Do) (λhn=>?_)
  |refine Cz (D5 ‹_›) (λhn=>?_)
  |refine Cz (D7 ‹_›) (λhn=>?_)
  |refine Cz (D6 ‹_›) (λhn=>?_)
  |refine Cz ‹_› (λhn=>?_)
  |refine QL Do Do (λn s1 hn=>?_)
  |refine Zc Do (λn s1 hn=>?_)
  |refine HE ‹_› (λn s1 hn=>?_)
  |exact A7.fW ‹_› Do Do
  |refine A7.two ?_ Do Do (by first|exact Nat.le_of_ble_eq_true rfl|exact Cb|(simp only [List.length_append,List.length_cons,List.length_nil];omega))
  |apply A7.Ci
  |apply A7.app)
theorem MP {p:Nd->Bool} (U:Dv A):Dv (C3 A p):=λs=>by
 simp only [C3,Rd.Af,Rd.As,Rd.wp_seq,Rd.wp_ret,Rd.Eg]
 repeat' (first
  |exact trivial
  |assumption
  |refine A6 (λe=>?_) (λe=>?_)
  |refine Cz (AL ‹_› Do Do) (λhn=>?_)
  |refine Cz (Bl ‹_› Do Do) (λhn=>?_)
  |refine Cz (D5 ‹_›) (λhn=>?_)
  |refine Cz (D7 ‹_›) (λhn=>?_)
  |refine Cz (D6 ‹_›) (λhn=>?_)
  |refine Cz ‹_› (λhn=>?_)
  |refine QL Do Do (λn s1 hn=>?_)
  |refine Zc Do (λn s1 hn=>?_)
  |refine HE ‹_› (λn s1 hn=>?_)
  |refine A7.two ?_ Do Do (by first|exact Nat.le_of_ble_eq_true rfl|exact Cb|(simp only [List.length_append,List.length_cons,List.length_nil];omega))
  |apply A7.Ci
  |apply A7.app)
theorem eV {l:List Nd} {Q:List Nd->Ag->Prop} (U:A7 l s0 s) (k:∀l s1,A7 l s0 s1->Q l s1):Rd.wp (X4 l) s Q Dc:=by
 refine Db (P:=λl s=>A7 l s0 s) (λl s U=>?_) U
 simp only [X3,Rd.Af,Rd.As,Rd.wp_seq,Rd.wp_ret]
 repeat' (first
  |exact trivial
  |assumption
  |refine A6 (λe=>?_) (λe=>?_)
  |refine Cz (AL ‹_› Do Do) (λhn=>?_)
  |refine Cz (Bl ‹_› Do Do) (λhn=>?_)
  |refine Cz (D5 ‹_›) (λhn=>?_)
  |refine Cz (D7 ‹_›) (λhn=>?_)
  |refine Cz (D6 ‹_›) (λhn=>?_)
  |refine Cz ‹_› (λhn=>?_)
  |refine QL Do Do (λn s1 hn=>?_)
  |refine Zc Do (λn s1 hn=>?_)
  |refine HE ‹_› (λn s1 hn=>?_)
  |exact A7.snoc U (A7.fW ‹_› Do Do)
  |exact k _ _ U
  |refine A7.two ?_ Do Do (by first|exact Nat.le_of_ble_eq_true rfl|exact Cb|(simp only [List.length_append,List.length_cons,List.length_nil];omega))
  |apply A7.Ci
  |apply A7.app)
theorem eY {b:Bool} {Q:List Nd×Bool->Ag->Prop} (hA:Dv A) (k:∀l b s1,1<=l.length->(b=true->2<=l.length/\Bn s1 15 [41]=true)->A7 l s s1->Q (l,b) s1):Rd.wp (NB A b) s Q Dc:=by
 refine Db (P:=λl s1=>A7 l s s1) (λl s1 h0=>?_) (A7.nil s)
 simp only [ix,Rd.Af,Rd.As,Rd.wp_seq,Rd.wp_ret]
 refine eV h0 (λl s1 h0=>?_)
 have ho:=SD
 refine HE hA (λn s2 hn=>?_)
 refine A6 (λe=>?_) (λe=>k _ _ _ ke (λh=>by cases h) (h0.snoc hn))
 refine HE ho (λo s3 U=>?_)
 exact A6 (λ_=>A6 (λe=>k _ _ _ (Nat.le_trans Do Cb) (λ_=>⟨Cb,e⟩) ((h0.snoc hn).snoc U)) λe=>(h0.snoc hn).snoc U) λe=>(h0.snoc hn).snoc U
theorem Px (hA:Dv A):Dv (Vc A):=λs=>by
 simp only [Vc,Rd.wp_seq,Rd.wp_ret]
 exact eY hA λl b s1 U _ h=>h.one Do Do U
theorem Ue {n:Nd} (hA:Dv A) (U:A7 [n] s0 s) (k:∀n s1,A7 [n] s0 s1->Q n s1):Rd.wp (JX A n) s Q Dc:=by
 simp only [JX,Rd.Af,Rd.As,Rd.wp_seq,Rd.wp_ret]
 repeat' (first
  |exact trivial
  |assumption
  |refine A6 (λe=>?_) (λe=>?_)
  |refine Cz (AL ‹_› Do Do) (λhn=>?_)
  |refine Cz (Bl ‹_› Do Do) (λhn=>?_)
  |refine Cz (D5 ‹_›) (λhn=>?_)
  |refine Cz (D7 ‹_›) (λhn=>?_)
  |refine Cz (D6 ‹_›) (λhn=>?_)
  |refine Cz ‹_› (λhn=>?_)
  |refine QL Do Do (λn s1 hn=>?_)
  |refine Zc Do (λn s1 hn=>?_)
  |refine HE ‹_› (λn s1 hn=>?_)
  |refine k _ _ ?_
  |refine A7.two ?_ Do Do (by first|exact Nat.le_of_ble_eq_true rfl|exact Cb|(simp only [List.length_append,List.length_cons,List.length_nil];omega))
  |apply A7.Ci
  |apply A7.app)
theorem oK (U:Dv A) (hB:Dv B):Dv (Xn A B):=λs=>by
 simp only [Xn,Rd.wp_seq]
 exact HE (Px U) λn s1 h=>Ue hB h λn s1 h=>h
theorem Ub {a b:Nd} (hL:Lo L) (U:A7 [a,b] s0 s) (k:∀n s1,A7 [n] s0 s1->Q n s1):Rd.wp (JH L a b) s Q Dc:=by
 have h1:=hL.exp
 simp only [JH,Rd.wp_seq,Rd.wp_ret]
 repeat' (first
  |exact trivial
  |assumption
  |refine A6 (λe=>?_) (λe=>?_)
  |refine Cz (AL ‹_› Do Do) (λhn=>?_)
  |refine Cz (Bl ‹_› Do Do) (λhn=>?_)
  |refine Cz (D5 ‹_›) (λhn=>?_)
  |refine Cz (D7 ‹_›) (λhn=>?_)
  |refine Cz (D6 ‹_›) (λhn=>?_)
  |refine Cz ‹_› (λhn=>?_)
  |refine QL Do Do (λn s1 hn=>?_)
  |refine Zc Do (λn s1 hn=>?_)
  |refine HE ‹_› (λn s1 hn=>?_)
  |exact k _ _ (A7.two (l:=[a,b,_,_]) (A7.app U (A7.Ci ‹_› ‹_›)) Do Do (Nat.le_of_ble_eq_true rfl))
  |refine A7.two ?_ Do Do (by first|exact Nat.le_of_ble_eq_true rfl|exact Cb|(simp only [List.length_append,List.length_cons,List.length_nil];omega))
  |apply A7.Ci
  |apply A7.app)
theorem bz (hL:Lo L) (hA:Dv A) (hr:Real s) (k:∀n s1,A7 [n] s s1->Q n s1):Rd.wp (Ix L A) s Q Dc:=by
 have h1:=hL.exp
 simp only [Ix,Rd.wp_seq]
 refine Cz hr λU=>?_
 refine Db (P:=λl s1=>A7 l s s1) (λl s1 U=>?_) U
 .have h2:=MP (p:=KK) hA
  simp only [SS,Kc,Rd.Af,Rd.As,Rd.wp_seq,Rd.wp_ret]
  repeat' (first
   |exact trivial
   |assumption
   |refine A6 (λe=>?_) (λe=>?_)
   |refine Cz (AL ‹_› Do Do) (λhn=>?_)
   |refine Cz (Bl ‹_› Do Do) (λhn=>?_)
   |refine Cz (D5 ‹_›) (λhn=>?_)
   |refine Cz (D7 ‹_›) (λhn=>?_)
   |refine Cz (D6 ‹_›) (λhn=>?_)
   |refine Cz ‹_› (λhn=>?_)
   |refine QL Do Do (λn s1 hn=>?_)
   |refine Zc Do (λn s1 hn=>?_)
   |refine HE ‹_› (λn s1 hn=>?_)
   |exact k _ _ (A7.two (A7.snoc (A7.snoc U ‹_›) ‹_›) Do Do Cb)
   |refine A7.two ?_ Do Do (by first|exact Nat.le_of_ble_eq_true rfl|exact Cb|(simp only [List.length_append,List.length_cons,List.length_nil];omega))
   |apply A7.Ci
   |apply A7.app)
theorem kP {w:List UInt8} {Q:Unit->Ag->Prop} (k:∀s1,A7 [] s s1->Q () s1):Rd.wp (Z7 w) s Q Dc:=by
 simp only [Z7,Rd.Af,Rd.As,Rd.wp_ret]
 exact A6 (λe=>A6 (λ_=>qq (Ru e) (k _)) λ_=>k _ (.nil _)) λ_=>k _ (.nil _)
theorem Zh {l:List Nd} {w:List UInt8} {Q:List Nd->Ag->Prop} (hL:Lo L) (U:A7 l s0 s) (k:∀a e s1,A7 (l++[a]++[e]) s0 s1->Q (l++[a]++[e]) s1):Rd.wp (KN L l w) s Q Dc:=by
 have h1:=hL.exp
 simp only [KN,Rd.wp_seq,Rd.wp_ret]
 refine kP λs1 hs=>?_
 have U:=U.pass hs
 repeat' (first
  |exact trivial
  |assumption
  |refine A6 (λe=>?_) (λe=>?_)
  |refine Cz (AL ‹_› Do Do) (λhn=>?_)
  |refine Cz (Bl ‹_› Do Do) (λhn=>?_)
  |refine Cz (D5 ‹_›) (λhn=>?_)
  |refine Cz (D7 ‹_›) (λhn=>?_)
  |refine Cz (D6 ‹_›) (λhn=>?_)
  |refine Cz ‹_› (λhn=>?_)
  |refine QL Do Do (λn s1 hn=>?_)
  |refine Zc Do (λn s1 hn=>?_)
  |refine HE ‹_› (λn s1 hn=>?_)
  |refine k _ _ _ ?_
  |refine A7.two ?_ Do Do (by first|exact Nat.le_of_ble_eq_true rfl|exact Cb|(simp only [List.length_append,List.length_cons,List.length_nil];omega))
  |apply A7.Ci
  |apply A7.app)
theorem bt (U:Lo L) (hr:Real s) (k:∀n s1,A7 [n] s s1->Q n s1):Rd.wp (Ik L) s Q Dc:=by
 have h1:=U.exp
 simp only [Ik,Rd.wp_seq,Rd.wp_ret]
 refine Cz hr λh0=>?_
 refine HE h1 λc s1 hc=>?_
 exact Zh U (h0.cons hc) λa e s2 h2=>Zh U h2 λa e s3 h3=>k _ _ (h3.two Do Do Cb)
theorem kM (U:Lo L) (hr:Real s) (k:∀n s1,A7 [n] s s1->Q n s1):Rd.wp (Rf L) s Q Dc:=by
 have h1:=U.exp
 have h2:=U.alts
 simp only [Rf,Rd.wp_seq,Rd.wp_ret]
 refine Cz hr λh0=>?_
 repeat' (first
  |exact trivial
  |assumption
  |refine A6 (λe=>?_) (λe=>?_)
  |refine Cz (AL ‹_› Do Do) (λhn=>?_)
  |refine Cz (Bl ‹_› Do Do) (λhn=>?_)
  |refine Cz (D5 ‹_›) (λhn=>?_)
  |refine Cz (D7 ‹_›) (λhn=>?_)
  |refine Cz (D6 ‹_›) (λhn=>?_)
  |refine Cz ‹_› (λhn=>?_)
  |refine QL Do Do (λn s1 hn=>?_)
  |refine Zc Do (λn s1 hn=>?_)
  |refine HE ‹_› (λn s1 hn=>?_)
  |refine k _ _ ?_
  |refine A7.two ?_ Do Do (by first|exact Nat.le_of_ble_eq_true rfl|exact Cb|(simp only [List.length_append,List.length_cons,List.length_nil];omega))
  |apply A7.Ci
  |apply A7.app)
theorem fe (U:Lo L) (hr:Real s) (k:∀n s1,A7 [n] s s1->Q n s1):Rd.wp (Li L) s Q Dc:=by
 have h1:=U.stmts
 simp only [Li,Rd.wp_seq,Rd.wp_ret,Rd.As,Rd.DM]
 refine Cz hr λh0=>?_
 repeat' (first
  |exact trivial
  |assumption
  |refine A6 (λe=>?_) (λe=>?_)
  |refine Cz (AL ‹_› Do Do) (λhn=>?_)
  |refine Cz (Bl ‹_› Do Do) (λhn=>?_)
  |refine Cz (D5 ‹_›) (λhn=>?_)
  |refine Cz (D7 ‹_›) (λhn=>?_)
  |refine Cz (D6 ‹_›) (λhn=>?_)
  |refine Cz ‹_› (λhn=>?_)
  |refine QL Do Do (λn s1 hn=>?_)
  |refine Zc Do (λn s1 hn=>?_)
  |refine HE ‹_› (λn s1 hn=>?_)
  |refine k _ _ ?_
  |refine A7.two ?_ Do Do (by first|exact Nat.le_of_ble_eq_true rfl|exact Cb|(simp only [List.length_append,List.length_cons,List.length_nil];omega))
  |apply A7.Ci
  |apply A7.app)
theorem oL (U:Lo L) (hr:Real s) (k:∀n s1,A7 [n] s s1->Q n s1):Rd.wp (bT L) s Q Dc:=by
 have h1:=U.decls
 simp only [bT,Rd.wp_seq]
 refine Cz hr λh0=>?_
 exact HE h1 λb s1 hb=>Ub U (h0.cons hb) k
theorem eT (hA:Dv A) (k:∀n s1,A7 [n] s s1->Q n s1):Rd.wp (Js A) s Q Dc:=by
 simp only [Js,Rd.wp_seq,Rd.wp_ret]
 refine HE hA λn s1 hn=>?_
 refine Db (P:=λl s1=>A7 l s s1/\1<=l.length) (λl s1 U=>?_) ⟨hn,Nat.le_refl _⟩
 obtain ⟨U,hl⟩:=U
 simp only [W5,Rd.Af,Rd.As,Rd.wp_seq,Rd.wp_ret]
 exact A6 (λ_=>HE hA λn s1 hn=>⟨U.snoc hn,ke⟩) λ_=>k _ _ (U.one Do Do hl)
theorem Xj (hL:Lo L) (hA:Dv A):Dv (GV L A):=λs=>by
 simp only [GV,Rd.Af,Rd.As]
 have U:=eT (s:=s) (Q:=λn s'=>A7 [n] s s') hA λ_ _ h=>h
 refine A6 (λe=>A6 (λ_=>bz hL hA (Bl e Do Do) λ_ _ h=>h) λ_=>U) λ_=>A6 (λe=>?_) λ_=>U
 have hr:=Bl e Do Do
 exact A6 (λ_=>oL hL hr λ_ _ h=>h) λ_=>A6 (λ_=>bt hL hr λ_ _ h=>h) λ_=>A6 (λ_=>kM hL hr λ_ _ h=>h) λ_=>A6 (λ_=>fe hL hr λ_ _ h=>h) λ_=>U
theorem Zg {o:Nd} (U:A7 [o] s0 s) (k:∀n s1,A7 [n] s0 s1->Q n s1):Rd.wp (Uy o) s Q Dc:=by
 simp only [Uy,Rd.wp_seq,Rd.wp_ret]
 refine Db (P:=λl s1=>A7 l s0 s1/\1<=l.length) (λl s1 U=>?_) ⟨U,Nat.le_refl _⟩
 obtain ⟨U,hl⟩:=U
 simp only [Sp,Rd.Af,Rd.As,Rd.wp_seq,Rd.wp_ret]
 exact A6 (λe=>Cz (AL e Do Do) λh=>⟨U.snoc h,ke⟩) λ_=>QL Do Do λn s1 h=>k _ _ ((U.snoc h).two Do Do ke)
theorem bD {o:Nd} (U:Lo L) (h0:A7 [o] s0 s) (k:∀n s1,A7 [n] s0 s1->Q n s1):Rd.wp (Ld L o) s Q Dc:=by
 have h1:=U.ops
 have h2:=SD
 simp only [Ld,Rd.Af,Rd.As,Rd.wp_seq,Rd.wp_ret]
 repeat' (first
  |exact trivial
  |assumption
  |refine A6 (λe=>?_) (λe=>?_)
  |refine Cz (AL ‹_› Do Do) (λhn=>?_)
  |refine Cz (Bl ‹_› Do Do) (λhn=>?_)
  |refine Cz (D5 ‹_›) (λhn=>?_)
  |refine Cz (D7 ‹_›) (λhn=>?_)
  |refine Cz (D6 ‹_›) (λhn=>?_)
  |refine Cz ‹_› (λhn=>?_)
  |refine QL Do Do (λn s1 hn=>?_)
  |refine Zc Do (λn s1 hn=>?_)
  |refine HE ‹_› (λn s1 hn=>?_)
  |exact rN U.Fo h0 k
  |refine k _ _ ?_
  |refine A7.two ?_ Do Do (by first|exact Nat.le_of_ble_eq_true rfl|exact Cb|(simp only [List.length_append,List.length_cons,List.length_nil];omega))
  |apply A7.Ci
  |apply A7.app)
theorem bC {o:Nd} (hL:Lo L) (U:A7 [o] s0 s) (k:∀n s1,A7 [n] s0 s1->Q n s1):Rd.wp (M8 L o) s Q Dc:=by
 simp only [M8,Rd.Af,Rd.As,Rd.wp_seq,Rd.wp_ret]
 have hc:=bD (Q:=Q) hL U k
 refine A6 (λe=>A6 (λe2=>?_) λ_=>hc) λ_=>hc
 exact Cz (D7 e) λh1=>Cz (AL e2 Do Do) λh2=>k _ _ ((U.cons (h1.cons h2)).two Do Do (Nat.le_of_ble_eq_true rfl))
theorem eX (hL:Lo L) (hr:Real s) (k:∀n s1,A7 [n] s s1->Q n s1):Rd.wp (Le L) s Q Dc:=by
 simp only [Le,Rd.Af,Rd.As,Rd.wp_seq]
 exact Cz hr λU=>A6 (λ_=>Zg U k) λ_=>A6 (λ_=>Zg U k) λ_=>bC hL U k
theorem bE (hL:Lo L) (hr:Real s) (k:∀n s1,A7 [n] s s1->Q n s1):Rd.wp (IU L) s Q Dc:=by
 simp only [IU,Rd.Af,Rd.As,Rd.wp_seq,Rd.wp_ret]
 refine Cz hr λU=>?_
 repeat' (first
  |exact trivial
  |assumption
  |refine A6 (λe=>?_) (λe=>?_)
  |refine Cz (AL ‹_› Do Do) (λhn=>?_)
  |refine Cz (Bl ‹_› Do Do) (λhn=>?_)
  |refine Cz (D5 ‹_›) (λhn=>?_)
  |refine Cz (D7 ‹_›) (λhn=>?_)
  |refine Cz (D6 ‹_›) (λhn=>?_)
  |refine Cz ‹_› (λhn=>?_)
  |refine QL Do Do (λn s1 hn=>?_)
  |refine Zc Do (λn s1 hn=>?_)
  |refine HE ‹_› (λn s1 hn=>?_)
  |exact rN hL.list U k
  |refine k _ _ ?_
  |refine A7.two ?_ Do Do (by first|exact Nat.le_of_ble_eq_true rfl|exact Cb|(simp only [List.length_append,List.length_cons,List.length_nil];omega))
  |apply A7.Ci
  |apply A7.app)
theorem kL (U:Lo L):Dv (Nw L):=λs=>by
 have h1:=U.atom
 simp only [Nw,Rd.Af,Rd.As,Rd.wp_seq,Rd.wp_ret]
 refine A6 (λe=>?_) λ_=>trivial
 have hr:=D5 e
 repeat' (first
  |exact trivial
  |assumption
  |refine A6 (λe=>?_) (λe=>?_)
  |refine Cz (AL ‹_› Do Do) (λhn=>?_)
  |refine Cz (Bl ‹_› Do Do) (λhn=>?_)
  |refine Cz (D5 ‹_›) (λhn=>?_)
  |refine Cz (D7 ‹_›) (λhn=>?_)
  |refine Cz (D6 ‹_›) (λhn=>?_)
  |refine Cz ‹_› (λhn=>?_)
  |refine QL Do Do (λn s1 hn=>?_)
  |refine Zc Do (λn s1 hn=>?_)
  |refine HE ‹_› (λn s1 hn=>?_)
  |exact eX U hr λ_ _ h=>h
  |exact bE U hr λ_ _ h=>h
  |exact A7.fW ‹_› Do Do
  |refine A7.two ?_ Do Do (by first|exact Nat.le_of_ble_eq_true rfl|exact Cb|(simp only [List.length_append,List.length_cons,List.length_nil];omega))
  |apply A7.Ci
  |apply A7.app)
theorem bB {n:Nd} (hL:Lo L) (hr:Real s) (U:A7 [n] s0 s) (k:∀n s1,A7 [n] s0 s1->Q n s1):Rd.wp (Hi L n) s Q Dc:=by
 have h1:=hL.exp
 simp only [Hi,Rd.wp_seq,Rd.wp_ret]
 refine Cz hr λhb=>?_
 refine Db (P:=λl s1=>A7 l s0 s1/\1<=l.length) (λl s1 U=>?_) ⟨U.cons hb,Nat.le_of_ble_eq_true rfl⟩
 obtain ⟨U,hl⟩:=U
 have hend:∀{l:List Nd} {s:Ag},A7 l s0 s->1<=l.length->Rd.wp (BA 15 [125]) s (λc s'=>Q (Au 12 (l++[c])) s') Dc:=λU hl=>QL Do Do λn s1 h=>k _ _ ((U.snoc h).two Do Do ke)
 simp only [Tr,MU,Rd.Af,Rd.As,Rd.wp_seq,Rd.wp_ret]
 have hf:Rd.wp (Dm [1,3]) s1 (λnm s'=>Rd.wp (BA 10 [61]) s' (λq s'=>Rd.wp L.exp s' (λe s'=>if Bn s' 15 [44]=true then Rd.wp AO s' (λc s'=>A7 (l++[Au 13 [nm,q,e]]++[c]) s0 s'/\1<=(l++[Au 13 [nm,q,e]]++[c]).length) Dc
  else Rd.wp (BA 15 [125]) s' (λc s'=>Q (Au 12 (l++[Au 13 [nm,q,e]]++[c])) s') Dc) Dc) Dc) Dc:=by
  refine Zc Do λnm s2 g1=>QL Do Do λq s3 g2=>HE h1 λe s4 g3=>?_
  have h2:=U.snoc ((g1.cons (g2.cons g3)).two (k:=13) Do Do (Nat.le_of_ble_eq_true rfl))
  exact A6 (λe=>Cz (AL e Do Do) λh=>⟨h2.snoc h,Nat.le_trans Do Cb⟩) λ_=>hend h2 ke
 simp_all
theorem LL (hL:Lo L):Dv (KD L):=λs=>by
 simp only [KD,Rd.wp_seq]
 refine HE (kL hL) λn s1 hn=>?_
 refine Db (P:=λn s1=>A7 [n] s s1) (λn s1 U=>?_) hn
 simp only [dY,Rd.Af,Rd.As,Rd.wp_seq,Rd.wp_ret]
 exact A6 (λe=>bB hL (AL e Do Do) U λ_ _ h=>h) λ_=>U
end
section
variable {A B C D E:Rd Nd} {s s0 s1 s2 s':Ag} {Q:Nd->Ag->Prop} {L:ER}
theorem cW:∀{l:List Nd},2<=l.length->l.take (l.length - 1)++[l.getLastD HX]=l/\1<=(l.take (l.length - 1)).length:=λ{l} h=>by
 have U:l≠[]:=λe=>by simp_all
 refine ⟨?_,by grind⟩
 have h1:=List.dropLast_concat_getLast U
 grind
theorem A7.split:∀{l:List Nd} {s s':Ag},A7 l s s'->∀{a b:List Nd},l=a++b->∃s1,A7 a s s1/\A7 b s1 s':=by
 intro l s s' h
 induction h with
 |nil s=>intro a b e;obtain ⟨rfl,rfl⟩:=List.append_eq_nil_iff.1 e.symm;exact ⟨s,.nil s,.nil s⟩
 |app h1 h2 i1 i2=>
  intro a b e
  rcases List.append_eq_append_iff.1 e with ⟨x,U,e2⟩|⟨x,U,e2⟩
  .obtain ⟨s1,k1,k2⟩:=i2 e2
   subst U
   exact ⟨s1,.app h1 k1,k2⟩
  .obtain ⟨s1,k1,k2⟩:=i1 U
   subst e2
   exact ⟨s1,k1,.app k2 h2⟩
 |tok g1 g2 g3=>
  intro a b e
  match a with
  |[]=>rw [List.nil_append] at e;subst e;exact ⟨_,.nil _,.tok g1 g2 g3⟩
  |x::r=>
   rw [List.cons_append] at e
   injection e with U e2
   obtain ⟨rfl,rfl⟩:=List.append_eq_nil_iff.1 e2.symm
   subst U
   exact ⟨_,.tok g1 g2 g3,.nil _⟩
 |skip g1 g2=>intro a b e;obtain ⟨rfl,rfl⟩:=List.append_eq_nil_iff.1 e.symm;exact ⟨_,.nil _,.skip g1 g2⟩
 |close g1=>intro a b e;obtain ⟨rfl,rfl⟩:=List.append_eq_nil_iff.1 e.symm;exact ⟨_,.nil _,.close g1⟩
 |node g1 g2 g3 ih=>
  intro a b e
  match a with
  |[]=>rw [List.nil_append] at e;subst e;exact ⟨_,.nil _,.node g1 g2 g3⟩
  |x::r=>
   rw [List.cons_append] at e
   injection e with U e2
   obtain ⟨rfl,rfl⟩:=List.append_eq_nil_iff.1 e2.symm
   subst U
   exact ⟨_,.node g1 g2 g3,.nil _⟩
 |block g1 g2 g3 ih=>
  intro a b e
  match a with
  |[]=>rw [List.nil_append] at e;subst e;exact ⟨_,.nil _,.block g1 g2 g3⟩
  |x::r=>
   rw [List.cons_append] at e
   injection e with U e2
   obtain ⟨rfl,rfl⟩:=List.append_eq_nil_iff.1 e2.symm
   subst U
   exact ⟨_,.block g1 g2 g3,.nil _⟩
theorem eU {o:Nd} (hA:Dv A) (hB:Dv B) (hC:Dv C):∀s,Rd.wp (DP A B C o) s (λn s'=>∀s0,A7 [o] s0 s->A7 [n] s0 s') Dc:=λs=>by
 simp only [DP,Rd.As,Rd.wp_seq,Rd.wp_ret]
 refine eY hA λl b s1 h1 h2 hl=>?_
 dsimp only
 refine A6 (λe=>?_) λ_=>?_
 .obtain ⟨h3,h4⟩:=h2 e
  obtain ⟨t1,t2⟩:=cW h3
  obtain ⟨s2,k1,k2⟩:=hl.split t1.symm
  exact Cz (AL h4 Do Do) λg1 s0 U=>(U.cons ((k1.one Do Do t2).cons (k2.cons g1))).two Do Do (Nat.le_of_ble_eq_true rfl)
 .refine Ue hB (hl.one Do Do h1) λn s1 hn=>?_
  refine Db (P:=λq s1=>(q.1=4\/q.1=5)/\2<=q.2.length/\∀s0,A7 [o] s0 s->A7 q.2 s0 s1) (λq s1 h0=>?_) ⟨.inl rfl,Nat.le_refl _,λs0 U=>U.cons hn⟩
  obtain ⟨hq,hl,h0⟩:=h0
  simp only [YI,Rd.Af,Rd.As,Rd.wp_seq,Rd.wp_ret]
  refine A6 (λe=>Cz (AL e Do Do) λg1=>HE hC λn s2 g2=>⟨.inr trivial,Cb,λs0 U=>((h0 s0 U).snoc g1).snoc g2⟩) λ_=>QL Do Do λc s2 hc s0 U=>?_
  exact ((h0 s0 U).snoc hc).two AC AC (by grind)
theorem Uc {l:List Nd} {Q:List Nd->Ag->Prop} (hA:Dv A) (h0:A7 l s0 s) (k:∀U s1,l.length+2<=U.length->A7 U s0 s1->Q U s1):Rd.wp (EI A l) s Q Dc:=by
 simp only [EI,Rd.wp_seq]
 refine QL Do Do λb s1 hb=>HE hA λt s2 ht=>?_
 refine Db (P:=λU s1=>A7 U s0 s1/\l.length+2<=U.length) (λU s1 h0=>?_) ⟨(h0.snoc hb).snoc ht,ke⟩
 obtain ⟨h0,hl⟩:=h0
 simp only [M6,Rd.Af,Rd.As,Rd.wp_seq,Rd.wp_ret]
 exact A6 (λe=>Cz (AL e Do Do) λg1=>HE hA λn s2 g2=>⟨(h0.snoc g1).snoc g2,by grind⟩) λ_=>k _ _ hl h0
theorem kO {o:Nd} (hA:Dv A) (hB:Dv B):∀s,Rd.wp (NJ A B o) s (λn s'=>∀s0,A7 [o] s0 s->A7 [n] s0 s') Dc:=λs=>by
 simp only [NJ,Rd.Af,Rd.As,Rd.wp_seq,Rd.wp_ret]
 refine HE hA λe s1 he=>A6 (λ_=>?_) λ_=>?_
 .have:Rd.wp (EI B [o,e]) s1 (λl s2=>Rd.wp (BA 15 [93]) s2 (λc s'=>∀s0,A7 [o] s0 s->A7 [Au 8 (l++[c])] s0 s') Dc) Dc:=by
   refine Rd.ar (λl s2 hr=>?_) (λ_ _ _=>trivial)
   refine QL Do Do λc s3 hc s0 ho=>?_
   have h1:Rd.wp (EI B [o,e]) s1 (λl s2=>A7 l s0 s2/\2<=l.length) Dc:=Uc hB (ho.cons he) λl' s1 hl h=>⟨h,AC⟩
   unfold Rd.wp at h1
   rw [hr] at h1
   exact (h1.1.snoc hc).two Do Do (by grind)
  omega
 .refine Db (P:=λl s1=>2<=l.length/\∀s0,A7 [o] s0 s->A7 l s0 s1) (λl s1 h0=>?_) ⟨Nat.le_refl _,λs0 ho=>ho.cons he⟩
  obtain ⟨hl,h0⟩:=h0
  have U:∀{k:Int} {l:List Nd} {s1:Ag},k≠1->k≠30->2<=l.length->(∀s0,A7 [o] s0 s->A7 l s0 s1)->Rd.wp (BA 15 [93]) s1 (λc s'=>∀s0,A7 [o] s0 s->A7 [Au k (l++[c])] s0 s') Dc:=λhk h30 hl h0=>
   QL Do Do λc s3 hc s0 ho=>((h0 s0 ho).snoc hc).two hk h30 (by grind)
  simp only [gv,RB,Rd.Af,Rd.As,Rd.wp_seq,Rd.wp_ret]
  have hc:if Bn s1 15 [44]=true then Rd.wp AO s1 (λc s'=>Rd.wp A s' (λe s'=>2<=(l++[c]++[e]).length/\∀s0,A7 [o] s0 s->A7 (l++[c]++[e]) s0 s') Dc) Dc
   else Rd.wp (BA 15 [93]) s1 (λc s'=>∀s0,A7 [o] s0 s->A7 [Au 6 (l++[c])] s0 s') Dc:=
   A6 (λe=>Cz (AL e Do Do) λg1=>HE hA λn s2 g2=>⟨Cb,λs0 ho=>((h0 s0 ho).snoc g1).snoc g2⟩) λ_=>U Do Do hl h0
  refine A6 (λ_=>A6 (λe=>Cz (AL e Do Do) λg1=>A6 (λ_=>?_) λ_=>HE hA λn s2 g2=>?_) λ_=>hc) λ_=>hc
  .exact U Do Do (by grind) λs0 ho=>(h0 s0 ho).snoc g1
  .exact U Do Do Cb λs0 ho=>((h0 s0 ho).snoc g1).snoc g2
theorem Ze {n:Nd} (hA:Dv A) (U:A7 [n] s0 s) (k:∀n s1,A7 [n] s0 s1->Q n s1):Rd.wp (O8 A n) s Q Dc:=by
 simp only [O8,Rd.Af,Rd.As,Rd.wp_seq,Rd.wp_ret,Rd.DM]
 exact A6 (λe=>A6 (λ_=>Cz (AL e Do Do) λg1=>HE hA λm s2 g2=>k _ _ ((U.cons (g1.cons g2)).two Do Do (Nat.le_of_ble_eq_true rfl))) λ_=>trivial) λ_=>k _ _ U
theorem kQ (hL:Lo L) (U:Dv A):Dv (Qv L A):=λs=>by
 simp only [Qv,Rd.Af,Rd.As,Rd.wp_seq,Rd.wp_ret]
 exact A6 (λe=>Cz (AL e Do Do) λg1=>HE hL.decls λb s2 g2=>A6 (λ_=>Ub hL (g1.cons g2) λn s3 g3=>Ze U g3 λ_ _ h=>h) λ_=>(g1.cons g2).two Do Do (Nat.le_of_ble_eq_true rfl))
  λ_=>HE U λn s3 g3=>Ze U g3 λ_ _ h=>h
theorem Zi {m:List UInt8} {l:List Nd} (hL:Lo L) (hA:Dv A) (hB:Dv B) (U:A7 l s0 s) (hl:l=[]\/2<=N9 l) (k:∀n s1,A7 [n] s0 s1->Q n s1):Rd.wp (Yq L A B m l) s Q Dc:=by
 simp only [Yq,Rd.wp_seq,Rd.Af,Rd.As,Rd.wp_ret]
 refine Db (P:=λl s1=>A7 l s0 s1/\(l=[]\/2<=N9 l)) (λl s1 U=>?_) ⟨U,hl⟩
 obtain ⟨U,hl⟩:=U
 have hs:Rd.wp (EI B []) s1 (λg s'=>Rd.wp (BA 10 m) s' (λq s'=>Rd.wp A s' (λe s'=>A7 (l++[Au 30 (g++[q]++[e])]) s0 s'/\(l++[Au 30 (g++[q]++[e])]=[]\/2<=N9 (l++[Au 30 (g++[q]++[e])]))) Dc) Dc) Dc:=by
  refine Uc hB (.nil s1) λg s2 hg h=>QL Do Do λq s3 g1=>HE hA λe s4 g2=>⟨U.snoc (A7.gd ((h.snoc g1).snoc g2) (by grind)),.inr ?_⟩
  rw [IQ]
  have:N9 [Au 30 (g++[q]++[e])]=2:=rfl
  omega
 have he:∀{l:List Nd} {s1:Ag},A7 l s0 s1->2<=N9 l->if Bn s1 9 YQ=true then Rd.wp AO s1 (λw s'=>Rd.wp L.decls s' (λb s'=>Q (Au 29 (l++[Au 31 [w,b]])) s') Dc) Dc else Q (Au 29 l) s1:=λ{l s1} U hl=>
  A6 (λe=>Cz (AL e Do Do) λg1=>HE hL.decls λb s2 g2=>k _ _ (.node (U.snoc ((g1.cons g2).two Do Do (Nat.le_of_ble_eq_true rfl))) Do (by rw [IQ];have:jF 29=1:=rfl;omega)))
   λ_=>k _ _ (.node U Do (by have:jF 29=1:=rfl;omega))
 simp only [SP,K5,Rd.Af,Rd.As,Rd.wp_seq,Rd.wp_ret]
 grind
theorem eW {m:List UInt8} (hL:Lo L) (hA:Dv A) (hB:Dv B):Dv (Vo L A B m):=λs=>by
 simp only [Vo,Rd.Af,Rd.As,Rd.wp_seq]
 refine A6 (λe=>?_) λ_=>A6 (λ_=>Zi hL hA hB (.nil s) (.inl rfl) λ_ _ h=>h) λ_=>trivial
 by_cases U:Real s
 .exact Cz U λg1=>HE hA λe s2 g2=>Zi hL hA hB (g1.cons g2) (.inr (Nat.le_trans (Nat.le_of_ble_eq_true rfl) OP)) λ_ _ h=>h
 .exact absurd (AL e Do Do) U
theorem oJ (hL:Lo L) (U:Dv A) (hB:Dv B) (hC:Dv C):Dv (WU L A B C):=λs=>by
 simp only [WU,Rd.As,Rd.wp_seq,Rd.wp_ret,Rd.DM]
 exact HE U λn s1 g1=>A6 (λ_=>HE (eW hL hB hC) λr s2 g2=>(g1.cons g2).two Do Do (Nat.le_of_ble_eq_true rfl)) λ_=>trivial
theorem Pw {l:List Nd} (U:A7 l s0 s) (hl:1<=l.length) (k:∀n s1,A7 [n] s0 s1->Q n s1):Rd.wp (LR l) s Q Dc:=by
 have ho:=MP (p:=Lb) SD
 simp only [LR,Rd.wp_seq]
 refine HE ho λo s1 g1=>?_
 refine Db (P:=λl s1=>A7 l s0 s1/\2<=l.length) (λl s1 U=>?_) ⟨U.snoc g1,ke⟩
 obtain ⟨U,hl⟩:=U
 simp only [SK,Rd.Af,Rd.As,Rd.wp_seq,Rd.wp_ret]
 exact A6 (λe=>Cz (AL e Do Do) λg1=>HE ho λo s2 g2=>⟨(U.snoc g1).snoc g2,Cb⟩) λ_=>k _ _ (U.two Do Do hl)
theorem bu (U:Real s) (k:∀n s1,A7 [n] s s1->Q n s1):Rd.wp LU s Q Dc:=by
 simp only [LU,Rd.Af,Rd.As,Rd.wp_seq]
 refine Cz U λg1=>A6 (λe=>?_) λ_=>Pw g1 (Nat.le_of_ble_eq_true rfl) k
 simp only [C3,Rd.Af,Rd.As,Rd.wp_seq,Rd.wp_ret,Rd.Eg]
 exact Cz (Bl e Do Do) λg2=>A6 (λ_=>Pw (g1.cons g2) (Nat.le_of_ble_eq_true rfl) k) λ_=>trivial
theorem eZ {n:Nd} (hA:Dv A) (hB:Dv B) (U:A7 [n] s0 s) (k:∀n s1,A7 [n] s0 s1->Q n s1):Rd.wp (Vz A B n) s Q Dc:=by
 have ho:=MP (p:=dq) hA
 simp only [Vz,Rd.As,Rd.wp_seq,Rd.DM]
 refine A6 (λ_=>?_) λ_=>trivial
 refine Db (P:=λl s1=>A7 l s0 s1) (λl s1 U=>?_) U
 simp only [pU,Rd.Af,Rd.As,Rd.wp_seq,Rd.wp_ret]
 exact A6 (λe=>Cz (AL e Do Do) λg1=>HE ho λo s2 g2=>(U.snoc g1).snoc g2) λ_=>QL Do Do λc s2 g1=>HE hB λt s3 g2=>k _ _ (((U.snoc g1).snoc g2).two Do Do Cb)
theorem kN (hL:Lo L) (U:Dv A) (hB:Dv B) (hC:Dv C) (hD:Dv D) (hE:Dv E):Dv (Pp L A B C D E):=λs=>by
 simp only [Pp,Rd.Af,Rd.As,Rd.wp_seq,Rd.wp_ret,Rd.DM]
 exact A6 (λe=>bu (D6 e) λ_ _ h=>h) λ_=>HE hB λn s1 g1=>A6 (λ_=>eZ U hE g1 λ_ _ h=>h) λ_=>A6 (λ_=>eZ U hE g1 λ_ _ h=>h) λ_=>
  A6 (λ_=>HE (eW hL hC hD) λr s2 g2=>(g1.cons g2).two Do Do (Nat.le_of_ble_eq_true rfl)) λ_=>trivial
theorem Ud {Q:Unit->Ag->Prop} (k:∀s1,A7 [] s s1->Q () s1):Rd.wp Qk s Q Dc:=by
 refine Db (P:=λ_ s1=>A7 [] s s1) (λ_ s1 U=>?_) (.nil s)
 simp only [Tu,Rd.Af,Rd.As,Rd.wp_seq,Rd.wp_ret]
 exact A6 (λe=>qq (Ru e) λh=>U.pass h) λ_=>k _ U
theorem LN {f m:Bool} {Q:Bool->Ag->Prop} (k:∀b s1,A7 [] s s1->Q b s1):Rd.wp (Is f m) s Q Dc:=by
 simp only [Is,Rd.Af,Rd.As,Rd.wp_seq,Rd.wp_ret]
 have hi:∀{f:Bool},(if f then Bn s 15 [125] else (Ab s).1.kind==20)=true->Ey (Ab s).1=true:=λ{f} e=>by
  unfold Ey
  cases f with
  |true=>
   rw [if_pos rfl] at e
   unfold Bn at e
   simp_all
  |false=>
   simp_all
 refine A6 (λe=>qq (hi e) λh=>k _ _ h) λ_=>A6 (λ_=>A6 (λ_=>trivial) λ_=>?_) λ_=>k _ _ (.nil s)
 unfold Rd.wp Sm
 dsimp only
 by_cases e:(EG s).2=true
 .rw [if_pos e];exact k _ _ (.close e)
 .rw [if_neg e];trivial
theorem LM {p:Tk->Bool} (hA:Dv A):Dv (Da p A):=λs=>by
 simp only [Da,Rd.Af,Rd.As,Rd.wp_seq,Rd.wp_ret]
 have hb:∀{f:Bool} {s1:Ag},(Ab s).2.2=0->Ey (Ab s).1=true->(Ab s).2.1=s1->Rd.wp (Rd.loop (MJ p A f) []) s1 (λl s'=>A7 [Dx f l] s s') Dc:=λ{f s1} e1 e2 e3=>by
  subst e3
  refine Db (P:=λl s1=>A7 l (Ab s).2.1 s1) (λl s1 U=>?_) (.nil _)
  simp only [MJ,Rd.Af,Rd.As,Rd.wp_seq,Rd.wp_ret]
  refine Ud λs2 g2=>LN λb s3 g3=>A6 (λ_=>.block e1 e2 ((U.pass g2).pass g3)) λ_=>HE hA λn s4 g4=>LN λb s5 g5=>A6 (λ_=>.block e1 e2 ((((U.pass g2).pass g3).snoc g4).pass g5)) λ_=>(((U.pass g2).pass g3).snoc g4).pass g5
 refine A6 (λe=>?_) λ_=>?_
 .have hi:Ey (Ab s).1=true:=by rw [beq_iff_eq] at e;simp [Ey,e]
  exact qq hi λ_=>hb (FO (Kb hi).1) hi rfl
 .unfold BA
  rw [Rd.Af,Rd.As]
  refine A6 (λe=>?_) λ_=>trivial
  have hi:Ey (Ab s).1=true:=by
   unfold Bn at e
   simp only [Bool.and_eq_true,beq_iff_eq] at e
   simp [Ey,e.1,e.2]
  exact Cz (AL e Do Do) λ_=>hb (FO (Kb hi).1) hi rfl
theorem GC (d:Nat):Dv (CT d):=Dv.of λs n s' h=>by
 have U:C0 (FV (Dj (Dn (d - 1)))):=kI (LJ (LK _))
 refine U s n s' ?_
 unfold CT HB at h
 grind
theorem Zf {o:Nd} {e:Er}:∀s,Rd.wp (Rd.fail e:Rd Nd) s (λn s'=>∀s0,A7 [o] s0 s->A7 [n] s0 s') Dc:=λs=>trivial
theorem MR (U:Lo L):Dv (Yf L):=Xj U (LL U)
theorem J7 (U:Dv A) (hL:Lo L):Dv (N5 A L):=oK (MR hL) U
theorem JA (hA:Dv A) (U:Lo L):Dv (KQ A L):=kQ U (J7 hA U)
theorem Zd (hA:Dv A) (U:Lo L):Dv (jJ A L):=oJ U (Px (MR U)) (J7 hA U) (JA hA U)
theorem Jz (hA:Dv A) (U:Lo L):Dv (FT A L):=kN U (LL U) (Px (MR U)) (J7 hA U) (JA hA U) hA
theorem qs (hA:Dv A) (U:Lo L):Lo (rl A L) where
 atom:=LL U
 exp:=J7 hA U
 ops:=Px (MR U)
 decls:=LM (Jz hA U)
 stmts:=LM (JA hA U)
 alts:=LM (Zd hA U)
 Fo:=λo=>eU (MR U) hA (J7 hA U)
 list:=λo=>kO (J7 hA U) (JA hA U)
theorem MQ:∀d,Lo (IA d)
 |0=>⟨λ_=>trivial,λ_=>trivial,λ_=>trivial,λ_=>trivial,λ_=>trivial,λ_=>trivial,λo=>Zf,λo=>Zf⟩
 |d+1=>qs (GC _) (MQ d)
end
end Go.Proofs.Z
namespace Go.Aw
open Go
theorem Pl (h:l≠[]) (g:Dd (AJ l)=true) (t:List UInt8):AJ (l.take (AJ l).2++t)=AJ l:=by
 rcases l with _|⟨a,r⟩
 .exact absurd rfl h
 revert g
 generalize U:AJ (a::r)=x
 have hx0:=U
 unfold AJ at U
 dsimp only at U
 intro g
 rcases r with _|⟨b,_|⟨c,_|⟨d,r⟩⟩⟩
 all_goals simp only [List.getElem?_nil,List.getElem?_cons_zero,List.getElem?_cons_succ,List.getD_cons_zero,List.getD_cons_succ,Bool.and_false,Bool.false_eq_true,if_false] at U
 all_goals repeat' split at U
 all_goals subst U
 all_goals first
  |(exfalso;revert g;simp [Dd];done)
  |skip
 all_goals simp only [List.take_succ_cons,List.take_zero,List.cons_append,List.nil_append]
 all_goals unfold AJ
 all_goals dsimp only
 all_goals try simp only [List.getElem?_nil,List.getElem?_cons_zero,List.getElem?_cons_succ,List.getD_cons_zero,List.getD_cons_succ]
 all_goals repeat' (first|rfl|rw [if_pos ‹_›]|rw [if_neg ‹_›])
theorem Pk (h:l≠[]) (g:Dd (AJ l)=true) (t:List UInt8):AJ (l++t)=AJ l:=by
 have:=Pl h g (l.drop (AJ l).2++t)
 rwa [<-List.append_assoc,List.take_append_drop] at this
theorem RV {p:Nat×Nat->Bool} (l t:List UInt8) (g:Bs Dd l=l.length):Bs p (l++t)=if Bs p l=l.length then l.length+Bs p t else Bs p l:=by
 fun_induction Bs p l with
 |case1=>simp
 |case2 a r hp ih=>
  have hne:a::r≠[]:=GT
  have U:Dd (AJ (a::r))=true:=by
   cases hg:Dd (AJ (a::r)) with
   |true=>rfl
   |false=>rw [EC hg] at g;simp at g
  have hle:=Gd hne
  rw [Cs hne U] at g
  have g':Bs Dd ((a::r).drop (AJ (a::r)).2)=((a::r).drop (AJ (a::r)).2).length:=M2
  have ih:=ih g'
  rw [Cs GT (by rw [Pk hne U];exact hp),Pk hne U,List.drop_append_of_le_length hle,ih,List.length_drop]
  have hsl:=Qq p ((a::r).drop (AJ (a::r)).2)
  rw [List.length_drop] at hsl
  by_cases hc:Bs p ((a::r).drop (AJ (a::r)).2)=(a::r).length - (AJ (a::r)).2
  .rw [if_pos hc,if_pos AC];omega
  .rw [if_neg hc,if_neg AC]
 |case3 a r hp=>
  have hne:a::r≠[]:=GT
  have U:Dd (AJ (a::r))=true:=by
   cases hg:Dd (AJ (a::r)) with
   |true=>rfl
   |false=>rw [EC hg] at g;simp at g
  rw [EC (by rw [Pk hne U];simpa using hp),if_neg GT]
def Vd (l:List UInt8):Prop:=Bs Dd l=l.length
theorem Vd.rune (h:Vd l) (hne:l≠[]):Dd (AJ l)=true/\Vd (l.drop (AJ l).2):=by
 have U:Dd (AJ l)=true:=by
  cases U:Dd (AJ l) with
  |true=>rfl
  |false=>
   unfold Vd at h
   rw [EC U] at h
   grind
 refine ⟨U,?_⟩
 unfold Vd at h |-
 rw [Cs hne U] at h
 grind
theorem Vd.nil:Vd []:=Eb _
theorem Vd.app (h:Vd l) (k:Vd t):Vd (l++t):=by
 unfold Vd at *
 rw [RV l t h,if_pos h,k,List.length_append]
inductive Bd:List UInt8->Nat->Prop
 |zero (l:List UInt8):Bd l 0
 |step {l:List UInt8} {k:Nat}:l≠[]->Bd (l.drop (AJ l).2) k->Bd l ((AJ l).2+k)
theorem Bd.add {i j:Nat} (h:Bd l i) (k:Bd (l.drop i) j):Bd l (i+j):=by
 induction h with
 |zero l=>simp_all
 |step U h ih=>
  rw [Nat.add_assoc]
  refine .step U (ih ?_)
  simp_all
theorem Bd.vd {i:Nat} (h:Bd l i) (k:Vd l):Vd (l.drop i):=by
 induction h with
 |zero l=>exact k
 |step U h ih=>
  have:=ih (k.rune U).2
  simp_all
theorem Bd.span (p:Nat×Nat->Bool) (l:List UInt8):Bd l (Bs p l):=by
 fun_induction Bs p l with
 |case1=>exact .zero _
 |case2 a r U ih=>exact .step GT ih
 |case3 a r U=>exact .zero _
theorem Bd.one (h:l≠[]):Bd l (AJ l).2:=by
 have:=Bd.step h (.zero (l.drop (AJ l).2))
 omega
theorem bf (h:l≠[]) (g:Dd (AJ l)=true) (k:Nat) (hk:1<=k) (U:k<(AJ l).2):∃b,l[k]? =some b/\128<=b.toNat:=by
 rcases l with _|⟨a,r⟩
 .simp_all
 revert g U
 generalize hx:AJ (a::r)=x
 unfold AJ at hx
 dsimp only at hx
 intro g U
 have d2:∀b:UInt8,(b.toNat / 64==2)=true->128<=b.toNat:=λb hb=>by grind
 rcases r with _|⟨b,_|⟨c,_|⟨d,r⟩⟩⟩
 all_goals simp only [List.getElem?_nil,List.getElem?_cons_zero,List.getElem?_cons_succ,List.getD_cons_zero,List.getD_cons_succ,Bool.and_false,Bool.false_eq_true,if_false] at hx
 all_goals repeat' split at hx
 all_goals subst hx
 all_goals first
  |(exfalso;revert g;simp [Dd];done)
  |skip
 all_goals first
  |(exfalso;have U:k<1:=U;omega)
  |skip
 all_goals simp only [Bool.and_eq_true] at *
 all_goals have hk':k=1\/k=2\/k=3:=by first|omega|(dsimp only at U;omega)
 all_goals rcases hk' with rfl|rfl|rfl
 all_goals first
  |(exfalso;omega)
  |(exfalso;dsimp only at U;omega)
  |skip
 all_goals refine ⟨_,rfl,d2 _ ?_⟩
 all_goals simp only [beq_iff_eq] at *
 all_goals omega
theorem Bd.nu {b:UInt8} (hv:Vd l) (hb:l[k]? =some b) (h:b.toNat<128):Bd l k/\Bd l (k+1):=by
 induction hn:l.length using Nat.strongRecOn generalizing l k with
 |_ n ih=>
  have U:l≠[]:=λe=>by simp_all
  obtain ⟨g,hv'⟩:=hv.rune U
  have hp:=DR l
  have hle:=Gd U
  by_cases hk:k<(AJ l).2
  .by_cases h0:k=0
   .subst h0
    refine ⟨.zero l,?_⟩
    cases l with
    |nil=>simp_all
    |cons a r=>
     simp only [List.getElem?_cons_zero,Option.some.injEq] at hb
     subst hb
     have e:AJ (a::r)=(a.toNat,1):=by unfold AJ;dsimp only;rw [if_pos AC]
     have:=Bd.one U
     simp_all
   .obtain ⟨b',h1,h2⟩:=bf U g k AC hk
    grind
  .obtain ⟨j,rfl⟩:∃j,k=(AJ l).2+j:=⟨k - (AJ l).2,AC⟩
   have:=ih (l.drop (AJ l).2).length (by grind) hv' (k:=j) ke rfl
   exact ⟨.step U this.1,by rw [Nat.add_assoc];exact .step U this.2⟩
inductive BG:List UInt8->Nat->Prop
 |zero (l:List UInt8):BG l 0
 |step {l:List UInt8} {k:Nat}:l≠[]->BG (l.drop (AR l)) k->BG l (AR l+k)
theorem EN (l:List UInt8):(G2 l=0/\¬(AU l=13\/AU l=10\/AU l=12))\/(G2 l=1/\(AU l=13\/AU l=10\/AU l=12)/\¬(AU l=13/\AU (l.drop 1)=10))\/(G2 l=2/\AU l=13/\AU (l.drop 1)=10):=by
 unfold G2
 grind
theorem EE (U:0<=AU l) (h:AU l<128):(AJ l).2=1/\(((AJ l).1:Nat):Int)=AU l:=by
 cases l with
 |nil=>exact absurd U Do
 |cons a r=>
  have h:((a.toNat:Nat):Int)<128:=h
  have e:AJ (a::r)=(a.toNat,1):=by unfold AJ;dsimp only;rw [if_pos AC]
  rw [e];exact ⟨rfl,rfl⟩
theorem Bd.cut (h:Bd l k) (hn:¬(0<k/\AU (l.drop (k - 1))=13/\AU (l.drop k)=10)):BG l k:=by
 induction hm:l.length using Nat.strongRecOn generalizing l k with
 |_ n ih=>
  cases h with
  |zero=>exact .zero l
  |@step _ j U h=>
   have hp:=DR l
   have hle:=Gd U
   rcases EN l with ⟨e,h1⟩|⟨e,h1,h2⟩|⟨e,h1,h2⟩
   .have es:AR l=(AJ l).2:=by unfold AR;rw [if_neg AC]
    rw [<-es]
    refine .step U ?_
    rw [es]
    refine ih _ (by grind) h (λhc=>hn ⟨AC,?_,?_⟩) rfl
    .have:=hc.2.1;rw [List.drop_drop] at this;rwa [show (AJ l).2+j - 1=(AJ l).2+(j - 1) by omega]
    simp_all
   .have ed:=EE (l:=l) AC AC
    have es:AR l=(AJ l).2:=by unfold AR;rw [if_pos AC,e,ed.1]
    rw [<-es]
    refine .step U ?_
    rw [es]
    refine ih _ (by grind) h (λhc=>hn ⟨AC,?_,?_⟩) rfl
    .have:=hc.2.1;rw [List.drop_drop] at this;rwa [show (AJ l).2+j - 1=(AJ l).2+(j - 1) by omega]
    .have:=hc.2.2;rwa [List.drop_drop] at this
   .have ed:=EE (l:=l) AC AC
    rw [ed.1] at h hn |-
    have es:AR l=2:=by unfold AR;rw [if_pos AC,e]
    cases h with
    |zero=>simp_all
    |@step _ j hne' h=>
     have ed':=EE (l:=l.drop 1) AC AC
     rw [ed'.1] at h hn |-
     rw [show 1+(1+j)=AR l+j by omega]
     refine .step U ?_
     rw [es]
     rw [List.drop_drop] at h
     have hl2:l.length≠0:=by have:=List.length_pos_iff.2 U;omega
     refine ih _ (by grind) h (λhc=>hn ⟨AC,?_,?_⟩) rfl
     .have:=hc.2.1;rw [List.drop_drop] at this;grind
     .have:=hc.2.2;rw [List.drop_drop] at this;grind
theorem TM:∀(n:Nat) (l:List UInt8) (k:Nat) (p:Int×Int),l.length<=n->1<=p.2->p.1<=(BM l k p).1/\(BM l k p).1<=p.1+l.length/\1<=(BM l k p).2/\(BM l k p).2<=p.2+8*l.length
 |n,[],k,p,_,h=>by rw [FG];simp only [List.length_nil];omega
 |0,a::r,k,p,hn,h=>by simp at hn
 |n+1,a::r,k,p,hn,h=>by
  by_cases U:k<AR (a::r)
  .rw [EJ U];omega
  .rw [D0 GT U]
   have h1:=Fe (l:=a::r) GT
   have h2:=TE (a::r) p.1
   have h3:=OR (a::r) h
   have hd:((a::r).drop (AR (a::r))).length=(a::r).length - AR (a::r):=List.length_drop
   have ih:=TM n ((a::r).drop (AR (a::r))) (k - AR (a::r)) (Ek (a::r) p.1,Fc (a::r) p.2) AC h3.1
   dsimp only at ih
   omega
theorem R5:∀(n:Nat) (l:List UInt8) (k:Nat) (x c U y:Int),l.length<=n->(BM l k (x,c)).1 - x=(BM l k (y,U)).1 - y
 |n,[],k,x,c,U,y,_=>by rw [FG,FG];omega
 |0,a::r,k,x,c,U,y,hn=>by simp at hn
 |n+1,a::r,k,x,c,U,y,hn=>by
  by_cases hk:k<AR (a::r)
  .rw [EJ hk,EJ hk];omega
  .rw [D0 GT hk,D0 GT hk]
   have h1:=Fe (l:=a::r) GT
   have hd:((a::r).drop (AR (a::r))).length=(a::r).length - AR (a::r):=List.length_drop
   have ih:=R5 n ((a::r).drop (AR (a::r))) (k - AR (a::r)) (Ek (a::r) x) (Fc (a::r) c) (Fc (a::r) U) (Ek (a::r) y) AC
   have e:Ek (a::r) x - x=Ek (a::r) y - y:=by unfold Ek;split<;>omega
   dsimp only
   omega
theorem V2:∀(n:Nat) (l:List UInt8) (k:Nat) (x c y:Int),l.length<=n->(BM l k (x,c)).2=(BM l k (y,c)).2
 |n,[],k,x,c,y,_=>by rw [FG,FG]
 |0,a::r,k,x,c,y,hn=>by simp at hn
 |n+1,a::r,k,x,c,y,hn=>by
  by_cases U:k<AR (a::r)
  .rw [EJ U,EJ U]
  .rw [D0 GT U,D0 GT U]
   have h1:=Fe (l:=a::r) GT
   have hd:((a::r).drop (AR (a::r))).length=(a::r).length - AR (a::r):=List.length_drop
   exact V2 n _ _ _ _ _ AC
def Cc (d:Nat) (l:List UInt8):Option Nat:=
 match l with
 |[]=>none
 |a::r=>
  if (a.toNat:Int)=123/\AU r=45 then (Cc (d+1) (r.drop 1)).map (·+2)
  else if (a.toNat:Int)=45/\AU r=125 then (if d<=1 then some 2 else (Cc (d - 1) (r.drop 1)).map (·+2))
  else (Cc d r).map (·+1)
termination_by l.length
decreasing_by all_goals simp only [List.length_drop,List.length_cons];omega
def Ei (pos:Nat) (o:Option Nat):Int:=match o with
 |none=> -1
 |some n=>(pos+n:Nat)
theorem MS {o:Option Nat}:Ei pos (o.map (·+k))=Ei (pos+k) o:=by
 cases o with
 |none=>rfl
 |some n=>simp only [Ei,Option.map_some];omega
theorem gJ (h:¬pos<s.length):Ei pos (Cc d (s.drop pos))= -1:=by
 rw [List.drop_eq_nil_iff.2 AC,Cc];rfl
theorem cp (U:AU (s.drop pos)=123) (h2:AU (s.drop (pos+1))=45):Ei pos (Cc d (s.drop pos))=Ei (pos+2) (Cc (d+1) (s.drop (pos+2))):=by
 have hp:pos<s.length:=by
  by_cases hp:pos<s.length
  .exact hp
  .rw [GM AC] at U;exact absurd U Do
 rw [List.drop_eq_getElem_cons hp] at U |-
 rw [Cc,if_pos ⟨U,h2⟩,MS,List.drop_drop]
theorem P8 (U:AU (s.drop pos)=45) (h2:AU (s.drop (pos+1))=125):Ei pos (Cc d (s.drop pos))=if d<=1 then ((pos+2:Nat):Int) else Ei (pos+2) (Cc (d - 1) (s.drop (pos+2))):=by
 have hp:pos<s.length:=by
  by_cases hp:pos<s.length
  .exact hp
  .rw [GM AC] at U;exact absurd U Do
 rw [List.drop_eq_getElem_cons hp] at U |-
 have U:((s[pos].toNat:Nat):Int)=45:=U
 rw [Cc,if_neg (λe=>by omega),if_pos ⟨U,h2⟩]
 by_cases hd:d<=1
 .rw [if_pos hd,if_pos hd];rfl
 .rw [if_neg hd,if_neg hd,MS,List.drop_drop]
theorem lX (hp:pos<s.length) (U:¬(AU (s.drop pos)=123/\AU (s.drop (pos+1))=45)) (h2:¬(AU (s.drop pos)=45/\AU (s.drop (pos+1))=125)):Ei pos (Cc d (s.drop pos))=Ei (pos+1) (Cc d (s.drop (pos+1))):=by
 rw [List.drop_eq_getElem_cons hp] at U h2 |-
 have U:¬(((s[pos].toNat:Nat):Int)=123/\AU (s.drop (pos+1))=45):=U
 have h2:¬(((s[pos].toNat:Nat):Int)=45/\AU (s.drop (pos+1))=125):=h2
 rw [Cc,if_neg U,if_neg h2,MS]
def Dk:List UInt8->Nat
 |[]=>0
 |a::r=>if 0<G2 (a::r) then 0 else Dk r+1
theorem Zk (l:List UInt8):Dk l<=l.length:=by
 induction l with
 |nil=>exact Nat.le_refl _
 |cons a r U=>unfold Dk;split<;>simp only [List.length_cons]<;>omega
theorem kU (h:0<G2 (s.drop pos)):Dk (s.drop pos)=0:=by
 cases U:s.drop pos with
 |nil=>rfl
 |cons a r=>rw [U] at h;rw [Dk,if_pos h]
theorem kT (U:pos<s.length) (h:¬0<G2 (s.drop pos)):Dk (s.drop pos)=Dk (s.drop (pos+1))+1:=by
 rw [List.drop_eq_getElem_cons U] at h |-
 rw [Dk,if_neg h]
theorem fp (U:¬pos<s.length):Dk (s.drop pos)=0:=by
 rw [List.drop_eq_nil_iff.2 AC];rfl
theorem bZ (s:List UInt8) (U pos:Nat) (h:U<=pos) (hpl:pos<=s.length):∃r,Dy s U pos=(s.take (pos+Dk (s.drop pos))).drop U::r:=by
 fun_induction Dy s U pos with
 |case1 U pos hp hn ih=>rw [kU hn];exact ⟨_,rfl⟩
 |case2 U pos hp hn ih=>
  obtain ⟨r,e⟩:=ih AC AC
  rw [kT hp hn]
  exact ⟨r,by rw [e,show pos+1+Dk (s.drop (pos+1))=pos+(Dk (s.drop (pos+1))+1) by omega]⟩
 |case3 U pos hp=>
  rw [fp hp,List.take_of_length_le AC];exact ⟨[],rfl⟩
def Ep (l:List UInt8):Nat:=
 let n:=BS (λc=>AH c==5) l
 if 2<=n/\(l.take n).all (λb=>b==45)=true then n+Dk (l.drop n) else 0
def Dt (l:List UInt8):Int:=
 if AU l=123/\AU (l.drop 1)=45 then Ei 2 (Cc 1 (l.drop 2))
 else if AU l=45 then (Ep l:Nat) else 0
def CE (s:List UInt8) (pos:Nat):Int×Int:=
 if Dt (s.drop pos)<0 then (0,60) else if Dt (s.drop pos)=0 then (0,0) else (pos+Dt (s.drop pos),0)
theorem gI (d:Nat) (l:List UInt8) (n:Nat) (h:Cc d l=some n):n<=l.length:=by
 fun_induction Cc d l generalizing n with
 |case1=>cases h
 |case2 d a r hc ih=>
  obtain ⟨m,hm,rfl⟩:=Option.map_eq_some_iff.1 h
  have:=ih m hm
  have hr:r≠[]:=λe=>by rw [e] at hc;exact absurd hc.2 Do
  have:=List.length_pos_iff.2 hr
  simp only [List.length_drop,List.length_cons] at *;omega
 |case3 d a r hc U hd=>
  have hr:r≠[]:=λe=>by rw [e] at U;exact absurd U.2 Do
  have:=List.length_pos_iff.2 hr
  injection h with h
  simp only [List.length_cons] at *;omega
 |case4 d a r hc U hd ih=>
  obtain ⟨m,hm,rfl⟩:=Option.map_eq_some_iff.1 h
  have:=ih m hm
  have hr:r≠[]:=λe=>by rw [e] at U;exact absurd U.2 Do
  have:=List.length_pos_iff.2 hr
  simp only [List.length_drop,List.length_cons] at *;omega
 |case5 d a r hc U ih=>
  obtain ⟨m,hm,rfl⟩:=Option.map_eq_some_iff.1 h
  have:=ih m hm
  simp only [List.length_cons] at *;omega
theorem cF (l:List UInt8):Ep l<=l.length:=by
 have h1:=Fb (λc=>AH c==5) l
 have U:=Zk (l.drop (BS (λc=>AH c==5) l))
 rw [List.length_drop] at U
 unfold Ep
 dsimp only
 split<;>omega
theorem U9 (l:List UInt8):Dt l<=l.length:=by
 have h1:=cF l
 unfold Dt
 split
 .rename_i U
  cases h:Cc 1 (l.drop 2) with
  |none=>simp only [Ei];omega
  |some n=>
   have:=gI _ _ _ h
   have hr:l.drop 1≠[]:=λe=>by rw [e] at U;exact absurd U.2 Do
   have:=List.length_pos_iff.2 hr
   simp only [List.length_drop,Ei] at *;omega
 .split<;>omega
def G3 (c:Int):Option Int:=
 if c=92\/c=34\/c=39 then some c
 else if c=97 then some 7 else if c=98 then some 8 else if c=116 then some 9 else if c=110 then some 10
 else if c=118 then some 11 else if c=102 then some 12 else if c=114 then some 13 else none
def Ih (base:Int):Int->List UInt8->Int
 |v,[]=>v
 |v,a::r=>if BE ((a.toNat:Nat):Int) base<0 then v else Ih base (min (v*base+BE ((a.toNat:Nat):Int) base) 1114112) r
def Jp (base:Int) (l:List UInt8):Option (Int×Nat):=if BC base l=0\/1114111<Ih base 0 l then none else some (Ih base 0 l,BC base l)
def EA:List (List UInt8):=[[78,85,76],[83,79,72],[83,84,88],[69,84,88],[69,79,84],[69,78,81],[65,67,75],[66,69,76],[66,83],[72,84],[76,70],[86,84],[70,70],[67,82],[83,79],[83,73],[68,76,69],[68,67,49],[68,67,50],[68,67,51],[68,67,52],[78,65,75],[83,89,78],[69,84,66],[67,65,78],[69,77],[83,85,66],[69,83,67],[70,83],[71,83],[82,83],[85,83],[83,80],[68,69,76]]
def M1 (l:List UInt8):List (List UInt8)->Nat->Nat×Nat->Nat×Nat
 |[],_,p=>p
 |w::U,i,p=>M1 l U (i+1) (if p.2<w.length/\w.isPrefixOf l=true then (i,w.length) else p)
def Jo (l:List UInt8):Int×Nat:=(if (M1 l EA 0 (0,0)).1=33 then 127 else (M1 l EA 0 (0,0)).1,(M1 l EA 0 (0,0)).2)
def Hr (text:Bool) (l:List UInt8):Option (Int×Nat):=
 match G3 (AU (l.drop 1)) with
 |some v=>some (v,2)
 |none=>
  if AU (l.drop 1)=38/\text=true then some (-1,2)
  else if AU (l.drop 1)=94/\64<=AU (l.drop 2)/\AU (l.drop 2)<=95 then some (AU (l.drop 2) - 64,3)
  else if AU (l.drop 1)=111 then (Jp 8 (l.drop 2)).map λp=>(p.1,2+p.2)
  else if AU (l.drop 1)=120 then (Jp 16 (l.drop 2)).map λp=>(p.1,2+p.2)
  else if 48<=AU (l.drop 1)/\AU (l.drop 1)<=57 then (Jp 10 (l.drop 1)).map λp=>(p.1,1+p.2)
  else if 0<(Jo (l.drop 1)).2 then some ((Jo (l.drop 1)).1,1+(Jo (l.drop 1)).2) else none
def Ew (l:List UInt8):Nat:=
 if AU l=92/\BS (λc=>AH c==1) (l.drop 1)≠0/\AU (l.drop (1+BS (λc=>AH c==1) (l.drop 1)))=92 then BS (λc=>AH c==1) (l.drop 1)+2 else 0
def Lv (d:Nat×Nat):Bool:=AH (d.1:Nat)==0||(AH (d.1:Nat)==1&& !(d.1==32))||(d.1==65533&&d.2==1)
def IF (text:Bool) (l:List UInt8):Sum Int (Int×Nat):=
 match l with
 |[]=>.inl 50
 |a::r=>
  if AU (a::r)=92 then
   if text=true/\0<Ew (a::r) then .inr (-1,Ew (a::r))
   else match Hr text (a::r) with
    |none=>.inl 51
    |some p=>.inr p
  else if Lv (AJ (a::r)) then .inl 50 else .inr (((AJ (a::r)).1:Nat),(AJ (a::r)).2)
theorem S7 (l:List UInt8):∀(U:List (List UInt8)) (i:Nat) (p:Nat×Nat),p.2<=l.length->(M1 l U i p).2<=l.length
 |[],_,p,h=>h
 |w::U,i,p,h=>by
  unfold M1
  refine S7 l U _ _ ?_
  grind
theorem lh (l:List UInt8):Ew l<=l.length:=by
 unfold Ew
 split
 .rename_i h
  have U:=Fb (λc=>AH c==1) (l.drop 1)
  rw [List.length_drop] at U
  have h2:l.drop (1+BS (λc=>AH c==1) (l.drop 1))≠[]:=λe=>by rw [e] at h;exact absurd h.2.2 Do
  grind
 omega
theorem Vy (h:G3 c=some v):0<=c/\0<=v:=by
 unfold G3 at h
 grind
theorem OG {p:Int×Nat} (h:Jp base l=some p):1<=p.2/\p.2<=l.length:=by
 unfold Jp at h
 split at h
 .cases h
 .injection h with h
  subst h
  exact ⟨AC,D9 base l⟩
theorem Zm {text:Bool} {p:Int×Nat} (h:Hr text l=some p):1<=p.2/\p.2<=l.length:=by
 unfold Hr at h
 split at h
 .rename_i v hs
  have:=Cf (l:=l) (k:=1) (Vy hs).1
  grind
 .rename_i hs
  have e1:∀k,0<=AU (l.drop k)->k<l.length:=λk=>Cf
  have e2:=e1 1
  have e3:=e1 2
  repeat' split at h
  .grind
  .grind
  .obtain ⟨q,U,rfl⟩:=Option.map_eq_some_iff.1 h
   have:=OG U
   grind
  .obtain ⟨q,U,rfl⟩:=Option.map_eq_some_iff.1 h
   have:=OG U
   grind
  .obtain ⟨q,U,rfl⟩:=Option.map_eq_some_iff.1 h
   have:=OG U
   grind
  .injection h with h;subst h
   have:=S7 (l.drop 1) EA 0 (0,0) (Nat.zero_le _)
   rw [List.length_drop] at this
   have h7:(Jo (l.drop 1)).2=(M1 (l.drop 1) EA 0 (0,0)).2:=by simp only [Jo]
   omega
  grind
theorem Me {text:Bool} {p:Int×Nat} (h:IF text l=.inr p):1<=p.2/\p.2<=l.length:=by
 unfold IF at h
 split at h
 .cases h
 .rename_i a r
  have h1:=DR (a::r)
  have h2:=Gd (l:=a::r) GT
  have h3:=lh (a::r)
  split at h
  .split at h
   .grind
   .split at h
    .cases h
    .rename_i q U
     injection h with h;subst h;exact Zm U
  grind
def ED (l:List UInt8):Sum (Nat×Int) Nat:=
 if AU l=34 then .inr 1
 else match h:IF true l with
  | .inl e=>.inl (0,e)
  | .inr p=>match ED (l.drop p.2) with
    | .inl q=>.inl (q.1+p.2,q.2)
    | .inr n=>.inr (n+p.2)
termination_by l.length
decreasing_by
 have:=Me h
 grind
def Jj (l:List UInt8):List Int:=
 if AU l=34 then []
 else match h:IF true l with
  | .inl e=>[]
  | .inr p=>if p.1= -1 then Jj (l.drop p.2) else p.1::Jj (l.drop p.2)
termination_by l.length
decreasing_by
 all_goals
  have:=Me h
  rw [List.length_drop];omega
def Jk (pos:Nat) (l:List UInt8):List (Nat×Nat):=
 if AU l=34 then []
 else match h:IF true l with
  | .inl e=>[]
  | .inr p=>if 0<Ew l then (pos,pos+p.2)::Jk (pos+p.2) (l.drop p.2) else Jk (pos+p.2) (l.drop p.2)
termination_by l.length
decreasing_by
 all_goals
  have:=Me h
  rw [List.length_drop];omega
def Nx (l:List UInt8):Sum (Nat×Int) Nat:=
 if AU l=39 then .inl (0,50)
 else match IF false l with
  | .inl e=>.inl (0,e)
  | .inr p=>if AU (l.drop p.2)=39 then .inr (p.2+1) else .inl (p.2,50)
def CA (s:List UInt8) (pos:Nat):Int×Int×Int:=
 if AU (s.drop pos)=34 then match ED (s.drop (pos+1)) with
  | .inl q=>(0,(pos+1+q.1:Nat),q.2)
  | .inr n=>(14,(pos+1+n:Nat),0)
 else if AU (s.drop pos)=39 then match Nx (s.drop (pos+1)) with
  | .inl q=>(0,(pos+1+q.1:Nat),q.2)
  | .inr n=>(13,(pos+1+n:Nat),0)
 else (0,0,0)
theorem BG.add {i j:Nat} (h:BG l i) (k:BG (l.drop i) j):BG l (i+j):=by
 induction h with
 |zero l=>simp_all
 |step U h ih=>
  rw [Nat.add_assoc]
  refine .step U (ih ?_)
  simp_all
theorem BG.bd (h:BG l k):Bd l k:=by
 induction h with
 |zero l=>exact .zero l
 |@step l k U h ih=>
  rcases EN l with ⟨e,h1⟩|⟨e,h1,h2⟩|⟨e,h1,h2⟩
  .have es:AR l=(AJ l).2:=by unfold AR;rw [if_neg AC]
   rw [es] at ih |-;exact .step U ih
  .have ed:=EE (l:=l) AC AC
   have es:AR l=(AJ l).2:=by unfold AR;rw [if_pos AC,e,ed.1]
   rw [es] at ih |-;exact .step U ih
  .have ed:=EE (l:=l) AC AC
   have ed':=EE (l:=l.drop 1) AC AC
   have es:AR l=2:=by unfold AR;rw [if_pos AC,e]
   have hne':l.drop 1≠[]:=λe=>by rw [e] at h2;exact absurd h2 Do
   rw [es] at ih |-
   have b1:Bd (l.drop 1) (1+k):=by
    have:=Bd.step hne' (k:=k) ke
    rwa [ed'.1] at this
   have:=Bd.step U (k:=1+k) ke
   grind
theorem BG.one (U:0<=AU l) (h1:AU l<128) (h:¬(AU l=13\/AU l=10\/AU l=12)):BG l 1:=by
 have hne:l≠[]:=λe=>by rw [e] at U;exact absurd U Do
 have ed:=EE U h1
 have es:AR l=1:=by
  rcases EN l with ⟨e,_⟩|⟨_,h2,_⟩|⟨_,h2,_⟩
  .unfold AR;simp_all
  .omega
  .omega
 have:=BG.step hne (.zero (l.drop (AR l)))
 simp_all
theorem BG.span {p:Nat×Nat->Bool} (hp:∀d,p d=true->d.1≠10/\d.1≠12/\d.1≠13) (l:List UInt8):BG l (Bs p l):=by
 fun_induction Bs p l with
 |case1=>exact .zero _
 |case2 a r U ih=>
  have h1:=hp _ U
  have es:AR (a::r)=(AJ (a::r)).2:=by
   unfold AR
   rw [if_neg]
   rcases EN (a::r) with ⟨e,_⟩|⟨_,h2,_⟩|⟨_,h2,_⟩
   .omega
   .have:=EE (l:=a::r) AC AC;omega
   .have:=EE (l:=a::r) AC AC;omega
  have:=BG.step (l:=a::r) (k:=Bs p ((a::r).drop (AJ (a::r)).2)) GT ke
  simp_all
 |case3 a r U=>exact .zero _
theorem eI {k:Int} (h:AH c=k) (U:k≠1):c≠10/\c≠12/\c≠13:=by
 refine ⟨?_,?_,?_⟩<;>(rintro rfl;exact U (h.symm.trans Do))
theorem BG.kind {k:Int} (hk:k≠1) (l:List UInt8):BG l (BS (λc=>AH c==k) l):=by
 refine BG.span (λd U=>?_) l
 have:=eI (beq_iff_eq.1 U) hk
 omega
theorem BG.name (l:List UInt8):BG l (KL l):=by
 refine BG.span (λd U=>?_) l
 have U:Hw ((d.1:Nat):Int)=true:=U
 refine ⟨?_,?_,?_⟩<;>(intro e;rw [e] at U;revert U;decide)
theorem eO {a:UInt8} (h:¬BE ((a.toNat:Nat):Int) base<0):48<=a.toNat/\a.toNat<128:=by
 unfold BE at h
 grind
theorem BG.row (base:Int) (l:List UInt8):BG l (BC base l):=by
 induction l with
 |nil=>exact .zero _
 |cons a r U=>
  unfold BC
  split
  .exact .zero _
  .rename_i h
   have:=eO h
   rw [Nat.add_comm]
   exact BG.add (BG.one (l:=a::r) (show (0:Int)<=((a.toNat:Nat):Int) by omega) (show ((a.toNat:Nat):Int)<128 by omega) (show ¬(((a.toNat:Nat):Int)=13\/((a.toNat:Nat):Int)=10\/((a.toNat:Nat):Int)=12) by omega)) U
theorem BG.rv (l:List UInt8):BG l (HO l):=by
 unfold HO
 split
 .exact BG.add (BG.one AC AC AC) (BG.row _ _)
 .exact .zero _
theorem BG.sign (l:List UInt8):BG l (KP l):=by
 unfold KP
 split
 .exact BG.one AC AC AC
 .exact .zero _
theorem BG.exp (l:List UInt8):BG l (LP l):=by
 unfold LP
 split
 .rw [Nat.add_assoc]
  refine BG.add (BG.one AC AC AC) (BG.add (BG.sign _) ?_)
  rw [List.drop_drop]
  exact BG.row _ _
 .exact .zero _
theorem BG.num (l:List UInt8):BG l (Eo l).2:=by
 unfold Eo
 split
 .rename_i h
  unfold Cr at h
  split at h
  .rename_i hc
   have hb:=hc.2.1
   unfold Eh at hb
   have h1:65<=AU (l.drop 1)/\AU (l.drop 1)<128:=by
    split at hb
    .omega
    .omega
   have U:BG l 2:=BG.add (i:=1) (j:=1) (BG.one AC AC AC) (BG.one AC AC AC)
   exact BG.add U (BG.row _ _)
  omega
 .split
  .exact .zero _
  .refine BG.add (BG.add (BG.row _ _) (BG.rv _)) (BG.exp _)
theorem kx (h:AH c=6):32<c/\c<128:=by
 unfold AH at h
 split at h
 .omega
 .split at h
  .omega
  .split at h
   .omega
   .split at h
    .omega
    .split at h
     .unfold Ej at h
      omega
     .unfold LA at h
      omega
theorem kZ (h:GK l=6):32<AU l/\AU l<128:=by
 cases l with
 |nil=>exact absurd h Do
 |cons a r=>
  have h:AH ((AJ (a::r)).1:Nat)=6:=h
  have U:=kx h
  by_cases ha:a.toNat<128
  .rw [EY ha] at U
   exact U
  .have:=Oq (r:=r) ha
   omega
theorem BG.plain (l:List UInt8):BG l (BB l).2:=by
 unfold BB
 split
 .rename_i h
  have:=kZ h
  exact BG.one AC AC AC
 .split
  .exact BG.kind Do l
  .split
   .exact BG.name l
   .split
    .exact BG.name l
    .exact .zero _
theorem BG.scan (s:List UInt8) (n:Nat) (k:Int) (h:BG s n):BG s (Hk s n k).2:=by
 fun_induction Hk s n k with
 |case1 n k hn U ih=>
  have hd:AU (s.drop n)=46:=U.2.1
  have c1:=BG.one (l:=s.drop n) AC AC AC
  exact ih (BG.add (BG.add h c1) (BG.plain _))
 |case2 n k hn U=>exact h
 |case3 n k hn=>exact h
theorem BG.word (l:List UInt8):BG l (Ga l).2:=BG.scan l _ _ (BG.plain l)
theorem Vd.end (h:Vd l):Bd l l.length:=by
 have:=Bd.span Dd l
 rwa [show Bs Dd l=l.length from h] at this
theorem BG.behind (hv:Vd l) (h0:0<AU (l.drop k)) (h:AU (l.drop k)<128) (hn:AU (l.drop k)≠13):BG l (k+1):=by
 have hk:=Cf (l:=l) (k:=k) AC
 have U:=List.getElem?_eq_getElem hk
 have e:=DT U
 refine ((Bd.nu hv U AC).2).cut (λhc=>hn ?_)
 simp_all
theorem GU (d:Nat) (l:List UInt8) (n:Nat) (h:Cc d l=some n):2<=n/\AU (l.drop (n - 1))=125:=by
 fun_induction Cc d l generalizing n with
 |case1=>cases h
 |case2 d a r hc ih=>
  obtain ⟨m,U,rfl⟩:=Option.map_eq_some_iff.1 h
  have:=ih m U
  refine ⟨AC,?_⟩
  rw [show m+2 - 1=(m - 1)+1+1 by omega,List.drop_succ_cons]
  simp_all
 |case3 d a r hc hk hd=>
  injection h with h
  subst h
  simp_all
 |case4 d a r hc hk hd ih=>
  obtain ⟨m,U,rfl⟩:=Option.map_eq_some_iff.1 h
  have:=ih m U
  refine ⟨AC,?_⟩
  rw [show m+2 - 1=(m - 1)+1+1 by omega,List.drop_succ_cons]
  simp_all
 |case5 d a r hc hk ih=>
  obtain ⟨m,U,rfl⟩:=Option.map_eq_some_iff.1 h
  have:=ih m U
  refine ⟨AC,?_⟩
  rw [show m+1 - 1=(m - 1)+1 by omega,List.drop_succ_cons]
  omega
theorem BG.sg (hv:Vd l):BG l (Dk l):=by
 have hb:Bd l (Dk l)/\¬(0<Dk l/\AU (l.drop (Dk l - 1))=13/\AU (l.drop (Dk l))=10):=by
  have key:∀l:List UInt8,(Dk l=l.length\/∃b,l[Dk l]? =some b/\b.toNat<128)/\¬(0<Dk l/\AU (l.drop (Dk l - 1))=13):=by
   intro l
   induction l with
   |nil=>exact ⟨.inl rfl,λh=>absurd h.1 Do⟩
   |cons a r ih=>
    by_cases hn:0<G2 (a::r)
    .rw [Dk,if_pos hn]
     refine ⟨.inr ⟨a,rfl,?_⟩,λh=>absurd h.1 Do⟩
     rcases EN (a::r) with ⟨e,_⟩|⟨_,U,_⟩|⟨_,U,_⟩
     .omega
     .simp only [AU] at U;omega
     .simp only [AU] at U;omega
    .rw [Dk,if_neg hn]
     refine ⟨?_,?_⟩
     .simp_all
     .rintro ⟨_,h⟩
      by_cases h0:0<Dk r
      .refine ih.2 ⟨h0,?_⟩
       rwa [show Dk r+1 - 1=(Dk r - 1)+1 by omega,List.drop_succ_cons] at h
      .rw [show Dk r+1 - 1=0 by omega,List.drop_zero] at h
       rcases EN (a::r) with ⟨_,e⟩|⟨e,_⟩|⟨e,_⟩
       .omega
       .omega
       .omega
  refine ⟨?_,λh=>(key l).2 ⟨h.1,h.2.1⟩⟩
  rcases (key l).1 with h|⟨b,h1,U⟩
  .rw [h];exact hv.end
  .exact (Bd.nu hv h1 U).1
 exact hb.1.cut hb.2
theorem BG.note (U:Vd l) (h:Dt l=n):BG l n:=by
 unfold Dt at h
 split at h
 .rename_i hc
  cases hn:Cc 1 (l.drop 2) with
  |none=>rw [hn] at h;simp only [Ei] at h;omega
  |some m=>
   rw [hn] at h
   simp only [Ei] at h
   have:=GU _ _ _ hn
   rw [List.drop_drop] at this
   have e:n=(2+(m - 1))+1:=AC
   rw [e]
   exact BG.behind U AC AC AC
 .split at h
  .have e:n=Ep l:=AC
   rw [e]
   unfold Ep
   dsimp only
   split
   .exact BG.add (BG.kind Do l) (BG.sg ((Bd.span _ l).vd U))
   .exact .zero _
  .have e:n=0:=AC
   rw [e];exact .zero _
theorem YG (l:List UInt8) (n:Nat) (h:ED l=.inr n):1<=n/\AU (l.drop (n - 1))=34:=by
 fun_induction ED l generalizing n with
 |case1 l U=>simp_all
 |case2 l U e he=>cases h
 |case3 l U p hp q hq ih=>cases h
 |case4 l U p hp m hm ih=>
  injection h with h
  subst h
  have:=ih m hm
  refine ⟨AC,?_⟩
  have h2:=this.2
  rwa [List.drop_drop,show p.2+(m - 1)=m+p.2 - 1 by omega] at h2
theorem BG.quote (hv:Vd (s.drop p)) (h:(CA s p).1≠0):∃n,(CA s p).2.1=(p+n:Nat)/\2<=n/\BG (s.drop p) n:=by
 unfold CA at h |-
 split
 .rename_i hq
  rw [if_pos hq] at h
  cases U:ED (s.drop (p+1)) with
  |inl q=>simp_all
  |inr n=>
   have:=YG _ _ U
   refine ⟨n+1,by grind,AC,?_⟩
   have h2:=this.2
   rw [show s.drop (p+1)=(s.drop p).drop 1 by simp_all,List.drop_drop,show 1+(n - 1)=n by omega] at h2
   exact BG.behind hv AC AC AC
 .rename_i hq
  rw [if_neg hq] at h
  split
  .rename_i hq'
   rw [if_pos hq'] at h
   cases U:Nx (s.drop (p+1)) with
   |inl q=>simp_all
   |inr n=>
    have:1<=n/\AU ((s.drop (p+1)).drop (n - 1))=39:=by
     unfold Nx at U
     split at U
     .cases U
     .grind
    refine ⟨n+1,by grind,AC,?_⟩
    have h2:=this.2
    rw [show s.drop (p+1)=(s.drop p).drop 1 by simp_all,List.drop_drop,show 1+(n - 1)=n by omega] at h2
    exact BG.behind hv AC AC AC
  simp_all
def St.J6 (st:St) (b:Nat):St:={st with box:=λx=>if x=b then none else st.box x}
theorem St.XN {st:St} (h:st.box b=none):st.le ((st.Aa b cs).J6 b):=
 ⟨λx c e=>by
   simp only [St.J6,St.Aa]
   grind,λ_ _ e=>e⟩
theorem BZ.of_flat {I:Mem} {sz:Nat}:∀{es:List (List V)} {vs:List Value},(∀e ∈ es,e.length=sz)->Aj I es.flatten vs->BZ I sz es vs
 |[],vs,_,h=>by simpa only [List.flatten_nil,Aj,BZ] using h
 |e::r,vs,hl,h=>by
  rw [List.flatten_cons] at h
  have U:=Aj.take e.length h
  have h2:=Aj.drop e.length h
  rw [List.take_left' rfl] at U
  rw [List.drop_left' rfl] at h2
  simp only [BZ]
  exact ⟨_,_,(List.take_append_drop e.length vs).symm,hl e List.mem_cons_self,U,BZ.of_flat (λx hx=>hl x (List.mem_cons_of_mem _ hx)) h2⟩
section
variable {P:Program} {D:List Deferred} {I0 I:Mem} {st0 st:St} {w0 w:World} {β:Nat->Option Nat} {env:Env} {a:Act}
theorem Rel.freeze (h:Rel D I0 st0 w0 I β env st a w) (hb:st.box b=some cs):
 ∃vs:List Value,Aj I cs vs/\I.le (I.add b 0 vs vs.length)/\Rel D I0 st0 w0 (I.add b 0 vs vs.length) β env (st.J6 b) a w:=by
 obtain ⟨vs,ty,hw,hv⟩:=h.s.box b cs hb
 obtain ⟨i1,i2,i3⟩:=h.s.Hp b ke
 have hl:I.le (I.add b 0 vs vs.length):=Mem.PV (λo _=>i1 o) (.inl i3)
 have hd:=h.fr.Kv b (.inl ke)
 have nb:∀x,(st.J6 b).box x≠none->x≠b/\st.box x≠none:=λx e=>by
  by_cases U:x=b
  .subst U;exact absurd (if_pos rfl) e
  .refine ⟨U,?_⟩
   have e':(if x=b then none else st.box x)≠none:=e
   simp_all
 refine ⟨vs,hv,hl,⟨⟨h.fr.os,h.fr.tape,h.fr.output,h.fr.size,h.fr.KM,Mem.le_trans h.fr.le hl,?_,?_,λx e=>h.fr.Kv x (e.imp (λe=>(nb x e).2) id)⟩,⟨?_,?_,?_,?_,?_,SO hl.1 hl.2 h.s.RX⟩,Hm.mem h.f hl ?_⟩⟩
 .intro x o h1 h2
  by_cases e:x=b
  .simp_all
  .exact h.fr.new x o h1 (by simpa [Mem.add,e] using h2)
 .intro x h1 h2
  by_cases e:x=b
  .simp_all
  .exact h.fr.Kw x h1 (by simpa [Mem.add,e] using h2)
 .intro x o v e
  simp only [Mem.add] at e
  split at e
  .rename_i U
   obtain ⟨rfl,h1,h2⟩:=U
   simp only [World.cell?,hw,Option.isSome_none,Bool.false_eq_true,if_false,List.getElem?_toArray]
   exact e
  .exact h.s.cell x o v e
 .intro x n e
  simp only [Mem.add] at e
  split at e
  .simp_all
  .exact h.s.shape x n e
 .intro x c e
  have U:=(nb x ke).1
  have e':st.box x=some c:=by
   have:(if x=b then none else st.box x)=some c:=e
   rwa [if_neg U] at this
  obtain ⟨us,ty',h1,h2⟩:=h.s.box x c e'
  exact ⟨us,ty',h1,Aj.mono hl _ _ h2⟩
 .intro x e
  obtain ⟨U,e'⟩:=nb x e
  obtain ⟨h1,h2,h3⟩:=h.s.Hp x e'
  exact ⟨λo=>by simp [Mem.add,U,h1 o],h2,by simp [Mem.add,U,h3]⟩
 .intro x n e
  have U:x≠b:=λU=>by subst U;rw [show (st.J6 x).hw x=st.hw x from rfl,i2] at e;cases e
  exact ⟨(h.s.hw x n e).1,λo ho=>by simp only [Mem.add];rw [if_neg (by simp [U])];exact (h.s.hw x n e).2 o ho⟩
 .intro id x e
  obtain ⟨h1,h2,h3,h4,h5,h6⟩:=h.f.sep id x e
  have U:x≠b:=λU=>by simp_all
  exact ⟨λo=>by simp [Mem.add,U,h3 o],by simp [Mem.add,U,h4],by grind,h6⟩
theorem Yo {sz cap:Nat} {es:List (List V)} {rest:List V} {vs:List Value} (hv:Aj I (es.flatten++rest) vs) (hl:I.le (I.add b 0 vs vs.length)) (hz:∀e ∈ es,e.length=sz) (hn:es.length=n) {c:Value} (h:AF I (.FX sz b n cap) c):
 AF (I.add b 0 vs vs.length) (.slice sz es .any) c:=by
 simp only [AF] at h |-
 obtain ⟨rfl,h1,h2,h3⟩:=h
 subst hn
 refine ⟨_,cap,rfl,h1,h2,h3,trivial,.inr rfl,?_⟩
 have U:=Aj.take es.flatten.length hv
 rw [List.take_left' rfl] at U
 refine Cd.add es _ 0 (BZ.of_flat hz U) hl λj c e=>?_
 rw [Nat.zero_add]
 have e':vs[j]? =some c:=by
  rw [List.getElem?_take] at e
  split at e
  .exact e
  .cases e
 have:=Mem.OZ (I:=I) (b:=b) (h:=0) (n:=vs.length) e'
 simp_all
inductive od (o n:V):V->V->Prop
 |same (v:V):od o n v v
 |here:od o n o n
inductive V8 (o n:V):List V->List V->Prop
 |nil:V8 o n [] []
 |cons {v v':V} {l l':List V}:od o n v v'->V8 o n l l'->V8 o n (v::l) (v'::l')
theorem od.rep {o n v U:V} (h:od o n v U) (hl:I.le J) (k:∀c,AF I o c->AF J n c) {c:Value} (r:AF I v c):AF J U c:=by
 cases h with
 |same=>exact AF.mono hl _ _ r
 |here=>grind
theorem V8.rep {J:Mem} {o n:V}:∀{l l':List V} {vs:List Value},V8 o n l l'->I.le J->(∀c,AF I o c->AF J n c)->Aj I l vs->Aj J l' vs
 |_,_,vs,.nil,U,k,r=>by simpa only [Aj] using r
 |_,_,vs,.cons h1 h2,U,k,r=>by
  simp only [Aj] at r |-
  obtain ⟨c,s,rfl,r1,r2⟩:=r
  exact ⟨c,s,rfl,h1.rep U k r1,h2.rep U k r2⟩
inductive av (o n:V):Ay->Ay->Prop
 |val {v v':V}:od o n v v'->av o n (.ret v) (.ret v')
 |agg {l l':List V}:V8 o n l l'->av o n (.ret (.agg l)) (.ret (.agg l'))
 |Bu {l l':List V}:V8 o n l l'->av o n (.ret (.Bu l)) (.ret (.Bu l'))
theorem av.rep {J:Mem} {o n:V} {r r':Ay} (h:av o n r r') (hl:I.le J) (k:∀c,AF I o c->AF J n c) {e:Ending} (m:Vl I e r):Vl J e r':=by
 cases e with
 |returned c=>
  cases h with
  |val h=>exact od.rep h hl k m
  |agg h=>have U:AF I _ c:=m;simp only [AF] at U;obtain ⟨vs,e,m3⟩:=U;show AF J _ _;simp only [AF];exact ⟨vs,e,h.rep hl k m3⟩
  |Bu h=>have U:AF I _ c:=m;simp only [AF] at U;obtain ⟨vs,e,m3⟩:=U;show AF J _ _;simp only [AF];exact ⟨vs,e,h.rep hl k m3⟩
 |panicked chain=>cases h<;>exact m.elim
 |outgrown=>cases h<;>exact m.elim
theorem A5.freeze {f:FuncId} {args:List V} {R R':Ay->St->Prop} (h:A5 P f args st R')
 (k:∀r s,R' r s->R r s\/∃b sz n cap es rest r',s.box b=some (es.flatten++rest)/\(∀e ∈ es,e.length=sz)/\es.length=n/\av (.FX sz b n cap) (.slice sz es .any) r r'/\R r' (s.J6 b)):A5 P f args st R:=by
 refine ⟨λI w U hs ha=>(h.a I w U hs ha).mono ?_,h.b⟩
 rintro e w' ⟨I',st',r,k1,k2,k3,k4⟩
 rcases k r st' k4 with k4|⟨b,sz,n,cap,es,rest,r',g1,g2,g3,g4,g5⟩
 .grind
 have hr:Rel [] I st w I' (λ_=>none) {tmps:=[],boxes:=[],Bj:=0,sz:=0,gl:=[]} st' {tmps:=#[],defers:=[]} w':=
  ⟨k1,k2,⟨rfl,λt v e=>(by cases e),λid cs e=>(by cases e),λid b e=>(by cases e),λi j b e=>(by cases e),λid b e=>(by cases e),rfl⟩⟩
 obtain ⟨vs,hv,hl,hr'⟩:=hr.freeze g1
 exact ⟨_,_,r',hr'.fr,hr'.s,g4.rep hl (λc hc=>Yo hv hl g2 g3 hc) k3,g5⟩
theorem jG {c:Code} {env':Env} {st:St} (h:AW P c Q env' st') (U:env'.ES env) (hs:St.le st' st):AW P c Q env st:=
 λD I0 st0 w0 I β a w hr=>h D I0 st0 w0 I _ a w ((hr.Jd (Env.Jf U)).G4 hs)
theorem YT {c:Code} {st:St} (e:st'=st) (h:AW P c Q env st'):AW P c Q env st:=e ▸ h
theorem A1 {T : List (Nat × Ty)} (hP : R7 P T) (gl : List Nat) (hf : P.funcs[f]? = some fn) {c : Code} (hb : fn.body = some c) (hn : (fn.name == "runtime.NumGoroutine") = false) (hle : Nat.ble args.length fn.ntmps = true)
 (h:AW P c (Z3 T fn (Ends R)) {tmps:=Jb 0 args,boxes:=[],Bj:=0,sz:=fn.ntmps,gl} st):A5 P f args st R:=by
 refine ⟨?_,fn,hf,ke,hn⟩
 intro I w cargs hs hargs
 refine calls_of_wp hf hb ?_
 refine wp_mono (h [] I st w I _ _ w (Gv gl hs hargs hle)) ?_
 rintro e a w' ⟨I1,β1,env1,st1,ae,h1,h2,h3⟩
 have hret:(E4 T env1 st1 fn.results.toList λvs=>match vs with
  |[v]=>Ends R (.ret v) st1
  |vs=>Ends R (.ret (.Bu vs)) st1)->
  a.defers=[]/\∃v,(results fn a.tmps).run P w'=.ok v w'/\∃I' st' r,Fr I st w I' st' w'/\Co I' st' w'/\Vl I' (.returned v) r/\R r st':=by
  intro h3
  obtain ⟨v,c,g1,g2,r2,st2,g3,g4,g5⟩:=CF (P:=P) (R:=Ends R) hP.t h1 h3
  have U:=h1.G4 g4
  refine ⟨h1.f.defers,c,g1,I1,st2,r2,U.fr,U.s,?_,g5⟩
  rcases g3 with rfl|rfl
  .exact g2
  .exact g2.wk
 cases ae with
 |normal=>cases e<;>first|exact hret h3|exact h2.elim
 |exit i=>exact h3.elim
 |goto i=>exact h3.elim
 |ret=>cases e<;>first|exact hret h3|exact h2.elim
 |BX v=>
  cases e<;>try exact h2.elim
  obtain ⟨r2,st2,g3,g4,g5⟩:=h3
  obtain ⟨c',rfl,h2⟩:=h2
  have U:=h1.G4 g4
  refine ⟨h1.f.defers,I1,st2,r2,U.fr,U.s,?_,g5⟩
  rcases g3 with rfl|rfl
  .exact ⟨c',rfl,h2⟩
  .exact ⟨c',rfl,h2.wk⟩
end
theorem VM (l:List (List UInt8)):(strs l).length=l.length:=by simp [strs]
theorem Y3 {l:List (List UInt8)} {K:List V->Prop} (h:l[i.toNat]? =some x) (U:0<=i) (k:K [V.str x]):0<=i/\∃e,(strs l)[i.toNat]? =some e/\K e:=
 ⟨U,[V.str x],by simp [strs,h],k⟩
theorem fY {l:List (List UInt8)} {K:Nat->Prop} (k:l.length<4611686018427387904->K l.length):∀m,m=(strs l).length->m<En->K m:=λm U h=>by
 rw [VM] at U;subst U;exact k h
theorem KB {p:UInt8->Bool}:∀(l:List UInt8),(l.dropWhile p).all p=true->l.all p=true
 |[],_=>rfl
 |a::r,h=>by
  rw [List.dropWhile_cons] at h
  by_cases U:p a=true
  .rw [if_pos U] at h;rw [List.all_cons,U,Bool.true_and];exact KB r h
  simp_all
theorem dropWhile_nil {p:UInt8->Bool}:∀(l:List UInt8),l.dropWhile p=[]↔l.all p=true
 |[]=>by simp
 |a::r=>by
  rw [List.dropWhile_cons,List.all_cons]
  by_cases U:p a=true
  .rw [if_pos U,U,Bool.true_and];exact dropWhile_nil r
  simp_all
theorem R0 (l:List UInt8):Lib.trimB l 45=[]↔l.all (λb=>b==45)=true:=by
 unfold Lib.trimB Lib.trimLeftB Lib.trimRightB
 rw [dropWhile_nil,List.all_reverse]
 refine ⟨λh=>?_,λh=>?_⟩
 .have:=KB _ h
  grind
 .have:l.reverse.dropWhile (λb=>b==45)=[]:=(dropWhile_nil _).2 (by grind)
  simp_all
theorem qQ (a b:UInt8) (l:List UInt8):[a,b].isPrefixOf l=decide (AU l=(a.toNat:Nat)/\AU (l.drop 1)=(b.toNat:Nat)):=by
 rcases l with _|⟨x,_|⟨y,r⟩⟩
 .rfl
 .show (a==x&&false)=_
  rw [Bool.and_false]
  refine (decide_eq_false λe=>?_).symm
  have h:(-1:Int)=(b.toNat:Nat):=e.2;omega
 .show (a==x&&(b==y&&true))=decide (((x.toNat:Nat):Int)=(a.toNat:Nat)/\((y.toNat:Nat):Int)=(b.toNat:Nat))
  rw [Bool.and_true,Bool.eq_iff_iff,Bool.and_eq_true,beq_iff_eq,beq_iff_eq,decide_eq_true_iff]
  exact ⟨λe=>by simp_all,λe=>⟨UInt8.toNat_inj.1 AC,UInt8.toNat_inj.1 AC⟩⟩
theorem Yt {w:(AG->Env->St->Prop)->Env->St->Prop} {U:Nat->Option ((AG->Env->St->Prop)->Env->St->Prop)} {st:St}
 (h:w (Zt (λl env' st'=>∃y:Empty,(λe:Empty=>(e.elim:Nat)) y=l/\(λ_:Empty=>True) y/\((λe:Empty=>(e.elim:Env)) y).ES env'/\St.le ((λe:Empty=>(e.elim:St)) y) st') Q) env st):ON w U Q env st:=
 ⟨Empty,λe=>e.elim,λe=>e.elim,λe=>e.elim,λ_=>True,λe=>e.elim,h,λx=>x.elim⟩
theorem oS {r r':Ay} {st:St} (hle:St.le st st') (h:R r st) (e:r=r'):∃r2 U,(r2=r'\/r2=r'.wk)/\St.le U st'/\R r2 U:=⟨r,st,.inl e,hle,h⟩
end Go.Aw
namespace Go.Proofs.Z
open Go Go.Aw
section
variable {st:St} {R:Ay->St->Prop}
theorem Tg (e:i.toNat=n) (h:R (.ret (.bool (decide (AU (s.drop n)=123/\AU (s.drop (n+1))=45)))) st):PC 130 [.str (s.drop i.toNat),.str [123,45]] st R:=by
 refine H3 ?_
 rw [qQ,e,List.drop_drop]
 exact h
theorem kz (e:i.toNat=n) (h:R (.ret (.bool (decide (AU (s.drop n)=45/\AU (s.drop (n+1))=125)))) st):PC 130 [.str (s.drop i.toNat),.str [45,125]] st R:=by
 refine H3 ?_
 rw [qQ,e,List.drop_drop]
 exact h
theorem gK (hl:s.length<=100000000) (hs:AU s=123/\AU (s.drop 1)=45) (h:R (.ret (.int .i64 (Ei 2 (Cc 1 (s.drop 2))))) st):PC 131 [.str s] st R:=by
 have hs0:AU (s.drop 0)=123:=hs.1
 refine pB Tryz.func131 ?_
 repeat' ((conv=>whnf);first|(refine BT ?_;intros)|(refine BU ?_ ?_<;>intro _)|refine Yt ?_)
 refine XY (α:=Nat) (β:=Nat) (λpos d=>[(3,.int .i64 (d:Int)),(4,.int .i64 (pos:Int))]) (λ_ _=>[]) [0] [] (λ_ _=>st)
  (λpos d=>pos<=s.length/\d<=pos/\((pos=0/\d=0)\/(1<=d/\2<=pos/\Ei 2 (Cc 1 (s.drop 2))=Ei pos (Cc d (s.drop pos))))) (λpos _=>s.length - pos) 0 0 ⟨Nat.zero_le _,Nat.le_refl _,.inl ⟨rfl,rfl⟩⟩ Yl (St.le_refl _) ?_
 rintro pos d ⟨h1,h2,h3⟩
 have q1:=λh=>Cf (l:=s) (k:=pos+1) h
 rcases h3 with ⟨rfl,rfl⟩|⟨h3,h4,U⟩
 .have hs1:AU (s.drop (0+1))=45:=hs.2
  repeat' ((conv=>whnf);first|(refine BT ?_;intros)|(refine BU ?_ ?_<;>intro _)|refine Tg (n:=0) AC ?_)
  .conv=>whnf
   exact ⟨(2,1),⟨AC,AC,.inr ⟨Nat.le_refl _,Nat.le_refl _,rfl⟩⟩,AC,Yl,St.le_refl _⟩
 repeat' ((conv=>whnf);first|(refine BT ?_;intros)|(refine BU ?_ ?_<;>intro _)|refine Tg (n:=pos) AC ?_|refine kz (n:=pos) AC ?_)
 .have k:AU (s.drop pos)=123/\AU (s.drop (pos+1))=45:=FS
  conv=>whnf
  exact ⟨(pos+2,d+1),⟨AC,AC,.inr ⟨AC,AC,U.trans (cp k.1 k.2)⟩⟩,AC,Yl,St.le_refl _⟩
 .have k:AU (s.drop pos)=45/\AU (s.drop (pos+1))=125:=FS
  have e:=P8 (d:=d) k.1 k.2
  rw [if_pos AC] at e
  exact fin h (BO AC)
 .have k:AU (s.drop pos)=45/\AU (s.drop (pos+1))=125:=FS
  have e:=P8 (d:=d) k.1 k.2
  rw [if_neg AC] at e
  obtain ⟨d',rfl⟩:∃d',d=d'+1:=⟨d - 1,AC⟩
  rw [Nat.add_sub_cancel] at e
  have e2:((d'+1:Nat):Int) - 1=(d':Int):=AC
  refine ⟨(pos+2,d'),⟨AC,AC,.inr ⟨AC,AC,U.trans e⟩⟩,AC,?_,St.le_refl _⟩
  rw [<-e2]
  exact Yl
 .conv=>whnf
  exact ⟨(pos+1,d),⟨AC,AC,.inr ⟨AC,AC,U.trans (lX AC AC AC)⟩⟩,AC,Yl,St.le_refl _⟩
 .exact fin h (BO (by rw [U,gJ AC]))
theorem pC (hl:s.length<=100000000) (h:R (.ret (.int .i64 (Ep s:Nat))) st):PC 132 [.str s] st R:=by
 have hr:=Fb (λc=>AH c==5) s
 generalize hn:BS (λc=>AH c==5) s=n at hr
 have hrun:∀{R:Ay->St->Prop},R (.ret (.int .i64 (n:Nat))) st->PC 129 [.str s,.int .i64 0,.int .i64 5] st R:=λh=>nV AC ke
 obtain ⟨rest,hg⟩:=bZ (s.drop n) 0 0 (Nat.le_refl _) (Nat.zero_le _)
 rw [List.drop_zero,List.drop_zero,Nat.zero_add] at hg
 have U:∀{R:Ay->St->Prop},(∀own:AB,own.Bx st->R (.ret (.slice 1 (strs (((s.drop n).take (Dk (s.drop n)))::rest)) own)) (own.st st (((s.drop n).take (Dk (s.drop n)))::rest).length))->PC 199 [.str (s.drop (n:Int).toNat)] st R:=
  λh=>ZF (by grind) ke
 refine pB Tryz.func132 ?_
 have hel:=Zk (s.drop n)
 have hlt:((s.drop n).take (Dk (s.drop n))).length=Dk (s.drop n):=NE
 rw [List.length_drop] at hel
 have hrl:Ep s=if 2<=n/\(s.take n).all (λb=>b==45)=true then n+Dk (s.drop n) else 0:=by unfold Ep;rw [hn]
 repeat' ((conv=>whnf);first|(refine BT ?_;intros)|(refine BU ?_ ?_<;>intro _)|refine hrun ?_|refine p5 Do ?_|refine U (λown ho=>?_)|refine Y3 (l:=((s.drop n).take (Dk (s.drop n)))::rest) rfl AC ?_)
 .rw [if_neg AC] at hrl
  exact fin h (BO AC)
 .have ht:=(R0 (s.take n)).1 (by grind)
  rw [if_pos ⟨AC,ht⟩] at hrl
  exact oS (AB.Bz AC) h (BO AC)
 .have ht:¬(s.take n).all (λb=>b==45)=true:=λe=>absurd ((R0 (s.take n)).2 e) (by grind)
  rw [if_neg (λe=>ht e.2)] at hrl
  exact fin h (BO AC)
theorem RI (h:Dt (s.drop pos)<0):CE s pos=(0,60):=if_pos h
theorem ZO (h:Dt (s.drop pos)=0):CE s pos=(0,0):=by unfold CE;simp_all
theorem cr {n:Int} (h:Dt (s.drop pos)=n) (U:0<n) (e:i=pos+n):CE s pos=(i,0):=by unfold CE;grind
theorem Mc {n:Int} (h:Dt (s.drop pos)=n) (U:0<n) (e:i=pos+n):Ay.ret (.Bu [.int .i64 (CE s pos).1,.int .i64 (CE s pos).2])=Ay.ret (.Bu [.int .i64 i,.int .i64 0]):=by rw [cr h U e]
theorem l6 (hl:s.length<=100000000) (hp:pos<s.length) (h:R (.ret (.Bu [.int .i64 (CE s pos).1,.int .i64 (CE s pos).2])) st):PC 60 [.str s,.int .i64 pos] st R:=by
 have hle:=U9 (s.drop pos)
 rw [List.length_drop] at hle
 have U:(s.drop pos).length<=100000000:=M2
 have d1:(s.drop pos).drop 1=s.drop (pos+1):=List.drop_drop
 obtain ⟨e,he⟩:∃e,s[pos]? =some e:=⟨s[pos],List.getElem?_eq_getElem hp⟩
 have he':s[(pos:Int).toNat]? =some e:=he
 have hh:=DT he
 refine pB Tryz.func60 ?_
 by_cases hk:AU (s.drop pos)=123/\AU (s.drop (pos+1))=45
 .have hN:Dt (s.drop pos)=Ei 2 (Cc 1 ((s.drop pos).drop 2)):=if_pos ⟨hk.1,ke⟩
  have hc:∀{R:Ay->St->Prop},R (.ret (.int .i64 (Dt (s.drop pos)))) st->PC 131 [.str (s.drop (pos:Int).toNat)] st R:=λh=>gK U ⟨hk.1,ke⟩ ke
  repeat' ((conv=>whnf);first|(refine BT ?_;intros)|(refine BU ?_ ?_<;>intro _)|refine Tg (n:=pos) AC ?_|refine hc ?_)
  all_goals first
   |exact fin h (by rw [RI AC])
   |exact fin h (by rw [ZO AC])
   |exact fin h (Mc rfl AC AC)
   |exact fin h (Mc (hN AC) AC AC)
 .have hN:AU (s.drop pos)=45->Dt (s.drop pos)=(Ep (s.drop pos):Nat):=λe=>by unfold Dt;omega
  have hN0:¬AU (s.drop pos)=45->Dt (s.drop pos)=0:=λe=>by unfold Dt;simp_all
  have hc:∀{R:Ay->St->Prop},R (.ret (.int .i64 (Ep (s.drop pos):Nat))) st->PC 132 [.str (s.drop (pos:Int).toNat)] st R:=λh=>pC U h
  repeat' ((conv=>whnf);first|(refine BT ?_;intros)|(refine BU ?_ ?_<;>intro _)|refine Tg (n:=pos) AC ?_|refine hc ?_)
  all_goals first
   |exact fin h (by rw [RI AC])
   |exact fin h (by rw [ZO AC])
   |exact fin h (Mc rfl AC AC)
   |exact fin h (Mc (hN AC) AC AC)
end
end Go.Proofs.Z
namespace Go.Aw
open Go
def Ku (l:List UInt8):Int:=if AU l<0 then 0 else AU l
theorem oE {i:Nat} {e:UInt8} (h:s[i]? =some e):Ku (s.drop i)=(e.toNat:Nat):=by unfold Ku;rw [DT h,if_neg AC]
theorem ey {i:Nat} (h:s.length<=i):Ku (s.drop i)=0:=by unfold Ku;rw [GM h];rfl
theorem Ju (l:List UInt8):(AU l= -1/\Ku l=0)\/(0<=AU l/\Ku l=AU l):=by
 have:=fM l
 unfold Ku
 split
 .exact .inl ⟨AC,rfl⟩
 .exact .inr ⟨AC,rfl⟩
def jE (l:List (Nat×Nat)):List (List V):=l.map λp=>[V.int .i64 (p.1:Int),V.int .i64 (p.2:Int)]
def Q3 (st:St) (n:Nat):AB->Prop
 | .full=>True
 | .tok b=>st.hw b=some n
 | .any=>False
def dF (st0:St):AB->Prop
 | .tok b=>st0.fresh b
 |_=>True
def YW:AB->AB->Prop
 | .tok b,.tok c=>b≠c
 |_,_=>True
structure B0 (st0 st:St) (w1:AB) (n1:Nat) (w2:AB) (n2:Nat):Prop where
 o1:Q3 st n1 w1
 o2:Q3 st n2 w2
 f1:dF st0 w1
 f2:dF st0 w2
 ne:YW w1 w2
 le:st0.le st
theorem YW.symm {a b:AB} (h:YW a b):YW b a:=by
 cases a<;>cases b<;>first|exact h|exact Ne.symm h
theorem B0.swap {st:St} (h:B0 st0 st w1 n1 w2 n2):B0 st0 st w2 n2 w1 n1:=⟨h.o2,h.o1,h.f2,h.f1,h.ne.symm,h.le⟩
theorem B0.set {st:St} (h:B0 st0 st w1 n1 w2 n2) (hb:st0.box b=none) (cs:List V):B0 st0 (st.Aa b cs) w1 n1 w2 n2:=
 ⟨by have:=h.o1;cases w1<;>exact this,by have:=h.o2;cases w2<;>exact this,h.f1,h.f2,h.ne,St.An h.le hb cs⟩
theorem Kl {st:St} {sz bytes:Nat} {es new:List (List V)} (h:B0 st0 st w1 n1 w2 n2) (hn:n1=es.length*sz)
 (h1:(es.length+new.length)*bytes<=140737488355328) (h2:es.length+new.length<En) (h3:(new.all λv=>v.all V.sc)=true) (hne:new≠[])
 (k:∀w1' st',B0 st0 st' w1' ((es.length+new.length)*sz) w2 n2->st'.box=st.box->K (.slice sz (es++new.map (·.map V.Jq)) w1') st'):Ah sz bytes es w1 new st K:=by
 subst hn
 have frs:∀{x:Nat},st.fresh x->st0.fresh x:=λ{x} hx=>by
  refine ⟨?_,?_⟩
  .cases e:st0.box x with
   |none=>rfl
   |some c=>have:=h.le.1 _ _ e;rw [hx.1] at this;cases this
  .cases e:st0.hw x with
   |none=>rfl
   |some c=>have:=h.le.2 _ _ e;rw [hx.2] at this;cases this
 refine ⟨h1,h2,AP h3 ?_⟩
 cases hw:w1 with
 |any=>have:=h.o1;rw [hw] at this;exact this
 |full=>
  refine ⟨λe=>absurd e hne,λ_=>.inl λb hb=>k (.tok b) _ ⟨?_,?_,frs hb,h.f2,?_,St.HW h.le (frs hb).2 _⟩ rfl⟩
  .simp [Q3,St.B1]
  .have:=h.o2
   cases w2 with
   |tok c=>
    have hc:st.hw c=some n2:=this
    have:c≠b:=λe=>by subst e;rw [hb.2] at hc;cases hc
    simp [Q3,St.B1,this,hc]
   |_=>exact this
  .cases w2 with
   |tok c=>
    have hc:st.hw c=some n2:=h.o2
    exact λe=>by subst e;rw [hb.2] at hc;cases hc
   |_=>trivial
 |tok b=>
  subst hw
  have hb:st.hw b=some (es.length*sz):=h.o1
  have hb0:st0.fresh b:=h.f1
  refine ⟨hb,.inl λb' U=>k (.tok b') _ ⟨?_,?_,?_,h.f2,?_,?_⟩ rfl⟩
  .simp [Q3,St.B1]
  .have:=h.o2
   cases w2 with
   |tok c=>
    have hc:st.hw c=some n2:=this
    have hcb:b≠c:=h.ne
    have hcb':c≠b':=λe=>by
     subst e
     rcases U with e|U
     .exact hcb e.symm
     .rw [U.2] at hc;cases hc
    simp [Q3,St.B1,St.Em,hcb',hcb.symm,hc]
   |_=>exact this
  .rcases U with rfl|U
   .exact hb0
   .exact frs U
  .cases w2 with
   |tok c=>
    have hc:st.hw c=some n2:=h.o2
    have hcb:b≠c:=h.ne
    refine λ(e:b'=c)=>?_
    subst e
    rcases U with e|U
    .exact hcb e.symm
    .rw [U.2] at hc;cases hc
   |_=>trivial
  .refine ⟨λx cs e=>h.le.1 x cs e,λx n e=>?_⟩
   have e1:=h.le.2 x n e
   have hx:x≠b:=λhx=>by subst hx;rw [hb0.2] at e;cases e
   have hx':x≠b':=λhx=>by
    subst hx
    rcases U with e'|U
    .exact hx e'
    .rw [U.2] at e1;cases e1
   simp [St.B1,St.Em,hx,hx',e1]
theorem Hh (l:List Int):(ints l).length=l.length:=by simp [ints]
theorem II (l:List (Nat×Nat)):(jE l).length=l.length:=by simp [jE]
theorem Vp {st:St} (h:B0 st0 st w1 o.length w2 n2) (hl:o.length<=1000000000)
 (k:∀U st',B0 st0 st' U (o++[v]).length w2 n2->st'.box=st.box->K (.slice 1 (ints (o++[v])) U) st'):Ah 1 8 (ints o) w1 [[.int .i64 v]] st K:=by
 refine Kl h (by rw [Hh];omega) (by rw [Hh,List.length_singleton];omega) (by rw [Hh,List.length_singleton];unfold En;omega) rfl GT (λU st' hr hb=>?_)
 have:=k U st' (by rw [Hh] at hr;rw [List.length_append];simpa using hr) hb
 rwa [show ints (o++[v])=ints o++([[V.int .i64 v]]:List (List V)).map (·.map V.Jq) by simp [ints,V.Jq]] at this
theorem cH {st:St} {p:Nat×Nat} {a b:Int} (h:B0 st0 st w1 n1 w2 (2*g.length)) (hl:g.length<=1000000000) (ha:a=(p.1:Int)) (hb:b=(p.2:Int))
 (k:∀U st',B0 st0 st' w1 n1 U (2*(g++[p]).length)->st'.box=st.box->K (.slice 2 (jE (g++[p])) U) st'):Ah 2 16 (jE g) w2 [[.int .i64 a,.int .i64 b]] st K:=by
 subst ha;subst hb
 refine Kl h.swap (by rw [II];omega) (by rw [II,List.length_singleton];omega) (by rw [II,List.length_singleton];unfold En;omega) rfl GT (λw1' st' hr hb=>?_)
 have:=k w1' st' (by rw [II] at hr;rw [List.length_append];have:=hr.swap;simpa [Nat.mul_comm] using this) hb
 rwa [show jE (g++[p])=jE g++([[V.int .i64 (p.1:Int),V.int .i64 (p.2:Int)]]:List (List V)).map (·.map V.Jq) by simp [jE,V.Jq]] at this
theorem St.AK (st:St) (b:Nat) (cs:List V):(st.Aa b cs).box b=some cs:=by simp [St.Aa]
theorem Al {st:St} {K:List V->Prop} (h:st.box b=some cs) (k:K cs):∃cs,st.box b=some cs/\K cs:=⟨cs,h,k⟩
end Go.Aw
namespace Go.Proofs.Z
open Go Go.Aw
def KW (c:Int):Int:=if c=97 then 0 else if c=98 then 1 else if c=116 then 2 else if c=110 then 3 else if c=118 then 4 else if c=102 then 5 else if c=114 then 6 else -1
theorem oj (u:UInt8):Lib.indexByte [97,98,116,110,118,102,114] u=KW (u.toNat:Nat):=by
 have key:∀k:UInt8,((u.toNat:Nat):Int)=((k.toNat:Nat):Int)->u=k:=λk e=>UInt8.toNat_inj.1 AC
 unfold KW
 by_cases U:((u.toNat:Nat):Int)=97
 .rw [key 97 U];rfl
 by_cases h2:((u.toNat:Nat):Int)=98
 .rw [key 98 h2];rfl
 by_cases h3:((u.toNat:Nat):Int)=116
 .rw [key 116 h3];rfl
 by_cases h4:((u.toNat:Nat):Int)=110
 .rw [key 110 h4];rfl
 by_cases h5:((u.toNat:Nat):Int)=118
 .rw [key 118 h5];rfl
 by_cases h6:((u.toNat:Nat):Int)=102
 .rw [key 102 h6];rfl
 by_cases h7:((u.toNat:Nat):Int)=114
 .rw [key 114 h7];rfl
 rw [if_neg U,if_neg h2,if_neg h3,if_neg h4,if_neg h5,if_neg h6,if_neg h7]
 have ne:∀k:UInt8,¬((u.toNat:Nat):Int)=((k.toNat:Nat):Int)->(k==u)=false:=λk e=>beq_eq_false_iff_ne.2 (λx=>e (by rw [x]))
 simp only [Lib.indexByte,ne 97 U,ne 98 h2,ne 116 h3,ne 110 h4,ne 118 h5,ne 102 h6,ne 114 h7]
 rfl
def qC (s:List UInt8) (p:Nat) (tx:Bool) (o:List Int) (w1:AB) (g:List (Nat×Nat)) (w2:AB):List V:=[.str s,.int .i64 (p:Int),.bool tx,.slice 1 (ints o) w1,.slice 2 (jE g) w2]
def IJ (p:Int) (e:Int):V:=.iface 232 (.agg [.int .i64 p,.int .i64 e])
section
variable {st:St} {R:Ay->St->Prop}
theorem FP {v:V} {p e:Int} (h:R (.BX (IJ p e)) st):PC 377 [v,.int .i64 p,.int .i64 e] st R:=by
 refine pB Tryz.func377 ?_
 repeat' ((conv=>whnf);first|(refine BT ?_;intros)|(refine BU ?_ ?_<;>intro _)|fail)
 all_goals exact fin h rfl
theorem Ev (hl:s.length<=100000000) (hp:p<=s.length) (hk:k<=10) (hb:st.box b=some (qC s p tx o w1 g w2))
 (h:R (.ret (.int .u8 (Ku (s.drop (p+k))))) st):PC 375 [.ptr b 0,.int .i64 k] st R:=by
 refine pB Tryz.func375 ?_
 have e0:((p:Int)+(k:Int)).toNat=p+k:=AC
 by_cases U:p+k<s.length
 .obtain ⟨e,he⟩:∃e,s[p+k]? =some e:=⟨s[p+k],List.getElem?_eq_getElem U⟩
  have he':s[((p:Int)+(k:Int)).toNat]? =some e:=by rw [e0];exact he
  rw [oE he] at h
  repeat' ((conv=>whnf);first|exact Dp|(refine BT ?_;intros)|(refine Dq ?_ ?_ ?_;rotate_left)|(refine BU ?_ ?_<;>intro _)|refine Al hb ?_|with_reducible refine WF ?_)
  all_goals exact fin h rfl
 .rw [ey AC] at h
  repeat' ((conv=>whnf);first|exact Dp|(refine BT ?_;intros)|(refine Dq ?_ ?_ ?_;rotate_left)|(refine BU ?_ ?_<;>intro _)|refine Al hb ?_|with_reducible refine WF ?_)
  all_goals exact fin h rfl
theorem qh (U:0<=c) (h1:c<=255) (h:R (.ret (.int .i64 (KW c))) st):PC 407 [.str [97,98,116,110,118,102,114],.int .u8 c] st R:=by
 obtain ⟨u,rfl⟩:∃u:UInt8,c=((u.toNat:Nat):Int):=⟨UInt8.ofNat c.toNat,by rw [UInt8.toNat_ofNat'];omega⟩
 exact oF (by rw [oj];exact h)
def pS:Option Int->V
 |some v=>.Bu [.int .i64 v,.bool true]
 |none=>.Bu [.int .i64 0,.bool false]
theorem iN (U:0<=c) (h1:c<=255) (h:R (.ret (pS (G3 c))) st):PC 424 [.int .u8 c] st R:=by
 have ha:(KW c= -1/\¬(c=97\/c=98\/c=116\/c=110\/c=118\/c=102\/c=114))\/(0<=KW c/\KW c<=6/\((c=97/\KW c=0)\/(c=98/\KW c=1)\/(c=116/\KW c=2)\/(c=110/\KW c=3)\/(c=118/\KW c=4)\/(c=102/\KW c=5)\/(c=114/\KW c=6))):=by
  unfold KW
  (repeat' split)<;>first|(left;omega)|(right;omega)
 refine pB Tryz.func424 ?_
 repeat' ((conv=>whnf);first|(refine BT ?_;intros)|(refine BU ?_ ?_<;>intro _)|refine qh U h1 ?_)
 all_goals first
  |exact fin h (by rw [show G3 c=some c by unfold G3;rw [if_pos AC]];rfl)
  |(have e:G3 c=some (7+KW c):=by
     unfold G3
     rw [if_neg AC]
     (repeat' split)<;>first|(congr 1;omega)|(exfalso;omega)
    exact fin h (by rw [e];rfl))
  |(have e:G3 c=none:=by
     unfold G3
     rw [if_neg AC]
     (repeat' split)<;>first|rfl|(exfalso;omega)
    exact fin h (by rw [e];rfl))
end
end Go.Proofs.Z
namespace Go.Proofs.Z
open Go Go.Aw Go.Shelf
theorem cN {I : Mem} {st : St} {w : World} (hs : Co I st w) : Lib.TabIs Tryz.prog w "strings.asciiSpace" .u8 Lib.asciiSpaceTab := by
 obtain ⟨c,ty,h1,h2⟩:=hs.shape 3 256 hs.RX.iP
 have hg : Tryz.prog.globalNamed "strings.asciiSpace" = some 3 := by kernel_rfl
 unfold Lib.TabIs World.var?
 rw [hg]
 simp only [Option.bind_some,h1,Option.some.injEq]
 have hlen:Lib.asciiSpaceTab.length=256:=GE
 refine Array.ext (by rw [h2];simp [hlen]) λi hi hi'=>?_
 have U:=hs.cell _ _ _ (hs.RX.space i AC)
 simp only [World.cell?,h1,Option.isSome_none,Bool.false_eq_true,if_false] at U
 rw [Array.getElem?_eq_getElem hi] at U
 injection U with U
 rw [U]
 have hi2:i<Lib.asciiSpaceTab.length:=by rw [hlen];omega
 simp [List.getD_eq_getElem?_getD,List.getElem?_eq_getElem hi2]
section
variable {st:St} {R:Ay->St->Prop}
theorem fE (hz:s.length<4294967281) (ha:∀b ∈ s,b.toNat<128) (h:R (.ret (.slice 1 (strs (Lib.fields s)) .any)) st) (hl:∀x ∈ Lib.fields s,x.length<En) (hn:(Lib.fields s).length<En):PC 428 [.str s] st R:=by
 refine ⟨λI w U hs hc=>?_,⟨_,Tryz.func428,Do,Do⟩⟩
 simp only [Aj,AF] at hc
 obtain ⟨c,r,rfl,⟨rfl,_⟩,rfl⟩:=hc
 refine (Tryz.strings_Fields ⟨s.toArray⟩ w (by show s.toArray.size<_;simpa using hz) (λj b e=>ha b (List.mem_of_getElem? (by simpa using e))) (cN hs)).mono λe w' ⟨he,hw⟩=>?_
 subst hw
 obtain ⟨h1,h2,h3⟩:=hs.row ((Lib.fields s).map λl=>Value.string ⟨l.toArray⟩) 9
 refine ⟨_,_,.ret _,h1,h2,?_,h⟩
 subst he
 exact im (Lib.fields s) hl hn h3
end
def bM (p:Nat->Bool) (s:List UInt8):Int:=if Bs (λd=> !(p d.1)) s<s.length then (Bs (λd=> !(p d.1)) s:Nat) else -1
theorem idx_eq (p:Nat->Bool) (s:List UInt8):∀(f pos:Nat),pos<=s.length->s.length - pos<=f->Lib.idxFuncFrom p true ⟨s.toArray⟩ f pos=if Bs (λd=> !(p d.1)) (s.drop pos)<s.length - pos then ((pos+Bs (λd=> !(p d.1)) (s.drop pos):Nat):Int) else -1
 |0,pos,h1,h2=>by
  rw [if_neg AC];rfl
 |f+1,pos,h1,h2=>by
  unfold Lib.idxFuncFrom
  have hz:(⟨s.toArray⟩:ByteArray).size=s.length:=by simp [ByteArray.size]
  rw [hz]
  by_cases U:pos<s.length
  .rw [if_pos U,Sq U]
   rcases hd:AJ (s.drop pos) with ⟨c,m⟩
   have hr:=rune_le U hd.symm
   dsimp only
   by_cases hc:p c=true
   .rw [if_pos hc,EC (p:=λd=> !(p d.1)) (by rw [hd];simp [hc]),if_pos AC];rfl
   .rw [if_neg hc,idx_eq p s f (pos+m) hr.1 AC]
    have e:=Cs (p:=λd=> !(p d.1)) (SA U) (by rw [hd];simpa using hc)
    rw [hd,List.drop_drop] at e
    dsimp only at e
    rw [e]
    by_cases hk:Bs (λd=> !(p d.1)) (s.drop (pos+m))<s.length - (pos+m)
    .rw [if_pos hk,if_pos AC];congr 1;omega
    .rw [if_neg hk,if_neg AC]
  .rw [if_neg U,if_neg AC]
section
variable {st:St} {R:Ay->St->Prop}
def pz:St:=⟨λ_=>none,λ_=>none⟩
theorem Zv {g:FuncId} {p:Nat->Bool} (hg:∀c:Nat,c<=1114111->PC g [.int .i32 (c:Int)] pz λr _=>r=.ret (.bool (p c))) (h:R (.ret (.int .i64 (bM p s))) st):PC 56 [.str s,.func g [] []] st R:=by
 refine CZ ⟨_,Tryz.func56,Do,Do⟩ _ (λI w cargs hs hc=>?_) h
 simp only [Aj,AF] at hc
 obtain ⟨c1,r1,rfl,⟨rfl,hl⟩,c2,r2,rfl,⟨az,cs,rfl,rfl,rfl⟩,rfl⟩:=hc
 obtain ⟨fn,p1,p2,p3⟩:=(hg 0 Do).b
 have eg:∀args w,(callFunc g args).run Tryz.prog w=.ok (.enter g args) w:=λargs w=>by
  have hb:fn.body.isNone=false:=by cases hb:fn.body<;>simp_all
  simp only [callFunc,Sem.run_bind,Result.andThen_ok,run_program,p1]
  rw [p3]
  simp [hb]
 have hp:PredGrows Tryz.prog g #[] p w:=λW x hx hb=>by
  obtain ⟨_,hW⟩:=hs.below hb
  have hW0:Co I pz W:=⟨hW.cell,hW.shape,λb cs e=>(by cases e),λb e=>absurd rfl e,λb n e=>(by cases e),hW.RX⟩
  refine ((hg x hx).a I W [.int .i32 x] hW0 (by simp only [Aj,AF];exact ⟨_,_,rfl,rfl,rfl⟩)).mono ?_
  rintro e w' ⟨I',st',r,k1,k2,U,rfl⟩
  refine ⟨?_,⟨k1.os,k1.tape,k1.output,k1.size,λk hk=>k1.KM k hk rfl rfl⟩⟩
  cases e with
  |returned c=>
   have U:AF I' (.bool (p x)) c:=U
   simp only [AF] at U
   rw [U]
  |panicked _=>exact U.elim
  |outgrown=>exact U.elim
 refine (Tryz.strings_IndexFunc_grows g #[] eg p ⟨s.toArray⟩ w hp).mono λe w' ⟨he,hb⟩=>⟨⟨_,he,?_⟩,hb⟩
 simp only [AF]
 unfold Lib.idxFunc bM
 rw [idx_eq p s _ 0 (Nat.zero_le _) (by simp [ByteArray.size]),List.drop_zero,Nat.sub_zero,Nat.zero_add]
end
end Go.Proofs.Z
namespace Go.Aw
open Go
def P6:List UInt8:=[78,85,76,32,83,79,72,32,83,84,88,32,69,84,88,32,69,79,84,32,69,78,81,32,65,67,75,32,66,69,76,32,66,83,32,72,84,32,76,70,32,86,84,32,70,70,32,67,82,32,83,79,32,83,73,32,68,76,69,32,68,67,49,32,68,67,50,32,68,67,51,32,68,67,52,32,78,65,75,32,83,89,78,32,69,84,66,32,67,65,78,32,69,77,32,83,85,66,32,69,83,67,32,70,83,32,71,83,32,82,83,32,85,83,32,83,80,32,68,69,76]
theorem SH:Lib.fields P6=EA:=GE
theorem gH:∀b ∈ P6,b.toNat<128:=by
 have h:P6.all (λb=>decide (b.toNat<128))=true:=GE
 simp_all
theorem RD:∀w ∈ EA,1<=w.length/\w.length<=3:=by
 have h:EA.all (λw=>decide (1<=w.length)&&decide (w.length<=3))=true:=GE
 simp_all
theorem lT:EA.length=34:=H1
theorem TK {c:Nat} (h:pos<s.length) (U:(c,m)=AJ (s.drop pos)) (k:¬BE (c:Int) base<0):Ih base v (s.drop pos)=Ih base (min (v*base+BE (c:Int) base) 1114112) (s.drop (pos+1)):=by
 rw [List.drop_eq_getElem_cons h] at U |-
 by_cases hb:s[pos].toNat<128
 .rw [EY hb] at U
  injection U with h1 h2
  subst h1
  rw [Ih,if_neg k]
 .have:=Oq (r:=s.drop (pos+1)) hb
  rw [<-U] at this
  exact absurd (HM (c:=(c:Int)) (base:=base) AC) k
theorem Kq {c:Nat} (h:pos<s.length) (U:(c,m)=AJ (s.drop pos)) (k:BE (c:Int) base<0):Ih base v (s.drop pos)=v:=by
 rw [List.drop_eq_getElem_cons h] at U |-
 by_cases hb:s[pos].toNat<128
 .rw [EY hb] at U
  injection U with h1 h2
  subst h1
  rw [Ih,if_pos k]
 .rw [Ih,if_pos (HM AC)]
theorem Nn (h:s.length<=pos):Ih base v (s.drop pos)=v:=by rw [List.drop_eq_nil_iff.2 h];rfl
theorem J5 {b:Int}:BE c b<0\/BE c b<b:=by
 unfold BE
 grind
theorem Xm {b:Int} {K:Int->Prop} (h0:0<=v) (h1:v<=1114112) (hb:0<=b) (U:b<=16) (hk:¬BE c b<0) (k:K (v*b+BE c b)):∃r,r=IntKind.i64.wrap (v*b+BE c b)/\K r:=by
 have h2:0<=v*b:=Int.mul_nonneg h0 hb
 have h3:v*b<=1114112*16:=Int.mul_le_mul h1 U hb Do
 have h4:=J5 (c:=c) (b:=b)
 exact Wq AC AC k
theorem gG:P6.length<1000:=GE
theorem gD {a b:Int} {K:Int->Prop} (k:K (min a b)):∃r,r=(if b<a then b else a)/\K r:=⟨min a b,AC,k⟩
theorem cm {i c:Nat} (h:EA[i]? =some x):M1 l (EA.drop i) i (c,n)=M1 l (EA.drop (i+1)) (i+1) (if n<x.length/\x.isPrefixOf l=true then (i,x.length) else (c,n)):=by
 rw [drop_at h,M1]
theorem lS {c:Nat} (h:M1 l EA 0 (0,0)=(c,n)):Jo l=(if c=33 then 127 else (c:Int),n):=by
 have key:∀p:Nat×Nat,p=(c,n)->((if p.1=33 then 127 else (p.1:Int),p.2):Int×Nat)=(if c=33 then 127 else (c:Int),n):=λp U=>by simp_all
 exact key _ h
end Go.Aw
namespace Go.Proofs.Z
open Go Go.Aw
theorem E9 {b:Int} {t:Bool} (U:BC b s=n) (e2:Ih b 0 s=v) (e3:decide (n≠0/\v<=1114111)=t):Ay.ret (.Bu [.int .i64 (Ih b 0 s),.int .i64 (BC b s:Nat),.bool (decide (BC b s≠0/\Ih b 0 s<=1114111))])=Ay.ret (.Bu [.int .i64 v,.int .i64 (n:Int),.bool t]):=ke
section
variable {st:St} {R:Ay->St->Prop}
theorem fF {l:List (List UInt8)} (e:Lib.fields s=l) (hz:s.length<1000) (U:∀b ∈ s,b.toNat<128) (hl:∀x ∈ l,x.length<=3) (hn:l.length<=1000) (h:R (.ret (.slice 1 (strs l) .any)) st):PC 428 [.str s] st R:=by
 subst e
 exact fE AC U h (λx hx=>by have:=hl x hx;unfold En;omega) (by unfold En;omega)
theorem lW (h:R (.ret (.slice 1 (strs EA) .any)) st):PC 428 [.str P6] st R:=
 fF SH gG gH (λx U=>(RD x U).2) (Nat.le_trans (Nat.le_of_eq lT) Do) h
set_option maxRecDepth 100000 in
theorem lU (hl:s.length<=100000000) (h:R (.ret (.Bu [.int .i64 (Jo s).1,.int .i64 (Jo s).2])) st):PC 426 [.str s] st R:=by
 refine pB Tryz.func426 ?_
 repeat' ((conv=>whnf);first|(refine BT ?_;intros)|(refine BU ?_ ?_<;>intro _)|refine lW ?_|refine fY (λ_=>?_))
 refine SZ (α:=Nat) (β:=Nat) (γ:=Nat) (λi c n=>[(8,.int .i64 (i:Int)),(2,.int .i64 (c:Int)),(3,.int .i64 (n:Int))]) (λ_ _ _=>[]) [0,6,7] [] (λ_ _ _=>st)
  (λi c n=>i<=EA.length/\n<=3/\M1 s EA 0 (0,0)=M1 s (EA.drop i) i (c,n)) (λi _ _=>EA.length - i) 0 0 0 ⟨Nat.zero_le _,Do,rfl⟩ Yl (St.le_refl _) ?_
 rintro i c n ⟨h1,h2,U⟩
 rcases hx:EA[i]? with _|x
 .have hge:=List.getElem?_eq_none_iff.1 hx
  rw [List.drop_eq_nil_iff.2 hge] at U
  have e:=lS U
  repeat' ((conv=>whnf);first|(refine BT ?_;intros)|(refine BU ?_ ?_<;>intro _)|fail)
  all_goals first
   |exact fin h (by rw [e,if_pos AC])
   |exact fin h (by rw [e,if_neg AC])
 .have hlt:=(List.getElem?_eq_some_iff.1 hx).1
  have hm:=RD x (List.mem_of_getElem? hx)
  rw [cm hx] at U
  have hx':EA[((i:Int)).toNat]? =some x:=hx
  repeat' ((conv=>whnf);first|(refine BT ?_;intros)|(refine BU ?_ ?_<;>intro _)|refine Y3 hx' AC ?_|refine H3 ?_)
  .rw [if_pos ⟨AC,AC⟩] at U
   conv=>whnf
   exact ⟨(i+1,i,x.length),⟨AC,ke,U⟩,AC,Yl,St.le_refl _⟩
  .have hp:x.isPrefixOf s=false:=FS
   rw [if_neg (λy=>by simp_all)] at U
   conv=>whnf
   exact ⟨(i+1,c,n),⟨AC,AC,U⟩,AC,Yl,St.le_refl _⟩
  .rw [if_neg (λy=>by omega)] at U
   conv=>whnf
   exact ⟨(i+1,c,n),⟨AC,AC,U⟩,AC,Yl,St.le_refl _⟩
theorem Va {b:Int} (hl:s.length<=100000000) (hb:b=8\/b=10\/b=16) (h:R (.ret (.Bu [.int .i64 (Ih b 0 s),.int .i64 (BC b s:Nat),.bool (decide (BC b s≠0/\Ih b 0 s<=1114111))])) st):PC 427 [.str s,.int .i64 b] st R:=by
 refine pB Tryz.func427 ?_
 repeat' ((conv=>whnf);first|(refine BT ?_;intros)|(refine BU ?_ ?_<;>intro _)|fail)
 refine XY (α:=Nat) (β:=Int) (λpos v=>[(4,.int .i64 v),(5,.int .i64 (pos:Int))]) (λpos _=>[(0,[.N8 s pos])]) [0,1,11] [] (λ_ _=>st)
  (λpos v=>pos<=s.length/\0<=v/\v<=1114112/\BC b s=pos+BC b (s.drop pos)/\Ih b 0 s=Ih b v (s.drop pos)) (λpos _=>s.length - pos) 0 0 ⟨Nat.zero_le _,Do,Do,GT,rfl⟩ Yl (St.le_refl _) ?_
 rintro pos v ⟨h1,h2,h3,h4,h5⟩
 rcases hb with rfl|rfl|rfl
 .skip
  have hdl:=λc=>J5 (c:=c) (b:=8)
  repeat' ((conv=>whnf);first|(refine BT ?_;intros)|(refine BU ?_ ?_<;>intro _)|refine LI ?_|refine gD ?_|refine Xm h2 h3 Do Do ‹_› ?_)
  all_goals first
   |(rename_i U c m hd hk _ _
     have e1:=Hj U hd hk
     have e2:=Kq (v:=v) U hd hk
     exact fin h (E9 AC (h5.trans e2) (by first|exact decide_eq_true ⟨AC,AC⟩|exact decide_eq_false AC)))
   |(rename_i U c m hd hk _
     have e1:=Hj U hd hk
     have e2:=Kq (v:=v) U hd hk
     exact fin h (E9 AC (h5.trans e2) (by first|exact decide_eq_true ⟨AC,AC⟩|exact decide_eq_false AC)))
   |(have e1:=Kk (base:=8) (s:=s) (pos:=pos) AC
     have e2:=Nn (base:=8) (v:=v) (s:=s) (pos:=pos) AC
     exact fin h (E9 AC (h5.trans e2) (by first|exact decide_eq_true ⟨AC,AC⟩|exact decide_eq_false AC)))
   |(rename_i U c m hd hk
     obtain ⟨e1,e2⟩:=Mp U hd hk
     have e3:=TK (v:=v) U hd hk
     have e4:=hdl (c:Int)
     subst e1
     conv=>whnf
     exact ⟨(pos+1,min (v*8+BE (c:Int) 8) 1114112),⟨UV,UV,UV,UV,h5.trans e3⟩,UV,Yl,St.le_refl _⟩)
 .skip
  have hdl:=λc=>J5 (c:=c) (b:=10)
  repeat' ((conv=>whnf);first|(refine BT ?_;intros)|(refine BU ?_ ?_<;>intro _)|refine LI ?_|refine gD ?_|refine Xm h2 h3 Do Do ‹_› ?_)
  all_goals first
   |(rename_i U c m hd hk _ _
     have e1:=Hj U hd hk
     have e2:=Kq (v:=v) U hd hk
     exact fin h (E9 AC (h5.trans e2) (by first|exact decide_eq_true ⟨AC,AC⟩|exact decide_eq_false AC)))
   |(rename_i U c m hd hk _
     have e1:=Hj U hd hk
     have e2:=Kq (v:=v) U hd hk
     exact fin h (E9 AC (h5.trans e2) (by first|exact decide_eq_true ⟨AC,AC⟩|exact decide_eq_false AC)))
   |(have e1:=Kk (base:=10) (s:=s) (pos:=pos) AC
     have e2:=Nn (base:=10) (v:=v) (s:=s) (pos:=pos) AC
     exact fin h (E9 AC (h5.trans e2) (by first|exact decide_eq_true ⟨AC,AC⟩|exact decide_eq_false AC)))
   |(rename_i U c m hd hk
     obtain ⟨e1,e2⟩:=Mp U hd hk
     have e3:=TK (v:=v) U hd hk
     have e4:=hdl (c:Int)
     subst e1
     conv=>whnf
     exact ⟨(pos+1,min (v*10+BE (c:Int) 10) 1114112),⟨UV,UV,UV,UV,h5.trans e3⟩,UV,Yl,St.le_refl _⟩)
 .skip
  have hdl:=λc=>J5 (c:=c) (b:=16)
  repeat' ((conv=>whnf);first|(refine BT ?_;intros)|(refine BU ?_ ?_<;>intro _)|refine LI ?_|refine gD ?_|refine Xm h2 h3 Do Do ‹_› ?_)
  all_goals first
   |(rename_i U c m hd hk _ _
     have e1:=Hj U hd hk
     have e2:=Kq (v:=v) U hd hk
     exact fin h (E9 AC (h5.trans e2) (by first|exact decide_eq_true ⟨AC,AC⟩|exact decide_eq_false AC)))
   |(rename_i U c m hd hk _
     have e1:=Hj U hd hk
     have e2:=Kq (v:=v) U hd hk
     exact fin h (E9 AC (h5.trans e2) (by first|exact decide_eq_true ⟨AC,AC⟩|exact decide_eq_false AC)))
   |(have e1:=Kk (base:=16) (s:=s) (pos:=pos) AC
     have e2:=Nn (base:=16) (v:=v) (s:=s) (pos:=pos) AC
     exact fin h (E9 AC (h5.trans e2) (by first|exact decide_eq_true ⟨AC,AC⟩|exact decide_eq_false AC)))
   |(rename_i U c m hd hk
     obtain ⟨e1,e2⟩:=Mp U hd hk
     have e3:=TK (v:=v) U hd hk
     have e4:=hdl (c:Int)
     subst e1
     conv=>whnf
     exact ⟨(pos+1,min (v*16+BE (c:Int) 16) 1114112),⟨UV,UV,UV,UV,h5.trans e3⟩,UV,Yl,St.le_refl _⟩)
end
end Go.Proofs.Z
namespace Go.Aw
open Go
theorem cv {b:Int} (h:Jp b l=some (v,n)):Ih b 0 l=v/\BC b l=n/\n≠0/\v<=1114111:=by
 unfold Jp at h
 split at h
 .cases h
 .injection h with h;injection h with U h2
  exact ⟨U,h2,AC,AC⟩
theorem cu {b:Int} (h:Jp b l=none):decide (BC b l≠0/\Ih b 0 l<=1114111)=false:=by
 unfold Jp at h
 split at h
 .exact decide_eq_false AC
 .cases h
theorem Hu {r r':Ay} {st:St} (es:st'=st) (h:R r st) (e:r=r'):∃r2 U,(r2=r'\/r2=r'.wk)/\St.le U st'/\R r2 U:=by subst es;exact ⟨r,st',.inl e,St.le_refl _,h⟩
theorem St.JT (st:St) (b:Nat) (cs cs':List V):(st.Aa b cs).Aa b cs'=st.Aa b cs':=by
 simp only [St.Aa,St.mk.injEq,and_true]
 funext x
 split<;>rfl
end Go.Aw
namespace Go.Proofs.Z
open Go Go.Aw
theorem RO {q:Nat} (e:i=(q:Int)):[V.str s,.int .i64 i,.bool tx,.slice 1 (ints o) w1,.slice 2 (jE g) w2]=qC s q tx o w1 g w2:=by subst e;rfl
section
variable {st:St} {R:Ay->St->Prop}
theorem gT {b:Int} (e:i.toNat=m) (hn:Jp b (s.drop m)=some (v,n)) (hl:s.length<=100000000) (hb:b=8\/b=10\/b=16) (h:R (.ret (.Bu [.int .i64 v,.int .i64 n,.bool true])) st):PC 427 [.str (s.drop i.toNat),.int .i64 b] st R:=by
 rw [e]
 obtain ⟨U,e2,e3,e4⟩:=cv hn
 exact Va M2 hb (by rw [U,e2,decide_eq_true ⟨e3,e4⟩];exact h)
theorem gU {b:Int} (e:i.toNat=m) (hn:Jp b (s.drop m)=none) (U:s.length<=100000000) (hb:b=8\/b=10\/b=16) (h:R (.ret (.Bu [.int .i64 (Ih b 0 (s.drop m)),.int .i64 (BC b (s.drop m):Nat),.bool false])) st):PC 427 [.str (s.drop i.toNat),.int .i64 b] st R:=by
 rw [e]
 exact Va M2 hb (by rw [cu hn];exact h)
theorem Pr {frm:Int} (hl:s.length<=100000000) (hp:p+k<=s.length) (U:base=8\/base=10\/base=16) (hb:st.box b=some (qC s p tx o w1 g w2))
 (h:∀v n,Jp base (s.drop (p+k))=some (v,n)->R (.ret (.int .i64 v)) (st.Aa b (qC s (p+k+n) tx o w1 g w2))) (h0:Jp base (s.drop (p+k))=none->R (.BX (IJ frm 51)) st):
 PC 425 [.ptr b 0,.int .i64 frm,.int .i64 k,.int .i64 base] st R:=by
 refine pB Tryz.func425 ?_
 rcases hn:Jp base (s.drop (p+k)) with _|⟨v,n⟩
 .have h0:=h0 hn
  repeat' ((conv=>whnf);first|exact Dp|(refine BT ?_;intros)|(refine Dq ?_ ?_ ?_;rotate_left)|(refine BU ?_ ?_<;>intro _)|refine Al hb ?_|refine gU (m:=p+k) AC hn hl U ?_|refine FP ?_|with_reducible refine WF ?_)
  all_goals exact fin h0 rfl
 .have h:=h v n hn
  have hle:=OG hn
  rw [List.length_drop] at hle
  dsimp only at hle
  repeat' ((conv=>whnf);first|exact Dp|(refine BT ?_;intros)|(refine Dq ?_ ?_ ?_;rotate_left)|(refine BU ?_ ?_<;>intro _)|refine Al hb ?_|refine gT (m:=p+k) AC hn hl U ?_|refine FP ?_|with_reducible refine WF ?_)
  exact Hu (congrArg (st.Aa b) (RO AC)) h rfl
theorem Zr:Ew (s.drop p)=if AU (s.drop p)=92/\BS (λc=>AH c==1) (s.drop (p+1))≠0/\AU (s.drop (p+1+BS (λc=>AH c==1) (s.drop (p+1))))=92 then BS (λc=>AH c==1) (s.drop (p+1))+2 else 0:=by
 have U:(s.drop p).drop 1=s.drop (p+1):=List.drop_drop
 unfold Ew;rw [U,List.drop_drop,Nat.add_assoc]
theorem Km {q:Nat} (hl:s.length<=100000000) (hq:q<=s.length) (U:BS (λc=>AH c==1) (s.drop q)=k) (e:i=(q:Int)) (h:R (.ret (.int .i64 (q+k:Nat))) st):PC 129 [.str s,.int .i64 i,.int .i64 1] st R:=by
 subst e;exact nU AC (by rw [OM AC AC,show (q:Int).toNat=q by omega,U];exact h)
theorem oU (U:s.length<=100000000) (hp:p<=s.length) (hb:st.box b=some (qC s p tx o w1 g w2)) (hg:tx=false\/Ew (s.drop p)=0) (h:R (.ret (.bool false)) st):PC 409 [.ptr b 0] st R:=by
 refine pB Tryz.func409 ?_
 have hby:=Ju (s.drop p)
 cases tx with
 |false=>
  repeat' ((conv=>whnf);first|exact Dp|(refine BT ?_;intros)|(refine Dq ?_ ?_ ?_;rotate_left)|(refine BU ?_ ?_<;>intro _)|refine Al hb ?_|refine Ev (k:=0) U hp Do hb ?_|with_reducible refine WF ?_)
  all_goals exact fin h rfl
 |true=>
  have hg:Ew (s.drop p)=0:=hg.resolve_left Do
  by_cases h1:AU (s.drop p)=92
  .have hp1:p<s.length:=Cf (k:=p) AC
   have hr:=Fb (λc=>AH c==1) (s.drop (p+1))
   have hgn:=Zr (s:=s) (p:=p)
   rw [List.length_drop] at hr
   generalize hk:BS (λc=>AH c==1) (s.drop (p+1))=k at hr hgn
   have hno:k≠0->¬AU (s.drop (p+1+k))=92:=λe1 e2=>by rw [if_pos ⟨h1,e1,e2⟩] at hgn;omega
   have hb0:Ku (s.drop p)=92:=AC
   by_cases hlt:p+1+k<s.length
   .obtain ⟨e,he⟩:∃e,s[p+1+k]? =some e:=⟨s[p+1+k],List.getElem?_eq_getElem hlt⟩
    have he':s[((p+1+k:Nat):Int).toNat]? =some e:=he
    have hv:=DT he
    repeat' ((conv=>whnf);first|exact Dp|(refine BT ?_;intros)|(refine Dq ?_ ?_ ?_;rotate_left)|(refine BU ?_ ?_<;>intro _)|refine Al hb ?_|refine Ev (k:=0) U hp Do hb ?_|refine Km (q:=p+1) U AC hk AC ?_|with_reducible refine WF ?_)
    all_goals exact fin h rfl
   .skip
    repeat' ((conv=>whnf);first|exact Dp|(refine BT ?_;intros)|(refine Dq ?_ ?_ ?_;rotate_left)|(refine BU ?_ ?_<;>intro _)|refine Al hb ?_|refine Ev (k:=0) U hp Do hb ?_|refine Km (q:=p+1) U AC hk AC ?_|with_reducible refine WF ?_)
    all_goals exact fin h rfl
  .have hb0:¬Ku (s.drop p)=92:=AC
   repeat' ((conv=>whnf);first|exact Dp|(refine BT ?_;intros)|(refine Dq ?_ ?_ ?_;rotate_left)|(refine BU ?_ ?_<;>intro _)|refine Al hb ?_|refine Ev (k:=0) U hp Do hb ?_|with_reducible refine WF ?_)
   all_goals exact fin h rfl
attribute [local irreducible] Go.Aw.Ah
theorem lj (hl:s.length<=100000000) (hb:st.box b=some (qC s p true o w1 g w2)) (hg:0<Ew (s.drop p)) (hr2:B0 st0 st w1 o.length w2 (2*g.length)) (hgl:g.length<=100000000)
 (h:∀w2' st',B0 st0 st' w1 o.length w2' (2*(g++[(p,p+Ew (s.drop p))]).length)->st'.box=st.box->R (.ret (.bool true)) (st'.Aa b (qC s (p+Ew (s.drop p)) true o w1 (g++[(p,p+Ew (s.drop p))]) w2'))):PC 409 [.ptr b 0] st R:=by
 have hby:=Ju (s.drop p)
 have U:=Zr (s:=s) (p:=p)
 have hr:=Fb (λc=>AH c==1) (s.drop (p+1))
 rw [List.length_drop] at hr
 generalize hk:BS (λc=>AH c==1) (s.drop (p+1))=k at hr U
 have hc:AU (s.drop p)=92/\k≠0/\AU (s.drop (p+1+k))=92:=by
  by_cases hc:AU (s.drop p)=92/\k≠0/\AU (s.drop (p+1+k))=92
  .exact hc
  .rw [if_neg hc] at U;omega
 rw [if_pos hc] at U
 obtain ⟨h1,h2,h3⟩:=hc
 have hp1:p<s.length:=Cf (k:=p) AC
 have hp2:p+1+k<s.length:=Cf (k:=p+1+k) AC
 obtain ⟨e,he⟩:∃e,s[p+1+k]? =some e:=⟨s[p+1+k],List.getElem?_eq_getElem hp2⟩
 have he':s[((p+1+k:Nat):Int).toNat]? =some e:=he
 have hv:=DT he
 have hb0:Ku (s.drop p)=92:=AC
 have hpk:((p+1+k:Nat):Int)+1=((p+(k+2):Nat):Int):=AC
 rw [U] at h
 refine pB Tryz.func409 ?_
 repeat' ((conv=>whnf);first|refine Ae [(0,true),(1,true),(2,true),(3,true),(4,true),(5,true),(6,true),(7,true),(8,true),(9,true),(10,true),(11,true),(12,true),(13,false),(14,true),(15,true),(16,false)] [] GE ?_|exact Dp|(refine BT ?_;intros)|(refine Dq ?_ ?_ ?_;rotate_left)|(refine BU ?_ ?_<;>intro _)|refine Al hb ?_|refine Ev (k:=0) hl AC Do hb ?_|refine Km (q:=p+1) hl AC hk AC ?_|refine cH (p:=(p,p+(k+2))) hr2 AC rfl hpk (λw2' st1 hr3 hb3=>?_)|refine Al ((congrFun hb3 b).trans hb) ?_|refine Al (St.AK _ _ _) ?_|with_reducible refine WF ?_)
 exact Hu ((St.JT _ _ _ _).trans (congrArg (st1.Aa b) (RO AC))) (h w2' st1 hr3 hb3) rfl
end
end Go.Proofs.Z
namespace Go.Aw
open Go
theorem mi (l:List UInt8):G3 (Ku l)=G3 (AU l):=by
 rcases Ju l with ⟨U,h2⟩|⟨U,h2⟩
 .rw [U,h2];rfl
 grind
theorem mj (h:G3 c=none):c≠92/\c≠34/\c≠39:=by
 refine ⟨λe=>?_,λe=>?_,λe=>?_⟩<;>(subst e;cases h)
theorem u8_in {a:Int} (U:0<=a) (h2:a<=255):IntKind.u8.wrap a=a:=IntWalk.u8_in _ ⟨U,h2⟩
theorem fA (h:G3 (AU (l.drop 1))=some v):Hr tx l=some (v,2):=by unfold Hr;rw [h]
theorem ft (h:AU (l.drop 1)=38):Hr true l=some (-1,2):=by
 unfold Hr;rw [show G3 (AU (l.drop 1))=none by rw [h];rfl]
 simp_all
theorem fu (h:AU (l.drop 1)=94) (U:64<=AU (l.drop 2)) (h2:AU (l.drop 2)<=95):Hr tx l=some (AU (l.drop 2) - 64,3):=by
 unfold Hr;rw [show G3 (AU (l.drop 1))=none by rw [h];rfl]
 simp_all
theorem fz (h:AU (l.drop 1)=111):Hr tx l=(Jp 8 (l.drop 2)).map λp=>(p.1,2+p.2):=by
 unfold Hr;rw [show G3 (AU (l.drop 1))=none by rw [h];rfl]
 simp_all
theorem fx (h:AU (l.drop 1)=120):Hr tx l=(Jp 16 (l.drop 2)).map λp=>(p.1,2+p.2):=by
 unfold Hr;rw [show G3 (AU (l.drop 1))=none by rw [h];rfl]
 simp_all
theorem fv (h:48<=AU (l.drop 1)) (U:AU (l.drop 1)<=57):Hr tx l=(Jp 10 (l.drop 1)).map λp=>(p.1,1+p.2):=by
 have hs:G3 (AU (l.drop 1))=none:=by
  unfold G3
  (repeat' split)<;>first|rfl|(exfalso;omega)
 unfold Hr;grind
theorem fy (h:G3 (AU (l.drop 1))=none) (U:¬(AU (l.drop 1)=38/\tx=true)) (h2:¬(AU (l.drop 1)=94/\64<=AU (l.drop 2)/\AU (l.drop 2)<=95)) (h3:AU (l.drop 1)≠111) (h4:AU (l.drop 1)≠120) (h5:¬(48<=AU (l.drop 1)/\AU (l.drop 1)<=57)):
 Hr tx l=if 0<(Jo (l.drop 1)).2 then some ((Jo (l.drop 1)).1,1+(Jo (l.drop 1)).2) else none:=by
 unfold Hr;grind
end Go.Aw
namespace Go.Proofs.Z
open Go Go.Aw
section
variable {st:St} {R:Ay->St->Prop}
theorem lV (e:i.toNat=n) (U:s.length<=100000000) (h:R (.ret (.Bu [.int .i64 (Jo (s.drop n)).1,.int .i64 (Jo (s.drop n)).2])) st):PC 426 [.str (s.drop i.toNat)] st R:=by
 rw [e];exact lU (by grind) h
theorem Uk (hl:s.length<=100000000) (hp:p<s.length) (hb:st.box b=some (qC s p tx o w1 g w2))
 (h:∀v n,Hr tx (s.drop p)=some (v,n)->R (.ret (.int .i64 v)) (st.Aa b (qC s (p+n) tx o w1 g w2))) (h0:Hr tx (s.drop p)=none->∀q,R (.BX (IJ p 51)) (st.Aa b (qC s q tx o w1 g w2))):
 PC 410 [.ptr b 0] st R:=by
 have d1:(s.drop p).drop 1=s.drop (p+1):=List.drop_drop
 have d2:(s.drop p).drop 2=s.drop (p+1+1):=List.drop_drop
 refine A1 Ad [] Tryz.func410 rfl Do rfl ?_
 refine Ak (Am Ad ?_)
 repeat' ((conv=>whnf);first|exact Dp|(refine BT ?_;intros)|(refine Dq ?_ ?_ ?_;rotate_left)|(refine BU ?_ ?_<;>intro _)|with_reducible refine WF ?_)
 refine Ak (Am Ad ?_)
 repeat' ((conv=>whnf);first|exact Dp|(refine BT ?_;intros)|(refine Dq ?_ ?_ ?_;rotate_left)|(refine BU ?_ ?_<;>intro _)|refine Al hb ?_|with_reducible refine WF ?_)
 refine Ak (Am Ad ?_)
 repeat' ((conv=>whnf);first|exact Dp|(refine BT ?_;intros)|(refine Dq ?_ ?_ ?_;rotate_left)|(refine BU ?_ ?_<;>intro _)|refine Al hb ?_|with_reducible refine WF ?_)
 refine YT (st':=st.Aa b (qC s (p+1) tx o w1 g w2)) rfl ?_
 have endq:∀{i:Int} {q:Nat},i=(q:Int)->(st.Aa b (qC s (p+1) tx o w1 g w2)).Aa b [V.str s,.int .i64 i,.bool tx,.slice 1 (ints o) w1,.slice 2 (jE g) w2]=st.Aa b (qC s q tx o w1 g w2):=λe=>by rw [St.JT,RO e]
 have endp:∀{q:Nat},(st.Aa b (qC s (p+1) tx o w1 g w2)).Aa b (qC s q tx o w1 g w2)=st.Aa b (qC s q tx o w1 g w2):=St.JT _ _ _ _
 have U:(st.Aa b (qC s (p+1) tx o w1 g w2)).box b=some (qC s (p+1) tx o w1 g w2):=St.AK _ _ _
 have h0':=λe=>h0 e (p+1)
 generalize hst:st.Aa b (qC s (p+1) tx o w1 g w2)=st1 at U endq endp h0'
 have hx1:=Ju (s.drop (p+1))
 have hx2:=Ju (s.drop (p+1+1))
 have hxl:=fM (s.drop (p+1))
 have hby0:∀{R:Ay->St->Prop},R (.ret (.int .u8 (Ku (s.drop (p+1))))) st1->PC 375 [.ptr b 0,.int .i64 0] st1 R:=λh=>Ev (k:=0) hl AC Do U h
 have hby1:∀{R:Ay->St->Prop},R (.ret (.int .u8 (Ku (s.drop (p+1+1))))) st1->PC 375 [.ptr b 0,.int .i64 1] st1 R:=λh=>Ev (k:=1) hl AC Do U h
 have l1:=λh=>Cf (l:=s) (k:=p+1) h
 have l2:=λh=>Cf (l:=s) (k:=p+1+1) h
 cases hsg:G3 (AU (s.drop (p+1))) with
 |some v=>
  have hv:=Vy hsg
  have h1:=h v 2 (fA ke)
  have hsn:∀{R:Ay->St->Prop},R (.ret (pS (some v))) st1->PC 424 [.int .u8 (Ku (s.drop (p+1)))] st1 R:=λh=>iN AC AC (by grind)
  refine Am Ad ?_
  repeat' ((conv=>whnf);first|exact Dp|(refine BT ?_;intros)|(refine Dq ?_ ?_ ?_;rotate_left)|(refine BU ?_ ?_<;>intro _)|refine hby0 ?_|refine hsn ?_|refine Al U ?_|with_reducible refine WF ?_)
  exact Hu (endq AC) h1 rfl
 |none=>
  have hne:=mj hsg
  have hsn:∀{R:Ay->St->Prop},R (.ret (pS none)) st1->PC 424 [.int .u8 (Ku (s.drop (p+1)))] st1 R:=λh=>iN AC AC (by rw [mi,hsg];exact h)
  refine Ak (Am Ad ?_)
  repeat' ((conv=>whnf);first|exact Dp|(refine BT ?_;intros)|(refine Dq ?_ ?_ ?_;rotate_left)|(refine BU ?_ ?_<;>intro _)|refine hby0 ?_|with_reducible refine WF ?_)
  refine Ak (Am Ad ?_)
  repeat' ((conv=>whnf);first|exact Dp|(refine BT ?_;intros)|(refine Dq ?_ ?_ ?_;rotate_left)|(refine BU ?_ ?_<;>intro _)|refine hsn ?_|with_reducible refine WF ?_)
  by_cases c1:AU (s.drop (p+1))=38/\tx=true
  .obtain ⟨c1,rfl⟩:=c1
   have h1:=h (-1) 2 (ft ke)
   refine Am Ad ?_
   repeat' ((conv=>whnf);first|exact Dp|(refine BT ?_;intros)|(refine Dq ?_ ?_ ?_;rotate_left)|(refine BU ?_ ?_<;>intro _)|refine Al U ?_|with_reducible refine WF ?_)
   exact Hu (endq AC) h1 rfl
  by_cases c2:AU (s.drop (p+1))=94/\64<=AU (s.drop (p+1+1))/\AU (s.drop (p+1+1))<=95
  .obtain ⟨c2,c3,c4⟩:=c2
   have h1:=h _ 3 (fu ke ke ke)
   rw [d2] at h1
   have hp2:=l2 AC
   obtain ⟨e,he⟩:∃e,s[p+1+1]? =some e:=⟨s[p+1+1],List.getElem?_eq_getElem hp2⟩
   have he':s[(((p+1:Nat):Int)+2 - 1).toNat]? =some e:=by rw [show (((p+1:Nat):Int)+2 - 1).toNat=p+1+1 by omega];exact he
   have hv:=DT he
   have hew:∀{K:Int->Prop},K (AU (s.drop (p+1+1)) - 64)->∃r,r=IntKind.u8.wrap ((e.toNat:Nat) - 64:Int)/\K r:=λk=>⟨_,by rw [hv];exact (u8_in AC AC).symm,k⟩
   refine Am Ad ?_
   repeat' ((conv=>whnf);first|exact Dp|(refine BT ?_;intros)|(refine Dq ?_ ?_ ?_;rotate_left)|(refine BU ?_ ?_<;>intro _)|refine hby1 ?_|refine Al U ?_|refine Al (St.AK _ _ _) ?_|refine hew ?_|with_reducible refine WF ?_)
   exact Hu (endq AC) h1 rfl
  by_cases c3:AU (s.drop (p+1))=111
  .have he:=fz (tx:=tx) (l:=s.drop p) ke
   rw [d2] at he
   have hp1:=l1 AC
   refine Am Ad ?_
   repeat' ((conv=>whnf);first|exact Dp|(refine BT ?_;intros)|(refine Dq ?_ ?_ ?_;rotate_left)|(refine BU ?_ ?_<;>intro _)|refine Al U ?_|refine Pr (k:=1) hl AC (.inl rfl) U (λv n hv=>?_) (λhv=>?_)|with_reducible refine WF ?_)
   all_goals try rw [hv] at he
   .have h1:=h v (2+n) he
    exact Hu (endp.trans (by grind)) h1 rfl
   .exact fin (h0' he) rfl
  by_cases c4:AU (s.drop (p+1))=120
  .have he:=fx (tx:=tx) (l:=s.drop p) ke
   rw [d2] at he
   have hp1:=l1 AC
   refine Am Ad ?_
   repeat' ((conv=>whnf);first|exact Dp|(refine BT ?_;intros)|(refine Dq ?_ ?_ ?_;rotate_left)|(refine BU ?_ ?_<;>intro _)|refine Al U ?_|refine Pr (k:=1) hl AC (.inr (.inr rfl)) U (λv n hv=>?_) (λhv=>?_)|with_reducible refine WF ?_)
   all_goals try rw [hv] at he
   .have h1:=h v (2+n) he
    exact Hu (endp.trans (by grind)) h1 rfl
   .exact fin (h0' he) rfl
  by_cases c5:48<=AU (s.drop (p+1))/\AU (s.drop (p+1))<=57
  .have he:=fv (tx:=tx) (l:=s.drop p) ke ke
   rw [d1] at he
   have hp1:=l1 AC
   refine Am Ad ?_
   repeat' ((conv=>whnf);first|exact Dp|(refine BT ?_;intros)|(refine Dq ?_ ?_ ?_;rotate_left)|(refine BU ?_ ?_<;>intro _)|refine Al U ?_|refine Pr (k:=0) hl AC (.inr (.inl rfl)) U (λv n hv=>?_) (λhv=>?_)|with_reducible refine WF ?_)
   all_goals try rw [show Jp 10 (s.drop (p+1))=_ from hv] at he
   .have h1:=h v (1+n) he
    exact Hu (endp.trans (by grind)) h1 rfl
   .exact fin (h0' he) rfl
  .have he:=fy (tx:=tx) (l:=s.drop p) ke ke ke ke ke ke
   rw [d1] at he
   have hc1:Ku (s.drop (p+1))=38->tx=false:=λe=>by simp_all
   have hnl:=S7 (s.drop (p+1)) EA 0 (0,0) (Nat.zero_le _)
   have hnn:(Jo (s.drop (p+1))).2<=s.length - (p+1):=by simp only [Jo];rw [List.length_drop] at hnl;omega
   have f2:¬(Ku (s.drop (p+1))=94/\64<=Ku (s.drop (p+1+1))/\Ku (s.drop (p+1+1))<=95):=λe=>c2 ⟨AC,AC,AC⟩
   have f3:¬Ku (s.drop (p+1))=111:=AC
   have f4:¬Ku (s.drop (p+1))=120:=AC
   have f5:¬(48<=Ku (s.drop (p+1))/\Ku (s.drop (p+1))<=57):=AC
   have e1:=λ(n:Nat) (hn:(Jo (s.drop (p+1))).2=n) (h0:0<n)=>h _ (1+n) (by rw [he,hn,if_pos h0])
   have e2:=λ(h0:¬0<(Jo (s.drop (p+1))).2)=>h0' ke
   generalize Ku (s.drop (p+1))=x1 at hby0 hc1 f2 f3 f4 f5 hx1 hsn
   generalize Ku (s.drop (p+1+1))=x2 at hby1 f2 hx2
   generalize hN:Jo (s.drop (p+1))=N at e1 e2 hnn
   obtain ⟨v,n⟩:=N
   have e1:=e1 n rfl
   dsimp only at e1 e2 hnn
   have hnam:∀{i:Int} {R:Ay->St->Prop},i.toNat=p+1->R (.ret (.Bu [.int .i64 v,.int .i64 (n:Int)])) st1->PC 426 [.str (s.drop i.toNat)] st1 R:=λe h=>lV e hl ke
   clear he h h0 h0' hsg hne hsn c1 c2 c3 c4 c5 hx1 hx2 hxl l1 l2 d1 d2 hnl hby0 endp hb hN
   by_cases h38:x1=38
   .have e:=hc1 h38
    subst e
    refine Am Ad ?_
    repeat' ((conv=>whnf);first|exact Dp|(refine BT ?_;intros)|(refine Dq ?_ ?_ ?_;rotate_left)|(refine BU ?_ ?_<;>intro _)|refine hby1 ?_|refine Al U ?_|refine hnam AC ?_|refine FP ?_|with_reducible refine WF ?_)
    all_goals first
     |exact Hu (endq AC) (e1 AC) rfl
     |exact fin (e2 AC) rfl
   .clear hc1
    refine Am Ad ?_
    repeat' ((conv=>whnf);first|exact Dp|(refine BT ?_;intros)|(refine Dq ?_ ?_ ?_;rotate_left)|(refine BU ?_ ?_<;>intro _)|refine hby1 ?_|refine Al U ?_|refine hnam AC ?_|refine FP ?_|with_reducible refine WF ?_)
    all_goals first
     |exact Hu (endq AC) (e1 AC) rfl
     |exact fin (e2 AC) rfl
end
end Go.Proofs.Z
namespace Go.Aw
open Go
theorem gX (h:0<Ew l):IF true l=.inr (-1,Ew l):=by
 cases l with
 |nil=>exact absurd h Do
 |cons a r=>
  have U:AU (a::r)=92:=by
   by_cases U:AU (a::r)=92
   .exact U
   .unfold Ew at h;simp_all
  unfold IF
  simp_all
theorem gW (U:AU l=92) (h:tx=false\/Ew l=0):IF tx l=match Hr tx l with|none=>.inl 51|some p=>.inr p:=by
 cases l with
 |nil=>exact absurd U Do
 |cons a r=>
  unfold IF
  grind
theorem cw (U:l≠[]) (h1:AU l≠92):IF tx l=if Lv (AJ l) then .inl 50 else .inr (((AJ l).1:Nat),(AJ l).2):=by
 cases l with
 |nil=>rfl
 |cons a r=>
  unfold IF
  simp_all
theorem Xe (h:AH c≠0):c<=1114111:=by
 by_cases U:c<=1114111
 .exact U
 .refine absurd ?_ h
  unfold AH LA
  omega
theorem Y4 {c:Nat}:Lv (c,m)=true↔AH (c:Int)=0\/(AH (c:Int)=1/\¬c=32)\/(c=65533/\m=1):=by
 simp only [Lv,Bool.or_eq_true,Bool.and_eq_true,Bool.not_eq_true',beq_iff_eq,beq_eq_false_iff_ne,ne_eq]
 omega
def Th (o:List Int) (v:Int):List Int:=if v= -1 then o else o++[v]
end Go.Aw
namespace Go.Proofs.Z
open Go Go.Aw
def QB (st0 st:St) (b:Nat) (s:List UInt8) (tx:Bool):Prop:=∃q o w1 g w2,st.box b=some (qC s q tx o w1 g w2)/\B0 st0 st w1 o.length w2 (2*g.length)
section
variable {st:St} {R:Ay->St->Prop}
attribute [local irreducible] Go.Aw.Ah
theorem qw (hl:s.length<=100000000) (hp:p<=s.length) (hb:st.box b=some (qC s p tx o w1 g w2)) (hr:B0 st0 st w1 o.length w2 (2*g.length)) (hgl:g.length<=100000000)
 (h0:(tx=false\/Ew (s.drop p)=0)->R (.ret (.bool false)) st)
 (h:tx=true->0<Ew (s.drop p)->∀w2' st',B0 st0 st' w1 o.length w2' (2*(g++[(p,p+Ew (s.drop p))]).length)->st'.box=st.box->R (.ret (.bool true)) (st'.Aa b (qC s (p+Ew (s.drop p)) true o w1 (g++[(p,p+Ew (s.drop p))]) w2'))):PC 409 [.ptr b 0] st R:=by
 by_cases hg:tx=false\/Ew (s.drop p)=0
 .exact oU hl hp hb hg (h0 hg)
 .have ht:tx=true:=by cases tx;· simp_all
                      rfl
  subst ht
  have U:0<Ew (s.drop p):=by
   rcases Nat.eq_zero_or_pos (Ew (s.drop p)) with e|e
   .omega
   .exact e
  exact lj hl hb U hr hgl (h rfl U)
theorem nL (hl:s.length<=100000000) (hp:p<=s.length) (hb0:st0.box b=none) (hb:st.box b=some (qC s p tx o w1 g w2)) (hr:B0 st0 st w1 o.length w2 (2*g.length))
 (ho:o.length<=100000000) (hgl:g.length<=100000000)
 (h0:∀e,IF tx (s.drop p)=.inl e->∀st',QB st0 st' b s tx->R (.BX (IJ p e)) st')
 (h:∀v n,IF tx (s.drop p)=.inr (v,n)->∀w1' w2' st' g',B0 st0 st' w1' (Th o v).length w2' (2*g'.length)->st'.box b=some (qC s (p+n) tx (Th o v) w1' g' w2')->g'=(if tx=true/\0<Ew (s.drop p) then g++[(p,p+n)] else g)->R (.ret (.Bu [])) st'):
 PC 376 [.ptr b 0] st R:=by
 have hqb:QB st0 st b s tx:=⟨p,o,w1,g,w2,hb,hr⟩
 refine A1 Ad [] Tryz.func376 rfl Do rfl ?_
 by_cases U:s.length<=p
 .have hd:s.drop p=[]:=List.drop_eq_nil_iff.2 AC
  have h0:=h0 50 (by rw [hd];rfl) st hqb
  refine Am Ad ?_
  repeat' ((conv=>whnf);first|exact Dp|(refine BT ?_;intros)|(refine Dq ?_ ?_ ?_;rotate_left)|(refine BU ?_ ?_<;>intro _)|refine Al hb ?_|refine FP ?_|with_reducible refine WF ?_)
  exact fin h0 rfl
 have U:p<s.length:=AC
 obtain ⟨e,he⟩:∃e,s[p]? =some e:=⟨s[p],List.getElem?_eq_getElem U⟩
 have he':s[(p:Int).toNat]? =some e:=he
 have hv:=DT he
 refine Ak (Am Ad ?_)
 repeat' ((conv=>whnf);first|exact Dp|(refine BT ?_;intros)|(refine Dq ?_ ?_ ?_;rotate_left)|(refine BU ?_ ?_<;>intro _)|refine Al hb ?_|refine FP ?_|with_reducible refine WF ?_)
 refine Ak (Am Ad ?_)
 repeat' ((conv=>whnf);first|exact Dp|(refine BT ?_;intros)|(refine Dq ?_ ?_ ?_;rotate_left)|(refine BU ?_ ?_<;>intro _)|refine qw hl hp hb hr hgl (λhg=>?_) (λht hg w2' st1 hr1 hb1=>?_)|with_reducible refine WF ?_)
 .by_cases h92:AU (s.drop p)=92
  .have h1:=gW h92 hg
   have hng:¬(tx=true/\0<Ew (s.drop p)):=λx=>by simp_all
   rcases hesc:Hr tx (s.drop p) with _|⟨v,n⟩
   .rw [hesc] at h1
    have h0:=h0 51 h1
    have hE:∀{R:Ay->St->Prop},(∀q,R (.BX (IJ p 51)) (st.Aa b (qC s q tx o w1 g w2)))->PC 410 [.ptr b 0] st R:=λh=>Uk hl U hb (λv n x=>by simp_all) (λ_=>h)
    refine Am Ad ?_
    repeat' ((conv=>whnf);first|exact Dp|(refine BT ?_;intros)|(refine Dq ?_ ?_ ?_;rotate_left)|(refine BU ?_ ?_<;>intro _)|refine Al hb ?_|refine hE (λq=>?_)|with_reducible refine WF ?_)
    exact fin (h0 _ ⟨_,_,_,_,_,St.AK _ _ _,hr.set hb0 _⟩) rfl
   .rw [hesc] at h1
    have hn:=Zm hesc
    rw [List.length_drop] at hn
    dsimp only at hn
    have h:=h v n h1
    rw [if_neg hng] at h
    have hb2:=St.AK st b (qC s (p+n) tx o w1 g w2)
    have hr2:=hr.set hb0 (qC s (p+n) tx o w1 g w2)
    have hE:∀{R:Ay->St->Prop},R (.ret (.int .i64 v)) (st.Aa b (qC s (p+n) tx o w1 g w2))->PC 410 [.ptr b 0] st R:=λh=>Uk hl U hb (λv' n' x=>by simp_all) (λx=>by simp_all)
    generalize st.Aa b (qC s (p+n) tx o w1 g w2)=st2 at hb2 hr2 hE
    unfold Th at h
    by_cases hv1:v= -1
    .rw [if_pos hv1] at h
     refine Am Ad ?_
     repeat' ((conv=>whnf);first|exact Dp|(refine BT ?_;intros)|(refine Dq ?_ ?_ ?_;rotate_left)|(refine BU ?_ ?_<;>intro _)|refine Al hb ?_|refine hE ?_|with_reducible refine WF ?_)
     all_goals first
      |exact fin (h w1 w2 st2 g hr2 hb2 rfl) rfl
      |(exfalso;omega)
    .rw [if_neg hv1] at h
     refine Am Ad ?_
     repeat' ((conv=>whnf);first|exact Dp|(refine BT ?_;intros)|(refine Dq ?_ ?_ ?_;rotate_left)|(refine BU ?_ ?_<;>intro _)|refine Al hb ?_|refine Al hb2 ?_|refine hE ?_|refine Vp hr2 AC (λw1' st3 hr3 hb3=>?_)|refine Al ((congrFun hb3 b).trans hb2) ?_|with_reducible refine WF ?_)
     exact fin (h w1' w2 _ g (hr3.set hb0 _) (St.AK _ _ _) rfl) rfl
  .have h1:=cw (tx:=tx) (SA U) h92
   have hng:¬(tx=true/\0<Ew (s.drop p)):=λx=>by simp_all
   rcases hd:AJ (s.drop p) with ⟨c,m⟩
   have hrn:=rune_le U hd.symm
   have hx:L9 s p=((c:Int),(m:Int)):=by rw [Mb AC AC,Oo U hd.symm]
   rw [hd] at h1
   refine Ak (Am Ad ?_)
   repeat' ((conv=>whnf);first|exact Dp|(refine BT ?_;intros)|(refine Dq ?_ ?_ ?_;rotate_left)|(refine BU ?_ ?_<;>intro _)|refine Al hb ?_|with_reducible refine WF ?_)
   refine Ak (Am Ad ?_)
   repeat' ((conv=>whnf);first|exact Dp|(refine BT ?_;intros)|(refine Dq ?_ ?_ ?_;rotate_left)|(refine BU ?_ ?_<;>intro _)|refine Al hb ?_|refine ZK AC hx ?_|with_reducible refine WF ?_)
   refine Ak (Am Ad ?_)
   repeat' ((conv=>whnf);first|exact Dp|(refine BT ?_;intros)|(refine Dq ?_ ?_ ?_;rotate_left)|(refine BU ?_ ?_<;>intro _)|refine J4 ?_|with_reducible refine WF ?_)
   cases hbad:Lv (c,m) with
   |true=>
    rw [if_pos hbad] at h1
    have h0:=h0 50 h1 st hqb
    refine Am Ad ?_
    have hbi:=Y4.1 hbad
    repeat' ((conv=>whnf);first|exact Dp|(refine BT ?_;intros)|(refine Dq ?_ ?_ ?_;rotate_left)|(refine BU ?_ ?_<;>intro _)|refine Al hb ?_|refine FP ?_|with_reducible refine WF ?_)
    all_goals first|exact fin h0 rfl|(exfalso;omega)
   |false=>
    rw [if_neg ke] at h1
    have h:=h (c:Int) m h1
    rw [if_neg hng] at h
    unfold Th at h
    rw [if_neg AC] at h
    have hbi:¬(AH (c:Int)=0\/(AH (c:Int)=1/\¬c=32)\/(c=65533/\m=1)):=λx=>by rw [Y4.2 x] at hbad;grind
    have hcm:=Xe (c:=(c:Int)) AC
    refine Am Ad ?_
    repeat' ((conv=>whnf);first|exact Dp|(refine BT ?_;intros)|(refine Dq ?_ ?_ ?_;rotate_left)|(refine BU ?_ ?_<;>intro _)|refine Al hb ?_|refine FP ?_|refine Vp hr AC (λw1' st3 hr3 hb3=>?_)|refine Al ((congrFun hb3 b).trans hb) ?_|refine Al (St.AK _ _ _) ?_|with_reducible refine WF ?_)
    all_goals exact fin (h w1' w2 _ g ((hr3.set hb0 _).set hb0 _) ((St.AK _ _ _).trans (congrArg some (RO AC))) rfl) rfl
 .subst ht
  have h1:=gX hg
  have h:=h _ _ h1 w1 w2' (st1.Aa b (qC s (p+Ew (s.drop p)) true o w1 (g++[(p,p+Ew (s.drop p))]) w2')) _ (hr1.set hb0 _) (St.AK _ _ _) (if_pos ⟨rfl,hg⟩).symm
  repeat' ((conv=>whnf);first|exact Dp|(refine BT ?_;intros)|(refine Dq ?_ ?_ ?_;rotate_left)|(refine BU ?_ ?_<;>intro _)|with_reducible refine WF ?_)
  exact fin h rfl
end
end Go.Proofs.Z
namespace Go.Aw
open Go
theorem rp {b:Bool} {p q:Prop} (h:b=false) (k:q):Bg b p q:=by subst h;exact Wj k
theorem rq {b:Bool} {p q:Prop} (h:b=true) (k:p):Bg b p q:=by subst h;exact Wi k
theorem da (h:AU l=34):ED l=.inr 1:=by rw [ED,if_pos h]
theorem c9 {e:Int} (h:AU l≠34) (k:IF true l=.inl e):ED l=.inl (0,e):=by
 rw [ED,if_neg h]
 split
 .rename_i e' U;rw [k] at U;injection U with U;rw [U]
 .rename_i p hp;rw [k] at hp;cases hp
theorem jb (h:AU l≠34) (k:IF true l=.inr (v,n)):ED l=match ED (l.drop n) with| .inl q=>.inl (q.1+n,q.2)| .inr m=>.inr (m+n):=by
 rw [ED,if_neg h]
 split
 .rename_i e' he;rw [k] at he;cases he
 .rename_i p U;rw [k] at U;injection U with U;subst U;rfl
theorem db (h:AU l=34):Jj l=[]:=by rw [Jj,if_pos h]
theorem jc (h:AU l≠34) (k:IF true l=.inr (v,n)):Jj l=if v= -1 then Jj (l.drop n) else v::Jj (l.drop n):=by
 rw [Jj,if_neg h]
 split
 .rename_i e' he;rw [k] at he;cases he
 .rename_i p U;rw [k] at U;injection U with U;subst U;rfl
theorem dc {q:Nat} (h:AU l=34):Jk q l=[]:=by rw [Jk,if_pos h]
theorem jd {q:Nat} (h:AU l≠34) (k:IF true l=.inr (v,n)):Jk q l=if 0<Ew l then (q,q+n)::Jk (q+n) (l.drop n) else Jk (q+n) (l.drop n):=by
 rw [Jk,if_neg h]
 split
 .rename_i e' he;rw [k] at he;cases he
 .rename_i p U;rw [k] at U;injection U with U;subst U;rfl
def aA (q:Nat):Sum (Nat×Int) Nat->Sum (Nat×Int) Nat
 | .inl k=>.inl (q+k.1,k.2)
 | .inr n=>.inr (q+n)
theorem jH {q:Nat} (h:AU l≠34) (k:IF true l=.inr (v,n)):aA q (ED l)=aA (q+n) (ED (l.drop n)):=by
 rw [jb h k]
 cases ED (l.drop n) with
 |inl k=>simp only [aA];congr 2;omega
 |inr m=>simp only [aA];congr 1;omega
structure rL where
 q:Nat
 o:List Int
 g:List (Nat×Nat)
 w1:AB
 w2:AB
 m:St
end Go.Aw
namespace Go.Proofs.Z
open Go Go.Aw
section
variable {st:St} {R:Ay->St->Prop}
theorem cd (hl:s.length<=100000000) (hp:AU (s.drop p)=34) (hb0:st0.box b=none) (hb:st.box b=some (qC s p tx [] w1 [] w2)) (hr:B0 st0 st w1 0 w2 0)
 (h0:∀k e,ED (s.drop (p+1))=.inl (k,e)->∀st',QB st0 st' b s true->R (.BX (IJ (p+1+k:Nat) e)) st')
 (h:∀n,ED (s.drop (p+1))=.inr n->∀w1' w2' st',B0 st0 st' w1' (Jj (s.drop (p+1))).length w2' (2*(Jk (p+1) (s.drop (p+1))).length)->st'.box b=some (qC s (p+1+n) true (Jj (s.drop (p+1))) w1' (Jk (p+1) (s.drop (p+1))) w2')->R (.ret (.int .i64 14)) st'):
 PC 331 [.ptr b 0] st R:=by
 have hpl:p<s.length:=Cf (k:=p) AC
 obtain ⟨e,he⟩:∃e,s[p]? =some e:=⟨s[p],List.getElem?_eq_getElem hpl⟩
 have he':s[(p:Int).toNat]? =some e:=he
 have hv:=DT he
 have hv34:((e.toNat:Nat):Int)=34:=AC
 refine A1 Ad [] Tryz.func331 rfl Do rfl ?_
 refine Ak (Am Ad ?_)
 repeat' ((conv=>whnf);first|exact Dp|(refine BT ?_;intros)|(refine Dq ?_ ?_ ?_;rotate_left)|(refine BU ?_ ?_<;>intro _)|with_reducible refine WF ?_)
 refine Ak (Am Ad ?_)
 repeat' ((conv=>whnf);first|exact Dp|(refine BT ?_;intros)|(refine Dq ?_ ?_ ?_;rotate_left)|(refine BU ?_ ?_<;>intro _)|refine Al hb ?_|with_reducible refine WF ?_)
 refine Ak (Am Ad ?_)
 repeat' ((conv=>whnf);first|exact Dp|(refine BT ?_;intros)|(refine Dq ?_ ?_ ?_;rotate_left)|(refine BU ?_ ?_<;>intro _)|refine Al hb ?_|with_reducible refine WF ?_)
 refine Ak (Am Ad ?_)
 repeat' ((conv=>whnf);first|exact Dp|(refine BT ?_;intros)|(refine Dq ?_ ?_ ?_;rotate_left)|(refine BU ?_ ?_<;>intro _)|refine Al (St.AK _ _ _) ?_|with_reducible refine WF ?_)
 refine YT (st':=st.Aa b (qC s (p+1) true [] w1 [] w2)) (St.JT _ _ _ _).symm ?_
 have hb1:=St.AK st b (qC s (p+1) true [] w1 [] w2)
 have hr1:=hr.set hb0 (qC s (p+1) true [] w1 [] w2)
 generalize st.Aa b (qC s (p+1) true [] w1 [] w2)=st1 at hb1 hr1
 refine Am Ad ?_
 repeat' ((conv=>whnf);first|exact Dp|(refine BT ?_;intros)|(refine Dq ?_ ?_ ?_;rotate_left)|(refine BU ?_ ?_<;>intro _)|refine Al hb1 ?_|with_reducible refine WF ?_)
 refine S0 (α:=rL) (λ_=>[]) [0,3] [] (λx=>x.m) (λx=>x.m.box b=some (qC s x.q true x.o x.w1 x.g x.w2)/\B0 st0 x.m x.w1 x.o.length x.w2 (2*x.g.length)/\x.q<=s.length/\p+1<=x.q/\x.o.length<=x.q/\x.g.length<=x.q/\
  aA (p+1) (ED (s.drop (p+1)))=aA x.q (ED (s.drop x.q))/\Jj (s.drop (p+1))=x.o++Jj (s.drop x.q)/\Jk (p+1) (s.drop (p+1))=x.g++Jk x.q (s.drop x.q))
  (λx=>s.length - x.q) ⟨p+1,[],[],w1,w2,st1⟩ ⟨hb1,hr1,by simp only [];omega,Nat.le_refl _,GT,GT,rfl,rfl,rfl⟩ Yl (St.le_refl _) ?_
 rintro ⟨q,o,g,v1,v2,m⟩ ⟨j1,j2,j3,j4,j5,j6,U,j8,j9⟩
 dsimp only at j1 j2 j3 j4 j5 j6 U j8 j9 |-
 have hx:=Ju (s.drop q)
 have hbt:∀{R:Ay->St->Prop},R (.ret (.int .u8 (Ku (s.drop q)))) m->PC 375 [.ptr b 0,.int .i64 0] m R:=λh=>Ev (k:=0) hl j3 Do j1 h
 by_cases hq:AU (s.drop q)=34
 .have hql:q<s.length:=Cf (k:=q) AC
  rw [da hq] at U
  rw [db hq,List.append_nil] at j8
  rw [dc hq,List.append_nil] at j9
  clear h0
  have hcd:(!Ku (s.drop q)==((e.toNat:Nat):Int))=false:=by rw [show Ku (s.drop q)=((e.toNat:Nat):Int) by omega];simp
  repeat' ((conv=>whnf);first|refine rp hcd ?_|exact Dp|(refine BT ?_;intros)|(refine Dq ?_ ?_ ?_;rotate_left)|(refine BU ?_ ?_<;>intro _)|refine hbt ?_|refine Al j1 ?_|with_reducible refine WF ?_)
  rw [j8,j9] at h
  cases hT:ED (s.drop (p+1)) with
  |inl k=>rw [hT] at U;cases U
  |inr n=>
   rw [hT] at U
   have e7:p+1+n=q+1:=by injection U
   exact fin (h n hT v1 v2 _ (j2.set hb0 _) ((St.AK _ _ _).trans (congrArg some (RO AC)))) rfl
 .have hne:¬Ku (s.drop q)=((e.toNat:Nat):Int):=AC
  have hcd:(!Ku (s.drop q)==((e.toNat:Nat):Int))=true:=by rw [beq_eq_false_iff_ne.2 hne];rfl
  repeat' ((conv=>whnf);first|refine rq hcd ?_|exact Dp|(refine BT ?_;intros)|(refine Dq ?_ ?_ ?_;rotate_left)|(refine BU ?_ ?_<;>intro _)|refine hbt ?_|refine nL hl j3 hb0 j1 j2 AC AC (λe' hE st' hQ=>?_) (λv n hO u1 u2 st' g' hR hB hG=>?_)|with_reducible refine WF ?_)
  .rw [c9 hq hE] at U
   cases hT:ED (s.drop (p+1)) with
   |inl k=>
    rw [hT] at U
    injection U with U
    injection U with e7 e8
    have:=h0 k.1 k.2 hT st' hQ
    rw [show p+1+k.1=q by simpa using e7,e8] at this
    exact fin this rfl
   |inr n=>rw [hT] at U;cases U
  .have hle:=Me hO
   rw [List.length_drop] at hle
   dsimp only at hle
   rw [jH hq hO,List.drop_drop] at U
   rw [jc hq hO,List.drop_drop] at j8
   rw [jd hq hO,List.drop_drop] at j9
   have ho:(Th o v).length<=o.length+1:=by unfold Th;split<;>simp
   have hg:g'.length<=g.length+1:=by rw [hG];split<;>simp
   conv=>whnf
   refine ⟨⟨q+n,Th o v,g',u1,u2,st'⟩,⟨hB,hR,by simp only [];omega,by simp only [];omega,by simp only [];omega,by simp only [];omega,U,?_,?_⟩,by simp only [];omega,Yl,St.le_refl _⟩
   .rw [j8]
    unfold Th
    by_cases hv1:v= -1
    .rw [if_pos hv1,if_pos hv1]
    .rw [if_neg hv1,if_neg hv1];simp
   .rw [j9,hG]
    by_cases hg0:0<Ew (s.drop q)
    .rw [if_pos hg0,if_pos ⟨rfl,hg0⟩];simp
    .rw [if_neg hg0,if_neg (λx=>hg0 x.2)]
end
section
variable {st:St} {R:Ay->St->Prop}
theorem cc (hl:s.length<=100000000) (hp:AU (s.drop p)=39) (hb0:st0.box b=none) (hb:st.box b=some (qC s p tx [] w1 [] w2)) (hr:B0 st0 st w1 0 w2 0)
 (h0:∀k e,Nx (s.drop (p+1))=.inl (k,e)->∀st',QB st0 st' b s false->R (.BX (IJ (p+1+k:Nat) e)) st')
 (h:∀n,Nx (s.drop (p+1))=.inr n->∀o' w1' w2' st',B0 st0 st' w1' (List.length o') w2' 0->st'.box b=some (qC s (p+1+n) false o' w1' [] w2')->R (.ret (.int .i64 13)) st'):
 PC 331 [.ptr b 0] st R:=by
 have hpl:p<s.length:=Cf (k:=p) AC
 obtain ⟨e,he⟩:∃e,s[p]? =some e:=⟨s[p],List.getElem?_eq_getElem hpl⟩
 have he':s[(p:Int).toNat]? =some e:=he
 have hv:=DT he
 have hv34:((e.toNat:Nat):Int)=39:=AC
 refine A1 Ad [] Tryz.func331 rfl Do rfl ?_
 refine Ak (Am Ad ?_)
 repeat' ((conv=>whnf);first|exact Dp|(refine BT ?_;intros)|(refine Dq ?_ ?_ ?_;rotate_left)|(refine BU ?_ ?_<;>intro _)|with_reducible refine WF ?_)
 refine Ak (Am Ad ?_)
 repeat' ((conv=>whnf);first|exact Dp|(refine BT ?_;intros)|(refine Dq ?_ ?_ ?_;rotate_left)|(refine BU ?_ ?_<;>intro _)|refine Al hb ?_|with_reducible refine WF ?_)
 refine Ak (Am Ad ?_)
 repeat' ((conv=>whnf);first|exact Dp|(refine BT ?_;intros)|(refine Dq ?_ ?_ ?_;rotate_left)|(refine BU ?_ ?_<;>intro _)|refine Al hb ?_|with_reducible refine WF ?_)
 refine Ak (Am Ad ?_)
 repeat' ((conv=>whnf);first|exact Dp|(refine BT ?_;intros)|(refine Dq ?_ ?_ ?_;rotate_left)|(refine BU ?_ ?_<;>intro _)|refine Al (St.AK _ _ _) ?_|with_reducible refine WF ?_)
 refine YT (st':=st.Aa b (qC s (p+1) false [] w1 [] w2)) (St.JT _ _ _ _).symm ?_
 have U:=St.AK st b (qC s (p+1) false [] w1 [] w2)
 have hr1:=hr.set hb0 (qC s (p+1) false [] w1 [] w2)
 generalize st.Aa b (qC s (p+1) false [] w1 [] w2)=st1 at U hr1
 have hx:=Ju (s.drop (p+1))
 have hbt:∀{R:Ay->St->Prop},R (.ret (.int .u8 (Ku (s.drop (p+1))))) st1->PC 375 [.ptr b 0,.int .i64 0] st1 R:=λh=>Ev (k:=0) hl AC Do U h
 have hqb:QB st0 st1 b s false:=⟨_,[],w1,[],w2,U,hr1⟩
 by_cases hq:AU (s.drop (p+1))=39
 .have h0:=h0 0 50 (if_pos hq) st1 hqb
  clear h
  refine Am Ad ?_
  repeat' ((conv=>whnf);first|exact Dp|(refine BT ?_;intros)|(refine Dq ?_ ?_ ?_;rotate_left)|(refine BU ?_ ?_<;>intro _)|refine Al U ?_|refine hbt ?_|refine FP ?_|with_reducible refine WF ?_)
  exact fin h0 rfl
 refine Ak (Am Ad ?_)
 repeat' ((conv=>whnf);first|exact Dp|(refine BT ?_;intros)|(refine Dq ?_ ?_ ?_;rotate_left)|(refine BU ?_ ?_<;>intro _)|refine Al U ?_|with_reducible refine WF ?_)
 refine Ak (Am Ad ?_)
 repeat' ((conv=>whnf);first|exact Dp|(refine BT ?_;intros)|(refine Dq ?_ ?_ ?_;rotate_left)|(refine BU ?_ ?_<;>intro _)|refine hbt ?_|with_reducible refine WF ?_)
 refine Ak (Am Ad ?_)
 repeat' ((conv=>whnf);first|exact Dp|(refine BT ?_;intros)|(refine Dq ?_ ?_ ?_;rotate_left)|(refine BU ?_ ?_<;>intro _)|refine nL (st0:=st0) hl AC hb0 U hr1 GT GT (λe' hE st' hQ=>?_) (λv n hO u1 u2 st' g' hR hB hG=>?_)|with_reducible refine WF ?_)
 .exact fin (h0 0 e' (by unfold Nx;rw [if_neg hq,hE]) st' hQ) rfl
 .have hle:=Me hO
  rw [List.length_drop] at hle
  dsimp only at hle
  rw [if_neg (λx=>by cases x.1)] at hG
  subst hG
  have hc:Nx (s.drop (p+1))=if AU (s.drop (p+1+n))=39 then .inr (n+1) else .inl (n,50):=by
   unfold Nx
   rw [if_neg hq,hO]
   show (if AU ((s.drop (p+1)).drop n)=39 then _ else _)=_
   rw [List.drop_drop]
  have hx2:=Ju (s.drop (p+1+n))
  have hbt2:∀{R:Ay->St->Prop},R (.ret (.int .u8 (Ku (s.drop (p+1+n))))) st'->PC 375 [.ptr b 0,.int .i64 0] st' R:=λh=>Ev (k:=0) hl AC Do hB h
  clear hbt U hr1 hqb hb hr
  by_cases hq2:AU (s.drop (p+1+n))=39
  .rw [if_pos hq2] at hc
   have h:=λst'=>h _ hc (Th [] v) u1 u2 st'
   refine Am Ad ?_
   repeat' ((conv=>whnf);first|exact Dp|(refine BT ?_;intros)|(refine Dq ?_ ?_ ?_;rotate_left)|(refine BU ?_ ?_<;>intro _)|refine hbt2 ?_|refine Al hB ?_|with_reducible refine WF ?_)
   exact fin (h _ (hR.set hb0 _) ((St.AK _ _ _).trans (congrArg some (RO AC)))) rfl
  .rw [if_neg hq2] at hc
   have h0:=h0 _ _ hc st' ⟨_,_,_,_,_,hB,hR⟩
   refine Am Ad ?_
   repeat' ((conv=>whnf);first|exact Dp|(refine BT ?_;intros)|(refine Dq ?_ ?_ ?_;rotate_left)|(refine BU ?_ ?_<;>intro _)|refine hbt2 ?_|refine Al hB ?_|refine FP ?_|with_reducible refine WF ?_)
   exact fin h0 rfl
end
end Go.Proofs.Z
namespace Go.Aw
open Go
section
variable {D:List Deferred} {P:Program} {T:List (Nat×Ty)} {I0 I:Mem} {st0 st:St} {w0 w:World} {β:Nat->Option Nat} {env:Env} {a:Act}
theorem QW (hP:R7 P T) (gl:List Nat) (hf:P.funcs[f]? =some fn) {c0 c1 c2 rest:Code} {rid:Nat} {mk df:Oper}
 (hb : fn.body = some (.seq c0 (.seq c1 (.seq c2 (.seq (.region rid #[mk, df] false) rest))))) (hn : (fn.name == "runtime.NumGoroutine") = false) {g : FuncId} {cap : Array Operand} {tf : Nat}
 (h1:mk.op=.makeFunc (.func g) #[] cap) (h2:mk.dst=some tf) (h3:mk.guard=none) (h4:df.op=.defer {callee:=.value (.tmp tf),args:=#[],argTypes:=#[]}) (h5:df.guard=none) (h6:df.dst=none)
 (hg:Plain P g) (hle:Nat.ble args.length fn.ntmps=true)
 (h:AW P c0 (B2 (λenv st=>AW P c1 (B2 (λenv st=>AW P c2 (λae env st=>match ae with
   | .normal=>TQ env cap.toList λvs=>vs.all V.Zw=true/\env.go (some tf) (.func g [] vs) λenv=>AW P rest (XO P T g vs fn R) env st
   | .ret=>Vn T fn R env st
   |_=>False) env st) jD) env st) jD) {tmps:=Jb 0 args,boxes:=[],Bj:=0,sz:=fn.ntmps,gl} st):A5 P f args st R:=by
 refine ⟨?_,fn,hf,ke,hn⟩
 intro I w cargs hs hargs
 refine calls_of_wp_defers hf hb ?_
 refine wp_seq (wp_mono (h [] I st w I _ _ w (Gv gl hs hargs hle)) ?_)
 rintro e a w1 ⟨I1,β1,env1,st1,ae,r1,x1,k1⟩
 cases ae with
 |exit _|goto _|ret|BX _=>exact k1.elim
 |normal=>
 cases e with
 |exit _|goto _|ret|panic _|outgrown=>exact x1.elim
 |normal=>
 refine wp_seq (wp_mono (k1 [] I st w I1 _ _ w1 r1) ?_)
 rintro e a w2 ⟨I2,β2,env2,st2,ae,U,x2,k2⟩
 cases ae with
 |exit _|goto _|ret|BX _=>exact k2.elim
 |normal=>
 cases e with
 |exit _|goto _|ret|panic _|outgrown=>exact x2.elim
 |normal=>
 refine wp_seq (wp_mono (k2 [] I st w I2 _ _ w2 U) ?_)
 clear k2 U x2
 rintro e a w2 ⟨I2,β2,env2,st2,ae,U,x2,k2⟩
 cases ae with
 |exit _|goto _|BX _=>exact k2.elim
 |ret=>
  cases e with
  |normal|exit _|goto _|panic _|outgrown=>exact x2.elim
  |ret=>
   obtain ⟨v,c,g1,g2,g3⟩:=CF (P:=P) hP.t U k2
   show Leaves P fn a.tmps _ a.defers _ w2
   rw [U.f.defers]
   exact ⟨c,g1,I2,st2,.ret v,U.fr,U.s,g2,g3⟩
 |normal=>
 cases e with
 |exit _|goto _|ret|panic _|outgrown=>exact x2.elim
 |normal=>
 refine wp_seq (wp_region_list ?_)
 show wpList P #[mk,df] _ [mk,df] a w2
 unfold wpList
 rw [if_pos (by simp [Region.wanted,h3])]
 left
 obtain ⟨vs,hv,kp,kg⟩:=Fs U.f (show TQ env2 cap.toList _ from k2)
 have hcv:AF I2 (.func g [] vs) (.func (.func g) #[] (cap.map a.eval)):=by
  simp only [AF]
  exact ⟨[],cap.toList.map a.eval,by congr 1;grind,H1,hv⟩
 obtain ⟨env3,r3,k3⟩:=B5 U (AV.of hcv) kg
 have htf:tf<a.tmps.size:=by
  rw [U.f.size]
  exact (GL kg).1 tf rfl
 unfold Oper.wp
 rw [show (execOp a.eval mk).run P w2=.ok (.value (.func (.func g) #[] (cap.map a.eval))) w2 by simp only [execOp,h1,Array.map_empty];rfl]
 show wpList P #[mk,df] _ [df] (a.put mk.dst _) w2
 rw [h2]
 unfold wpList
 rw [if_pos (by simp [Region.wanted,h5])]
 left
 have hev:(a.put (some tf) (.func (.func g) #[] (cap.map a.eval))).eval (.tmp tf)=.func (.func g) #[] (cap.map a.eval):=by
  simp [Act.put,Act.eval,htf]
 unfold Oper.wp
 rw [show (execOp (a.put (some tf) (.func (.func g) #[] (cap.map a.eval))).eval df).run P w2=.ok (.defer {target:=.fn (.func g) (cap.map a.eval),args:=#[]}) w2 by
  simp only [execOp,h4,resolve,hev,Deferred.ofValue,Array.map_empty,Array.empty_append];rfl]
 rw [Oper.upon_defer]
 rw [h6]
 unfold wpList
 show rest.wp P _ _ _
 have r4:=r3.defer {target:=.fn (.func g) (cap.map a.eval),args:=#[]}
 refine wp_mono (k3 _ I st w I2 _ _ w2 r4) ?_
 rintro e a5 w5 ⟨I5,β5,env5,st5,ae,r5,x5,k5⟩
 have hd:=r5.f.defers
 obtain ⟨fn2,p1,p2,p3⟩:=hg
 have hinv:(invoke (.fn (.func g) (cap.map a.eval)) #[]).run P w5=.ok (.enter g (cap.toList.map a.eval).toArray) w5:=by
  have hb:fn2.body.isNone=false:=by cases hb:fn2.body<;>simp_all
  simp only [invoke,callFunc,Sem.run_bind,Sem.run_pure,Result.andThen_ok,run_program,p1]
  rw [p3]
  simp [hb]
  apply Array.ext';simp
 have last:∀{u:FrameMode} {x:Option V},u≠.run->(match x with|none=>u=.returning|some v=>∃c,u=.panicking [{v:=c,recovered:=false}]/\AF I5 v c)->Ij P g vs x st5 (λst'=>Vn T fn R env5 st')->
  Leaves P fn a5.tmps (λe w'=>∃I' st' r,Fr I st w I' st' w'/\Co I' st' w'/\Vl I' e r/\R r st') a5.defers u w5:=by
  intro u x hu hx k
  rw [hd]
  refine leaves_cons hu hinv ((k I5 w5 _ u r5.s (Aj.pG hv kp) hx).mono ?_)
  rintro e u' w6 ⟨⟨v,rfl⟩,hset,I6,st6,q1,q2,q3⟩
  show Leaves P fn a5.tmps _ [] (settle u') w6
  rw [hset]
  have r6:=r5.called q1 q2
  obtain ⟨v,c,g1,g2,g3⟩:=CF (P:=P) hP.t r6 q3
  exact ⟨c,g1,I6,st6,.ret v,r6.fr,r6.s,g2,g3⟩
 cases ae with
 |normal=>
  cases e with
  |normal=>exact last (x:=none) GT rfl k5
  |_=>exact x5.elim
 |ret=>
  cases e with
  |ret=>exact last (x:=none) GT rfl k5
  |_=>exact x5.elim
 |BX v=>
  cases e with
  |panic chain=>
   obtain ⟨c,rfl,hc⟩:=x5
   exact last (x:=some v) GT ⟨c,rfl,hc⟩ k5
  |_=>exact x5.elim
 |exit _=>exact k5.elim
 |goto _=>exact k5.elim
end
section
variable {D:List Deferred} {P:Program} {T:List (Nat×Ty)} {C:FuncId->List V->St->(Ay->St->Prop)->Prop} {I0 I:Mem} {st0 st:St} {w0 w:World} {β:Nat->Option Nat} {env:Env} {a:Act}
def iU {X:Type} (T:List (Nat×Ty)) (C:FuncId->List V->St->(Ay->St->Prop)->Prop) (all:List Oper) (Q:AG->Env->St->Prop) (E:X->List Bool->Env) (S:X->List Bool->St) (J:X->List Bool->Prop) (x:X) (p:List Bool×Nat):Prop:=
 match all[p.2]? with
 |some o=>Bb all o (E x p.1) (Fl T C o (E x p.1) (S x p.1) (λv env st=>env.go o.dst v λenv=>∃y,J y (p.1.set p.2 true)/\(E y (p.1.set p.2 true)).ES env/\St.le (S y (p.1.set p.2 true)) st) Q)
   ((E x p.1).go o.dst (.Bu []) λenv=>∃y,J y (p.1.set p.2 true)/\(E y (p.1.set p.2 true)).ES env/\St.le (S y (p.1.set p.2 true)) (S x p.1))
 |none=>True
theorem WV (hT:F2 P T) (hC:∀f args st R,C f args st R->Ct P f args st R/\Plain P f) {all:List Oper} {E:X->List Bool->Env} {S:X->List Bool->St} {J:X->List Bool->Prop} {PL:List (List Bool×Nat)}
 (hc:G8 all PL=true) (step:∀p ∈ PL,∀x,J x p.1->iU T C all Q E S J x p) (fin:∀x,J x (List.replicate all.length true)->Q .normal (E x (List.replicate all.length true)) (S x (List.replicate all.length true))):
 ∀(fuel:Nat) (bs:List Bool) (listed:Array Bool) (I:Mem) (β:Nat->Option Nat) (a:Act) (w:World),bs.length=all.length->listed.toList=bs->bs.count false<=fuel->
  (∀j,j<all.length->Bt all bs j=true->(bs,j) ∈ PL)->(bs=List.replicate all.length true\/∃j,j<all.length/\Bt all bs j=true)->
  ∀x,J x bs->Rel D I0 st0 w0 I β (E x bs) (S x bs) a w->wpAny P .any all.toArray (B3 D I0 st0 w0 Q) fuel listed a w:=by
 have full:∀{bs:List Bool},bs.length=all.length->bs.count false=0->bs=List.replicate all.length true:=λ{bs} hb h0=>by
  rw [List.eq_replicate_iff]
  grind
 have noready:∀{j:Nat},Bt all (List.replicate all.length true) j=true->j<all.length->False:=λ{j} h U=>by
  unfold Bt at h
  simp_all
 simp only [G8,Bool.and_eq_true,List.all_eq_true] at hc
 intro fuel
 induction fuel with
 |zero=>
  intro bs listed I β a w hb hl hf hp hr x U h
  have:=full hb AC
  subst this
  refine ⟨?_,⟨I,β,_,_,.normal,h,trivial,fin x U⟩⟩
  rw [List.eq_nil_iff_forall_not_mem]
  intro j U
  obtain ⟨h1,h2⟩:=(D4 hl hb).1 U
  grind
 |succ fuel ih=>
  intro bs listed I β a w hb hl hf hp hr x U h
  refine ⟨λh0=>?_,λi hi=>?_⟩
  .rcases hr with rfl|⟨j,h1,h2⟩
   .exact ⟨I,β,_,_,.normal,h,trivial,fin x U⟩
   .have:=(D4 hl hb).2 ⟨h1,h2⟩
    simp_all
  .obtain ⟨h1,h2⟩:=(D4 hl hb).1 hi
   have hm:=hp i h1 h2
   have hs:=step _ hm x U
   unfold iU at hs
   have ho:all[i]? =some all[i]:=List.getElem?_eq_getElem h1
   simp only [ho] at hs
   obtain ⟨⟨c1,c2⟩,c3⟩:=hc.2 _ hm
   refine Ln hT hC (Q:=Q) ho (λ{I β env st a w} h k=>?_) h hs (K:=λenv st=>∃y,J y (bs.set i true)/\(E y (bs.set i true)).ES env/\St.le (S y (bs.set i true)) st)
   .obtain ⟨y,kj,k⟩:=k
    have hbi:i<bs.length:=AC
    refine ih (bs.set i true) _ I _ a w ke (by simp [hl]) ?_ (λj U hr=>?_) ?_ y kj ((h.G4 k.2).Jd (Env.Jf k.1))
    .have:=List.count_set (a:=true) (i:=i) (l:=bs) (b:=false) hbi
     unfold Bt at h2
     grind
    .grind
    grind
theorem jU (hP:R7 P T) (hC:∀f args st R,C f args st R->Ct P f args st R/\Plain P f) {id:Nat} {ops:Array Oper} (E:X->List Bool->Env) (S:X->List Bool->St) (J:X->List Bool->Prop) (x0:X) (PL:List (List Bool×Nat))
 (hc:G8 ops.toList PL=true) (j0:J x0 (List.replicate ops.toList.length false)) (h0:(E x0 (List.replicate ops.toList.length false)).ES env) (s0:St.le (S x0 (List.replicate ops.toList.length false)) st) (step:∀p ∈ PL,∀x,J x p.1->iU T C ops.toList Q E S J x p)
 (fin:∀x,J x (List.replicate ops.toList.length true)->Q .normal (E x (List.replicate ops.toList.length true)) (S x (List.replicate ops.toList.length true))):AW P (.region id ops true) Q env st:=λD I0 st0 w0 I β a w h=>
 wp_region_any hP.m (by
  have U:=hc
  simp only [G8,Bool.and_eq_true,List.all_eq_true] at U
  have:=WV (D:=D) hP.t hC hc step fin ops.size (List.replicate ops.toList.length false) (Array.replicate ops.size false) I _ a _ GT GT GT (λj hj hr=>?_) ?_ x0 j0 (((h.It (Fp.drew w)).G4 s0).Jd (Env.Jf h0))
  .simp_all
  .grind
  simp_all)
end
theorem Ba {st:St} {c:Nat} (h:b≠c):(st.Aa b cs).box c=st.box c:=by simp [St.Aa,Ne.symm h]
theorem D2 {st:St} {c:Nat} (h:(st.Aa b cs).fresh c):b≠c/\st.fresh c:=by
 by_cases e:b=c
 .subst e
  have:=h.1
  rw [St.AK] at this
  cases this
 .refine ⟨e,?_,h.2⟩
  have:=h.1
  rw [Ba e] at this
  exact this
theorem Si {st:St} {K:Nat->Prop} (h:∀b,st.fresh b->K b):∀b,st.fresh b->K b:=h
end Go.Aw
namespace Go.Proofs.Z
open Go Go.Aw
section
variable {st:St} {R:Ay->St->Prop}
attribute [local irreducible] Go.Aw.Ah
theorem Vg {b1 b2 b3:Nat} {U:St->Prop} (h:U st):Ij Tryz.prog 330 [.ptr b1 0,.ptr b2 0,.ptr b3 0] none st U:=by
 refine EX Ad [] Tryz.func330 rfl rfl rfl rfl rfl rfl rfl rfl (λenv0 he=>?_)
 subst he
 conv=>whnf
 refine Ak (Am Ad ?_)
 repeat' ((conv=>whnf);first|exact Dp|(refine BT ?_;intros)|(refine Dq ?_ ?_ ?_;rotate_left)|(refine BU ?_ ?_<;>intro _)|with_reducible refine WF ?_)
 all_goals exact h
theorem NM {b1 U b3 b4 q:Nat} {e k0 e0:Int} {RS:St->Prop} (h1:st.box b1=some [.ptr b4 0]) (h4:st.box b4=some (qC s q tx o w1 g w2)) (h2:st.box U=some [.int .i64 k0]) (h3:st.box b3=some [.int .i64 e0])
 (d2:b4≠U) (d3:b4≠b3) (d5:U≠b3) (h:RS (((st.Aa b4 (qC s p tx o w1 g w2)).Aa U [.int .i64 0]).Aa b3 [.int .i64 e])):Ij Tryz.prog 330 [.ptr b1 0,.ptr U 0,.ptr b3 0] (some (IJ p e)) st RS:=by
 refine EX Ad [] Tryz.func330 rfl rfl rfl rfl rfl rfl rfl rfl (λenv0 he=>?_)
 subst he
 conv=>whnf
 refine Ak (Am Ad ?_)
 repeat' ((conv=>whnf);first|exact Dp|(refine BT ?_;intros)|(refine Dq ?_ ?_ ?_;rotate_left)|(refine BU ?_ ?_<;>intro _)|with_reducible refine WF ?_)
 refine Ak (Am Ad ?_)
 repeat' ((conv=>whnf);first|exact Dp|(refine BT ?_;intros)|(refine Dq ?_ ?_ ?_;rotate_left)|(refine BU ?_ ?_<;>intro _)|with_reducible refine WF ?_)
 refine Ak (Am Ad ?_)
 repeat' ((conv=>whnf);first|exact Dp|(refine BT ?_;intros)|(refine Dq ?_ ?_ ?_;rotate_left)|(refine BU ?_ ?_<;>intro _)|with_reducible refine WF ?_)
 have k2:∀cs,(st.Aa b4 cs).box U=some [.int .i64 k0]:=λcs=>(Ba d2).trans h2
 have k3:∀cs cs',((st.Aa b4 cs).Aa U cs').box b3=some [.int .i64 e0]:=λcs cs'=>(Ba d5).trans ((Ba d3).trans h3)
 refine Am Ad ?_
 repeat' ((conv=>whnf);first|refine Ae [(0,true),(1,true),(2,true),(3,true),(4,true),(5,true),(6,true),(7,false),(8,false),(9,false)] [] GE ?_|exact Dp|(refine BT ?_;intros)|(refine Dq ?_ ?_ ?_;rotate_left)|(refine BU ?_ ?_<;>intro _)|refine Al h1 ?_|refine Al h4 ?_|refine Al (k2 _) ?_|refine Al (k3 _ _) ?_|with_reducible refine WF ?_)
 all_goals exact h
theorem nG (hl:s.length<=100000000) (U:AU (s.drop p)=34\/AU (s.drop p)=39) (hb0:st0.box b=none) (hb:st.box b=some (qC s p tx [] w1 [] w2)) (hr:B0 st0 st w1 0 w2 0)
 (h0:∀(q:Nat) e tx',CA s p=(0,(q:Int),e)->∀st',QB st0 st' b s tx'->R (.BX (IJ q e)) st')
 (h:∀k (q:Nat),CA s p=(k,(q:Int),0)->∀tx' o u1 g u2 st',B0 st0 st' u1 (List.length o) u2 (2*List.length g)->st'.box b=some (qC s q tx' o u1 g u2)->R (.ret (.int .i64 k)) st'):PC 331 [.ptr b 0] st R:=by
 rcases U with U|U
 .refine cd hl U hb0 hb hr (λk e hT st' hQ=>h0 _ e true ?_ st' hQ) (λn hT u1 u2 st' hR hB=>h 14 _ ?_ _ _ _ _ _ st' hR hB)
  .unfold CA;rw [if_pos U,hT]
  .unfold CA;rw [if_pos U,hT]
 .refine cc hl U hb0 hb hr (λk e hT st' hQ=>h0 _ e false ?_ st' hQ) (λn hT o' u1 u2 st' hR hB=>h 13 _ ?_ _ _ _ _ _ st' hR hB)
  .unfold CA;rw [if_neg AC,if_pos U,hT]
  .unfold CA;rw [if_neg AC,if_pos U,hT]
noncomputable def ma:List Oper:=match Tryz.f270.body with|some (.seq _ (.seq _ (.seq _ (.seq _ (.seq (.region _ ops _) _)))))=>ops.toList|_=>[]
noncomputable def nN (b1 b2 b3 U:Nat) (K:Int) (bs:List Bool):Env:=
 {tmps:=F8 [(4,.ptr b1 0),(5,.ptr b2 0),(6,.ptr b3 0)] ma [.ptr U 0,.ptr U 0,.int .i64 K,.BP,.BP,.BP] bs,boxes:=[],Bj:=1,sz:=39,gl:=[4,5,6,10]}
def qR (U b2 b3 b4:Nat) (K:Int) (m:St) (bs:List Bool):St:=
 match bs[3]?,bs[4]?,bs[5]? with
 |_,_,some true=>((m.Aa U [.ptr b4 0]).Aa b2 [.int .i64 K]).Aa b3 [.int .i64 0]
 |_,some true,_=>(m.Aa U [.ptr b4 0]).Aa b2 [.int .i64 K]
 |some true,_,_=>m.Aa U [.ptr b4 0]
 |_,_,_=>m
def nO (s0 A:St) (b4:Nat) (s:List UInt8) (Q U:Int) (x:rL×Bool) (bs:List Bool):Prop:=match bs[2]? with
 |some true=>B0 s0 x.1.m x.1.w1 x.1.o.length x.1.w2 (2*x.1.g.length)/\x.1.m.box b4=some (qC s x.1.q x.2 x.1.o x.1.w1 x.1.g x.1.w2)/\(x.1.q:Int)=Q/\U=0
 |_=>x.1.m=A
def ig:List (List Bool×Nat):=[([false,false,false,false,false,false],0),([false,false,false,false,false,false],1),([true,false,false,false,false,false],1),([false,true,false,false,false,false],0),([false,true,false,false,false,false],2),([true,true,false,false,false,false],2),([false,true,true,false,false,false],0),([true,true,true,false,false,false],3),([true,true,true,true,false,false],4),([true,true,true,true,true,false],5)]
noncomputable def ij:Code:=match Tryz.f270.body with|some (.seq _ (.seq _ (.seq _ (.seq _ r))))=>r|_=>.skip
theorem cC {s0:St} {b1 b2 b3 U:Nat} (hl:s.length<=100000000) (hq:AU (s.drop pos)=34\/AU (s.drop pos)=39) (hs0:s0.box U=none) (hsl:st.le s0) (n12:b1≠b2) (n13:b1≠b3) (n14:b1≠U) (n23:b2≠b3) (n24:b2≠U) (n34:b3≠U) (k1:st.box b1=none) (k2:st.box b2=none) (k3:st.box b3=none) (k4:st.box U=none)
 (m1:s0.box b1=some [.ptr U 0]) (m2:s0.box b2=some [.int .i64 0]) (m3:s0.box b3=some [.int .i64 0])
 (h:∀U (q:Nat) tx o w1 g w2 st',st.le st'->st'.box U=some (qC s q tx o w1 g w2)->(q:Int)=(CA s pos).2.1->R (.ret (.Bu [.ptr U 0,.int .i64 (CA s pos).1,.int .i64 (CA s pos).2.2])) st'):
 AW Tryz.prog ij (XO Tryz.prog qd 330 [.ptr b1 0,.ptr b2 0,.ptr b3 0] Tryz.f270 (Go.Aw.Ends R)) (nN b1 b2 b3 U (CA s pos).1 (List.replicate 6 false)) (s0.Aa U (qC s pos false [] .full [] .full)):=by
 have a1:∀C,(s0.Aa U C).box b1=some [.ptr U 0]:=λC=>(Ba n14.symm).trans m1
 have hr0:B0 s0 (s0.Aa U (qC s pos false [] .full [] .full)) .full 0 .full 0:=⟨trivial,trivial,trivial,trivial,trivial,St.An (St.le_refl _) hs0 _⟩
 refine Ak (jU Ad (B8 _) (λ_ bs=>nN b1 b2 b3 U (CA s pos).1 bs) (λx bs=>qR b1 b2 b3 U (CA s pos).1 x.1.m bs) (λx bs=>nO s0 (s0.Aa U (qC s pos false [] .full [] .full)) U s (CA s pos).2.1 (CA s pos).2.2 x bs) (⟨pos,[],[],.full,.full,s0.Aa U (qC s pos false [] .full [] .full)⟩,false) ig GE rfl Yl (St.le_refl _) ?_ ?_)
 .unfold ig
  repeat' (first|refine List.forall_mem_cons.2 ⟨?_,?_⟩|exact List.forall_mem_nil _)
  all_goals rintro ⟨⟨q,o,g,w1,w2,m⟩,tx⟩ hj
  all_goals dsimp only [nO,List.getElem?_cons_zero,List.getElem?_cons_succ] at hj
  all_goals try subst hj
  .skip
   repeat' ((conv=>whnf);first|exact Dp|(refine BT ?_;intros)|(refine Dq ?_ ?_ ?_;rotate_left)|(refine BU ?_ ?_<;>intro _)|refine Al (a1 _) ?_|with_reducible refine WF ?_)
   all_goals conv=>whnf
   all_goals exact ⟨(⟨q,o,g,w1,w2,_⟩,tx),rfl,Yl,St.le_refl _⟩
  .skip
   repeat' ((conv=>whnf);first|exact Dp|(refine BT ?_;intros)|(refine Dq ?_ ?_ ?_;rotate_left)|(refine BU ?_ ?_<;>intro _)|refine Al (a1 _) ?_|with_reducible refine WF ?_)
   all_goals conv=>whnf
   all_goals exact ⟨(⟨q,o,g,w1,w2,_⟩,tx),rfl,Yl,St.le_refl _⟩
  .skip
   repeat' ((conv=>whnf);first|exact Dp|(refine BT ?_;intros)|(refine Dq ?_ ?_ ?_;rotate_left)|(refine BU ?_ ?_<;>intro _)|refine Al (a1 _) ?_|with_reducible refine WF ?_)
   all_goals conv=>whnf
   all_goals exact ⟨(⟨q,o,g,w1,w2,_⟩,tx),rfl,Yl,St.le_refl _⟩
  .skip
   repeat' ((conv=>whnf);first|exact Dp|(refine BT ?_;intros)|(refine Dq ?_ ?_ ?_;rotate_left)|(refine BU ?_ ?_<;>intro _)|refine Al (a1 _) ?_|with_reducible refine WF ?_)
   all_goals conv=>whnf
   all_goals exact ⟨(⟨q,o,g,w1,w2,_⟩,tx),rfl,Yl,St.le_refl _⟩
  .skip
   repeat' ((conv=>whnf);first|exact Dp|(refine BT ?_;intros)|(refine Dq ?_ ?_ ?_;rotate_left)|(refine BU ?_ ?_<;>intro _)|refine nG hl hq hs0 (St.AK ..) hr0 (λq' e' tx' hz st' hQ=>?_) (λk q' hz tx' o' u1 g' u2 st' hR hB=>?_)|refine Al (a1 _) ?_|with_reducible refine WF ?_)
   .obtain ⟨q1,o1,u1,g1,u2,hB,hR⟩:=hQ
    conv=>whnf
    refine NM (hR.le.1 _ _ m1) hB (hR.le.1 _ _ m2) (hR.le.1 _ _ m3) n24.symm n34.symm n23 ?_
    have c1:(((st'.Aa U (qC s q' tx' o1 u1 g1 u2)).Aa b2 [.int .i64 0]).Aa b3 [.int .i64 e']).box b1=some [.ptr U 0]:=(Ba n13.symm).trans ((Ba n12.symm).trans ((Ba n14.symm).trans (hR.le.1 _ _ m1)))
    have c2:(((st'.Aa U (qC s q' tx' o1 u1 g1 u2)).Aa b2 [.int .i64 0]).Aa b3 [.int .i64 e']).box b2=some [.int .i64 0]:=(Ba n23.symm).trans (St.AK _ _ _)
    have c3:(((st'.Aa U (qC s q' tx' o1 u1 g1 u2)).Aa b2 [.int .i64 0]).Aa b3 [.int .i64 e']).box b3=some [.int .i64 e']:=St.AK _ _ _
    have c4:(((st'.Aa U (qC s q' tx' o1 u1 g1 u2)).Aa b2 [.int .i64 0]).Aa b3 [.int .i64 e']).box U=some (qC s q' tx' o1 u1 g1 u2):=(Ba n34).trans ((Ba n24).trans (St.AK _ _ _))
    have c5:(CA s pos).1=0:=by rw [hz]
    have c6:(CA s pos).2.1=q':=by rw [hz]
    have c7:(CA s pos).2.2=e':=by rw [hz]
    have gg:=λle=>h U q' tx' o1 u1 g1 u2 _ le c4 c6.symm
    rw [c5,c7] at gg
    clear h hz c4 c5 c6 c7
    repeat' ((conv=>whnf);first|exact Dp|(refine BT ?_;intros)|(refine Dq ?_ ?_ ?_;rotate_left)|(refine BU ?_ ?_<;>intro _)|refine Al c1 ?_|refine Al c2 ?_|refine Al c3 ?_|with_reducible refine WF ?_)
    exact fin (gg (St.An (St.An (St.An (St.le_trans hsl hR.le) k4 _) k2 _) k3 _)) rfl
   .have hz1:(CA s pos).1=k:=by rw [hz]
    have hz2:(CA s pos).2.1=q':=by rw [hz]
    have hz3:(CA s pos).2.2=0:=by rw [hz]
    conv=>whnf
    rw [hz1,hz2]
    exact ⟨(⟨q',o',g',u1,u2,st'⟩,tx'),⟨hR,hB,rfl,hz3⟩,Yl,St.le_refl _⟩
  .skip
   repeat' ((conv=>whnf);first|exact Dp|(refine BT ?_;intros)|(refine Dq ?_ ?_ ?_;rotate_left)|(refine BU ?_ ?_<;>intro _)|refine nG hl hq hs0 (St.AK ..) hr0 (λq' e' tx' hz st' hQ=>?_) (λk q' hz tx' o' u1 g' u2 st' hR hB=>?_)|refine Al (a1 _) ?_|with_reducible refine WF ?_)
   .obtain ⟨q1,o1,u1,g1,u2,hB,hR⟩:=hQ
    conv=>whnf
    refine NM (hR.le.1 _ _ m1) hB (hR.le.1 _ _ m2) (hR.le.1 _ _ m3) n24.symm n34.symm n23 ?_
    have c1:(((st'.Aa U (qC s q' tx' o1 u1 g1 u2)).Aa b2 [.int .i64 0]).Aa b3 [.int .i64 e']).box b1=some [.ptr U 0]:=(Ba n13.symm).trans ((Ba n12.symm).trans ((Ba n14.symm).trans (hR.le.1 _ _ m1)))
    have c2:(((st'.Aa U (qC s q' tx' o1 u1 g1 u2)).Aa b2 [.int .i64 0]).Aa b3 [.int .i64 e']).box b2=some [.int .i64 0]:=(Ba n23.symm).trans (St.AK _ _ _)
    have c3:(((st'.Aa U (qC s q' tx' o1 u1 g1 u2)).Aa b2 [.int .i64 0]).Aa b3 [.int .i64 e']).box b3=some [.int .i64 e']:=St.AK _ _ _
    have c4:(((st'.Aa U (qC s q' tx' o1 u1 g1 u2)).Aa b2 [.int .i64 0]).Aa b3 [.int .i64 e']).box U=some (qC s q' tx' o1 u1 g1 u2):=(Ba n34).trans ((Ba n24).trans (St.AK _ _ _))
    have c5:(CA s pos).1=0:=by rw [hz]
    have c6:(CA s pos).2.1=q':=by rw [hz]
    have c7:(CA s pos).2.2=e':=by rw [hz]
    have gg:=λle=>h U q' tx' o1 u1 g1 u2 _ le c4 c6.symm
    rw [c5,c7] at gg
    clear h hz c4 c5 c6 c7
    repeat' ((conv=>whnf);first|exact Dp|(refine BT ?_;intros)|(refine Dq ?_ ?_ ?_;rotate_left)|(refine BU ?_ ?_<;>intro _)|refine Al c1 ?_|refine Al c2 ?_|refine Al c3 ?_|with_reducible refine WF ?_)
    exact fin (gg (St.An (St.An (St.An (St.le_trans hsl hR.le) k4 _) k2 _) k3 _)) rfl
   .have hz1:(CA s pos).1=k:=by rw [hz]
    have hz2:(CA s pos).2.1=q':=by rw [hz]
    have hz3:(CA s pos).2.2=0:=by rw [hz]
    conv=>whnf
    rw [hz1,hz2]
    exact ⟨(⟨q',o',g',u1,u2,st'⟩,tx'),⟨hR,hB,rfl,hz3⟩,Yl,St.le_refl _⟩
  .have b1':m.box b1=some [.ptr U 0]:=hj.1.le.1 _ _ m1
   repeat' ((conv=>whnf);first|exact Dp|(refine BT ?_;intros)|(refine Dq ?_ ?_ ?_;rotate_left)|(refine BU ?_ ?_<;>intro _)|refine Al b1' ?_|with_reducible refine WF ?_)
   all_goals conv=>whnf
   all_goals exact ⟨(⟨q,o,g,w1,w2,m⟩,tx),hj,Yl,St.le_refl _⟩
  .have b1':m.box b1=some [.ptr U 0]:=hj.1.le.1 _ _ m1
   repeat' ((conv=>whnf);first|exact Dp|(refine BT ?_;intros)|(refine Dq ?_ ?_ ?_;rotate_left)|(refine BU ?_ ?_<;>intro _)|refine Al b1' ?_|with_reducible refine WF ?_)
   all_goals conv=>whnf
   all_goals exact ⟨(⟨q,o,g,w1,w2,m⟩,tx),hj,Yl,St.le_refl _⟩
  .have b2':(m.Aa b1 [.ptr U 0]).box b2=some [.int .i64 0]:=(Ba n12).trans (hj.1.le.1 _ _ m2)
   repeat' ((conv=>whnf);first|exact Dp|(refine BT ?_;intros)|(refine Dq ?_ ?_ ?_;rotate_left)|(refine BU ?_ ?_<;>intro _)|refine Al b2' ?_|with_reducible refine WF ?_)
   all_goals conv=>whnf
   all_goals exact ⟨(⟨q,o,g,w1,w2,m⟩,tx),hj,Yl,St.le_refl _⟩
  .have b3':((m.Aa b1 [.ptr U 0]).Aa b2 [.int .i64 (CA s pos).1]).box b3=some [.int .i64 0]:=(Ba n23).trans ((Ba n13).trans (hj.1.le.1 _ _ m3))
   repeat' ((conv=>whnf);first|exact Dp|(refine BT ?_;intros)|(refine Dq ?_ ?_ ?_;rotate_left)|(refine BU ?_ ?_<;>intro _)|refine Al b3' ?_|with_reducible refine WF ?_)
   all_goals conv=>whnf
   all_goals exact ⟨(⟨q,o,g,w1,w2,m⟩,tx),hj,Yl,St.le_refl _⟩
 .rintro ⟨⟨q,o,g,w1,w2,m⟩,tx⟩ ⟨j1,j2,j3,j0⟩
  dsimp only at j1 j2 j3 j0
  have c1:(((m.Aa b1 [.ptr U 0]).Aa b2 [.int .i64 (CA s pos).1]).Aa b3 [.int .i64 0]).box b1=some [.ptr U 0]:=(Ba n13.symm).trans ((Ba n12.symm).trans (St.AK _ _ _))
  have c2:(((m.Aa b1 [.ptr U 0]).Aa b2 [.int .i64 (CA s pos).1]).Aa b3 [.int .i64 0]).box b2=some [.int .i64 (CA s pos).1]:=(Ba n23.symm).trans (St.AK _ _ _)
  have c3:(((m.Aa b1 [.ptr U 0]).Aa b2 [.int .i64 (CA s pos).1]).Aa b3 [.int .i64 0]).box b3=some [.int .i64 0]:=St.AK _ _ _
  have c4:(((m.Aa b1 [.ptr U 0]).Aa b2 [.int .i64 (CA s pos).1]).Aa b3 [.int .i64 0]).box U=some (qC s q tx o w1 g w2):=(Ba n34).trans ((Ba n24).trans ((Ba n14).trans j2))
  have gg:=λle=>h U q tx o w1 g w2 _ le c4 j3
  rw [j0] at gg
  clear h
  show AW _ _ _ _ _
  refine Am Ad (Vg ?_)
  repeat' ((conv=>whnf);first|exact Dp|(refine BT ?_;intros)|(refine Dq ?_ ?_ ?_;rotate_left)|(refine BU ?_ ?_<;>intro _)|refine Al c1 ?_|refine Al c2 ?_|refine Al c3 ?_|with_reducible refine WF ?_)
  exact fin (gg (St.An (St.An (St.An (St.le_trans hsl j1.le) k1 _) k2 _) k3 _)) rfl
theorem pJ (hl:s.length<=100000000) (hp:pos<s.length)
 (h:∀U (q:Nat) tx o w1 g w2 st',st.le st'->st'.box U=some (qC s q tx o w1 g w2)->(q:Int)=(CA s pos).2.1->R (.ret (.Bu [.ptr U 0,.int .i64 (CA s pos).1,.int .i64 (CA s pos).2.2])) st'):PC 270 [.str s,.int .i64 pos] st R:=by
 obtain ⟨e,he⟩:∃e,s[pos]? =some e:=⟨s[pos],List.getElem?_eq_getElem hp⟩
 have he':s[(pos:Int).toNat]? =some e:=he
 have hv:=DT he
 refine A5.ends (QW Ad [4,5,6,10] Tryz.func270 rfl Do rfl rfl rfl rfl rfl rfl ⟨_,Tryz.func330,rfl,Do⟩ rfl ?_)
 refine Am Ad ?_
 repeat' ((conv=>whnf);first|exact Dp|(refine BT ?_;intros)|(refine Dq ?_ ?_ ?_;rotate_left)|(refine BU ?_ ?_<;>intro _)|refine Si (λb3 f3=>?_)|with_reducible refine WF ?_)
 rename_i b1 f1 b2 f2
 obtain ⟨n12,f2a⟩:=D2 f2
 obtain ⟨n23,f3a⟩:=D2 f3
 obtain ⟨n13,f3b⟩:=D2 f3a
 refine Am Ad ?_
 have kk:∀U cs,((((st.Aa b1 [V.Fk]).Aa b2 [V.int .i64 0]).Aa b3 [V.int .i64 0]).fresh U)->((((st.Aa b1 [V.Fk]).Aa b2 [V.int .i64 0]).Aa b3 [V.int .i64 0]).Aa U cs).box b1=some [V.Fk]:=λU cs f4=>by
  obtain ⟨m3,f4a⟩:=D2 f4
  obtain ⟨m2,f4b⟩:=D2 f4a
  obtain ⟨m1,f4c⟩:=D2 f4b
  simp [St.Aa,m1,n12,n13]
 repeat' ((conv=>whnf);first|exact Dp|(refine BT ?_;intros)|(refine Dq ?_ ?_ ?_;rotate_left)|(refine BU ?_ ?_<;>intro _)|refine Si (λU f4=>?_)|refine Al (kk _ _ f4) ?_|with_reducible refine WF ?_)
 obtain ⟨n34,f4a⟩:=D2 f4
 obtain ⟨n24,f4b⟩:=D2 f4a
 obtain ⟨n14,f4c⟩:=D2 f4b
 obtain ⟨s0,hs0,hsl,m1,m2,m3,hst⟩:∃s0:St,s0.box U=none/\st.le s0/\s0.box b1=some [.ptr U 0]/\s0.box b2=some [.int .i64 0]/\s0.box b3=some [.int .i64 0]/\
  s0.Aa U (qC s pos false [] .full [] .full)=(((((st.Aa b1 [V.Fk]).Aa b2 [V.int .i64 0]).Aa b3 [V.int .i64 0]).Aa U (qC s pos false [] .full [] .full)).Aa b1 [.ptr U 0]):=by
  refine ⟨((st.Aa b1 [.ptr U 0]).Aa b2 [.int .i64 0]).Aa b3 [.int .i64 0],?_,St.An (St.An (St.An (St.le_refl _) f1.1 _) f2a.1 _) f3b.1 _,?_,?_,?_,?_⟩
  .simp [St.Aa,n14.symm,n24.symm,n34.symm];exact f4c.1
  .simp [St.Aa,n12,n13]
  .simp [St.Aa,n23]
  .simp [St.Aa]
  .simp only [St.Aa,St.mk.injEq,and_true]
   funext x
   by_cases x1:x=b1
   .subst x1;simp [n12,n13,n14]
   .by_cases x4:x=U
    .subst x4;simp [x1]
    .simp [x1,x4]
 refine YT (st':=s0.Aa U (qC s pos false [] .full [] .full)) hst ?_
 clear kk f4 f4a f4b f3 f3a f2 hst
 have a1:∀C,(s0.Aa U C).box b1=some [.ptr U 0]:=λC=>(Ba n14.symm).trans m1
 by_cases hq:AU (s.drop pos)=34\/AU (s.drop pos)=39
 .refine Am Ad ?_
  repeat' ((conv=>whnf);first|exact Dp|(refine BT ?_;intros)|(refine Dq ?_ ?_ ?_;rotate_left)|(refine BU ?_ ?_<;>intro _)|with_reducible refine WF ?_)
  all_goals conv=>whnf
  all_goals refine ⟨rfl,AP rfl ?_⟩
  all_goals exact jG (cC hl hq hs0 (St.le_trans hsl (St.le_refl _)) n12 n13 n14 n23 n24 n34 f1.1 f2a.1 f3b.1 f4c.1 m1 m2 m3 h) Yl (St.le_refl _)
 .have hz:CA s pos=(0,0,0):=by unfold CA;rw [if_neg (λx=>hq (.inl x)),if_neg (λx=>hq (.inr x))]
  rw [hz] at h
  have a1':∀C C',((s0.Aa U C).Aa U C').box b1=some [.ptr U 0]:=λC C'=>(Ba n14.symm).trans (a1 C)
  have a2':∀C C' D,(((s0.Aa U C).Aa U C').Aa b1 D).box b2=some [.int .i64 0]:=λC C' D=>(Ba n12).trans ((Ba n24.symm).trans ((Ba n24.symm).trans m2))
  have a3':∀C C' D F,((((s0.Aa U C).Aa U C').Aa b1 D).Aa b2 F).box b3=some [.int .i64 0]:=λC C' D F=>(Ba n23).trans ((Ba n13).trans ((Ba n34.symm).trans ((Ba n34.symm).trans m3)))
  have e3:∀C C' D F G,(((((s0.Aa U C).Aa U C').Aa b1 D).Aa b2 F).Aa b3 G).box b3=some G:=λC C' D F G=>St.AK _ _ _
  have e2:∀C C' D F G,(((((s0.Aa U C).Aa U C').Aa b1 D).Aa b2 F).Aa b3 G).box b2=some F:=λC C' D F G=>(Ba n23.symm).trans (St.AK _ _ _)
  have e1:∀C C' D F G,(((((s0.Aa U C).Aa U C').Aa b1 D).Aa b2 F).Aa b3 G).box b1=some D:=λC C' D F G=>(Ba n13.symm).trans ((Ba n12.symm).trans (St.AK _ _ _))
  have e4:∀C C' D F G,(((((s0.Aa U C).Aa U C').Aa b1 D).Aa b2 F).Aa b3 G).box U=some C':=λC C' D F G=>(Ba n34).trans ((Ba n24).trans ((Ba n14).trans (St.AK _ _ _)))
  refine Am Ad ?_
  repeat' ((conv=>whnf);first|exact Dp|(refine BT ?_;intros)|(refine Dq ?_ ?_ ?_;rotate_left)|(refine BU ?_ ?_<;>intro _)|refine Al (a1 _) ?_|refine Al (St.AK _ _ _) ?_|refine Al (a1' _ _) ?_|refine Al (a2' _ _ _) ?_|refine Al (a3' _ _ _ _) ?_|refine Al (e1 _ _ _ _ _) ?_|refine Al (e2 _ _ _ _ _) ?_|refine Al (e3 _ _ _ _ _) ?_|with_reducible refine WF ?_)
  exact fin (h U 0 false [] .full [] .full _ (St.An (St.An (St.An (St.An (St.An hsl f4c.1 _) f4c.1 _) f1.1 _) f2a.1 _) f3b.1 _) (e4 _ _ _ _ _) rfl) rfl
end
section
variable {st:St} {R:Ay->St->Prop}
attribute [local irreducible] Go.Aw.Ah
theorem l9 (hl:s.length<=100000000) (hp:pos<s.length) (h:R (.ret (.Bu [.int .i64 (CA s pos).1,.int .i64 (CA s pos).2.1,.int .i64 (CA s pos).2.2])) st):PC 203 [.str s,.int .i64 pos] st R:=by
 refine pB Tryz.func203 ?_
 repeat' ((conv=>whnf);first|exact Dp|(refine BT ?_;intros)|(refine Dq ?_ ?_ ?_;rotate_left)|(refine BU ?_ ?_<;>intro _)|refine pJ hl hp (λb4 q tx o w1 g w2 st' U hb hq=>?_)|refine Al hb ?_|with_reducible refine WF ?_)
 all_goals rw [<-hq] at h
 all_goals exact DS U rfl h
end
end Go.Proofs.Z
namespace Go.Aw
open Go
theorem Yc (h:(Cr l).1≠10):Eo l=(11,2+BC (Cr l).1 (l.drop 2)):=if_pos h
theorem gR (h:(Cr l).1=10) (k:BC 10 l=0):Eo l=(0,0):=by unfold Eo;rw [if_neg (λe=>e h),if_pos k]
theorem Yd {f e:Nat} (h:(Cr l).1=10) (hn:BC 10 l=n) (U:n≠0) (hf:HO (l.drop n)=f) (he:LP (l.drop (n+f))=e):Eo l=(if 0<f\/0<e then 12 else 11,n+f+e):=by
 subst hn;subst hf;subst he
 unfold Eo;rw [if_neg (λe=>e h),if_neg U]
theorem ZX {b:Int} (h:Cr l=(b,2)):AU l=48/\2<=l.length:=by
 unfold Cr at h
 split at h
 .rename_i U
  refine ⟨U.1,?_⟩
  have:=U.2.2
  have h1:=D9 (Eh l) (l.drop 2)
  rw [List.length_drop] at h1
  omega
 .injection h with _ h;cases h
def Qd (s:List UInt8) (pos:Nat):Int×Int:=if (Eo (s.drop pos)).1=0 then (0,0) else ((Eo (s.drop pos)).1,(pos+(Eo (s.drop pos)).2:Nat))
end Go.Aw
namespace Go.Proofs.Z
open Go Go.Aw
section
variable {st:St} {R:Ay->St->Prop}
theorem qp (e:i.toNat=n) (h:R (.ret (.bool (decide (AU (s.drop n)=46)))) st):PC 130 [.str (s.drop i.toNat),.str [46]] st R:=by
 refine H3 ?_
 rw [CX,e]
 exact h
theorem Xp (e:i.toNat=n) (U:s.length<=4611686018427387903) (h:R (.ret (.int .i64 (LP (s.drop n):Nat))) st):PC 329 [.str (s.drop i.toNat)] st R:=by
 rw [e];exact Xo M2 h
theorem iB {b:Int} (e:i.toNat=n) (U:s.length<=4611686018427387903) (h:R (.ret (.int .i64 (BC b (s.drop n):Nat))) st):PC 328 [.str (s.drop i.toNat),.int .i64 b] st R:=by
 rw [e];exact nS M2 h
theorem nT {b:Int} {v:Nat} (e:i.toNat=n) (hv:BC b (s.drop n)=v) (U:s.length<=4611686018427387903) (h:R (.ret (.int .i64 v)) st):PC 328 [.str (s.drop i.toNat),.int .i64 b] st R:=
 iB e U (by rw [hv];exact h)
theorem PB {v:Nat} (e:i.toNat=n) (hv:LP (s.drop n)=v) (U:s.length<=4611686018427387903) (h:R (.ret (.int .i64 v)) st):PC 329 [.str (s.drop i.toNat)] st R:=
 Xp e U (by rw [hv];exact h)
theorem OH {k:Int} (U:Eo s=(k,n)) (e2:i.toNat=n):Ay.ret (.Bu [.int .i64 (Eo s).1,.str (s.take (Eo s).2)])=Ay.ret (.Bu [.int .i64 k,.str (s.take i.toNat)]):=by rw [U,e2]
theorem gS (U:Eo s=(0,0)):Ay.ret (.Bu [.int .i64 (Eo s).1,.str (s.take (Eo s).2)])=Ay.ret (.Bu [.int .i64 0,.str []]):=by rw [U];rfl
theorem IH {b:Int} (hp:Cr s=(b,n)) (U:s.length<=4611686018427387903) (h:R (.ret (.Bu [.int .i64 b,.int .i64 n])) st):PC 327 [.str s] st R:=
 Yj U (by rw [hp];exact h)
theorem ZP (hl:s.length<=4611686018427387903) (h:R (.ret (.Bu [.int .i64 (Eo s).1,.str (s.take (Eo s).2)])) st):PC 269 [.str s] st R:=by
 have hle:=Td s
 refine pB Tryz.func269 ?_
 rcases Ml s with hp|⟨hp,_⟩|⟨hp,_⟩
 .have h1:=D9 10 s
  have h2:=Uv (s.drop (BC 10 s))
  have h3:=Zn (s.drop (BC 10 s+HO (s.drop (BC 10 s))))
  rw [List.length_drop] at h2 h3
  generalize hr:BC 10 s=r at h1 h2 h3
  have hr0:BC 10 (s.drop 0)=r:=hr
  generalize hf:HO (s.drop r)=f at h2 h3
  generalize he:LP (s.drop (r+f))=e at h3
  have h4:=D9 10 (s.drop (r+1))
  have e0:(Cr s).1=10:=by rw [hp]
  have hlt:=eP s r
  have hfd:(AU (s.drop r)=46/\BC 10 (s.drop (r+1))≠0/\f=1+BC 10 (s.drop (r+1)))\/((AU (s.drop r)≠46\/BC 10 (s.drop (r+1))=0)/\f=0):=by
   rw [<-hf]
   unfold HO
   rw [List.drop_drop]
   split<;>omega
  rw [List.length_drop] at h4
  generalize hd:BC 10 (s.drop (r+1))=d at h4 hfd
  repeat' ((conv=>whnf);first|exact Dp|(refine BT ?_;intros)|(refine Dq ?_ ?_ ?_;rotate_left)|(refine BU ?_ ?_<;>intro _)|refine IH hp hl ?_|refine nT AC hr0 hl ?_|refine nT AC hd hl ?_|refine qp (n:=r) AC ?_|refine PB AC he hl ?_|refine PB AC he' hl ?_|with_reducible refine WF ?_)
  all_goals first
   |(have U:=gR e0 AC;exact fin h (gS U))
   |(have U:=Yd e0 hr AC hf he;rw [if_pos AC] at U;exact fin h (OH U AC))
   |(have U:=Yd e0 hr AC hf he;rw [if_neg AC] at U;exact fin h (OH U AC))
 .have hr:=D9 8 (s.drop 2)
  have h2:=(ZX hp).2
  rw [List.length_drop] at hr
  repeat' ((conv=>whnf);first|exact Dp|(refine BT ?_;intros)|(refine Dq ?_ ?_ ?_;rotate_left)|(refine BU ?_ ?_<;>intro _)|refine IH hp hl ?_|refine iB (n:=2) AC hl ?_|with_reducible refine WF ?_)
  all_goals (have U:=Yc (l:=s) (by rw [hp];decide);rw [hp] at U;dsimp only at U;exact fin h (OH U AC))
 .have hr:=D9 16 (s.drop 2)
  have h2:=(ZX hp).2
  rw [List.length_drop] at hr
  repeat' ((conv=>whnf);first|exact Dp|(refine BT ?_;intros)|(refine Dq ?_ ?_ ?_;rotate_left)|(refine BU ?_ ?_<;>intro _)|refine IH hp hl ?_|refine iB (n:=2) AC hl ?_|with_reducible refine WF ?_)
  all_goals (have U:=Yc (l:=s) (by rw [hp];decide);rw [hp] at U;dsimp only at U;exact fin h (OH U AC))
theorem gQ (hl:s.length<=4611686018427387903) (hp:pos<s.length) (h:R (.ret (.Bu [.int .i64 (Qd s pos).1,.int .i64 (Qd s pos).2])) st):PC 202 [.str s,.int .i64 pos] st R:=by
 have hw:=Td (s.drop pos)
 have ht:((s.drop pos).take (Eo (s.drop pos)).2).length=(Eo (s.drop pos)).2:=NE
 rw [List.length_drop] at hw
 have U:(s.drop pos).length<=4611686018427387903:=M2
 refine pB Tryz.func202 ?_
 repeat' ((conv=>whnf);first|(refine BT ?_;intros)|(refine BU ?_ ?_<;>intro _)|refine ZP U ?_)
 .exact fin h (by unfold Qd;rw [if_pos ‹_›];simp_all)
 .exact fin h (by unfold Qd;rw [if_neg ‹_›];simp only [];rw [show (pos:Int).toNat=pos by omega] at *;rw [ht];rfl)
end
end Go.Proofs.Z
namespace Go.Aw
open Go
def C6 (s:List UInt8) (p:Nat):Int×Int×Int:=
 if (Qd s p).1≠0 then ((Qd s p).1,(Qd s p).2,0)
 else if (CA s p).1=0/\(CA s p).2.2=0 then
  if (G0 s p).1=0 then (0,p,70) else ((G0 s p).1,(G0 s p).2,0)
 else CA s p
def OB (s:List UInt8) (p sp:Nat) (U Ce:Int) (AA notes:List (List V)) (w1 w2:AB) (Ds ends:Int) (j:Bool):List V:=
 [.str s,.int .i64 p,.int .i64 sp,.int .i64 U,.int .i64 Ce,.slice 4 AA w1,.slice 5 notes w2,.int .i64 Ds,.int .i64 ends,.bool j]
end Go.Aw
namespace Go.Proofs.Z
open Go Go.Aw
section
variable {st:St} {R:Ay->St->Prop}
theorem ph {sp:Nat} {Ce ends:Int} (hl:s.length<=100000000) (U:p<s.length) (hb:st.box b=some (OB s p sp ln Ce AA notes w1 w2 Ds ends j))
 (h:R (.ret (.agg [.int .i64 (Qd s p).1,.int .i64 (Qd s p).2,.int .i64 0])) st):PC 134 [.ptr b 0] st R:=by
 refine pB Tryz.func134 ?_
 repeat' ((conv=>whnf);first|exact CL|(refine Bp ?_;intros)|(refine CM ?_ ?_ ?_;rotate_left)|(refine Bq ?_ ?_<;>intro _)|refine Al hb ?_|refine gQ AC U ?_|refine Ae [(0,true),(1,true),(2,true),(3,true),(4,true),(5,true),(6,true),(7,true),(8,false),(9,true),(10,true),(11,true),(12,true),(13,true)] [] GE ?_|with_reducible refine WF ?_)
 all_goals exact fin h rfl
theorem pn {sp:Nat} {Ce ends:Int} (U:s.length<=100000000) (hp:p<s.length) (hb:st.box b=some (OB s p sp ln Ce AA notes w1 w2 Ds ends j))
 (h:R (.ret (.agg [.int .i64 (G0 s p).1,.int .i64 (G0 s p).2,.int .i64 0])) st):PC 136 [.ptr b 0] st R:=by
 refine pB Tryz.func136 ?_
 repeat' ((conv=>whnf);first|exact CL|(refine Bp ?_;intros)|(refine CM ?_ ?_ ?_;rotate_left)|(refine Bq ?_ ?_<;>intro _)|refine Al hb ?_|refine jz U hp ?_|refine Ae [(0,true),(1,true),(2,true),(3,true),(4,true),(5,true),(6,true),(7,true),(8,false),(9,true),(10,true),(11,true),(12,true),(13,true)] [] GE ?_|with_reducible refine WF ?_)
 all_goals exact fin h rfl
theorem pg {sp:Nat} {Ce ends:Int} (U:s.length<=100000000) (hp:p<s.length) (hb:st.box b=some (OB s p sp ln Ce AA notes w1 w2 Ds ends j))
 (h:R (.ret (.agg [.int .i64 (CA s p).1,.int .i64 (CA s p).2.1,.int .i64 (CA s p).2.2])) st):PC 135 [.ptr b 0] st R:=by
 refine pB Tryz.func135 ?_
 repeat' ((conv=>whnf);first|exact CL|(refine Bp ?_;intros)|(refine CM ?_ ?_ ?_;rotate_left)|(refine Bq ?_ ?_<;>intro _)|refine Al hb ?_|refine l9 U hp ?_|refine Ae [(0,true),(1,true),(2,true),(3,true),(4,true),(5,true),(6,true),(7,true),(8,false),(9,true),(10,true),(11,true),(12,true),(13,true),(14,true),(15,true)] [] GE ?_|with_reducible refine WF ?_)
 all_goals exact fin h rfl
theorem gi {sp:Nat} {Ce ends:Int} (hl:s.length<=100000000) (hp:p<s.length) (hb:st.box b=some (OB s p sp ln Ce AA notes w1 w2 Ds ends j))
 (h:R (.ret (.agg [.int .i64 (C6 s p).1,.int .i64 (C6 s p).2.1,.int .i64 (C6 s p).2.2])) st):PC 62 [.ptr b 0] st R:=by
 refine pB Tryz.func62 ?_
 have U:∀a b c,C6 s p=(a,b,c)->R (.ret (.agg [.int .i64 a,.int .i64 b,.int .i64 c])) st:=λa b c e=>by rw [e] at h;exact h
 clear h
 unfold C6 at U
 repeat' ((conv=>whnf);first|(refine Bp ?_;intros)|(refine Bq ?_ ?_<;>intro _)|refine ph hl hp hb ?_|refine pg hl hp hb ?_|refine pn hl hp hb ?_|refine Al hb ?_)
 .exact fin (U _ _ _ (by rw [if_neg AC,if_pos ⟨AC,AC⟩,if_pos AC])) rfl
 .exact fin (U _ _ _ (by rw [if_neg AC,if_pos ⟨AC,AC⟩,if_neg AC])) rfl
 .exact fin (U _ _ _ (by rw [if_neg AC,if_neg (λx=>by omega)])) rfl
 .exact fin (U _ _ _ (by rw [if_neg AC,if_neg (λx=>by omega)])) rfl
 .exact fin (U _ _ _ (by rw [if_pos AC])) rfl
end
section
variable {st:St} {R:Ay->St->Prop}
theorem T5 {k Ce:Int} (h:R (.ret (.bool (decide (¬k=15)|| !Lib.contains [123,125,59] t))) st):PC 137 [.agg [.int .i64 k,.str t,.int .i64 ln,.int .i64 Ce]] st R:=by
 refine pB Tryz.func137 ?_
 repeat' ((conv=>whnf);first|(refine Bp ?_;intros)|(refine Bq ?_ ?_<;>intro _)|refine Xi Do ?_)
 all_goals first
  |exact Aq h (by simp [*])
  |(rename_i U _;exact Aq h (by simp [U]))
theorem LB {sp:Nat} {U Ce ends:Int} (hl:s.length<=100000000) (hp:p<=s.length) (hb:st.box b=some (OB s p sp U Ce AA notes w1 w2 Ds ends j))
 (h:R (.ret (.Bu [])) (st.Aa b (OB s (p+BS (λc=>AH c==1) (s.drop p)) sp U Ce AA notes w1 w2 Ds ends j))):PC 59 [.ptr b 0] st R:=by
 refine pB Tryz.func59 ?_
 repeat' ((conv=>whnf);first|refine Ae [(0,true),(1,true),(2,true),(3,true),(4,true),(5,true),(6,true),(7,true),(8,true),(9,false),(10,true),(11,true),(12,false)] [] GE ?_|exact CL|(refine Bp ?_;intros)|(refine CM ?_ ?_ ?_;rotate_left)|(refine Bq ?_ ?_<;>intro _)|refine Al hb ?_|refine Km hl hp rfl rfl ?_|with_reducible refine WF ?_)
 all_goals exact fin h rfl
end
end Go.Proofs.Z
namespace Go.Aw
open Go
def AY (s:List UInt8) (a b:Nat):List UInt8:=(s.take b).drop a
theorem To {a:Nat} {K:List UInt8->Prop} (U:a<=b) (h2:b<=s.length) (k:K (AY s a b)):
 (0<=(a:Int)/\(a:Int)<=b/\(b:Int)<=s.length)/\∀s',s'=(s.take (b:Int).toNat).drop (a:Int).toNat->K s':=
 ⟨⟨AC,AC,AC⟩,λs' e=>by
   rw [show (b:Int).toNat=b by omega,show (a:Int).toNat=a by omega] at e
   subst e;exact k⟩
end Go.Aw
namespace Go.Proofs.Z
open Go Go.Aw
section
variable {st:St} {R:Ay->St->Prop}
theorem rG {sp q:Nat} {Ce ends:Int} (hl:s.length<=100000000) (hsp:sp<=q) (hq:q<=s.length) (hln:1<=ln/\ln<=1000000000) (U:1<=Ce/\Ce<=2147483648)
 (hw:1<=(BM (AY s sp q) (AY s sp q).length (1,1)).1/\(BM (AY s sp q) (AY s sp q).length (1,1)).1<=1000000000)
 (hb:st.box b=some (OB s p sp ln Ce AA notes w1 w2 Ds ends j))
 (h:R (.ret (.Bu [.int .i64 (ln+(BM (AY s sp q) (AY s sp q).length (1,1)).1 - 1),.int .i64 (BM (AY s sp q) (AY s sp q).length (1,Ce)).2]))
   (st.Aa b (OB s p q (ln+(BM (AY s sp q) (AY s sp q).length (1,1)).1 - 1) (BM (AY s sp q) (AY s sp q).length (1,Ce)).2 AA notes w1 w2 Ds ends j))):PC 133 [.ptr b 0,.int .i64 q] st R:=by
 have hpl:(AY s sp q).length<=100000000:=by unfold AY;rw [List.length_drop,List.length_take];omega
 have b2:∀cs,(st.Aa b cs).box b=some cs:=λcs=>St.AK _ _ _
 refine pB Tryz.func133 ?_
 repeat' ((conv=>whnf);first|exact CL|(refine Bp ?_;intros)|(refine CM ?_ ?_ ?_;rotate_left)|(refine Bq ?_ ?_<;>intro _)|refine To hsp hq ?_|refine (λ(_:(AY s sp q).length<En)=>?_)|refine rB hpl (Nat.le_refl _) ?_|refine nf hpl U.1 U.2 ?_|refine Al hb ?_|refine Al (b2 _) ?_|with_reducible refine WF ?_)
 all_goals exact fin h rfl
end
end Go.Proofs.Z
namespace Go.Aw
open Go
def Ck (s:List UInt8) (a b:Nat) (p:Int×Int):Int×Int:=BM (AY s a b) (AY s a b).length p
theorem Kf {a:Nat} (U:a<=b) (h2:b<=s.length):(AY s a b).length=b - a:=by
 unfold AY;rw [List.length_drop,List.length_take];omega
theorem ZU {a:Nat} {p:Int×Int} (U:a<=b) (h2:b<=s.length) (h:1<=p.2):p.1<=(Ck s a b p).1/\(Ck s a b p).1<=p.1+(b - a:Nat)/\1<=(Ck s a b p).2/\(Ck s a b p).2<=p.2+8*(b - a:Nat):=by
 have:=TM _ (AY s a b) (AY s a b).length p (Nat.le_refl _) h
 rw [Kf U h2] at this
 unfold Ck
 rw [Kf U h2]
 omega
end Go.Aw
namespace Go.Proofs.Z
open Go Go.Aw
section
variable {st:St} {R:Ay->St->Prop}
theorem mE {sp q:Nat} {U Ce ends:Int} (hl:s.length<=100000000) (hsp:sp<=q) (hq:q<=s.length) (hln:1<=U/\U<=1000000000) (hcol:1<=Ce/\Ce<=2147483648)
 (hb:st.box b=some (OB s p sp U Ce AA notes w1 w2 Ds ends j))
 (h:R (.ret (.Bu [.int .i64 (Ck s sp q (U,Ce)).1,.int .i64 (Ck s sp q (U,Ce)).2]))
   (st.Aa b (OB s p q (Ck s sp q (U,Ce)).1 (Ck s sp q (U,Ce)).2 AA notes w1 w2 Ds ends j))):PC 133 [.ptr b 0,.int .i64 q] st R:=by
 have hlen:=Kf hsp hq
 have h1:=TM _ (AY s sp q) (AY s sp q).length (1,1) (Nat.le_refl _) Do
 have h2:=R5 _ (AY s sp q) (AY s sp q).length 1 1 Ce U (Nat.le_refl _)
 have h3:=V2 _ (AY s sp q) (AY s sp q).length 1 Ce U (Nat.le_refl _)
 have e1:U+(BM (AY s sp q) (AY s sp q).length (1,1)).1 - 1=(Ck s sp q (U,Ce)).1:=by unfold Ck;omega
 have e2:(BM (AY s sp q) (AY s sp q).length (1,Ce)).2=(Ck s sp q (U,Ce)).2:=h3
 refine rG hl hsp hq hln hcol ⟨by dsimp only at h1;omega,by dsimp only at h1;omega⟩ hb ?_
 rw [e1,e2]
 exact h
end
end Go.Proofs.Z
namespace Go.Aw
open Go
theorem V1 {a:Nat} (h:BG l a) (k:Nat) (p:Int×Int):BM l (a+k) p=BM (l.drop a) k (BM l a p):=by
 induction h generalizing p with
 |zero l=>rw [EK,Nat.zero_add,List.drop_zero]
 |@step l j U h ih=>
  rw [D0 U AC,D0 (k:=AR l+j) U AC,show AR l+j+k - AR l=j+k by omega,show AR l+j - AR l=j by omega,ih,List.drop_drop]
theorem JF (h:0<m):AU (l.take m)=AU l:=by
 cases l with
 |nil=>rw [List.take_nil]
 |cons a r=>
  obtain ⟨m,rfl⟩:∃k,m=k+1:=⟨m - 1,AC⟩
  rfl
theorem Rt:AU ((l.take m).drop 1)=if 1<m then AU (l.drop 1) else -1:=by
 rw [List.drop_take]
 by_cases h:1<m
 .rw [if_pos h,JF AC]
 .rw [if_neg h,show m - 1=0 by omega,List.take_zero];rfl
theorem gM (h:0<m) (h2:G2 l<=m):G2 (l.take m)=G2 l:=by
 rcases EN l with ⟨e,U⟩|⟨e,U,h3⟩|⟨e,U,h3⟩
 .rw [e];unfold G2;rw [JF h,if_neg (λx=>U (.inl x.1)),if_neg U]
 .rw [e];unfold G2;rw [JF h,Rt,if_neg,if_pos U]
  rintro ⟨x,y⟩
  split at y
  .exact h3 ⟨x,y⟩
  .exact absurd y Do
 .rw [e];unfold G2;rw [JF h,Rt,if_pos (show 1<m by omega),if_pos ⟨U,h3⟩]
theorem dt (h:BG l k) (hv:Vd l) (p:Int×Int):BM (l.take k) k p=BM l k p:=by
 induction h generalizing p with
 |zero l=>rw [EK,EK]
 |@step l j U h ih=>
  have h1:=Fe U
  have hn:G2 (l.take (AR l+j))=G2 l:=gM AC (by
   by_cases hc:0<G2 l
   .have e:AR l=G2 l:=if_pos hc
    omega
   .omega)
  have hr:=hv.rune U
  have es:AR (l.take (AR l+j))=AR l:=by
   by_cases hc:0<G2 l
   .have e3:AR (l.take (AR l+j))=G2 (l.take (AR l+j)):=if_pos (by rw [hn];exact hc)
    rw [e3,hn];exact (if_pos hc).symm
   .have e1:AR l=(AJ l).2:=if_neg hc
    have e2:AJ (l.take (AR l+j))=AJ l:=by
     have:=Pl U hr.1 ((l.take (AR l+j)).drop (AJ l).2)
     rwa [show l.take (AJ l).2=(l.take (AR l+j)).take (AJ l).2 by rw [List.take_take,Nat.min_eq_left AC],List.take_append_drop] at this
    have e3:AR (l.take (AR l+j))=(AJ (l.take (AR l+j))).2:=if_neg (by rw [hn];exact hc)
    rw [e3,e2];exact e1.symm
  have hne':l.take (AR l+j)≠[]:=λe=>by
   have:=congrArg List.length e
   rw [List.length_take,List.length_nil] at this;omega
  have hv':Vd (l.drop (AR l)):=(BG.step U (.zero (l.drop (AR l)))).bd.vd hv
  rw [D0 hne' AC,D0 U AC,es,show AR l+j - AR l=j by omega,List.drop_take,show AR l+j - AR l=j by omega,ih hv']
  congr 1
  unfold Ek Fc
  rw [hn,JF AC]
def CY (s:List UInt8) (p:Nat):Int×Int:=BM s p (1,1)
theorem ia {a:Nat} (hv:Vd s) (U:BG s a) (hb:BG (s.drop a) (b - a)) (h:a<=b) (hl:b<=s.length):Ck s a b (CY s a)=CY s b:=by
 have e:AY s a b=(s.drop a).take (b - a):=by unfold AY;rw [List.drop_take]
 have hp:=Kf h hl
 unfold Ck CY
 rw [hp,e,dt hb (U.bd.vd hv),<-V1 U,show a+(b - a)=b by omega]
def tr (l:List UInt8) (m:Nat) (r:List UInt8):List UInt8:=l.take m++r
def rh (r:List UInt8):Prop:=AU r= -1\/AU r=32\/AU r=10
theorem lq (h:AU r= -1):r=[]:=by
 cases r with
 |nil=>rfl
 |cons a r=>have h:((a.toNat:Nat):Int)= -1:=h;omega
theorem OT:tr l 0 r=r:=H1
theorem I7 {j:Nat} (h:j<=m) (U:m<=l.length):(tr l m r).drop j=tr (l.drop j) (m - j) r:=by
 unfold tr;rw [List.drop_append_of_le_length ke,List.drop_take]
theorem NZ (h:0<m) (U:m<=l.length):AU (tr l m r)=AU l:=by
 cases l with
 |nil=>simp_all
 |cons a l=>
  obtain ⟨m,rfl⟩:∃k,m=k+1:=⟨m - 1,AC⟩
  rfl
theorem jr {j:Nat} (h:j<m) (U:m<=l.length):AU ((tr l m r).drop j)=AU (l.drop j):=by
 rw [I7 AC U,NZ AC (by grind)]
theorem mI (h:n<=m) (U:m<=l.length):(tr l m r).take n=l.take n:=by
 unfold tr
 grind
theorem YH (U:m<=l.length):(tr l m r).length=m+r.length:=by
 unfold tr;simp_all
theorem eM (hv:Vd l) (h0:0<m) (hm:m<=l.length) (hb:Bd l m):AJ (tr l m r)=AJ l/\(AJ l).2<=m:=by
 have U:l≠[]:=λe=>by simp_all
 have hd:(AJ l).2<=m:=by
  cases hb with
  |zero=>omega
  |step _ _=>omega
 have:=Pl U (hv.rune U).1 ((l.take m).drop (AJ l).2++r)
 rw [<-List.append_assoc] at this
 rw [show l.take (AJ l).2=(l.take m).take (AJ l).2 by grind,List.take_append_drop] at this
 exact ⟨this,hd⟩
theorem mr {p:Nat×Nat->Bool} (hv:Vd l) (hb:Bd l m) (hm:m<=l.length) (hr:Bs p r=0) (h:Bs p l<=m):Bs p (tr l m r)=Bs p l:=by
 induction hb with
 |zero l=>rw [OT,hr];omega
 |@step l k U hb ih=>
  have hp:=DR l
  have hd:=eM (r:=r) hv AC hm (.step U hb)
  have hne':tr l ((AJ l).2+k) r≠[]:=λe=>by
   have:=congrArg List.length e
   rw [YH hm] at this;simp_all
  cases hc:p (AJ l) with
  |false=>rw [EC hc,EC ke]
  |true=>
   rw [Cs U hc] at h |-
   rw [Cs hne' ke,hd.1,I7 AC hm,show (AJ l).2+k - (AJ l).2=k by omega,ih (hv.rune U).2 (by grind) AC]
theorem ku (U:rh r):r=[]\/(r≠[]/\(((AJ r).1:Nat):Int)=32)\/(r≠[]/\(((AJ r).1:Nat):Int)=10):=by
 rcases U with h|h|h
 .exact .inl (lq h)
 .exact .inr (.inl ⟨λe=>by rw [e] at h;exact absurd h Do,by rw [(EE AC AC).2,h]⟩)
 .exact .inr (.inr ⟨λe=>by rw [e] at h;exact absurd h Do,by rw [(EE AC AC).2,h]⟩)
theorem iQ {p:Int->Bool} (U:rh r) (h1:p 32=false) (h2:p 10=false):BS p r=0:=by
 rcases ku U with rfl|⟨_,h⟩|⟨_,h⟩
 .exact RW p
 .exact Qr ke
 .exact Qr ke
theorem Bd.sub {i j:Nat} (h:Bd l i) (k:Bd l j) (hij:i<=j):Bd (l.drop i) (j - i):=by
 induction h generalizing j with
 |zero l=>exact k
 |@step l i hne h ih=>
  cases k with
  |zero=>simp_all
  |@step _ U _ k=>
   rw [show (AJ l).2+U - ((AJ l).2+i)=U - i by omega,<-List.drop_drop]
   simp_all
theorem iH (s:List UInt8) (n:Nat) (k:Int):n<=(Hk s n k).2:=by
 fun_induction Hk s n k with
 |case1 n k hn U ih=>omega
 |case2 n k hn U=>omega
 |case3 n k hn=>omega
theorem cA (h:(BB l).1≠0):0<(BB l).2:=by
 by_cases U:0<(BB l).2
 .exact U
 .exfalso
  cases l with
  |nil=>exact h rfl
  |cons a r=>
   have hne:a::r≠[]:=GT
   have hp:=DR (a::r)
   apply h
   unfold BB at U |-
   split
   .simp_all
   .rename_i h6
    rw [if_neg h6] at U
    have key:∀p:Int->Bool,p (((AJ (a::r)).1:Nat):Int)=true->0<BS p (a::r):=λp hp'=>by
     rw [cO hne hp'];omega
    split
    .rename_i h5
     rw [if_pos h5] at U
     have:=key (λc=>AH c==5) (beq_iff_eq.2 h5)
     omega
    .rename_i h5
     rw [if_neg h5] at U
     split
     .rename_i h3
      rw [if_pos h3] at U
      have h3':AH (((AJ (a::r)).1:Nat):Int)=3:=h3
      have:=key Hw (by unfold Hw;simp_all)
      unfold KL at U;omega
     .rename_i h3
      rw [if_neg h3] at U
      split
      .rename_i h2
       rw [if_pos h2] at U
       have h2':AH (((AJ (a::r)).1:Nat):Int)=2:=h2
       have:=key Hw (by unfold Hw;simp_all)
       unfold KL at U;omega
      .rfl
def p4 (k:Int) (t:List UInt8) (p:Int×Int):List V:=[.int .i64 k,.str t,.int .i64 p.1,.int .i64 p.2]
theorem iF {st:St} {o:List (List V)} {k a b:Int} (h:B0 st0 st w1 (o.length*4) w2 n2) (hl:o.length<=1000000000)
 (kk:∀U st',B0 st0 st' U ((o.length+1)*4) w2 n2->st'.box=st.box->K (.slice 4 (o++[p4 k t (a,b)]) U) st'):Ah 4 40 o w1 [[.int .i64 k,.str t,.int .i64 a,.int .i64 b]] st K:=
 Kl h rfl (by rw [List.length_singleton];omega) (by rw [List.length_singleton];unfold En;omega) rfl GT (λU st' hr hb=>kk U st' hr hb)
end Go.Aw
namespace Go.Proofs.Z
open Go Go.Aw
section
variable {st:St} {R:Ay->St->Prop}
attribute [local irreducible] Go.Aw.Ah
theorem mF {sp q:Nat} {k e0 Ce ends:Int} (hl:s.length<=100000000) (hsp:sp<=p) (hpq:p<=q) (hq:q<=s.length) (hln:1<=ln/\ln<=800000000) (hcol:1<=Ce/\Ce<=1000000000)
 (hg:0<=Ds/\Ds<=1000000000) (ht:AA.length<=1000000000) (U:st0.box b=none) (hR:B0 st0 st w1 (AA.length*4) w2 n2) (hb:st.box b=some (OB s p sp ln Ce AA notes w1 w2 Ds ends j))
 (h:∀w1' st',B0 st0 st' w1' ((AA.length+1)*4) w2 n2->st'.box b=some (OB s q q (Ck s p q (Ck s sp p (ln,Ce))).1 (Ck s p q (Ck s sp p (ln,Ce))).2 (AA++[p4 k (AY s p q) (Ck s sp p (ln,Ce))]) notes w1' w2
   (if decide (¬k=15)|| !Lib.contains [123,125,59] (AY s p q) then Ds+1 else Ds) (Ck s p q (Ck s sp p (ln,Ce))).1 true)->R (.ret (.Bu [])) st'):PC 63 [.ptr b 0,.agg [.int .i64 k,.int .i64 q,.int .i64 e0]] st R:=by
 have z1:=ZU (s:=s) (p:=(ln,Ce)) hsp AC hcol.1
 refine A1 Ad [] Tryz.func63 rfl Do rfl ?_
 refine Ak (Am Ad ?_)
 repeat' ((conv=>whnf);first|exact CL|(refine Bp ?_;intros)|(refine CM ?_ ?_ ?_;rotate_left)|(refine Bq ?_ ?_<;>intro _)|with_reducible refine WF ?_)
 refine Ak (Am Ad ?_)
 repeat' ((conv=>whnf);first|exact CL|(refine Bp ?_;intros)|(refine CM ?_ ?_ ?_;rotate_left)|(refine Bq ?_ ?_<;>intro _)|refine mE hl hsp AC AC AC hb ?_|refine Al hb ?_|with_reducible refine WF ?_)
 generalize Ck s sp p (ln,Ce)=pl1 at h z1 |-
 have z2:=ZU (s:=s) (p:=pl1) hpq hq z1.2.2.1
 dsimp only at z1 z2
 refine Ak (Am Ad ?_)
 repeat' ((conv=>whnf);first|exact CL|(refine Bp ?_;intros)|(refine CM ?_ ?_ ?_;rotate_left)|(refine Bq ?_ ?_<;>intro _)|refine To hpq hq ?_|refine Al (St.AK _ _ _) ?_|with_reducible refine WF ?_)
 refine Ak (Am Ad ?_)
 repeat' ((conv=>whnf);first|refine Ae [(0,true),(1,true),(2,true),(3,true),(4,true),(5,true),(6,true),(7,false),(8,true),(9,true),(10,false)] [] GE ?_|exact CL|(refine Bp ?_;intros)|(refine CM ?_ ?_ ?_;rotate_left)|(refine Bq ?_ ?_<;>intro _)|refine Al (St.AK _ _ _) ?_|refine iF (hR.set U _) ht (λw1' st1 hr1 hb1=>?_)|refine Al ((congrFun hb1 b).trans (St.AK _ _ _)) ?_|with_reducible refine WF ?_)
 clear hR hb
 rcases hc:(decide (¬k=15)|| !Lib.contains [123,125,59] (AY s p q)) with _|_
 all_goals rw [hc] at h
 .have hcc:∀{st:St} {R:Ay->St->Prop},R (.ret (.bool false)) st->PC 137 [.agg [.int .i64 k,.str (AY s p q),.int .i64 pl1.1,.int .i64 pl1.2]] st R:=λh=>T5 (by rw [hc];exact h)
  refine Ak (Am Ad ?_)
  repeat' ((conv=>whnf);first|exact CL|(refine Bp ?_;intros)|(refine CM ?_ ?_ ?_;rotate_left)|(refine Bq ?_ ?_<;>intro _)|refine hcc ?_|refine Al (St.AK _ _ _) ?_|with_reducible refine WF ?_)
  refine Am Ad ?_
  repeat' ((conv=>whnf);first|exact CL|(refine Bp ?_;intros)|(refine CM ?_ ?_ ?_;rotate_left)|(refine Bq ?_ ?_<;>intro _)|refine mE hl hpq hq AC AC (St.AK _ _ _) ?_|refine Al (St.AK _ _ _) ?_|with_reducible refine WF ?_)
  all_goals exact fin (h w1' _ ((((hr1.set U _).set U _).set U _).set U _) (St.AK _ _ _)) rfl
 .have hcc:∀{st:St} {R:Ay->St->Prop},R (.ret (.bool true)) st->PC 137 [.agg [.int .i64 k,.str (AY s p q),.int .i64 pl1.1,.int .i64 pl1.2]] st R:=λh=>T5 (by rw [hc];exact h)
  refine Ak (Am Ad ?_)
  repeat' ((conv=>whnf);first|exact CL|(refine Bp ?_;intros)|(refine CM ?_ ?_ ?_;rotate_left)|(refine Bq ?_ ?_<;>intro _)|refine hcc ?_|refine Al (St.AK _ _ _) ?_|with_reducible refine WF ?_)
  refine Am Ad ?_
  repeat' ((conv=>whnf);first|exact CL|(refine Bp ?_;intros)|(refine CM ?_ ?_ ?_;rotate_left)|(refine Bq ?_ ?_<;>intro _)|refine mE hl hpq hq AC AC (St.AK _ _ _) ?_|refine Al (St.AK _ _ _) ?_|with_reducible refine WF ?_)
  all_goals exact fin (h w1' _ (((((hr1.set U _).set U _).set U _).set U _).set U _) (St.AK _ _ _)) rfl
end
structure Nt where
 text:List UInt8
 Ds:Int
 wh:Int
 line:Int
 Ce:Int
def Nt.cells (n:Nt):List V:=[.str n.text,.int .i64 n.Ds,.int .i64 n.wh,.int .i64 n.line,.int .i64 n.Ce]
def KF (l:List Nt):List (List V):=l.map Nt.cells
structure Lx where
 AA:List Tk
 notes:List Nt
 Ds:Int
 ends:Int
 j:Bool
def qJ:Lx:=⟨[],[],0,0,false⟩
def cntF (k:Int) (t:List UInt8):Bool:=decide (¬k=15)|| !Lib.contains [123,125,59] t
def Oe (s:List UInt8) (p q:Nat) (k:Int) (x:Lx):Lx:=
 ⟨x.AA++[⟨k,AY s p q,(CY s p).1,(CY s p).2⟩],x.notes,if cntF k (AY s p q) then x.Ds+1 else x.Ds,(CY s q).1,true⟩
def DB (s:List UInt8) (p:Nat):Nat:=p+BS (λc=>AH c==1) (s.drop p)
theorem LC (h:p<=s.length):p<=DB s p/\DB s p<=s.length:=by
 have:=Fb (λc=>AH c==1) (s.drop p)
 rw [List.length_drop] at this
 unfold DB;omega
def qn (s:List UInt8) (p q:Nat) (x:Lx):Bool:=x.j&&decide (x.ends=(CY s p).1)&&decide ((CY s q).1=(CY s p).1)
def XF (s:List UInt8) (p q:Nat):Bool:=decide (DB s q<s.length)&&decide ((CY s (DB s q)).1=(CY s p).1)
def RJ (s:List UInt8) (p q:Nat) (x:Lx):Lx:=
 ⟨x.AA,x.notes++[⟨AY s p q,x.Ds,if qn s p q x then (if XF s p q then 1 else 2) else 3,(CY s p).1,(CY s p).2⟩],x.Ds,(CY s q).1,qn s p q x&&XF s p q⟩
def Jn (s:List UInt8) (p:Nat) (x:Lx):Sum (Int×Int) Lx:=
 if hp:p<s.length then
  if (CE s p).2≠0 then .inl ((p:Nat),(CE s p).2)
  else if 0<(CE s p).1 then
   (if U:p<(CE s p).1.toNat then Jn s (DB s (CE s p).1.toNat) (RJ s p (CE s p).1.toNat x) else .inr x)
  else if (C6 s p).2.2≠0 then .inl ((C6 s p).2.1,(C6 s p).2.2)
  else (if U:p<(C6 s p).2.1.toNat then Jn s (DB s (C6 s p).2.1.toNat) (Oe s p (C6 s p).2.1.toNat (C6 s p).1 x) else .inr x)
 else .inr x
termination_by s.length - p
decreasing_by
 all_goals unfold DB;omega
def Iz (s:List UInt8):Sum (Int×Int) Lx:=
 if 16777216<s.length then .inl (0,3)
 else if (ML s).2≠0 then .inl (ML s)
 else if 0<=bM (λc=>AH (c:Nat)==0) s then .inl (bM (λc=>AH (c:Nat)==0) s,70)
 else Jn s (DB s 0) qJ
theorem oG (h:(ML s).2=0):Vd s:=by
 unfold ML at h
 split at h
 .exact absurd h (show ¬(10:Int)=0 by decide)
 .have:=Qq Dd s
  unfold Vd;omega
end Go.Proofs.Z
namespace Go.Aw
open Go
theorem BG.le (h:BG l k):k<=l.length:=by
 induction h with
 |zero l=>omega
 |step U h ih=>have:=Fe U;grind
theorem BG.blank (hv:Vd l):BG l (BS (λc=>AH c==1) l):=by
 refine Bd.cut (Bd.span _ l) ?_
 rintro ⟨h0,_,U⟩
 have U:AU (l.drop (BS (λc=>AH c==1) l))=10:=U
 have hlt:=Cf (l:=l) (k:=BS (λc=>AH c==1) l) AC
 have:=Qs (λc=>AH c==1) l hlt
 rw [(EE AC AC).2,U] at this
 exact absurd this Do
theorem gO (e:(CE s p).2=0) (U:0<(CE s p).1):∃n:Nat,0<n/\Dt (s.drop p)=(n:Nat)/\(CE s p).1=(p+n:Nat):=by
 unfold CE at e U |-
 split
 .simp_all
 .rename_i h
  rw [if_neg h] at e U
  split
  .simp_all
  .rename_i h1
   exact ⟨(Dt (s.drop p)).toNat,AC,AC,AC⟩
theorem gP (hv:Vd s) (h:BG s p) (e:(CE s p).2=0) (h0:0<(CE s p).1):∃q,(CE s p).1=(q:Nat)/\p<q/\q<=s.length/\BG s q:=by
 obtain ⟨n,h1,h2,h3⟩:=gO e h0
 have U:=BG.add h (BG.note (h.bd.vd hv) h2)
 exact ⟨p+n,h3,AC,U.le,U⟩
theorem l8 (h:(Eo l).1≠0):0<(Eo l).2:=by
 unfold Eo at h |-
 grind
theorem jy (h:(Ga l).1≠0):0<(Ga l).2:=by
 have U:=iH l (BB l).2 (BB l).1
 by_cases hp:(BB l).1=0
 .unfold Ga at h
  rw [Vw (λx=>by omega)] at h
  omega
 .have:=cA hp
  unfold Ga;omega
theorem gj (hv:Vd s) (h:BG s p) (e:(C6 s p).2.2=0):(C6 s p).1≠0/\∃q,(C6 s p).2.1=(q:Nat)/\p<q/\q<=s.length/\BG s q:=by
 have hv':=h.bd.vd hv
 unfold C6 at e |-
 split
 .rename_i h1
  refine ⟨h1,p+(Eo (s.drop p)).2,?_⟩
  have hn:(Eo (s.drop p)).1≠0:=λx=>by
   unfold Qd at h1;simp_all
  have U:=BG.add h (BG.num (s.drop p))
  have:=l8 hn
  refine ⟨?_,AC,U.le,U⟩
  unfold Qd;simp_all
 .rename_i h1
  rw [if_neg h1] at e
  split
  .rename_i h2
   rw [if_pos h2] at e
   split
   .simp_all
   .rename_i h3
    refine ⟨h3,p+(Ga (s.drop p)).2,?_⟩
    have hn:(Ga (s.drop p)).1≠0:=λx=>by
     unfold G0 at h3;simp_all
    have U:=BG.add h (BG.word (s.drop p))
    have:=jy hn
    refine ⟨?_,AC,U.le,U⟩
    unfold G0;simp_all
  .rename_i h2
   rw [if_neg h2] at e
   have hk:(CA s p).1≠0:=λx=>h2 ⟨x,e⟩
   obtain ⟨n,e1,e2,e3⟩:=BG.quote hv' hk
   have U:=BG.add h e3
   exact ⟨hk,p+n,e1,AC,U.le,U⟩
theorem BG.qa (U:Vd s) (h:BG s p):BG s (Go.Proofs.Z.DB s p):=BG.add h (BG.blank (h.bd.vd U))
def cg (a b:Int×Int):Prop:=a.1<b.1\/(a.1=b.1/\a.2<b.2)
theorem cg.trans {a b c:Int×Int} (h:cg a b) (k:cg b c):cg a c:=by unfold cg at *;omega
theorem mv {p:Int×Int} (h:1<=p.2):cg p (Ek l p.1,Fc l p.2):=by
 unfold cg Ek Fc VL
 omega
theorem mX (h:BG l k) (p:Int×Int) (hp:1<=p.2):(k=0/\BM l k p=p)\/(0<k/\cg p (BM l k p)):=by
 induction h generalizing p with
 |zero l=>exact .inl ⟨rfl,EK⟩
 |@step l j U h ih=>
  have h1:=Fe U
  have h2:=mv (l:=l) hp
  refine .inr ⟨AC,?_⟩
  rw [D0 U AC,show AR l+j - AR l=j by omega]
  rcases ih (Ek l p.1,Fc l p.2) (OR l hp).1 with ⟨_,e⟩|⟨_,e⟩
  .simp_all
  .exact h2.trans e
theorem BG.sub {i j:Nat} (h:BG l i) (k:BG l j) (hij:i<=j):BG (l.drop i) (j - i):=by
 induction h generalizing j with
 |zero l=>exact k
 |@step l i hne h ih=>
  cases k with
  |zero=>simp_all
  |@step _ U _ k=>
   rw [show AR l+U - (AR l+i)=U - i by omega,<-List.drop_drop]
   simp_all
theorem MH:1<=(CY s p).1/\(CY s p).1<=1+s.length/\1<=(CY s p).2/\(CY s p).2<=1+8*s.length:=by
 have:=TM _ s p (1,1) (Nat.le_refl _) Do
 unfold CY
 omega
theorem dX {q:Nat} (h:BG s p) (k:BG s q) (U:p<q):cg (CY s p) (CY s q):=by
 have c:=h.sub k AC
 have e:CY s q=BM (s.drop p) (q - p) (CY s p):=by
  unfold CY
  rw [<-V1 h,show p+(q - p)=q by omega]
 rw [e]
 rcases mX c (CY s p) MH.2.2.1 with ⟨x,_⟩|⟨_,x⟩
 .omega
 omega
theorem M5 {a:Nat} (hv:Vd s) (U:BG s a) (hb:BG s b) (h:a<=b):Ck s a b (CY s a)=CY s b:=ia hv U (U.sub hb h) h hb.le
def rQ (t:List UInt8) (Ds wh:Int) (p:Int×Int):List V:=[.str t,.int .i64 Ds,.int .i64 wh,.int .i64 p.1,.int .i64 p.2]
theorem M9 {st:St} {o:List (List V)} {g k a b:Int} (h:B0 st0 st w1 n1 w2 (o.length*5)) (hl:o.length<=1000000000)
 (kk:∀U st',B0 st0 st' w1 n1 U ((o.length+1)*5)->st'.box=st.box->K (.slice 5 (o++[rQ t g k (a,b)]) U) st'):Ah 5 48 o w2 [[.str t,.int .i64 g,.int .i64 k,.int .i64 a,.int .i64 b]] st K:=
 Kl h.swap rfl (by rw [List.length_singleton];omega) (by rw [List.length_singleton];unfold En;omega) rfl GT (λw1' st' hr hb=>kk w1' st' hr.swap hb)
end Go.Aw
namespace Go.Proofs.Z
open Go Go.Aw
section
variable {st:St} {R:Ay->St->Prop}
attribute [local irreducible] Go.Aw.Ah
theorem ai {sp q:Nat} {ends:Int} (hl:s.length<=100000000) (hv:Vd s) (c1:BG s sp) (c2:BG s q) (U:sp<=q)
 (hb:st.box b=some (OB s p sp (CY s sp).1 (CY s sp).2 AA notes w1 w2 Ds ends j))
 (h:R (.ret (.Bu [.int .i64 (CY s q).1,.int .i64 (CY s q).2])) (st.Aa b (OB s p q (CY s q).1 (CY s q).2 AA notes w1 w2 Ds ends j))):PC 133 [.ptr b 0,.int .i64 q] st R:=by
 have e:Ck s sp q ((CY s sp).1,(CY s sp).2)=CY s q:=M5 hv c1 c2 U
 have hc:=MH (s:=s) (p:=sp)
 refine mE hl U c2.le AC AC hb ?_
 rw [e];exact h
theorem jm {sp q:Nat} {k e0 ends:Int} (hl:s.length<=50000000) (hv:Vd s) (c1:BG s sp) (c2:BG s p) (c3:BG s q) (hsp:sp<=p) (hpq:p<=q)
 (hg:0<=Ds/\Ds<=1000000000) (ht:AA.length<=1000000000) (hb0:st0.box b=none) (hR:B0 st0 st w1 (AA.length*4) w2 n2) (hb:st.box b=some (OB s p sp (CY s sp).1 (CY s sp).2 AA notes w1 w2 Ds ends j))
 (h:∀U st',B0 st0 st' U ((AA.length+1)*4) w2 n2->st'.box b=some (OB s q q (CY s q).1 (CY s q).2 (AA++[p4 k (AY s p q) (CY s p)]) notes U w2
   (if cntF k (AY s p q) then Ds+1 else Ds) (CY s q).1 true)->R (.ret (.Bu [])) st'):PC 63 [.ptr b 0,.agg [.int .i64 k,.int .i64 q,.int .i64 e0]] st R:=by
 have e1:Ck s sp p ((CY s sp).1,(CY s sp).2)=CY s p:=M5 hv c1 c2 hsp
 have e2:Ck s p q (CY s p)=CY s q:=M5 hv c2 c3 hpq
 have hc:=MH (s:=s) (p:=sp)
 refine mF AC hsp hpq c3.le AC AC hg ht hb0 hR hb (λU st' hr hb'=>h U st' hr ?_)
 rw [e1,e2] at hb';exact hb'
theorem pA {sp q:Nat} {ends:Int} (hl:s.length<=50000000) (hv:Vd s) (c1:BG s sp) (c2:BG s p) (c3:BG s q) (hsp:sp<=p) (hpq:p<=q)
 (hg:0<=Ds/\Ds<=1000000000) (ht:notes.length<=1000000000) (U:st0.box b=none) (hR:B0 st0 st w1 n1 w2 (notes.length*5)) (hb:st.box b=some (OB s p sp (CY s sp).1 (CY s sp).2 AA notes w1 w2 Ds ends j))
 (h:∀w2' st' sp',BG s sp'->sp'<=DB s q->B0 st0 st' w1 n1 w2' ((notes.length+1)*5)->
   st'.box b=some (OB s (DB s q) sp' (CY s sp').1 (CY s sp').2 AA (notes++[rQ (AY s p q) Ds (if j&&decide (ends=(CY s p).1)&&decide ((CY s q).1=(CY s p).1) then (if XF s p q then 1 else 2) else 3) (CY s p)]) w1 w2' Ds (CY s q).1
    (j&&decide (ends=(CY s p).1)&&decide ((CY s q).1=(CY s p).1)&&XF s p q))->R (.ret (.Bu [])) st'):PC 61 [.ptr b 0,.int .i64 q] st R:=by
 have c4:=c3.qa hv
 have hq:=c3.le
 have hr:=LC hq
 have z1:=MH (s:=s) (p:=p)
 have z2:=MH (s:=s) (p:=q)
 have z3:=MH (s:=s) (p:=DB s q)
 refine A1 Ad [] Tryz.func61 rfl Do rfl ?_
 refine Ak (Am Ad ?_)
 repeat' ((conv=>whnf);first|exact CL|(refine Bp ?_;intros)|(refine CM ?_ ?_ ?_;rotate_left)|(refine Bq ?_ ?_<;>intro _)|refine ai AC hv c1 c2 hsp hb ?_|refine Al hb ?_|with_reducible refine WF ?_)
 refine Ak (Am Ad ?_)
 repeat' ((conv=>whnf);first|exact CL|(refine Bp ?_;intros)|(refine CM ?_ ?_ ?_;rotate_left)|(refine Bq ?_ ?_<;>intro _)|refine To hpq hq ?_|refine Al (St.AK _ _ _) ?_|with_reducible refine WF ?_)
 refine Ak (Am Ad ?_)
 repeat' ((conv=>whnf);first|exact CL|(refine Bp ?_;intros)|(refine CM ?_ ?_ ?_;rotate_left)|(refine Bq ?_ ?_<;>intro _)|refine ai AC hv c2 c3 hpq (St.AK _ _ _) ?_|refine Al (St.AK _ _ _) ?_|with_reducible refine WF ?_)
 have hbl:∀{st:St} {R:Ay->St->Prop} {sp:Nat} {Ds ends:Int} {j:Bool} {notes:List (List V)} {w2:AB},st.box b=some (OB s q sp (CY s sp).1 (CY s sp).2 AA notes w1 w2 Ds ends j)->
  R (.ret (.Bu [])) (st.Aa b (OB s (DB s q) sp (CY s sp).1 (CY s sp).2 AA notes w1 w2 Ds ends j))->PC 59 [.ptr b 0] st R:=λhb h=>LB AC hq hb h
 have hcase:(j=false\/(j=true/\¬ends=(CY s p).1)\/(j=true/\ends=(CY s p).1/\¬(CY s q).1=(CY s p).1))\/(j=true/\ends=(CY s p).1/\(CY s q).1=(CY s p).1):=by
  cases j
  .exact .inl (.inl rfl)
  .by_cases e1:ends=(CY s p).1
   .by_cases e2:(CY s q).1=(CY s p).1
    .exact .inr ⟨rfl,e1,e2⟩
    .exact .inl (.inr (.inr ⟨rfl,e1,e2⟩))
   .exact .inl (.inr (.inl ⟨rfl,e1⟩))
 rcases hcase with hc|⟨rfl,he1,he2⟩
 .have e:(j&&decide (ends=(CY s p).1)&&decide ((CY s q).1=(CY s p).1))=false:=by
   rcases hc with rfl|⟨rfl,e1⟩|⟨rfl,e1,e2⟩<;>simp [*]
  rw [e] at h
  rcases hc with rfl|⟨rfl,e1⟩|⟨rfl,e1,e2⟩
  all_goals refine Ak (Am Ad ?_)
  repeat' ((conv=>whnf);first|exact CL|(refine Bp ?_;intros)|(refine CM ?_ ?_ ?_;rotate_left)|(refine Bq ?_ ?_<;>intro _)|refine Al (St.AK _ _ _) ?_|with_reducible refine WF ?_)
  all_goals refine Ak (Am Ad ?_)
  repeat' ((conv=>whnf);first|exact CL|(refine Bp ?_;intros)|(refine CM ?_ ?_ ?_;rotate_left)|(refine Bq ?_ ?_<;>intro _)|refine Al (St.AK _ _ _) ?_|with_reducible refine WF ?_)
  all_goals refine Ak (Am Ad ?_)
  repeat' ((conv=>whnf);first|exact CL|(refine Bp ?_;intros)|(refine CM ?_ ?_ ?_;rotate_left)|(refine Bq ?_ ?_<;>intro _)|refine hbl (St.AK _ _ _) ?_|with_reducible refine WF ?_)
  all_goals refine Ak (Am Ad ?_)
  repeat' ((conv=>whnf);first|exact CL|(refine Bp ?_;intros)|(refine CM ?_ ?_ ?_;rotate_left)|(refine Bq ?_ ?_<;>intro _)|refine Al (St.AK _ _ _) ?_|with_reducible refine WF ?_)
  all_goals refine Ak (Am Ad ?_)
  repeat' ((conv=>whnf);first|exact CL|(refine Bp ?_;intros)|(refine CM ?_ ?_ ?_;rotate_left)|(refine Bq ?_ ?_<;>intro _)|with_reducible refine WF ?_)
  all_goals refine Am Ad ?_
  repeat' ((conv=>whnf);first|refine Ae [(0,true),(1,true),(2,true),(3,true),(4,true),(5,true),(6,true),(7,false),(8,true),(9,true),(10,false)] [] GE ?_|exact CL|(refine Bp ?_;intros)|(refine CM ?_ ?_ ?_;rotate_left)|(refine Bq ?_ ?_<;>intro _)|refine Al (St.AK _ _ _) ?_|refine M9 (((((hR.set U _).set U _).set U _).set U _).set U _) ht (λw1' st1 hr1 hb1=>?_)|refine Al ((congrFun hb1 b).trans (St.AK _ _ _)) ?_|with_reducible refine WF ?_)
  all_goals exact fin (h w1' _ q c3 hr.1 (hr1.set U _) (St.AK _ _ _)) rfl
 .have e:(true&&decide (ends=(CY s p).1)&&decide ((CY s q).1=(CY s p).1))=true:=by simp [*]
  rw [e] at h
  refine Ak (Am Ad ?_)
  repeat' ((conv=>whnf);first|exact CL|(refine Bp ?_;intros)|(refine CM ?_ ?_ ?_;rotate_left)|(refine Bq ?_ ?_<;>intro _)|refine Al (St.AK _ _ _) ?_|with_reducible refine WF ?_)
  refine Ak (Am Ad ?_)
  repeat' ((conv=>whnf);first|exact CL|(refine Bp ?_;intros)|(refine CM ?_ ?_ ?_;rotate_left)|(refine Bq ?_ ?_<;>intro _)|refine Al (St.AK _ _ _) ?_|with_reducible refine WF ?_)
  refine Ak (Am Ad ?_)
  repeat' ((conv=>whnf);first|exact CL|(refine Bp ?_;intros)|(refine CM ?_ ?_ ?_;rotate_left)|(refine Bq ?_ ?_<;>intro _)|refine hbl (St.AK _ _ _) ?_|with_reducible refine WF ?_)
  refine Ak (Am Ad ?_)
  repeat' ((conv=>whnf);first|exact CL|(refine Bp ?_;intros)|(refine CM ?_ ?_ ?_;rotate_left)|(refine Bq ?_ ?_<;>intro _)|refine Al (St.AK _ _ _) ?_|with_reducible refine WF ?_)
  rcases hin:XF s p q with _|_
  all_goals rw [hin] at h
  .have hno:¬DB s q<s.length\/(DB s q<s.length/\¬(CY s (DB s q)).1=(CY s p).1):=by
    by_cases h1:DB s q<s.length
    .exact .inr ⟨h1,λx=>by unfold XF at hin;simp [h1,x] at hin⟩
    .exact .inl h1
   rcases hno with hno|⟨hy,hno⟩
   all_goals refine Ak (Am Ad ?_)
   repeat' ((conv=>whnf);first|exact CL|(refine Bp ?_;intros)|(refine CM ?_ ?_ ?_;rotate_left)|(refine Bq ?_ ?_<;>intro _)|refine ai AC hv c3 c4 hr.1 (St.AK _ _ _) ?_|refine Al (St.AK _ _ _) ?_|refine WJ (λ_=>?_)|with_reducible refine WF ?_)
   all_goals refine Am Ad ?_
   repeat' ((conv=>whnf);first|refine Ae [(0,true),(1,true),(2,true),(3,true),(4,true),(5,true),(6,true),(7,false),(8,true),(9,true),(10,false)] [] GE ?_|exact CL|(refine Bp ?_;intros)|(refine CM ?_ ?_ ?_;rotate_left)|(refine Bq ?_ ?_<;>intro _)|refine Al (St.AK _ _ _) ?_|refine M9 ((((((hR.set U _).set U _).set U _).set U _).set U _).set U _) ht (λw1' st1 hr1 hb1=>?_)|refine Al ((congrFun hb1 b).trans (St.AK _ _ _)) ?_|with_reducible refine WF ?_)
   all_goals exact fin (h w1' _ (DB s q) c4 (Nat.le_refl _) (hr1.set U _) (St.AK _ _ _)) rfl
  .have hy:DB s q<s.length/\(CY s (DB s q)).1=(CY s p).1:=by unfold XF at hin;simpa using hin
   obtain ⟨hy1,hy2⟩:=hy
   refine Ak (Am Ad ?_)
   repeat' ((conv=>whnf);first|exact CL|(refine Bp ?_;intros)|(refine CM ?_ ?_ ?_;rotate_left)|(refine Bq ?_ ?_<;>intro _)|refine ai AC hv c3 c4 hr.1 (St.AK _ _ _) ?_|refine Al (St.AK _ _ _) ?_|refine WJ (λ_=>?_)|with_reducible refine WF ?_)
   refine Am Ad ?_
   repeat' ((conv=>whnf);first|refine Ae [(0,true),(1,true),(2,true),(3,true),(4,true),(5,true),(6,true),(7,false),(8,true),(9,true),(10,false)] [] GE ?_|exact CL|(refine Bp ?_;intros)|(refine CM ?_ ?_ ?_;rotate_left)|(refine Bq ?_ ?_<;>intro _)|refine Al (St.AK _ _ _) ?_|refine M9 (((((((hR.set U _).set U _).set U _).set U _).set U _).set U _).set U _) ht (λw1' st1 hr1 hb1=>?_)|refine Al ((congrFun hb1 b).trans (St.AK _ _ _)) ?_|with_reducible refine WF ?_)
   all_goals exact fin (h w1' _ (DB s q) c4 (Nat.le_refl _) (hr1.set U _) (St.AK _ _ _)) rfl
end
end Go.Proofs.Z
namespace Go.Aw
open Go
theorem Bd.word {w:List UInt8} (h:∀b ∈ w,b.toNat<128):Bd (w++t) w.length:=by
 induction w with
 |nil=>exact .zero _
 |cons a w U=>
  have e:(AJ (a::(w++t))).2=1:=by rw [EY (h a List.mem_cons_self)]
  have:=Bd.step (l:=a::(w++t)) (k:=w.length) GT ke
  grind
end Go.Aw
