/-
  Parts of a proof: lemmas that the last text uses.
-/
import Derived.Test.YtpkekfapphbgjaaGreatDoorW6
set_option linter.unusedVariables false
set_option linter.unusedSimpArgs false
set_option maxHeartbeats 16000000
variable {t:Go.Proofs.Z.Tk} {l:List Go.Aw.Nd} {s x w m:List UInt8} {s':Go.Proofs.Z.An} {n o:Go.Aw.Nd} {k i b v:Int} {p:Go.Aw.Nd->Bool} {K:List Go.Aw.V->Prop} {α β:Type} {c:Nat} {P:Prop} {Q:List Go.Aw.Nd->Go.Proofs.Z.An->Prop} {ks:List Int} {A stmt:Go.Proofs.Z.Rd Go.Aw.Nd} {br:Bool} {g:Go.FuncId}
namespace Go.Proofs.Z
open Go Go.Aw
def rE (k:Int):Nat:=if k=1 then 3 else if k=30 then 2 else 1
def PH:List Nd->Nat
 |[]=>0
 |n::r=>rE n.kind+PH r
theorem u7 (k:Int):1<=rE k:=by
 unfold rE
 grind
theorem Kf:∀{a b:List Nd},PH (a++b)=PH a+PH b
 |[],b=>by rw [List.nil_append,PH,Nat.zero_add]
 |n::r,b=>by rw [List.cons_append,PH,PH,Kf];omega
theorem QH:∀{l:List Nd},l.length<=PH l
 |[]=>Nat.le_refl _
 |n::r=>by have:=QH (l:=r);have:=u7 n.kind;rw [PH,List.length_cons];omega
def DT (t:Tk):Bool:=t.kind==18||t.kind==19||t.kind==20||(t.kind==15&&(t.text==[123]||t.text==[125]||t.text==[59]))
inductive Bh:List Nd->An->An->Prop where
 |nil (s:An):Bh [] s s
 |app {l m:List Nd} {s s1 s2:An}:Bh l s s1->Bh m s1 s2->Bh (l++m) s s2
 |tok {s:An}:(Ae s).2.2=0->(Ae s).1.kind<18->(Ae s).1.kind≠0->Bh [BP (Ae s).1] s (Ae s).2.1
 |skip {s:An}:(Ae s).2.2=0->DT (Ae s).1=true->Bh [] s (Ae s).2.1
 |close {s:An}:(DX s).2=true->Bh [] s (DX s).1
 |node {k:Int} {l:List Nd} {s s':An}:Bh l s s'->k≠1->1+rE k<=PH l->Bh [At k l] s s'
 |block {f:Bool} {l:List Nd} {s s':An}:(Ae s).2.2=0->DT (Ae s).1=true->Bh l (Ae s).2.1 s'->Bh [Dr f l] s s'
theorem Hu (h:DT t=true):t.kind≠0/\t.kind≠21:=by
 unfold DT at h
 grind
theorem Bh.size {l:List Nd} {s s':An} (h:Bh l s s'):AD l+PH l+4*mu s'<=4*mu s:=by
 induction h with
 |nil s=>simp only [AD,PH];omega
 |app _ _ h1 h2=>rw [A2,Kf];omega
 |tok h1 h2 h3=>
  rename_i s
  have:=(Eo h1).2 AC
  have e:AD [BP (Ae s).1]+PH [BP (Ae s).1]=4:=rfl
  omega
 |skip h1 h2=>have:=(Eo h1).1;simp only [AD,PH];omega
 |close h1=>have:=Oo h1;simp only [AD,PH];omega
 |node h1 h2 h3 ih=>
  rename_i k l s s'
  have e:AD [At k l]+PH [At k l]=(1+AD l+0)+(rE k+0):=by simp only [At,AD,Nd.size,PH];rfl
  omega
 |block h1 h2 h3 ih=>
  rename_i f l s s'
  have:=(Eo h1).2 (Hu h2).2
  have e:AD [Dr f l]+PH [Dr f l]=(1+AD l+0)+(1+0):=by simp only [Dr,AD,Nd.size,PH];rfl
  omega
theorem Bh.wK {s:An} (h:Bh [n] s s'):n.size+4*mu s'<=4*mu s:=by
 have:=h.size
 simp only [AD] at this
 omega
theorem Bh.two {s:An} (h:Bh l s s') (hk:k≠1) (U:k≠30) (hl:2<=l.length):Bh [At k l] s s':=
 .node h hk (by have:=QH (l:=l);unfold rE;grind)
theorem Bh.is {s:An} (h:BB s k x=true) (U:k≠0) (h1:k<18):Bh [BP (Ae s).1] s (Ae s).2.1:=by
 have e:(Ae s).1.kind=k:=by
  unfold BB at h
  simp only [Bool.and_eq_true,beq_iff_eq] at h
  exact h.1
 exact .tok (HX h U) AC AC
theorem Bh.cons {s s1 s2:An} (h:Bh [n] s s1) (k:Bh l s1 s2):Bh (n::l) s s2:=.app h k
theorem Bh.snoc {s s1 s2:An} (h:Bh l s s1) (k:Bh [n] s1 s2):Bh (l++[n]) s s2:=.app h k
theorem Bh.one {s:An} (h:Bh l s s') (hk:k≠1) (U:k≠30) (hl:1<=l.length):Bh [cR k l] s s':=by
 unfold cR
 split
 .match l,‹l.length=1› with
  |[x],_=>exact h
 .exact h.two hk U AC
def Dj (A:An->Rs):Prop:=∀s n s',A s=.inr (n,s')->Bh [n] s s'
variable {A:An->Rs}
theorem kK (h:Ep t=true):t.kind≠0/\t.kind<18:=by
 unfold Ep at h
 grind
theorem Vv {s:An} (hs:Ep (Ae s).1=true) (h:Dp s=.inr (n,s')):Bh [n] s s':=by
 have U:=kK hs
 unfold Dp at h
 split at h
 .rename_i e;cases h;exact .tok e U.2 U.1
 grind
theorem sD {s:An} (U:k≠0) (h1:k<18) (h:Mf s k x=.inr (n,s')):Bh [n] s s':=by
 unfold Mf at h
 split at h
 .rename_i e
  rw [Kh e U] at h
  cases h
  exact .is e U h1
 .cases h
theorem Re {s:An} {s0:An} (hk:k≠1) (U:k≠30) (hl:1<=l.length) (h0:Bh l s0 s) (h:Jh k l s x=.inr (n,s')):Bh [n] s0 s':=by
 unfold Jh at h
 split at h
 .cases h
 .rename_i p hp
  cases h
  exact (h0.snoc (sD Do Do hp)).two hk U f9
theorem sC (hA:Dj A) (l:List Nd) (s:An):∀s0 q s',Bh l s0 s->Hf A l s=.inr (q,s')->Bh q s0 s':=by
 fun_induction Hf A l s with
 |case1 l s h1 e1 h2=>simp_all
 |case2 l s h1 p h2 h3 ih=>intro s0 q s' U h;exact ih s0 q s' (U.snoc (hA s p.1 p.2 h2)) h
 |case3 l s h1 p h2 h3=>simp_all
 |case4 l s h1=>simp_all
theorem Rf (U:Dj A):Dj (Hg A):=λs n s' h=>by
 unfold Hg at h
 split at h
 .cases h
 .rename_i p hp
  have h1:=U s p.1 p.2 hp
  split at h
  .cases h
  .rename_i q hq
   have h2:=sC U _ _ _ _ _ h1 hq
   obtain ⟨r,hr⟩:=pV _ _ _ _ hq
   split at h
   .simp_all
   .rename_i hl
    cases h
    exact h2.two Do Do (by grind)
theorem sA (hA:Dj A) (l:List Nd) (s:An):∀s0 q s',Bh l s0 s->HO A l s=.inr (q,s')->Bh q s0 s'/\∃r,q=l++r:=by
 fun_induction HO A l s with
 |case1 l s h1 e1 h2=>simp_all
 |case2 l s h1 p h2 h3 ih=>
  intro s0 q s' U h
  obtain ⟨k1,r,k2⟩:=ih s0 q s' (.app U (.cons (.is h1 Do Do) (Rf hA _ p.1 p.2 h2))) h
  simp_all
 |case3 l s h1 p h2 h3=>simp_all
 |case4 l s h1=>simp_all
theorem Uc (hA:Dj A) {U:Nd} {s0 s:An} (h0:Bh [n] s0 s) (h:Em A n s=.inr (U,s')):Bh [U] s0 s':=by
 unfold Em at h
 split at h
 .cases h
 .rename_i q hq
  obtain ⟨k1,r,k3⟩:=sA hA _ _ _ _ _ h0 hq
  split at h
  .simp_all
  .rename_i hl
   cases h
   exact k1.two Do Do (by grind)
theorem Nh (U:Dj A):Dj (EF A):=λs n s' h=>by
 unfold EF at h
 split at h
 .cases h
 .rename_i p hp
  exact Uc U (Rf U _ p.1 p.2 hp) h
theorem sB (U:Dj A):Dj (Hj A):=λs n s' h=>by
 unfold Hj at h
 split at h
 .cases h
 .rename_i p hp
  have h1:=Rf U _ p.1 p.2 hp
  split at h
  .rename_i hi
   split at h
   .cases h
   .rename_i q hq
    cases h
    exact (h1.cons (.cons (.is hi Do Do) (Nh U _ q.1 q.2 hq))).two Do Do (Nat.le_of_ble_eq_true rfl)
  .exact Uc U h1 h
theorem iG (hA:Dj A) (l:List Nd) (s:An):∀s0 q s',Bh l s0 s->1<=l.length->C6 A l s=.inr (q,s')->Bh q s0 s'/\1<=q.length:=by
 fun_induction C6 A l s with
 |case1 l s h1 e1 h2=>simp_all
 |case2 l s h1 p h2 h3 ih=>
  intro s0 q s' U hl h
  exact ih s0 q s' (.app U (.cons (.is h1 Do Do) (hA _ p.1 p.2 h2))) f9 h
 |case3 l s h1 p h2 h3=>simp_all
 |case4 l s h1=>grind
theorem mF (l:List Nd) (s:An):∀s0,Bh l s0 s->1<=l.length->Bh (DY l s).1 s0 (DY l s).2/\1<=(DY l s).1.length:=by
 fun_induction DY l s with
 |case1 l s h1 h2 ih=>intro s0 U hl;exact ih s0 (U.snoc (.is h1 Do Do)) f9
 |case2 l s h1 h2=>simp_all
 |case3 l s h1=>simp_all
theorem mG (hA:Dj A) {s:An} (hs:Ep (Ae s).1=true) (h:He A s=.inr (n,s')):Bh [n] s s':=by
 unfold He at h
 split at h
 .cases h
 .rename_i p hp
  have h1:=Vv hs (n:=p.1) (s':=p.2) hp
  split at h
  .rename_i hi
   exact Re Do Do (Nat.le_of_ble_eq_true rfl) (h1.cons (.is hi Do Do)) h
  split at h
  .exact Re Do Do (Nat.le_of_ble_eq_true rfl) h1 h
  split at h
  .obtain ⟨k1,U⟩:=mF [p.1] p.2 s h1 (Nat.le_of_ble_eq_true rfl)
   exact Re Do Do U k1 h
  split at h
  .cases h
  .rename_i q hq
   have h2:=hA _ q.1 q.2 hq
   split at h
   .cases h
   .rename_i r hr
    obtain ⟨k1,U⟩:=iG hA _ _ _ _ _ (h1.cons h2) (Nat.le_of_ble_eq_true rfl) hr
    exact Re AC AC U k1 h
theorem iF (U:Dj A) {s:An} (hs:Ep (Ae s).1=true) (h:Fu A s=.inr (n,s')):Bh [n] s s':=by
 unfold Fu at h
 split at h
 .cases h
 .rename_i p hp
  have h1:=Vv hs (n:=p.1) (s':=p.2) hp
  split at h
  .rename_i hi
   cases h
   exact (h1.cons (.is hi Do Do)).two Do Do (Nat.le_of_ble_eq_true rfl)
  split at h
  .cases h
  .rename_i q hq
   exact Re Do Do (Nat.le_of_ble_eq_true rfl) (h1.cons (U _ q.1 q.2 hq)) h
theorem Io (hA:Dj A):Dj (DS A):=λs n s' h=>by
 unfold DS at h
 split at h
 .rename_i U
  split at h
  .split at h
   .exact mG hA U h
   .exact iF hA U h
  .exact Vv U h
 .cases h
theorem Ip:∀d,Dj (DV d)
 |0=>λs n s' h=>by cases h
 |d+1=>Nh (Io (Ip d))
theorem Av {p:Env->Prop} (h:∀e,p e):∀e:Env,p e:=h
theorem aT {es:List (List V)} {e:List V} (U:0<=i) (h:es[i.toNat]? =some e) (k:K e):0<=i/\∃e,es[i.toNat]? =some e/\K e:=⟨U,e,h,k⟩
theorem nH {l:List Int} {x:Int} (h:l[i.toNat]? =some x) (U:0<=i) (k:K [.int .i64 x]):0<=i/\∃e,(ints l)[i.toNat]? =some e/\K e:=⟨U,_,by simp [ints,h],k⟩
theorem xW {es:List α} {n:Nat} {K:Nat->Prop} (h:es.length=n) (k:K n):∀m,m=es.length->m<DR->K m:=λm U _=>by rw [h] at U;subst U;exact k
section
variable {st:St} {K:As->St->Prop}
theorem JF (h:K (.ret (.bool (OX t))) st):PC 369 [FX t] st K:=by
 refine pB Tryz.func369 ?_
 repeat' ((conv=>whnf);first|  (refine Dk ?_ ?_<;>intro _)|fail)
 all_goals conv=>whnf
 all_goals (refine AB h ?_;clear h;simp_all [OX])
theorem tp (h:K (.ret (.bool (RX t))) st):PC 371 [FX t] st K:=by
 refine pB Tryz.func371 ?_
 repeat' ((conv=>whnf);first|  (refine Dk ?_ ?_<;>intro _)|refine JF ?_)
 all_goals conv=>whnf
 all_goals (refine AB h ?_;clear h;simp_all [RX])
theorem XS (h:K (.ret (.bool (FQ t))) st):PC 270 [FX t] st K:=by
 refine pB Tryz.func270 ?_
 repeat' ((conv=>whnf);first|  (refine Dk ?_ ?_<;>intro _)|fail)
 all_goals conv=>whnf
 all_goals (refine AB h ?_;clear h;simp_all [FQ])
theorem M1 (h:K (.ret (.bool (GK t))) st):PC 224 [FX t] st K:=by
 refine pB Tryz.func224 ?_
 repeat' ((conv=>whnf);first|  (refine Dk ?_ ?_<;>intro _)|refine XS ?_)
 all_goals conv=>whnf
 all_goals (refine AB h ?_;clear h;simp_all [GK,FQ,vA,wIf,rf,wDo])
theorem VH (h:K (.ret (.bool (Mv t))) st):PC 225 [FX t] st K:=by
 refine pB Tryz.func225 ?_
 repeat' ((conv=>whnf);first|  (refine Dk ?_ ?_<;>intro _)|fail)
 all_goals conv=>whnf
 all_goals (refine AB h ?_;clear h;simp_all [Mv])
theorem Xi (h:K (.ret (.bool (Mb t))) st):PC 222 [FX t] st K:=by
 refine pB Tryz.func222 ?_
 repeat' ((conv=>whnf);first|  (refine Dk ?_ ?_<;>intro _)|fail)
 all_goals conv=>whnf
 all_goals (refine AB h ?_;clear h;simp_all [Mb])
theorem MC {own:AH} (h:K (.ret (enc (At k l))) st):PC 315 [.int .i64 k,.slice 6 (l.map AK) own] st K:=by
 refine pB Tryz.func315 ?_
 repeat' ((conv=>whnf);first|  fail)
 all_goals exact EK (St.le_refl _) Cb h
theorem fv {a:Nd} {own:AH} (h:K (.ret (enc (At k [a]))) st):PC 315 [.int .i64 k,.slice 6 [AK a] own] st K:=MC (l:=[a]) h
theorem uy {a b:Nd} {own:AH} (h:K (.ret (enc (At k [a,b]))) st):PC 315 [.int .i64 k,.slice 6 [AK a,AK b] own] st K:=MC (l:=[a,b]) h
theorem Wd {a b c:Nd} {own:AH} (h:K (.ret (enc (At k [a,b,c]))) st):PC 315 [.int .i64 k,.slice 6 [AK a,AK b,AK c] own] st K:=MC (l:=[a,b,c]) h
theorem uz {a b c d:Nd} {own:AH} (h:K (.ret (enc (At k [a,b,c,d]))) st):PC 315 [.int .i64 k,.slice 6 [AK a,AK b,AK c,AK d] own] st K:=MC (l:=[a,b,c,d]) h
theorem xx {own:AH} (h:K (.ret (enc (cR k l))) st):PC 347 [.int .i64 k,.slice 6 (l.map AK) own] st K:=by
 refine pB Tryz.func347 ?_
 match l with
 |[x]=>
  have h:K (.ret (enc x)) st:=h
  have hn:(([x]:List Nd).length:Int)=1:=rfl
  repeat' ((conv=>whnf);first|(refine BS ?_;intros)|refine Cj (l:=[x]) (λ_=>?_)|refine aT AC rfl ?_)
  all_goals exact AF rfl h
 |[]=>
  have h:K (.ret (enc (At k []))) st:=h
  have hn:¬(([]:List Nd).length:Int)=1:=Do
  repeat' ((conv=>whnf);first|(refine BS ?_;intros)|refine Cj (l:=[]) (λ_=>?_)|refine MC (l:=[]) ?_)
  all_goals exact AF rfl h
 |x::y::r=>
  have h:K (.ret (enc (At k (x::y::r)))) st:=h
  have hn:¬((x::y::r).length:Int)=1:=by simp only [List.length_cons];omega
  repeat' ((conv=>whnf);first|(refine BS ?_;intros)|refine Cj (l:=x::y::r) (λ_=>?_)|refine MC (l:=x::y::r) ?_)
  all_goals exact AF rfl h
theorem VR (h:K (.ret (.bool (Ma n))) st):PC 409 [enc n] st K:=by
 refine pB Tryz.func409 ?_
 repeat' ((conv=>whnf);first|  (refine Dk ?_ ?_<;>intro _)|refine mn ?_)
 all_goals conv=>whnf
 all_goals (refine AB h ?_;clear h;simp_all [aZ])
theorem eT (U:n.size<=1000000000) (h:K (.ret (.bool (lu n))) st):PC 348 [enc n] st K:=by
 refine pB Tryz.func348 ?_
 have hs:(strs (Hb n).1).length=(Hb n).1.length:=by simp [strs]
 repeat' ((conv=>whnf);first|  (refine Dk ?_ ?_<;>intro _)|refine oM U ?_|refine xW hs ?_)
 all_goals conv=>whnf
 all_goals (refine AB h ?_;clear h;simp_all [lu])
end
theorem TZ (h:FQ t=true):t.kind≠0/\t.kind≠21:=by
 unfold FQ at h
 simp only [Bool.or_eq_true,Bool.and_eq_true,beq_iff_eq] at h
 omega
theorem Xs (h:OX t=true):t.kind≠0/\t.kind≠21:=by
 unfold OX at h
 simp only [Bool.or_eq_true,Bool.and_eq_true,beq_iff_eq] at h
 omega
theorem QE (h:Mb t=true):t.kind≠0/\t.kind≠21:=by
 unfold Mb at h
 simp only [Bool.or_eq_true,Bool.and_eq_true,beq_iff_eq] at h
 omega
abbrev pv (b d:Nat):V:=.agg [.ptr b 0,.int .i64 (d:Int)]
section
variable {st0 st:St} {b d:Nat} {s:An} {rows:List (AH×List Nd)} {K:As->St->Prop}
theorem fN (U:Cx st0 b s st rows) (kk:∀st',Cx st0 b s st' rows->K (.ret (.bool (BB s 15 x))) st'):PC 311 [pv b d,.str x] st K:=by
 refine pB Tryz.func311 ?_
 repeat' ((conv=>whnf);first|  (refine Dk ?_ ?_<;>intro _)|refine tt U (λst1 U=>?_))
 all_goals conv=>whnf
 all_goals exact AB (kk st1 U) ‹_›
theorem W6 (U:Cx st0 b s st rows) (e:BB s 15 x=true) (kk:∀st',Cx st0 b s st' rows->K (.ret (.bool true)) st'):PC 311 [pv b d,.str x] st K:=fN U (by rw [e];exact kk)
theorem db (U:Cx st0 b s st rows) (e:BB s 15 x=false) (kk:∀st',Cx st0 b s st' rows->K (.ret (.bool false)) st'):PC 311 [pv b d,.str x] st K:=fN U (by rw [e];exact kk)
theorem yx {Q:Prop} (U:Cx st0 b s st rows) (h:if BB s 15 x=true then P else Q) (k1:∀st',Cx st0 b s st' rows->BB s 15 x=true->P->K (.ret (.bool true)) st') (k2:∀st',Cx st0 b s st' rows->BB s 15 x=false->Q->K (.ret (.bool false)) st'):
 PC 311 [pv b d,.str x] st K:=by
 cases e:BB s 15 x with
 |true=>exact W6 U e λst' c=>k1 st' c e (by rw [if_pos e] at h;exact h)
 |false=>exact db U e λst' c=>k2 st' c e (by rw [if_neg (by rw [e];decide)] at h;exact h)
theorem En {own:AH} (h0:ks.contains 0=false):A9 enc 151 (λb=>[.ptr b 0,.slice 1 (ints ks) own]) (C8 ks):=by
 refine ⟨λ{st0 b s st rows K} U h=>?_⟩
 unfold C8 at h
 simp only [Rd.Ah,Rd.Aq] at h
 refine pB Tryz.func151 ?_
 repeat' ((conv=>whnf);first|(refine BS ?_;intros)|refine SF ‹_› (λst1 U=>?_)|refine Hx.go ‹_› ‹_› (λn s1 st1 hr hm U h=>?_) (λe s1 st1 U h=>?_)|refine T0 ‹_› ‹_› (λe s1 st1 U h=>?_)|exact B1 (Cx.y ‹_›) ‹_›|exact B1 (Cx.y (Cx.drop ‹_›)) ‹_›|exact ⟨⟨_,_,_,_⟩,⟨‹_›,Rd.E6 ‹_› UV,WF,UV⟩,UV,(by refine ⟨rfl,?_,?_,rfl⟩<;>repeat' (first|exact trivial|exact rfl|refine And.intro ?_ ?_)),St.le_refl _⟩|exact De ‹_› ‹_› rfl|exact De ‹_› ‹_› Cb|exact De (Cx.drop ‹_›) ‹_› rfl|exact De (Cx.drop ‹_›) ‹_› Cb|exact B1 ‹_› ‹_›|exact B1 (Cy.drop ‹_›) ‹_›|exact B1 (Cy.drop (Cy.drop ‹_›)) ‹_›|refine WA (λ_=>?_))
 refine OG (α:=Nat×St) (λx=>[(12,.int .i64 (x.1:Int))]) [0,4,5,10,11] [0,1] (λx=>x.2) (λx=>x.1<=ks.length/\Cx st0 b s x.2 rows/\ks.contains (Ae s).1.kind=(ks.drop x.1).contains (Ae s).1.kind) (λx=>ks.length - x.1) (0,_) ⟨Nat.zero_le _,U,rfl⟩ Yl (St.le_refl _) ?_
 rintro ⟨k,st2⟩ ⟨hk,hc2,hi⟩
 dsimp only at hk hc2 hi |-
 by_cases hlt:k<ks.length
 .obtain ⟨x,hx⟩:∃x,ks[(k:Int).toNat]? =some x:=⟨_,List.getElem?_eq_getElem hlt⟩
  have hx':ks[k]? =some x:=hx
  rw [drop_at hx',List.contains_cons] at hi
  have hx1:=hx
  by_cases e:(Ae s).1.kind=x
  .rw [beq_iff_eq.2 e,Bool.true_or] at hi
   rw [if_pos hi] at h
   have hkd:(Ae s).1.kind≠0:=λz=>by rw [z] at hi;rw [h0] at hi;cases hi
   have U:=hc2
   repeat' ((conv=>whnf);first|refine nH hx AC ?_|(refine BS ?_;intros)|refine Hx.go U h (λn s1 st1 hr hm U h=>?_) (λe s1 st1 U h=>?_)|exact De U h rfl|exact B1 U h)
  .rw [beq_eq_false_iff_ne.2 e,Bool.false_or] at hi
   repeat' ((conv=>whnf);first|refine nH hx AC ?_|(refine BS ?_;intros)|fail)
   all_goals conv=>whnf
   all_goals exact ⟨(k+1,st2),⟨hlt,hc2,hi⟩,Nat.sub_lt_sub_left hlt (Nat.lt_succ_self k),Yl,St.le_refl _⟩
 .rw [List.drop_eq_nil_iff.2 AC] at hi
  rw [if_neg (by rw [hi];exact Bool.false_ne_true)] at h
  have U:=hc2
  repeat' ((conv=>whnf);first|(refine BS ?_;intros)|refine T0 U h (λe s1 st1 U h=>?_)|exact B1 U h)
theorem nO:A9 enc 151 (λb=>[.ptr b 0,.slice 1 [[.int .i64 1],[.int .i64 2],[.int .i64 3],[.int .i64 4]] .full]) (C8 [1,2,3,4]):=En (ks:=[1,2,3,4]) Do
theorem Qt:A9 enc 344 (λb=>[pv b d]) Ju:=by
 refine ⟨λ{st0 b s st rows K} hc h=>?_⟩
 unfold Ju at h
 simp only [Rd.Ah,Rd.Aq,Rd.wp_seq,Rd.wp_ret] at h
 refine pB Tryz.func344 ?_
 repeat' ((conv=>whnf);first|exact DF|(refine DG ?_ ?_ ?_;rotate_left)|(refine Gg ?_ ?_<;>intro e h)|refine SF ‹_› (λU hc=>?_)|refine QJ ‹_› ‹_› (by first|  exact Xs ‹_›|omega) (λs1 U hz hm hc h=>?_)|refine Hx.go ‹_› ‹_› (λn s1 U hr hm hc h=>?_) (λe s1 U hc h=>?_)|refine XG.go ‹_› ‹_› (λn s1 U hr hm hc h=>?_) (λe s1 U hc h=>?_)|exact B1 (Cx.y ‹_›) ‹_›|exact B1 (Cx.y (Cx.drop ‹_›)) ‹_›|refine JF ?_|refine fv ?_|refine Wd ?_|refine Av (λe1=>?_)|exact ⟨⟨_,_,_,_⟩,⟨‹_›,Rd.E6 ‹_› UV,WF,UV⟩,UV,(by refine ⟨rfl,?_,?_,rfl⟩<;>repeat' (first|exact trivial|exact rfl|refine And.intro ?_ ?_)),St.le_refl _⟩|exact De ‹_› ‹_› rfl|exact De ‹_› ‹_› Cb|exact De (Cx.drop ‹_›) ‹_› rfl|exact De (Cx.drop ‹_›) ‹_› Cb|exact B1 ‹_› ‹_›|exact B1 (Cy.drop ‹_›) ‹_›|exact B1 (Cy.drop (Cy.drop ‹_›)) ‹_›|refine nO.go hc h (λn s1 U hr hm hc h=>?_) (λe s1 U hc h=>?_)|refine Ab [(0,true),(1,true),(2,true),(3,true),(4,false),(5,true),(6,false),(7,false)] [1] GE ?_|fail)
end
theorem FO (h:P:=by (with_reducible show ∃_,_);first|exact ⟨⟨_,_,_,_⟩,⟨‹_›,Rd.E6 ‹_› UV,WF,UV⟩,UV,Yl,St.le_refl _⟩|exact B1 (Cx.y ‹_›) ‹_›|exact B1 (Cx.y (Cx.drop ‹_›)) ‹_›|exact vU ‹_› ‹_› rfl|exact De ‹_› ‹_› rfl|exact De ‹_› ‹_› Cb|exact De (Cx.drop ‹_›) ‹_› rfl|exact De (Cx.drop ‹_›) ‹_› Cb|exact B1 ‹_› ‹_›|exact B1 (Cy.drop ‹_›) ‹_›|exact B1 (Cy.drop (Cy.drop ‹_›)) ‹_›|fail):P:=h
theorem L4 {A:Prop} (k:A) (h:A->P:=by intro k;(with_reducible show Aj _ _ _ _ _ _ _);first|exact Cx.HN ‹_› bl k|exact Cx.HN (Cx.push ‹_› _) bl k|fail):P:=h k
theorem U1 {A:Prop} (k:A) (h:A->P:=by intro k;(with_reducible show PC _ _ _ _);first|((with_reducible show PC 149 _ _ _);exact ca ‹_› ‹_› k)|((with_reducible show PC 149 _ _ _);exact nL ‹_› ‹_› k)|((with_reducible show PC 311 _ _ _);exact W6 ‹_› ‹_› k)|((with_reducible show PC 311 _ _ _);exact db ‹_› ‹_› k)|((with_reducible show PC 112 _ _ _);exact SF ‹_› k)|fail):P:=h k
theorem Mi {A B:Prop} (k:A) (l:B) (h:A->B->P:=by intro k l;(with_reducible show PC _ _ _ _);first|((with_reducible show PC 149 _ _ _);exact nK ‹_› ‹_› k l)|((with_reducible show PC 311 _ _ _);exact yx ‹_› ‹_› k l)|fail):P:=h k l
theorem MT {A:Prop} (k:A) (h:A->P:=by intro k;(with_reducible show PC _ _ _ _);first|((with_reducible show PC 150 _ _ _);exact Xu ‹_› ‹_› ‹_› Do k)|((with_reducible show PC 150 _ _ _);exact QJ ‹_› ‹_› (by first|exact TZ ‹_›|exact Xs ‹_›|omega) k)|fail):P:=h k
theorem LV {A B:Prop} (k:A) (l:B) (h:A->B->P:=by intro k l;(with_reducible show PC _ _ _ _);first|((with_reducible show PC 150 _ _ _);exact Hx.go ‹_› ‹_› k l)|((with_reducible show PC 153 _ _ _);exact XG.go ‹_› ‹_› k l)|fail):P:=h k l
theorem ze {A:Prop} (k:A) (h:A->P:=by intro k;(with_reducible show PC _ _ _ _);first|((with_reducible show PC 113 _ _ _);exact T0 ‹_› ‹_› k)|fail):P:=h k
theorem Ky {A:Prop} (k:A) (h:A->P:=by intro k;(with_reducible show PC _ _ _ _);first|((with_reducible show PC 369 _ _ _);exact JF k)|((with_reducible show PC 371 _ _ _);exact tp k)|((with_reducible show PC 270 _ _ _);exact XS k)|((with_reducible show PC 315 _ _ _);exact fv k)|((with_reducible show PC 315 _ _ _);exact uy k)|((with_reducible show PC 315 _ _ _);exact Wd k)|((with_reducible show PC 315 _ _ _);exact uz k)|((with_reducible show PC 315 _ _ _);exact MC k)|((with_reducible show PC 347 _ _ _);exact xx k)|fail):P:=h k
theorem yW (h:OX t=true):t.kind≠21:=(Xs h).2
theorem Ry:Rd.Bn Ju:=Rd.Bn.look λs v s' h=>by
 split at h
 .rename_i U
  exact Rd.Bn.at (λv s' e=>H7 e (yW U)) h
 .exact Rd.Bn.seq (Mr Do) s v s' h
section
variable {st0 st:St} {b d:Nat} {s:An} {rows:List (AH×List Nd)} {K:As->St->Prop}
attribute [local irreducible] Go.Aw.Aj
theorem p5 {U:Rd Nd} (ho:A9 enc 370 (λb=>[pv b d]) U):ru (λp own=>.Bc [.slice 6 (p.1.map AK) own,.bool p.2]) (·.1) 346 (λb=>[pv b d,.bool br]) (Ue U br):=by
 refine ⟨λ{st0 b s st rows K} hc h=>?_⟩
 unfold Ue at h
 refine pB Tryz.func346 ?_
 have hmu:=hc.mu
 repeat' ((conv=>whnf);(first|refine BS ?_|refine Gg ?_ ?_|fail)<;>intros)
 refine CJ (λl own=>[(4,.slice 6 (l.map AK) own)]) (λ_ _=>[]) [1,2] [0] (λl own=>(own,l)::rows) (λl=>l.length) .full (Cx.push ‹_› []) ‹_› f8 Yl ?_
 intro l s1 st1 own1 hc h hl hm1
 simp only [pT,Rd.Ah,Rd.Aq,Rd.wp_seq,Rd.wp_ret,Rd.BI] at h
 repeat' ((conv=>whnf);(first|refine BS ?_|refine Gg ?_ ?_|fail)<;>intros)
 unfold cH at h
 refine CJ (λl own=>[(4,.slice 6 (l.map AK) own)]) (λ_ _=>[]) [1,2] [0] (λl own=>(own,l)::rows) (λl=>l.length) own1 ‹_› ‹_› hl Yl ?_
 intro l2 s2 st2 own2 hc h hl hm2
 simp only [cG,Rd.Ah,Rd.Aq,Rd.wp_seq,Rd.wp_ret,Rd.BI] at h
 cases br
 .simp only [Bool.false_eq_true,if_false] at h
  repeat' ((conv=>whnf);(first|refine BS ?_|refine Gg ?_ ?_|refine U1 ?_|refine Mi ?_ ?_|refine MT ?_|exact FO|refine Ky ?_|refine L4 ?_|refine ho.go ‹_› ‹_› ?_ ?_|refine Qt.vX Ry ‹_› ‹_› ?_ ?_)<;>intros)
 .simp only [if_true] at h
  repeat' ((conv=>whnf);(first|refine BS ?_|refine Gg ?_ ?_|refine U1 ?_|refine Mi ?_ ?_|refine MT ?_|exact FO|refine Ky ?_|refine L4 ?_|refine ho.go ‹_› ‹_› ?_ ?_|refine Qt.vX Ry ‹_› ‹_› ?_ ?_)<;>intros)
end
section
variable {st0 st:St} {b d:Nat} {s:An} {rows:List (AH×List Nd)} {K:As->St->Prop}
attribute [local irreducible] Go.Aw.Aj
theorem ph {U:Rd Nd} (ho:A9 enc 370 (λb=>[pv b d]) U):A9 enc 310 (λb=>[pv b d]) (cU U):=by
 refine ⟨λ{st0 b s st rows K} hc h=>?_⟩
 simp only [cU,Rd.wp_seq,Rd.wp_ret] at h
 refine pB Tryz.func310 ?_
 repeat' ((conv=>whnf);(first|  refine Dk ?_ ?_|exact FO|refine Ky ?_|refine ru.go (p5 ho) ‹_› ‹_› ?_ ?_)<;>intros)
theorem Tc {A:An->Rs} {hle:∀s v s',A s=.inr (v,s')->mu s'<=mu s} (hB:E4 A) (hc:Cx st0 b s st rows) (h:Rd.wp (H0 A hle) s (λv s'=>∀st',Cx st0 b s' st' rows->K (.ret (enc v)) st') (λe s'=>∀st',Cy st0 b s' st' rows->K (.B7 (fault e.1)) st')):E5 st b K (A s):=by
 cases U:A s with
 |inl p=>
  obtain ⟨e,s'⟩:=p
  unfold Rd.wp at h
  rw [Zd hB U] at h
  exact λst' hu=>h st' (hc.XaF hu)
 |inr p=>
  obtain ⟨n,s'⟩:=p
  unfold Rd.wp at h
  rw [WH U] at h
  exact λst' hu=>h st' (hc.O5 hu (hle _ _ _ U))
theorem tq {A:Rd Nd} (hd:d<=1000000) (h0:d=0->A=.fail Kn) (hc:Cx st0 b s st rows)
 (h:Rd.wp A s (λv s'=>∀st',Cx st0 b s' st' rows->K (.ret (enc v)) st') (λe s'=>∀st',Cy st0 b s' st' rows->K (.B7 (fault e.1)) st'))
 (hg:d≠0->∀K:As->St->Prop,Rd.wp A s (λv s'=>∀st',Cx st0 b s' st' rows->K (.ret (enc v)) st') (λe s'=>∀st',Cy st0 b s' st' rows->K (.B7 (fault e.1)) st')->PC g [pv b d] st K):
 PC 355 [pv b (d+1),.func g [] []] st K:=by
 refine pB Tryz.func355 ?_
 by_cases hz:d=0
 .have U:((d+1:Nat):Int)<2:=AC
  rw [h0 hz,Rd.Es] at h
  repeat' ((conv=>whnf);(first|refine BS ?_|refine Ct ?_|exact B1 (Cx.y ‹_›) ‹_›)<;>intros)
 .have U:¬((d+1:Nat):Int)<2:=AC
  repeat' ((conv=>whnf);(first|refine UC hd ?_|refine BS ?_|refine hg hz _ (Rd.wp_mono ‹_› ?_ ?_)|refine Ct ?_|exact FO)<;>intros)
theorem Qi {A:Rd Nd} (hd:d<=1000000) (h0:d=0->A=.fail Kn) (hc:Cx st0 b s st rows)
 (h:Rd.wp A s (λv s'=>∀st',Cx st0 b s' st' rows->K (.ret (enc v)) st') (λe s'=>∀st',Cy st0 b s' st' rows->K (.B7 (fault e.1)) st'))
 (hg:d≠0->∀K:As->St->Prop,Rd.wp A s (λv s'=>∀st',Cx st0 b s' st' rows->K (.ret (enc v)) st') (λe s'=>∀st',Cy st0 b s' st' rows->K (.B7 (fault e.1)) st')->PC g [pv b d,.ptr c 0] st K):
 PC 355 [pv b (d+1),.func g [] [.ptr c 0]] st K:=by
 refine pB Tryz.func355 ?_
 by_cases hz:d=0
 .have U:((d+1:Nat):Int)<2:=AC
  rw [h0 hz,Rd.Es] at h
  repeat' ((conv=>whnf);(first|refine BS ?_|refine Ct ?_|exact B1 (Cx.y ‹_›) ‹_›)<;>intros)
 .have U:¬((d+1:Nat):Int)<2:=AC
  repeat' ((conv=>whnf);(first|refine UC hd ?_|refine BS ?_|refine hg hz _ (Rd.wp_mono ‹_› ?_ ?_)|refine Ct ?_|exact FO)<;>intros)
theorem Ea {A:Rd Nd} (hd:d<=1000000) (h0:d=0->A=.fail Kn) (hg:d≠0->A9 enc g (λb=>[pv b d]) A):A9 enc 355 (λb=>[pv b (d+1),.func g [] []]) A:=by
 refine ⟨λ{st0 b s st rows K} U h=>?_⟩
 exact tq hd h0 U h λhz K h=>(hg hz).ap U h
end
section
variable {st0 st:St} {b d:Nat} {s:An} {rows:List (AH×List Nd)} {K:As->St->Prop}
attribute [local irreducible] Go.Aw.Aj
theorem bS (U:d+1<=100):DB 329 ((d+1:Nat):Int) (Hj (DS (DV (d+1 - 1)))):=by
 have:=vW (deep:=((d+1:Nat):Int))
 have e:DZ ((d+1:Nat):Int) - 1=d+1 - 1:=by unfold DZ;split<;>omega
 rw [e] at this;exact this
theorem eL (hd:d+1<=100):A9 enc 350 (λb=>[pv b (d+1)]) (KO (d+1)):=by
 refine ⟨λ{st0 b s st rows K} U h=>?_⟩
 have hB:E4 (Hj (DS (DV (d+1 - 1)))):=T1 (HG (FD _))
 have hi:∀{K:As->St->Prop},Rd.wp (KO (d+1)) s (λv s'=>∀st',Cx st0 b s' st' rows->K (.ret (enc v)) st') (λe s'=>∀st',Cy st0 b s' st' rows->K (.B7 (fault e.1)) st')->
  PC 110 [.ptr b 0,.func 329 [] [],.int .i64 ((d+1:Nat):Int)] st K:=λh=>
  RZ (d:=d+1) rfl (bS hd) (λe=>by omega) hB U.mu U.has (Tc hB U h)
 refine pB Tryz.func350 ?_
 repeat' ((conv=>whnf);(first|  refine hi (Rd.wp_mono ‹_› ?_ ?_)|exact FO)<;>intros)
theorem ar {full:Rd Nd} (hf:A9 enc 350 (λb=>[pv b d]) full):A9 enc 387 (λb=>[pv b d,enc n]) (O4 full n):=by
 refine ⟨λ{st0 b s st rows K} U h=>?_⟩
 simp only [O4,Rd.Ah,Rd.Aq,Rd.wp_seq,Rd.wp_ret] at h
 refine pB Tryz.func387 ?_
 repeat' ((conv=>whnf);(first|exact DF|refine BS ?_|(refine DG ?_ ?_ ?_;rotate_left)|refine Mi ?_ ?_|refine MT ?_|exact FO|refine Ky ?_|refine Av ?_|refine Gc.go (by first|exact A9.q) ?_ ?_|refine Ab [(0,true),(1,true),(2,true),(4,true),(3,false),(5,false),(6,true),(7,false),(8,false)] [2] GE ?_|fail)<;>intros)
theorem xy {U full:Rd Nd} (ho:A9 enc 370 (λb=>[pv b d]) U) (hf:A9 enc 350 (λb=>[pv b d]) full):A9 enc 353 (λb=>[pv b d]) (iT U full):=by
 refine ⟨λ{st0 b s st rows K} hc h=>?_⟩
 simp only [iT,Rd.wp_seq] at h
 refine pB Tryz.func353 ?_
 repeat' ((conv=>whnf);(first|exact DF|(refine DG ?_ ?_ ?_;rotate_left)|exact FO|refine Av ?_|refine Gc.go (by first|  exact (ph ho).a|exact (ar hf).a) ?_ ?_|refine Ab [(0,true),(1,true),(2,false),(3,false),(4,false)] [1] GE ?_|fail)<;>intros)
theorem YT {L:FC} {lt U:Nd} (he:A9 enc 355 (λb=>[pv b d,.func 353 [] []]) L.exp):A9 enc 395 (λb=>[pv b d,enc lt,enc U]) (OE L lt U):=by
 refine ⟨λ{st0 b s st rows K} hc h=>?_⟩
 simp only [OE,Rd.wp_seq,Rd.wp_ret] at h
 refine pB Tryz.func395 ?_
 repeat' ((conv=>whnf);(first|exact DF|(refine DG ?_ ?_ ?_;rotate_left)|refine LV ?_ ?_|exact FO|refine Ky ?_|refine Av ?_|refine Gc.go (by first|exact A9.q) ?_ ?_|refine Ab [(0,true),(1,true),(2,true),(3,true),(4,false),(5,true),(6,false),(7,false)] [3] GE ?_|fail)<;>intros)
theorem fD {L:FC} (he:A9 enc 355 (λb=>[pv b d,.func 353 [] []]) L.exp):vH 413 (λb v=>[pv b d,v,.str w]) (λl=>Pu L l w):=by
 refine ⟨λ{st0 b s st rows K own l} hl hc h=>?_⟩
 simp only [Pu,gn,Rd.Ah,Rd.Aq,Rd.wp_seq,Rd.wp_ret] at h
 refine pB Tryz.func413 ?_
 have U:=hc.mu
 rcases hc.has with hs|⟨t,u,o1,o2,e0,hs⟩
 .skip
  repeat' ((conv=>whnf);(first|refine BS ?_|refine Gg ?_ ?_|refine Am hs ?_|refine U1 ?_|refine Mi ?_ ?_|refine LV ?_ ?_|exact FO|refine L4 ?_|refine Xi ?_|refine gq ‹_› ‹_› (QE ‹_›) ?_|refine GP ‹_› U ?_|refine Gc.go (by first|exact A9.q) ?_ ?_)<;>intros)
 .skip
  repeat' ((conv=>whnf);(first|refine BS ?_|refine Gg ?_ ?_|refine Am hs ?_|refine U1 ?_|refine Mi ?_ ?_|refine LV ?_ ?_|exact FO|refine L4 ?_|refine Xi ?_|refine gq ‹_› ‹_› (QE ‹_›) ?_|refine GP ‹_› U ?_|refine Gc.go (by first|exact A9.q) ?_ ?_)<;>intros)
theorem Lp {p:FuncId} {A:Rd Nd} {may:Nd->Bool} (hg:A9 enc g (λb=>[pv b d]) A) (hp:∀{s s' n} {st:St} {K:As->St->Prop},A.run s=.inr (n,s')->mu s<=100000000->K (.ret (.bool (may n))) st->PC p [enc n] st K):
 A9 enc 341 (λb=>[pv b d,.func g [] [],.func p [] []]) (D0 A may):=by
 refine ⟨λ{st0 b s st rows K} hc h=>?_⟩
 simp only [D0,Rd.Ah,Rd.Aq,Rd.wp_seq,Rd.wp_ret,Rd.Du] at h
 refine pB Tryz.func341 ?_
 have U:=hc.mu
 rcases hc.has with hs|⟨t,u,o1,o2,e0,hs⟩
 .skip
  repeat' ((conv=>whnf);(first|  refine Gg ?_ ?_|refine Am hs ?_|refine Ct ?_|exact FO|refine GP ‹_› U ?_|refine Gc.go (by first|exact A9.q) ?_ ?_|refine hp ‹_› U ?_)<;>intros)
 .skip
  repeat' ((conv=>whnf);(first|  refine Gg ?_ ?_|refine Am hs ?_|refine Ct ?_|exact FO|refine GP ‹_› U ?_|refine Gc.go (by first|exact A9.q) ?_ ?_|refine hp ‹_› U ?_)<;>intros)
end
structure Mh (D:Nat) (L:FC):Prop where
 atom:A9 enc 355 (λb=>[pv b D,.func 349 [] []]) L.atom
 exp:A9 enc 355 (λb=>[pv b D,.func 353 [] []]) L.exp
 ops:A9 enc 355 (λb=>[pv b D,.func 310 [] []]) L.ops
 decls:A9 enc 355 (λb=>[pv b D,.func 356 [] []]) L.decls
 stmts:A9 enc 355 (λb=>[pv b D,.func 415 [] []]) L.stmts
 alts:A9 enc 355 (λb=>[pv b D,.func 397 [] []]) L.alts
 HP:∀{o:Nd} {c:Nat} {st0:St} {b:Nat} {s:An} {st:St} {rows:List (AH×List Nd)} {K:As->St->Prop},st.box c=some (AK o)->Cx st0 b s st rows->
  Rd.wp (L.HP o) s (λv s'=>∀st',Cx st0 b s' st' rows->K (.ret (enc v)) st') (λe s'=>∀st',Cy st0 b s' st' rows->K (.B7 (fault e.1)) st')->PC 355 [pv b D,.func 417 [] [.ptr c 0]] st K
 list:∀{o:Nd} {c:Nat} {st0:St} {b:Nat} {s:An} {st:St} {rows:List (AH×List Nd)} {K:As->St->Prop},st.box c=some (AK o)->Cx st0 b s st rows->
  Rd.wp (L.list o) s (λv s'=>∀st',Cx st0 b s' st' rows->K (.ret (enc v)) st') (λe s'=>∀st',Cy st0 b s' st' rows->K (.B7 (fault e.1)) st')->PC 355 [pv b D,.func 419 [] [.ptr c 0]] st K
theorem zM (h:n.kids.length=0):JX n=true:=by
 unfold JX;rw [List.length_eq_zero_iff.1 h];rfl
theorem fe {x:Nd} (h:n.kids[((n.kids.length:Nat) - 1:Int).toNat]? =some x):n.kids.getLast? =some x:=by
 rw [List.getLast?_eq_getElem?,<-h];congr 1;omega
theorem zN {x:Nd} (h:n.kids[((n.kids.length:Nat) - 1:Int).toNat]? =some x) (k:x.kind=32\/x.kind=33):JX n=true:=by
 unfold JX;rw [fe h];simpa using k
theorem zO {x:Nd} (h:n.kids[((n.kids.length:Nat) - 1:Int).toNat]? =some x) (k:¬x.kind=32) (U:¬x.kind=33):¬JX n=true:=by
 unfold JX;rw [fe h];simp [k,U]
theorem Bm {m:Rd α} {k:α->Rd β} {s:An} {v:β} (h:(Rd.seq m k).run s=.inr (v,s')):∃a s1,m.run s=.inr (a,s1)/\(k a).run s1=.inr (v,s'):=by
 unfold Rd.seq at h
 dsimp only at h
 split at h
 .cases h
 .exact ⟨_,_,‹_›,h⟩
theorem pk {L:FC} {a b:Nd} {s:An} {n:Nat} (h:(Pu L [a,b] w).run s=.inr (l,s')) (U:n<=100000000):l.length<=90000000:=by
 unfold Pu at h
 obtain ⟨_,_,_,h⟩:=Bm h
 obtain ⟨_,_,_,h⟩:=Bm h
 obtain ⟨_,_,_,h⟩:=Bm h
 cases h
 exact Nat.le_of_ble_eq_true rfl
section
variable {st0 st:St} {b d:Nat} {s:An} {rows:List (AH×List Nd)} {K:As->St->Prop} {L:FC} {atom:Rd Nd}
attribute [local irreducible] Go.Aw.Aj
theorem iw (U:Mh d L):A9 enc 396 (λb=>[pv b d]) (M6 L):=by
 refine ⟨λ{st0 b s st rows K} hc h=>?_⟩
 simp only [M6,Rd.wp_seq,Rd.wp_ret] at h
 have hmu:=hc.mu
 refine pB Tryz.func396 ?_
 repeat' ((conv=>whnf);(first|exact DF|(refine DG ?_ ?_ ?_;rotate_left)|refine LV ?_ ?_|exact FO|refine Ky ?_|refine Av ?_|refine Gc.go (by first|  exact (U.exp).a) ?_ ?_|refine vH.go (l:=[_,_]) (fD U.exp) (Nat.le_of_ble_eq_true rfl) (Cx.push ‹_› _) ‹_› ?_ ?_|refine vH.go (fD U.exp) (pk ‹_› hmu) ‹_› ‹_› ?_ ?_|refine Ab [(0,true),(1,true),(3,true),(2,false),(4,false),(5,true),(6,true)] [] GE ?_|refine Ab [(0,true),(1,true),(2,true),(3,false),(4,false),(5,false),(6,false)] [1] GE ?_|fail)<;>intros)
theorem qz (hL:Mh d L):A9 enc 398 (λb=>[pv b d]) (S4 L):=by
 refine ⟨λ{st0 b s st rows K} U h=>?_⟩
 simp only [S4,Rd.wp_seq,Rd.wp_ret,Rd.Aq,Rd.Es] at h
 refine pB Tryz.func398 ?_
 repeat' ((conv=>whnf);first|(refine BS ?_;intros)|(refine Dk ?_ ?_<;>intro _)|(refine LV ?_ ?_<;>(first|intro n s1 st1 hr hm U h|intro e s1 st1 U h))|refine Ct ?_|exact FO|refine Ky ?_|refine A9.go hL.stmts U h (λn s1 st1 hr hm U h=>?_) (λe s1 st1 U h=>?_))
 all_goals conv=>whnf
 all_goals first
  |(rw [if_pos (zM AC)] at h;exact B1 U.y h)
  |(rw [if_pos (zN ‹_› AC)] at h;exact B1 U.y h)
  |(rw [if_neg (zO ‹_› AC AC)] at h;exact De U h rfl)
end
section
variable {st0 st:St} {b d:Nat} {s:An} {rows:List (AH×List Nd)} {K:As->St->Prop} {L:FC} {atom:Rd Nd}
attribute [local irreducible] Go.Aw.Aj
theorem nq (U:A9 enc 349 (λb=>[pv b d]) atom):A9 enc 341 (λb=>[pv b d,.func 349 [] [],.func 409 [] []]) (D0 atom Ma):=
 Lp U λ_ _ k=>VR k
theorem VA {A:Rd Nd} (h:Rd.Bn A):Rd.Bn (D0 A p):=Rd.Bn.look λs v s' e=>Rd.Bn.at (h _) e
theorem jk (hL:Mh d L) (ha:A9 enc 349 (λb=>[pv b d]) atom) (hF:Rd.Bn atom):A9 enc 394 (λb=>[pv b d]) (NG L atom):=by
 refine ⟨λ{st0 b s st rows K} U h=>?_⟩
 simp only [NG,Rd.wp_seq,Rd.wp_ret] at h
 refine pB Tryz.func394 ?_
 have hmu:=U.mu
 repeat' ((conv=>whnf);(first|  refine Gg ?_ ?_|refine U1 ?_|refine LV ?_ ?_|exact FO|refine Ky ?_|refine L4 ?_|refine Cj ?_)<;>intros)
 refine CJ (λl own=>[(3,.slice 6 (l.map AK) own)]) (λ_ _=>[]) [1,2] [0,1] (λl own=>(own,l)::rows) (λl=>l.length) .full (Cx.push ‹_› _) ‹_› (by show 1+_<=_;omega) Yl ?_
 intro l s1 st1 own1 U h hl hm1
 simp only [VT,Qk,Rd.Ah,Rd.Aq,Rd.wp_seq,Rd.wp_ret,Rd.BI] at h
 repeat' ((conv=>whnf);(first|  refine Gg ?_ ?_|refine U1 ?_|refine LV ?_ ?_|exact FO|refine Ky ?_|refine L4 ?_|refine Cj ?_|refine A9.vX (nq ha) (VA hF) ‹_› ‹_› ?_ ?_|refine Gc.go (by first|  exact (hL.exp).a) ?_ ?_)<;>intros)
theorem cS (U:Mh d L) (ha:A9 enc 349 (λb=>[pv b d]) atom) (hF:Rd.Bn atom):A9 enc 370 (λb=>[pv b d]) (Jv L atom):=by
 refine ⟨λ{st0 b s st rows K} hc h=>?_⟩
 simp only [Jv,Oi,tI,ef,Rd.Ah,Rd.Aq,Rd.wp_seq,Rd.wp_ret] at h
 refine pB Tryz.func370 ?_
 have hmu:=hc.mu
 repeat' ((conv=>whnf);(first|exact DF|refine BS ?_|(refine DG ?_ ?_ ?_;rotate_left)|refine Gg ?_ ?_|refine U1 ?_|refine MT ?_|refine LV ?_ ?_|exact FO|refine Ky ?_|refine L4 ?_|refine Av ?_|refine Gc.go (by first|exact A9.q|exact (jk U ha hF).a|exact (iw U).a|exact (qz U).a|exact (U.decls).a|exact (YT U.exp).a|exact (U.exp).a|exact (U.alts).a) ?_ ?_|refine Cx.HN (l:=[_,_,_]) (Cx.push ‹_› _) (Nat.le_of_ble_eq_true rfl) ?_|refine Ab [(0,true),(1,true),(2,true),(4,true),(3,false),(5,false),(6,false),(7,false)] [1] GE ?_|refine Ab [(0,true),(1,true),(3,true),(5,true),(6,true),(2,false),(4,false),(7,false),(8,true),(9,true)] [] GE ?_|fail)<;>intros)
 all_goals refine CJ (λl own=>[(5,.slice 6 (l.map AK) own)]) (λ_ _=>[]) [1,2] [0,1] (λl own=>(own,l)::rows) (λl=>l.length) .full (Cx.push ‹_› _) ‹_› (by show 1+_<=_;omega) Yl ?_
 all_goals intro l s1 st1 own1 hc h hl hm1
 all_goals simp only [aV,Rd.Ah,Rd.Aq,Rd.wp_seq,Rd.wp_ret,Rd.BI] at h
 all_goals (repeat' ((conv=>whnf);(first|exact DF|refine BS ?_|(refine DG ?_ ?_ ?_;rotate_left)|refine Gg ?_ ?_|refine U1 ?_|refine MT ?_|refine LV ?_ ?_|exact FO|refine Ky ?_|refine L4 ?_|refine Av ?_|refine A9.vX ha hF ‹_› ‹_› ?_ ?_|fail)<;>intros))
end
section
variable {st0 st:St} {b d:Nat} {s:An} {rows:List (AH×List Nd)} {K:As->St->Prop} {L:FC} {atom:Rd Nd}
attribute [local irreducible] Go.Aw.Aj
theorem ya {Q:Nd->An->Prop} {E:Er->An->Prop} (U:Cx st0 b s st rows)
 (h:if OX (Ae s).1=true then (if BB (Ae s).2.1 15 [41]=true then Rd.wp A4 s (λp s'=>Rd.wp A4 s' (λc s'=>Q (At 3 [o,p,c]) s') E) E else P) else P)
 (k1:∀n s' st',mu s'<=mu s->Cx st0 b s' st' rows->Q n s'->K (.ret (.Bc [enc n,.bool true])) st') (k2:∀st',Cx st0 b s st' rows->P->K (.ret (.Bc [enc Hv,.bool false])) st'):
 PC 416 [pv b d,enc o] st K:=by
 refine pB Tryz.func416 ?_
 have hmu:=U.mu
 have hc1:=U.look
 cases hy:OX (Ae s).1 with
 |false=>
  rw [if_neg (by rw [hy];decide)] at h
  repeat' ((conv=>whnf);first|exact DF|(refine BS ?_;intros)|(refine DG ?_ ?_ ?_;rotate_left)|refine SF U (λst1 U=>?_)|refine JF ?_|fail)
  all_goals exact AF rfl (k2 st1 U h)
 |true=>
  rw [if_pos hy] at h
  have hkd:=Xs hy
  cases hi:BB (Ae s).2.1 15 [41] with
  |true=>
   rw [if_pos hi] at h
   repeat' ((conv=>whnf);first|exact DF|(refine BS ?_;intros)|(refine DG ?_ ?_ ?_;rotate_left)|refine Am (St.Ai ..) ?_|refine Hd U.has U.hb ?_|refine JF ?_|refine QJ hc1 h hkd (λs1 st1 hz hm U h=>?_)|refine W6 U (hz ▸ hi) (λst1 U=>?_)|refine Xu U h (hz ▸ hi) Do (λs2 st2 hz2 hm2 U h=>?_)|refine Wd ?_|refine Ab [(0,true),(1,true),(2,true),(3,true),(4,false),(5,true),(6,false),(7,false),(8,true)] [2] GE ?_|fail)
   all_goals exact AF rfl (k1 _ s2 st2 AC U h)
  |false=>
   rw [if_neg (by rw [hi];decide)] at h
   repeat' ((conv=>whnf);first|exact DF|(refine BS ?_;intros)|(refine DG ?_ ?_ ?_;rotate_left)|refine Am (St.Ai ..) ?_|refine Hd U.has U.hb ?_|refine JF ?_|refine yY hc1 hkd (λs1 st1 hz hm U=>?_)|refine db U (hz ▸ hi) (λst1 U=>?_)|refine GP U hmu (λst2 U=>?_)|fail)
   all_goals exact AF rfl (k2 st2 U h)
theorem pS (hL:Mh d L):A9 enc 400 (λb=>[pv b d]) (SN L):=by
 refine ⟨λ{st0 b s st rows K} hc h=>?_⟩
 simp only [SN,Yn,Xd,SM,Rd.Ah,Rd.Aq,Rd.wp_seq,Rd.wp_ret] at h
 refine AM Ac [] Tryz.func400 rfl Do rfl ?_
 have hmu:=hc.mu
 refine Ad (Af Ac ?_)
 repeat' ((conv=>whnf);(first|exact DF|refine BS ?_|(refine DG ?_ ?_ ?_;rotate_left)|refine Gg ?_ ?_|fail)<;>intros)
 refine Ad (Af Ac ?_)
 repeat' ((conv=>whnf);(first|exact DF|refine BS ?_|(refine DG ?_ ?_ ?_;rotate_left)|refine Gg ?_ ?_|refine Hx.go ‹_› ‹_› ?_ ?_|exact B1 ‹_› ‹_›|fail)<;>intros)
 refine Ad (Af Ac ?_)
 repeat' ((conv=>whnf);first|exact DF|(refine BS ?_;intros)|(refine DG ?_ ?_ ?_;rotate_left)|(refine Gg ?_ ?_<;>intro e h)|(refine U1 ?_;intro U hc)|(refine Mi ?_ ?_<;>intro U hc e h)|(refine MT ?_;intro s1 U hz hm hc h)|(refine LV ?_ ?_<;>(first|intro n s1 U hr hm hc h|intro e s1 U hc h))|exact FO|refine Ky ?_|(refine L4 ?_;intro own1 U hc)|refine Av (λe1=>?_)|fail)
 all_goals first
  |(refine CJ (λl own=>[(4,.slice 6 (l.map AK) own)]) (λ_ _=>[]) [1,2] [0,1] (λl own=>(own,l)::rows) (λl=>l.length) .full (hc.push _) h (by show 1+_<=_;omega) Yl ?_
    intro l s1 U own1 hc h hl hm1
    simp only [Vm,Rd.Ah,Rd.Aq,Rd.wp_seq,Rd.wp_ret,Rd.BI] at h
    repeat' ((conv=>whnf);(first|exact DF|refine BS ?_|(refine DG ?_ ?_ ?_;rotate_left)|refine Gg ?_ ?_|refine U1 ?_|refine Mi ?_ ?_|refine MT ?_|refine LV ?_ ?_|exact FO|refine Ky ?_|refine L4 ?_|refine Av ?_|fail)<;>intros))
  |skip
 refine Ad (Af Ac ?_)
 repeat' ((conv=>whnf);(first|exact DF|refine BS ?_|(refine DG ?_ ?_ ?_;rotate_left)|refine Gg ?_ ?_|refine ya (Q:=λn s'=>∀st',Cx st0 b s' st' rows->K (.ret (enc n)) st') ‹_› ‹_› ?_ ?_|refine U1 ?_|refine Mi ?_ ?_|refine MT ?_|refine LV ?_ ?_|exact FO|refine Ky ?_|refine L4 ?_|refine Av ?_|fail)<;>intros)
 refine Ad (Af Ac ?_)
 repeat' ((conv=>whnf);first|exact DF|(refine BS ?_;intros)|(refine DG ?_ ?_ ?_;rotate_left)|(refine Gg ?_ ?_<;>intro e h)|(refine U1 ?_;intro U hc)|(refine Mi ?_ ?_<;>intro U hc e h)|(refine MT ?_;intro s1 U hz hm hc h)|(refine LV ?_ ?_<;>(first|intro n s1 U hr hm hc h|intro e s1 U hc h))|exact FO|refine Ky ?_|(refine L4 ?_;intro own1 U hc)|refine Av (λe1=>?_)|refine Qt.go hc h (λn s1 U hr hm hc h=>?_) (λe s1 U hc h=>?_)|refine A9.go hL.ops hc h (λn s1 U hr hm hc h=>?_) (λe s1 U hc h=>?_)|refine Ab [(0,true),(1,true),(2,true),(4,true),(5,true),(3,false),(6,false),(7,true),(8,false),(9,false)] [1] GE ?_|fail)
 all_goals refine Mg 3 2 rfl rfl rfl (λc fc=>?_)
 all_goals have hne:=hc.VL fc
 all_goals refine Af Ac ?_
 all_goals (repeat' ((conv=>whnf);first|exact DF|(refine BS ?_;intros)|(refine DG ?_ ?_ ?_;rotate_left)|(refine Gg ?_ ?_<;>intro e h)|refine hL.HP (St.Ai ..) (hc.W7 fc) (Rd.wp_mono h (λv s1 hr h U hc=>?_) (λe s1 hr h U hc=>?_))|exact De (hc.unbox hne) h rfl|exact B1 (hc.unbox hne) h|fail))
end
section
variable {st0 st:St} {b d:Nat} {s:An} {rows:List (AH×List Nd)} {K:As->St->Prop} {L:FC} {atom:Rd Nd}
attribute [local irreducible] Go.Aw.Aj
theorem kJ (hL:Mh d L):A9 enc 401 (λb=>[pv b d]) (N6 L):=by
 refine ⟨λ{st0 b s st rows K} U h=>?_⟩
 simp only [N6,Rd.Ah,Rd.Aq,Rd.wp_seq,Rd.wp_ret] at h
 refine AM Ac [] Tryz.func401 rfl Do rfl ?_
 refine Ad (Af Ac ?_)
 repeat' ((conv=>whnf);(first|exact DF|refine BS ?_|(refine DG ?_ ?_ ?_;rotate_left)|fail)<;>intros)
 refine Ad (Af Ac ?_)
 repeat' ((conv=>whnf);(first|exact DF|refine BS ?_|(refine DG ?_ ?_ ?_;rotate_left)|refine Hx.go ‹_› ‹_› ?_ ?_|exact B1 ‹_› ‹_›|fail)<;>intros)
 refine Ad (Af Ac ?_)
 repeat' ((conv=>whnf);first|exact DF|(refine BS ?_;intros)|(refine DG ?_ ?_ ?_;rotate_left)|(refine Mi ?_ ?_<;>intro st1 U e h)|(refine MT ?_;intro s1 st1 hz hm U h)|exact FO|refine Ky ?_|refine Ab [(0,true),(1,true),(2,true),(3,false),(4,true),(5,false),(6,false)] [1] GE ?_|fail)
 all_goals refine Mg 3 2 rfl rfl rfl (λc fc=>?_)
 all_goals have hne:=U.VL fc
 all_goals refine Af Ac ?_
 all_goals (repeat' ((conv=>whnf);first|exact DF|(refine BS ?_;intros)|(refine DG ?_ ?_ ?_;rotate_left)|refine hL.list (St.Ai ..) (U.W7 fc) (Rd.wp_mono h (λv s1 hr h st1 U=>?_) (λe s1 hr h st1 U=>?_))|exact De (U.unbox hne) h rfl|exact B1 (U.unbox hne) h|fail))
theorem rU (U:Mh d L):A9 enc 373 (λb=>[pv b d]) (T2 L):=by
 refine ⟨λ{st0 b s st rows K} hc h=>?_⟩
 simp only [T2,Rd.Ah,Rd.Aq,Rd.wp_seq,Rd.wp_ret] at h
 refine pB Tryz.func373 ?_
 repeat' ((conv=>whnf);(first|exact DF|refine BS ?_|(refine DG ?_ ?_ ?_;rotate_left)|refine Gg ?_ ?_|refine U1 ?_|refine Mi ?_ ?_|refine MT ?_|refine ze ?_|exact FO|refine Ky ?_|refine Av ?_|refine Gc.go (by first|  exact (pS U).a|exact (kJ U).a|exact (U.atom).a) ?_ ?_|refine Ab [(0,true),(1,true),(3,true),(2,false),(4,false),(5,true),(6,false),(7,false)] [1] GE ?_|refine Ab [(0,true),(1,true),(2,true),(4,true),(3,false),(5,false),(6,true),(7,false),(8,false)] [1] GE ?_|fail)<;>intros)
theorem nN:A9 enc 151 (λb=>[.ptr b 0,.slice 1 [[.int .i64 1],[.int .i64 3]] .full]) (C8 [1,3]):=En (ks:=[1,3]) Do
theorem kn (hL:Mh d L):A9 enc 374 (λb=>[pv b d,enc n]) (LA L n):=by
 refine ⟨λ{st0 b s st rows K} U h=>?_⟩
 simp only [LA,Rd.Ah,Rd.Aq,Rd.wp_seq,Rd.wp_ret] at h
 refine pB Tryz.func374 ?_
 have hmu:=U.mu
 repeat' ((conv=>whnf);(first|exact DF|refine BS ?_|(refine DG ?_ ?_ ?_;rotate_left)|refine Gg ?_ ?_|refine Mi ?_ ?_|refine MT ?_|refine LV ?_ ?_|exact FO|refine Ky ?_|refine L4 ?_|refine Cj ?_|refine Av ?_|refine Ab [(0,true),(1,true),(2,true),(3,false),(4,true),(5,true)] [] GE ?_|refine Ab [(0,true),(1,true),(2,true),(3,true),(5,true),(4,false),(6,false),(7,true),(8,false),(9,true),(10,false),(11,true)] [] GE ?_|fail)<;>intros)
 refine CJ (λl own=>[(5,.slice 6 (l.map AK) own)]) (λ_ _=>[]) [2,4] [0,2] (λl own=>(own,l)::rows) (λl=>l.length) .full (Cx.push ‹_› _) ‹_› (by show 2+_<=_;omega) Yl ?_
 intro l s1 st1 own1 U h hl hm1
 simp only [Xa,VE,Rd.Ah,Rd.Aq,Rd.wp_seq,Rd.wp_ret,Rd.BI] at h
 repeat' ((conv=>whnf);(first|exact DF|refine BS ?_|(refine DG ?_ ?_ ?_;rotate_left)|refine Gg ?_ ?_|refine Mi ?_ ?_|refine MT ?_|refine LV ?_ ?_|exact FO|refine Ky ?_|refine L4 ?_|refine Cj ?_|refine Av ?_|refine A9.vX nN (bG rfl) ‹_› ‹_› ?_ ?_|refine Gc.go (by first|  exact (hL.exp).a) ?_ ?_|refine Ab [(0,true),(1,true),(2,true),(3,false),(4,true),(5,true)] [] GE ?_|refine Ab [(0,true),(1,true),(2,true),(3,true),(5,true),(4,false),(6,false),(7,true),(8,false),(9,true),(10,false),(11,true)] [] GE ?_|fail)<;>intros)
 all_goals conv=>whnf
end
theorem bF {L:FC}:Rd.Bn (T2 L):=Rd.Bn.look λs v s' h=>by
 split at h
 .rename_i ha
  have hk:=(TZ ha).2
  have U:∀{v:Nd} {s':An},A4.run s=.inr (v,s')->mu s'<mu s:=λe=>H7 e hk
  split at h
  .split at h
   .exact Rd.Bn.at (λ_ _ e=>U e) h
   .exact Rd.Bn.at (λ_ _ e=>U e) h
  .split at h
   .exact Rd.Bn.at (λ_ _ e=>U e) h
   .split at h
    .exact Rd.Bn.at (λ_ _ e=>U e) h
    .exact Rd.Bn.at (λ_ _ e=>U e) h
 .cases h
theorem Yd {L:FC}:Rd.Bn (MV L):=Rd.Bn.seq bF
theorem VB {L:FC} {s:An} {v:Nd} (h:(LA L n).run s=.inr (v,s')) (e:BB s 15 [123]=true):mu s'<mu s:=by
 refine Rd.Bn.at (λv s' U=>H7 U λz=>?_) h
 unfold BB at e
 simp only [Bool.and_eq_true,beq_iff_eq] at e
 rw [z] at e;exact absurd e.1 Do
theorem UE {l':List Nd} {s:An} (h:(Gu stmt l).run s=.inr (l',s')):l'.length+4*mu s'<=l.length+2+4*mu s:=by
 unfold Gu at h
 obtain ⟨b,s1,h1,h⟩:=Bm h
 obtain ⟨t,s2,h2,h⟩:=Bm h
 have e1:=(BG 10 [124]).le _ _ _ h1
 have e2:=stmt.le _ _ _ h2
 have:=Rd.oA (body:=ON stmt) (w:=List.length) (w':=List.length) (c:=0) (λx s U s' h=>by
  unfold ON at h
  replace h:(if BB s 15 [44]=true then Rd.seq A4 λc=>Rd.seq stmt λt=>.ret (.inl (x++[c]++[t])) else .ret (.inr x):Rd (Sum (List Nd) (List Nd))).run s=.inr (.inl U,s'):=h
  split at h
  .obtain ⟨_,_,_,h⟩:=Bm h
   obtain ⟨_,_,_,h⟩:=Bm h
   cases h
   simp
  .cases h) (λx s y s' h=>by
  unfold ON at h
  replace h:(if BB s 15 [44]=true then Rd.seq A4 λc=>Rd.seq stmt λt=>.ret (.inl (x++[c]++[t])) else .ret (.inr x):Rd (Sum (List Nd) (List Nd))).run s=.inr (.inr y,s'):=h
  split at h
  .obtain ⟨_,_,_,h⟩:=Bm h
   obtain ⟨_,_,_,h⟩:=Bm h
   cases h
  .cases h;exact Nat.le_refl _) _ _ _ _ h
 simp only [List.length_append,List.length_cons,List.length_nil] at this
 omega
theorem zt {x y:Nat} (h:l.length+4*y<=c+2+4*x) (U:c<=500000000) (hx:x<=100000000):l.length+1<=1000000000:=AC
section
variable {st0 st:St} {b d:Nat} {s:An} {rows:List (AH×List Nd)} {K:As->St->Prop} {L:FC}
attribute [local irreducible] Go.Aw.Aj
theorem rS (hL:Mh d L):A9 enc 349 (λb=>[pv b d]) (MV L):=by
 refine ⟨λ{st0 b s st rows K} U h=>?_⟩
 simp only [MV,Rd.wp_seq] at h
 refine pB Tryz.func349 ?_
 have hmu:=U.mu
 repeat' ((conv=>whnf);first|(refine BS ?_;intros)|refine A9.go (rU hL) U h (λn s1 st1 hr hm U h=>?_) (λe s1 st1 U h=>?_)|exact B1 U h)
 refine CJ (λn own=>[]) (λn own=>[(2,AK n)]) [1,2,3] [0,1] (λl own=>rows) (λ_=>0) .full ‹_› ‹_› f8 Yl ?_
 intro n s1 st1 own1 U h hl hm1
 simp only [lU,Rd.Ah,Rd.Aq,Rd.wp_seq,Rd.wp_ret,Rd.BI] at h
 repeat' ((conv=>whnf);first|(refine BS ?_;intros)|(refine Mi ?_ ?_<;>intro st1 U e h)|exact FO|refine A9.go (kn hL) U h (λn s1 st1 hr hm U h=>?_) (λe s1 st1 U h=>?_))
 all_goals have hlt:=VB ‹_› ‹_›
 all_goals conv=>whnf
 all_goals exact ⟨⟨_,_,_,.full⟩,⟨U,Rd.E6 h hlt,RL,RL⟩,hlt,Yl,St.le_refl _⟩
theorem Zm (hs:A9 enc 388 (λb=>[pv b d]) stmt):vH 354 (λb v=>[pv b d,v]) (λl=>Gu stmt l):=by
 refine ⟨λ{st0 b s st rows K own l} hl U h=>?_⟩
 simp only [Gu,Rd.wp_seq] at h
 refine pB Tryz.func354 ?_
 have hmu:=U.mu
 repeat' ((conv=>whnf);(first|refine BS ?_|refine Mi ?_ ?_|refine MT ?_|refine LV ?_ ?_|exact FO|refine L4 ?_|refine Gc.go (by first|exact A9.q) ?_ ?_)<;>intros)
 refine CJ (λl own=>[(1,.slice 6 (l.map AK) own)]) (λ_ _=>[]) [2] [0] (λl own=>(own,l)::rows) (λl=>l.length) _ ‹_› ‹_› PP Yl ?_
 intro l s1 st1 own1 U h hl hm1
 simp only [ON,Rd.Ah,Rd.Aq,Rd.wp_seq,Rd.wp_ret,Rd.BI] at h
 repeat' ((conv=>whnf);(first|refine BS ?_|refine Mi ?_ ?_|refine MT ?_|refine LV ?_ ?_|exact FO|refine L4 ?_|refine Gc.go (by first|exact A9.q) ?_ ?_)<;>intros)
theorem tZ {exp:Rd Nd} (he:A9 enc 353 (λb=>[pv b d]) exp) (hs:A9 enc 388 (λb=>[pv b d]) stmt):A9 enc 420 (λb=>[pv b d,enc o]) (Sg exp stmt o):=by
 refine ⟨λ{st0 b s st rows K} U h=>?_⟩
 simp only [Sg,Rd.Ah,Rd.Aq,Rd.wp_seq,Rd.wp_ret] at h
 refine pB Tryz.func420 ?_
 have hmu:=U.mu
 repeat' ((conv=>whnf);(first|exact DF|refine BS ?_|(refine DG ?_ ?_ ?_;rotate_left)|refine Gg ?_ ?_|refine Mi ?_ ?_|refine MT ?_|refine LV ?_ ?_|exact FO|refine Ky ?_|refine L4 ?_|refine Cj ?_|refine Av ?_|refine Gc.go (by first|exact A9.q) ?_ ?_|refine Cx.HN ‹_› (zt (UE ‹_›) (Nat.le_of_ble_eq_true rfl) AC) ?_|refine vH.go (l:=[_,_]) (Zm hs) (Nat.le_of_ble_eq_true rfl) (Cx.push ‹_› _) ‹_› ?_ ?_|refine Ab [(0,true),(1,true),(2,false),(3,true),(4,true)] [] GE ?_|refine Ab [(0,true),(1,true),(3,true),(4,true),(2,false),(5,false),(6,true),(7,false),(8,false),(9,false)] [2] GE ?_|fail)<;>intros)
 refine CJ (λl own=>[(5,.slice 6 (l.map AK) own)]) (λ_ _=>[]) [2,4,6] [0,2] (λl own=>(own,l)::rows) (λl=>l.length) .full (Cx.push ‹_› _) ‹_› (by show 2+_<=_;omega) Yl ?_
 intro l s1 st1 own1 U h hl hm1
 simp only [ou,fo,Rd.Ah,Rd.Aq,Rd.wp_seq,Rd.wp_ret,Rd.BI] at h
 repeat' ((conv=>whnf);(first|exact DF|refine BS ?_|(refine DG ?_ ?_ ?_;rotate_left)|refine Gg ?_ ?_|refine Mi ?_ ?_|refine MT ?_|refine LV ?_ ?_|exact FO|refine Ky ?_|refine L4 ?_|refine Cj ?_|refine Av ?_|refine Gc.go (by first|exact A9.q) ?_ ?_|fail)<;>intros)
end
section
variable {st0 st:St} {b d:Nat} {s:An} {rows:List (AH×List Nd)} {K:As->St->Prop} {L:FC}
attribute [local irreducible] Go.Aw.Aj
theorem V3 (k:K (.B7 (fault Iq.1)) st):PC 314 [pv b d,.bool false] st K:=by
 refine pB Tryz.func314 ?_
 repeat' ((conv=>whnf);(first|  refine Ct ?_)<;>intros)
 all_goals exact ⟨_,_,.inl rfl,St.le_refl _,k⟩
theorem V4 (k:K (.ret (.Bc [])) st):PC 314 [pv b d,.bool true] st K:=by
 refine pB Tryz.func314 ?_
 repeat' ((conv=>whnf);(first|  refine Ct ?_)<;>intros)
 all_goals exact ⟨_,_,.inl rfl,St.le_refl _,k⟩
theorem va (U:Mh d L) {exp:Rd Nd} (he:A9 enc 353 (λb=>[pv b d]) exp):A9 enc 388 (λb=>[pv b d]) (UL L exp):=by
 refine ⟨λ{st0 b s st rows K} hc h=>?_⟩
 simp only [UL,XY,Rd.Ah,Rd.Aq,Rd.wp_seq,Rd.wp_ret,Rd.Es] at h
 refine pB Tryz.func388 ?_
 repeat' ((conv=>whnf);(first|exact DF|refine BS ?_|(refine DG ?_ ?_ ?_;rotate_left)|refine Gg ?_ ?_|refine Mi ?_ ?_|refine MT ?_|exact FO|refine Ky ?_|refine Av ?_|refine Gc.go (by first|exact A9.q|exact (U.decls).a|exact (YT U.exp).a) ?_ ?_|refine VR ?_|refine V4 ?_|refine V3 ?_|refine Ab [(0,true),(1,true),(2,false),(3,false)] [] GE ?_|refine Ab [(0,true),(1,true),(2,true),(4,true),(3,false),(5,false),(6,true),(7,false),(8,false)] [1] GE ?_|fail)<;>intros)
 all_goals conv=>whnf
 all_goals exact B1 hc.y h
end
theorem Ye:Rd.Bn (Gu stmt l):=Rd.Bn.seq (Mr Do)
theorem QZ {x:Nd} (h:l[i.toNat]? =some x) (U:0<=i) (k:K (AK x)):0<=i/\∃e,(l.map AK)[i.toNat]? =some e/\K e:=⟨U,AK x,by rw [List.getElem?_map,h];rfl,k⟩
section
variable {st0 st:St} {b d:Nat} {s:An} {rows:List (AH×List Nd)} {K:As->St->Prop} {L:FC}
attribute [local irreducible] Go.Aw.Aj
theorem Ly (hs:A9 enc 388 (λb=>[pv b d]) stmt) {E:Er->An->Prop} (hc:Cx st0 b s st rows) (h:Rd.wp (Gu stmt []) s Q E)
 (k:∀l' U s' st',l'.length<=400000002->mu s'<mu s->Cx st0 b s' st' ((U,l')::rows)->Q l' s'->K (.ret (.slice 6 (l'.map AK) U)) st') (kb:∀e s' st',Cy st0 b s' st' rows->E e s'->K (.B7 (fault e.1)) st'):PC 354 [pv b d,.slice 6 [] .full] st K:=
 vH.go (l:=[]) (own:=.full) (Zm hs) (Nat.le_of_ble_eq_true rfl) (hc.push _) h (λl' U s' st' hr hm hc' q=>k l' U s' st' (by have:=UE hr;have:=hc.mu;simp only [List.length_nil] at *;omega) (Ye _ _ _ hr) hc' q) kb
theorem pN (hL:Mh d L) {exp:Rd Nd} (he:A9 enc 353 (λb=>[pv b d]) exp) (hs:A9 enc 388 (λb=>[pv b d]) stmt):A9 enc 316 (λb=>[pv b d,.str m]) (dg L exp stmt m):=by
 refine ⟨λ{st0 b s st rows K} hc h=>?_⟩
 simp only [dg,pM,Rd.Ah,Rd.Aq,Rd.wp_seq,Rd.wp_ret] at h
 have hmu:=hc.mu
 refine pB Tryz.func316 ?_
 repeat' ((conv=>whnf);first|exact DF|(refine BS ?_;intros)|(refine DG ?_ ?_ ?_;rotate_left)|(refine Gg ?_ ?_<;>intro e h)|(refine Dk ?_ ?_<;>intro _)|(refine Mi ?_ ?_<;>intro U hc e h)|(refine MT ?_;intro s1 U hz hm hc h)|(refine LV ?_ ?_<;>(first|intro n s1 U hr hm hc h|intro e s1 U hc h))|(refine ze ?_;intro e s1 U hc h)|exact FO|refine Ky ?_|(refine L4 ?_;intro own1 U hc)|refine Cj (λ_=>?_)|refine Av (λe1=>?_)|refine A9.go he hc h (λn s1 U hr hm hc h=>?_) (λe s1 U hc h=>?_)|refine Cx.w7 (l:=[]) (hc.push []) (Nat.le_of_ble_eq_true rfl) (λown1 U hc=>?_)|refine Ab [(0,true),(1,true),(2,true),(4,true),(3,false),(5,false),(6,true),(7,false),(8,true)] [] GE ?_|refine Ab [(0,true),(1,true),(2,true),(4,true),(3,false),(5,false),(6,true),(7,false),(8,true),(9,false),(10,true)] [] GE ?_|fail)
 .refine CJ (λl own=>[(5,.slice 6 (l.map AK) own)]) (λ_ _=>[]) [1,2,4] [0,1] (λl own=>(own,l)::rows) (λl=>l.length) _ hc h PP Yl ?_
  intro l s1 U own1 hc h hl hm1
  have hl2:l.length+1<=1000000000:=AC
  simp only [VP,RQ,Rd.Ah,Rd.Aq,Rd.wp_seq,Rd.wp_ret,Rd.BI] at h
  clear hmu
  have hmu:=hc.mu
  by_cases hn:l=[]
  .subst hn
   rw [if_pos (show ((([]:List Nd).length:Int)==0)=true from rfl)] at h
   repeat' ((conv=>whnf);(first|exact DF|refine BS ?_|(refine DG ?_ ?_ ?_;rotate_left)|refine Gg ?_ ?_|refine Dk ?_ ?_|refine Mi ?_ ?_|refine MT ?_|refine LV ?_ ?_|refine ze ?_|exact FO|refine Ky ?_|refine L4 ?_|refine Cj ?_|refine Av ?_|refine Ly hs ‹_› ‹_› ?_ ?_|refine Gc.go (by first|exact A9.q|exact (hL.decls).a) ?_ ?_|exact absurd rfl ‹_›|refine QZ hx AC ?_|refine Cx.HN ‹_› RK ?_|refine Cx.HN (x:=At 30 _) (Cx.drop ‹_›) hl2 ?_|refine Ab [(0,true),(1,true),(2,true),(4,true),(3,false),(5,false),(6,true),(7,false),(8,true)] [] GE ?_|refine Ab [(0,true),(1,true),(2,true),(4,true),(3,false),(5,false),(6,true),(7,false),(8,true),(9,false),(10,true)] [] GE ?_|fail)<;>intros)
   all_goals conv=>whnf
  .obtain ⟨x,hx⟩:∃x,l[((0:Int)).toNat]? =some x:=by
    cases l with
    |nil=>exact absurd rfl hn
    |cons x l=>exact ⟨x,rfl⟩
   have hz:((l.length:Int)==0)=false:=beq_eq_false_iff_ne.2 λe=>hn (List.length_eq_zero_iff.1 AC)
   have hd:l.headD Hv=x:=by
    cases l with
    |nil=>exact absurd rfl hn
    |cons y l=>cases hx;rfl
   rw [if_neg (by rw [hz];decide),hd] at h
   repeat' ((conv=>whnf);(first|exact DF|refine BS ?_|(refine DG ?_ ?_ ?_;rotate_left)|refine Gg ?_ ?_|refine Dk ?_ ?_|refine Mi ?_ ?_|refine MT ?_|refine LV ?_ ?_|refine ze ?_|exact FO|refine Ky ?_|refine L4 ?_|refine Cj ?_|refine Av ?_|refine Ly hs ‹_› ‹_› ?_ ?_|refine Gc.go (by first|exact A9.q|exact (hL.decls).a) ?_ ?_|exact absurd rfl ‹_›|refine QZ hx AC ?_|refine Cx.HN ‹_› RK ?_|refine Cx.HN (x:=At 30 _) (Cx.drop ‹_›) hl2 ?_|refine Ab [(0,true),(1,true),(2,true),(4,true),(3,false),(5,false),(6,true),(7,false),(8,true)] [] GE ?_|refine Ab [(0,true),(1,true),(2,true),(4,true),(3,false),(5,false),(6,true),(7,false),(8,true),(9,false),(10,true)] [] GE ?_|fail)<;>intros)
   all_goals conv=>whnf
 .refine CJ (λl own=>[(5,.slice 6 (l.map AK) own)]) (λ_ _=>[]) [1,2,4] [0,1] (λl own=>(own,l)::rows) (λl=>l.length) .full (hc.push []) h PP Yl ?_
  intro l s1 U own1 hc h hl hm1
  have hl2:l.length+1<=1000000000:=AC
  simp only [VP,RQ,Rd.Ah,Rd.Aq,Rd.wp_seq,Rd.wp_ret,Rd.BI] at h
  clear hmu
  have hmu:=hc.mu
  by_cases hn:l=[]
  .subst hn
   rw [if_pos (show ((([]:List Nd).length:Int)==0)=true from rfl)] at h
   repeat' ((conv=>whnf);(first|exact DF|refine BS ?_|(refine DG ?_ ?_ ?_;rotate_left)|refine Gg ?_ ?_|refine Dk ?_ ?_|refine Mi ?_ ?_|refine MT ?_|refine LV ?_ ?_|refine ze ?_|exact FO|refine Ky ?_|refine L4 ?_|refine Cj ?_|refine Av ?_|refine Ly hs ‹_› ‹_› ?_ ?_|refine Gc.go (by first|exact A9.q|exact (hL.decls).a) ?_ ?_|exact absurd rfl ‹_›|refine QZ hx AC ?_|refine Cx.HN ‹_› RK ?_|refine Cx.HN (x:=At 30 _) (Cx.drop ‹_›) hl2 ?_|refine Ab [(0,true),(1,true),(2,true),(4,true),(3,false),(5,false),(6,true),(7,false),(8,true)] [] GE ?_|refine Ab [(0,true),(1,true),(2,true),(4,true),(3,false),(5,false),(6,true),(7,false),(8,true),(9,false),(10,true)] [] GE ?_|fail)<;>intros)
   all_goals conv=>whnf
  .obtain ⟨x,hx⟩:∃x,l[((0:Int)).toNat]? =some x:=by
    cases l with
    |nil=>exact absurd rfl hn
    |cons x l=>exact ⟨x,rfl⟩
   have hz:((l.length:Int)==0)=false:=beq_eq_false_iff_ne.2 λe=>hn (List.length_eq_zero_iff.1 AC)
   have hd:l.headD Hv=x:=by
    cases l with
    |nil=>exact absurd rfl hn
    |cons y l=>cases hx;rfl
   rw [if_neg (by rw [hz];decide),hd] at h
   repeat' ((conv=>whnf);(first|exact DF|refine BS ?_|(refine DG ?_ ?_ ?_;rotate_left)|refine Gg ?_ ?_|refine Dk ?_ ?_|refine Mi ?_ ?_|refine MT ?_|refine LV ?_ ?_|refine ze ?_|exact FO|refine Ky ?_|refine L4 ?_|refine Cj ?_|refine Av ?_|refine Ly hs ‹_› ‹_› ?_ ?_|refine Gc.go (by first|exact A9.q|exact (hL.decls).a) ?_ ?_|exact absurd rfl ‹_›|refine QZ hx AC ?_|refine Cx.HN ‹_› RK ?_|refine Cx.HN (x:=At 30 _) (Cx.drop ‹_›) hl2 ?_|refine Ab [(0,true),(1,true),(2,true),(4,true),(3,false),(5,false),(6,true),(7,false),(8,true)] [] GE ?_|refine Ab [(0,true),(1,true),(2,true),(4,true),(3,false),(5,false),(6,true),(7,false),(8,true),(9,false),(10,true)] [] GE ?_|fail)<;>intros)
   all_goals conv=>whnf
end
section
variable {st0 st:St} {b d:Nat} {s:An} {rows:List (AH×List Nd)} {K:As->St->Prop} {L:FC}
attribute [local irreducible] Go.Aw.Aj
theorem wZ (U:Mh d L) {ops exp:Rd Nd} (ho:A9 enc 310 (λb=>[pv b d]) ops) (he:A9 enc 353 (λb=>[pv b d]) exp) (hs:A9 enc 388 (λb=>[pv b d]) stmt):
 A9 enc 414 (λb=>[pv b d]) (gY L ops exp stmt):=by
 refine ⟨λ{st0 b s st rows K} hc h=>?_⟩
 simp only [gY,Rd.Aq,Rd.wp_seq,Rd.wp_ret,Rd.Es] at h
 refine pB Tryz.func414 ?_
 repeat' ((conv=>whnf);(first|exact DF|(refine DG ?_ ?_ ?_;rotate_left)|refine Gg ?_ ?_|exact FO|refine Ky ?_|refine Av ?_|refine Gc.go (by first|exact A9.q|exact (pN U he hs).a) ?_ ?_|refine VR ?_|refine V4 ?_|refine V3 ?_|refine Ab [(0,true),(1,true),(2,false),(3,false)] [] GE ?_|refine Ab [(0,true),(1,true),(2,false),(3,true),(4,false),(5,false)] [1] GE ?_|fail)<;>intros)
end
theorem Rd.oB {σ:Type} {body:σ->Rd (Sum σ β)} {P:β->Prop} (h1:∀x s y s',(body x).run s=.inr (.inr y,s')->P y) (x:σ) (s:An):∀y s',(Rd.loop body x).run s=.inr (y,s')->P y:=by
 show ∀y s',Rd.iter body x s=.inr (y,s')->_
 fun_induction Rd.iter body x s with
 |case1 x s e h=>intro y s' U;cases U
 |case2 x s y s1 h=>intro y s' U;cases U;exact h1 _ _ _ _ h
 |case3 x s x' s1 h hlt ih=>exact ih
 |case4 x s x' s1 h hlt=>intro y s' U;cases U
theorem p4 {U:Rd Nd} {s:An} {p:List Nd×Bool} (h:(Ue U br).run s=.inr (p,s')):∃x,p.1[((p.1.length:Nat) - 1:Int).toNat]? =some x/\p.1.getLastD Hv=x/\1<=p.1.length:=by
 have:∃l x,p.1=l++[x]:=by
  refine Rd.oB (body:=pT U br) (P:=λp=>∃l x,p.1=l++[x]) (λx s y s' h=>?_) _ _ _ _ h
  unfold pT at h
  obtain ⟨l,s1,_,h⟩:=Bm h
  obtain ⟨n,s2,_,h⟩:=Bm h
  replace h:(if RX (Ae s2).1=true then .seq Ju λo=>
   if br=true then .look λs=>if BB s 15 [41]=true then .ret (.inr (l++[n]++[o],true)) else .ret (.inl (l++[n]++[o]))
   else .ret (.inl (l++[n]++[o]))
   else .ret (.inr (l++[n],false)):Rd (Sum (List Nd) (List Nd×Bool))).run s2=.inr (.inr y,s'):=h
  split at h
  .obtain ⟨o,s3,_,h⟩:=Bm h
   split at h
   .replace h:(if BB s3 15 [41]=true then .ret (.inr (l++[n]++[o],true)) else .ret (.inl (l++[n]++[o])):Rd (Sum (List Nd) (List Nd×Bool))).run s3=.inr (.inr y,s'):=h
    split at h
    .cases h;exact ⟨_,_,rfl⟩
    .cases h
   .cases h
  .cases h;exact ⟨_,_,rfl⟩
 obtain ⟨l,x,e⟩:=this
 refine ⟨x,?_,?_,?_⟩
 .rw [e];simp only [List.length_append,List.length_cons,List.length_nil]
  rw [show (((l.length+(0+1):Nat):Int) - 1).toNat=l.length by omega]
  simp
 .rw [e];simp
 .rw [e];simp
theorem dp {K:List (List V)->Prop} (hn:1<=l.length) (k:K ((l.take (l.length - 1)).map AK)):
 ((0:Int)<=0/\(0:Int)<=(l.length:Int) - 1/\(l.length:Int) - 1=(l.length:Int) - 1/\(l.length:Int) - 1<=((l.map AK).length:Int))/\∀U,U=List.drop (Int.toNat 0) (List.take ((l.length:Int) - 1).toNat (l.map AK))->K U:=by
 refine ⟨⟨AC,AC,rfl,by rw [List.length_map];omega⟩,λU e=>?_⟩
 rw [e,show ((l.length:Int) - 1).toNat=l.length - 1 by omega,<-List.map_take]
 exact k
section
variable {st0 st:St} {b d:Nat} {s:An} {rows:List (AH×List Nd)} {K:As->St->Prop} {L:FC}
attribute [local irreducible] Go.Aw.Aj
theorem Vg {opd full exp:Rd Nd} (ho:A9 enc 370 (λb=>[pv b d]) opd) (hf:A9 enc 350 (λb=>[pv b d]) full) (he:A9 enc 353 (λb=>[pv b d]) exp):
 A9 enc 418 (λb=>[pv b d,enc o]) (Fw opd full exp o):=by
 refine ⟨λ{st0 b s st rows K} hc h=>?_⟩
 simp only [Fw,Rd.Aq,Rd.wp_seq,Rd.wp_ret,Rd.Es] at h
 have hmu:=hc.mu
 refine AM Ac [] Tryz.func418 rfl Do rfl ?_
 refine Ad (Af Ac ?_)
 repeat' ((conv=>whnf);first|exact DF|(refine BS ?_;intros)|(refine DG ?_ ?_ ?_;rotate_left)|(refine Gg ?_ ?_<;>intro e h)|fail)
 refine Ad (Af Ac ?_)
 repeat' ((conv=>whnf);first|exact DF|(refine BS ?_;intros)|(refine DG ?_ ?_ ?_;rotate_left)|(refine Gg ?_ ?_<;>intro e h)|refine ru.go (p5 ho) hc h (λp own1 s1 U hr hm hc h=>?_) (λe s1 U hc h=>?_)|exact B1 hc h|fail)
 all_goals obtain ⟨x,hx,hd,hn⟩:=p4 hr
 all_goals try rw [hd] at h
 all_goals refine Af Ac ?_
 all_goals (repeat' ((conv=>whnf);first|exact DF|(refine BS ?_;intros)|(refine DG ?_ ?_ ?_;rotate_left)|(refine Gg ?_ ?_<;>intro e h)|(refine Mi ?_ ?_<;>intro U hc e h)|(refine MT ?_;intro s1 U hz hm hc h)|(refine LV ?_ ?_<;>(first|intro n s1 U hr hm hc h|intro e s1 U hc h))|exact FO|refine Ky ?_|(refine L4 ?_;intro own1 U hc)|refine Cj (λ_=>?_)|refine Av (λe1=>?_)|refine dp hn ?_|refine QZ hx AC ?_|refine A9.go (ar hf) hc h (λn s1 U hr hm hc h=>?_) (λe s1 U hc h=>?_)|refine Ab [(0,true),(1,true),(2,true),(3,true),(4,true),(6,true),(7,true),(8,true),(9,true),(10,true),(11,true),(5,false),(12,false),(13,true),(14,false),(15,false)] [2] GE ?_|refine Ab [(0,true),(1,true),(2,true),(3,false),(4,false),(5,true),(6,true)] [] GE ?_|fail))
 all_goals refine CJ (λ(q:Int×List Nd) own=>[(9,.int .i64 q.1),(8,.slice 6 (q.2.map AK) own)]) (λ_ _=>[]) [2,4] [0,2] (λq own=>(own,q.2)::rows) (λq=>q.2.length) .full (hc.drop.push _) h (by show 2+_<=_;omega) Yl ?_
 all_goals intro q s1 U own1 hc h hl hm1
 all_goals simp only [dI,Rd.Ah,Rd.Aq,Rd.wp_seq,Rd.wp_ret,Rd.BI] at h
 all_goals obtain ⟨k,l⟩:=q
 all_goals dsimp only at hc h hl
 all_goals (repeat' ((conv=>whnf);first|exact DF|(refine BS ?_;intros)|(refine DG ?_ ?_ ?_;rotate_left)|(refine Gg ?_ ?_<;>intro e h)|exact ⟨⟨(5,_),_,_,_⟩,⟨hc,Rd.E6 h UV,WF,UV⟩,UV,Yl,St.le_refl _⟩|(refine Mi ?_ ?_<;>intro U hc e h)|(refine MT ?_;intro s1 U hz hm hc h)|(refine LV ?_ ?_<;>(first|intro n s1 U hr hm hc h|intro e s1 U hc h))|exact FO|refine Ky ?_|(refine L4 ?_;intro own1 U hc)|refine Cj (λ_=>?_)|refine Av (λe1=>?_)|refine A9.go he hc h (λn s1 U hr hm hc h=>?_) (λe s1 U hc h=>?_)|refine Ab [(0,true),(1,true),(2,true),(3,true),(4,true),(6,true),(7,true),(8,true),(9,true),(10,true),(11,true),(5,false),(12,false),(13,true),(14,false),(15,false)] [2] GE ?_|refine Ab [(0,true),(1,true),(2,true),(3,false),(4,false),(5,true),(6,true)] [] GE ?_|fail))
 all_goals conv=>whnf
end
section
variable {st0 st:St} {b d c:Nat} {s:An} {rows:List (AH×List Nd)} {K:As->St->Prop} {L:FC} {o:Nd} {A:Rd Nd}
theorem pQ (hb:A9 enc 418 (λb=>[pv b d,enc o]) A) (U:st.box c=some (AK o)) (hc:Cx st0 b s st rows)
 (h:Rd.wp A s (λv s'=>∀st',Cx st0 b s' st' rows->K (.ret (enc v)) st') (λe s'=>∀st',Cy st0 b s' st' rows->K (.B7 (fault e.1)) st')):PC 417 [pv b d,.ptr c 0] st K:=by
 refine pB Tryz.func417 ?_
 repeat' ((conv=>whnf);(first|  refine Am U ?_|refine Gc.go (by first|exact A9.q) ?_ ?_|exact FO)<;>intros)
theorem kH (hb:A9 enc 420 (λb=>[pv b d,enc o]) A) (U:st.box c=some (AK o)) (hc:Cx st0 b s st rows)
 (h:Rd.wp A s (λv s'=>∀st',Cx st0 b s' st' rows->K (.ret (enc v)) st') (λe s'=>∀st',Cy st0 b s' st' rows->K (.B7 (fault e.1)) st')):PC 419 [pv b d,.ptr c 0] st K:=by
 refine pB Tryz.func419 ?_
 repeat' ((conv=>whnf);(first|  refine Am U ?_|refine Gc.go (by first|exact A9.q) ?_ ?_|exact FO)<;>intros)
end
section
variable {st0 st:St} {b d:Nat} {s:An} {rows:List (AH×List Nd)} {K:As->St->Prop} {L:FC}
attribute [local irreducible] Go.Aw.Aj
theorem bQ:A9 enc 342 (λb=>[pv b d]) A4:=by
 refine ⟨λ{st0 b s st rows K} U h=>?_⟩
 refine pB Tryz.func342 ?_
 repeat' ((conv=>whnf);(first|  refine Hx.go ‹_› ‹_› ?_ ?_|exact FO)<;>intros)
theorem pq {x:Nd} (hx:n.kids[(Int.tdiv (n.kids.length:Int) 2).toNat]? =some x) (U:n.kids[n.kids.length / 2]? =some x) (h:K (.ret (.bool (MD n))) st):PC 345 [enc n] st K:=by
 have e:MD n= !(x.form==7||x.form==8||x.form==3||x.form==4):=by unfold MD;rw [U]
 rw [e] at h
 refine pB Tryz.func345 ?_
 have h0:0<=Int.tdiv (n.kids.length:Int) 2:=Int.tdiv_nonneg AC AC
 repeat' ((conv=>whnf);(first|refine BS ?_|refine Dk ?_ ?_|refine Wm hx h0 ?_)<;>intros)
 all_goals conv=>whnf
 all_goals (refine AB h ?_;clear h;simp_all)
end
end Go.Proofs.Z
namespace Go.Aw
open Go
theorem UB {P:Program} {f:FuncId} {r:List V} {st:St} {R:As->St->Prop} (hb:Plain P f) (h:s.length<4611686018427387904->Bo P f (.str s::r) st R):Bo P f (.str s::r) st R:=by
 refine ⟨?_,hb⟩
 intro I w cargs hs U
 have hl:s.length<4611686018427387904:=by
  have h2:=U
  simp only [Ap,A3] at h2
  obtain ⟨c,rr,_,h2,_⟩:=h2
  exact h2.2
 exact (h hl).a I w cargs hs U
def Fy (s:List UInt8) (k:Int):Bool:=(DO s).1==k&&(s.take (DO s).2==s)
theorem kT {n:Nat} (h:n<=s.length):s.take n=s↔n=s.length:=by
 constructor
 .intro e
  have:=congrArg List.length e
  rw [List.length_take] at this
  omega
 .intro e;rw [e,List.take_length]
theorem Jp:Fy s k=true↔(DO s).1=k/\(DO s).2=s.length:=by
 unfold Fy
 rw [Bool.and_eq_true,beq_iff_eq,beq_iff_eq,kT (We s)]
theorem O8 (h:Fy s 11=true):Bx (BV s).1 (s.drop (BV s).2)=s.length - (BV s).2/\(BV s).2<=s.length:=by
 obtain ⟨h1,h2⟩:=Jp.1 h
 by_cases hb:(BV s).1=10
 .have hp:BV s=(10,0):=by
   rcases H2 s with e|⟨e,_⟩|⟨e,_⟩
   .exact e
   .rw [e] at hb;cases hb
   .rw [e] at hb;cases hb
  rw [hp]
  refine ⟨?_,Nat.zero_le _⟩
  show Bx 10 (s.drop 0)=s.length - 0
  rw [List.drop_zero,Nat.sub_zero]
  by_cases h0:Bx 10 s=0
  .rw [cQ hb h0] at h1;cases h1
  .have e:=WG (l:=s) hb rfl h0 rfl rfl
   rw [e] at h1 h2
   dsimp only at h1 h2
   split at h1
   .cases h1
   .omega
 .have e:=Sx (l:=s) hb
  have U:(BV s).2=2:=by
   rcases H2 s with e|⟨e,_⟩|⟨e,_⟩
   .rw [e] at hb;exact absurd rfl hb
   .rw [e]
   .rw [e]
  rw [e] at h2
  dsimp only at h2
  rw [U]
  omega
theorem Ub {c:Int} (hb:b<=16) (h:¬BE c b<0):0<=BE c b/\BE c b<b/\BE c b<=15:=by
 unfold BE at h |-
 dsimp only at h |-
 (repeat' split at h)<;>(repeat' split)<;>omega
end Go.Aw
namespace Go.Proofs.Z
open Go Go.Aw
theorem aD {base:Int} {pos m:Nat} (h:pos<s.length) (U:(c,m)=Ba (s.drop pos)) (k:¬BE (c:Int) base<0):
 m=1/\GI base (s.drop pos) v=if (4611686018427387904 - BE (c:Int) base) / base<v then (0,3) else GI base (s.drop (pos+1)) (v*base+BE (c:Int) base):=by
 obtain ⟨a,ha⟩:∃a,s[pos]? =some a:=⟨_,List.getElem?_eq_getElem h⟩
 have e:=drop_at ha
 have hlo:a.toNat<128:=by
  apply Classical.byContradiction
  intro hn
  have:=Nc (r:=s.drop (pos+1)) hn
  rw [e] at U
  rw [<-U] at this
  exact k (Jd (by dsimp only at this;omega))
 rw [e,JR hlo] at U
 obtain ⟨rfl,rfl⟩:=Prod.mk.inj U
 refine ⟨rfl,?_⟩
 rw [e,GI]
theorem qp {t:List UInt8} {n:Nat} {K:List UInt8->Prop} (ht:s.drop n=t) (U:0<=(n:Int)) (h1:(n:Int)<=s.length) (k:K t):
 (0<=(n:Int)/\(n:Int)<=(s.length:Int)/\(s.length:Int)<=s.length)/\∀s',s'=(s.take (s.length:Int).toNat).drop (n:Int).toNat->K s':=WN U h1 (by subst ht;exact k)
section
variable {st:St} {R:As->St->Prop}
theorem zX (U:s.length<=4611686018427387903) (h:R (.ret (.bool (Fy s k))) st):PC 257 [.str s,.int .i64 k] st R:=by
 refine pB Tryz.func257 ?_
 repeat' ((conv=>whnf);(first|  refine Dk ?_ ?_|refine fy U ?_)<;>intros)
 all_goals conv=>whnf
 all_goals (refine AB h ?_;clear h;simp_all [Fy])
theorem we {b:Bool} (e:Fy s k=b) (U:s.length<=4611686018427387903) (h:R (.ret (.bool b)) st):PC 257 [.str s,.int .i64 k] st R:=zX U (by rw [e];exact h)
theorem sx {t:List UInt8} {pos m:Nat} (hb:b<=16) (hl:pos<t.length) (U:(c,m)=Ba (t.drop pos)) (hr:Bx b (t.drop pos)=t.length - pos) (k:∀d,d=BE c b->0<=d->d<b->R (.ret (.int .i64 d)) st):PC 242 [.int .i32 c,.int .i64 b] st R:=by
 have hn:¬BE (c:Int) b<0:=λe=>by
  have:=Iz hl U e
  omega
 obtain ⟨h1,h2,_⟩:=Ub hb hn
 exact Ng (k _ rfl h1 h2)
theorem wc {d:Int} {K:Int->Prop} (hb:b=10\/b=8\/b=16) (U:0<=v) (h1:0<=d) (h2:d<b) (h3:¬(4611686018427387904 - d) / b<v) (k:K (v*b)):∃r,r=IntKind.i64.wrap (v*b)/\K r:=by
 refine ⟨_,(LQ ?_ ?_).symm,k⟩<;>(rcases hb with rfl|rfl|rfl<;>omega)
theorem vK {d:Int} {K:Int->Prop} (hb:b=10\/b=8\/b=16) (U:0<=v) (h1:0<=d) (h2:d<b) (h3:¬(4611686018427387904 - d) / b<v) (k:K (v*b+d)):∃r,r=IntKind.i64.wrap (v*b+d)/\K r:=by
 refine ⟨_,(LQ ?_ ?_).symm,k⟩<;>(rcases hb with rfl|rfl|rfl<;>omega)
theorem vV {d:Int} (hb:b=10\/b=8\/b=16) (U:0<=v) (h1:0<=d) (h2:d<b) (h3:¬(4611686018427387904 - d) / b<v):0<=v*b+d/\v*b+d<=4611686018427387904:=by
 rcases hb with rfl|rfl|rfl<;>omega
theorem UZ {n:Nat} (hn:Fy s 11=true) (U:BV s=(b,n)):CH s=GI b (s.drop n) 0:=by
 unfold CH
 rw [if_pos (Jp.1 hn),U]
theorem XH (h:R (.ret (.Bc [.int .i64 (CH s).1,.int .i64 (CH s).2])) st):PC 212 [.str s] st R:=by
 refine UB ⟨_,Tryz.func212,Do,Do⟩ λhl0=>?_
 have hl:s.length<=4611686018427387903:=AC
 refine pB Tryz.func212 ?_
 cases hn:Fy s 11 with
 |false=>
  have hw:CH s=(0,40):=by
   unfold CH
   rw [if_neg λe=>?_]
   rw [Jp.2 e] at hn;cases hn
  rw [hw] at h
  repeat' ((conv=>whnf);first|(refine BS ?_;intros)|(refine Dk ?_ ?_<;>intro _)|refine we hn hl ?_)
  all_goals exact fin h rfl
 |true=>
  obtain ⟨hr,hle⟩:=O8 hn
  have key:∀(b:Int) (n:Nat),BV s=(b,n)->b=10\/b=8\/b=16:=λb n e=>by
   rcases H2 s with h|⟨h,_⟩|⟨h,_⟩<;>(rw [h] at e;cases e;omega)
  generalize hp:BV s=p at hr hle
  obtain ⟨b,n⟩:=p
  have hp0:BV s=(b,n):=hp
  dsimp only at hr hle
  have hb:=key b n hp
  rw [UZ hn hp] at h
  have hlen:(s.drop n).length=s.length - n:=by rw [List.length_drop]
  generalize ht:s.drop n=t at h hr hlen
  have hr:Bx b t=t.length:=AC
  clear hp key hlen
  repeat' ((conv=>whnf);first|(refine BS ?_;intros)|(refine Dk ?_ ?_<;>intro _)|refine we hn hl ?_|refine J8 hp0 hl ?_|refine qp ht AC AC ?_)
  conv=>whnf
  refine KT (α:=Nat) (β:=Int) (λpos v=>[(6,.int .i64 v)]) (λpos v=>[(0,[.P1 t pos])]) [0,4,5,21] [] (λ_ _=>st) (λpos v=>pos<=t.length/\Bx b (t.drop pos)=t.length - pos/\GI b t 0=GI b (t.drop pos) v/\0<=v/\v<=4611686018427387904) (λpos v=>t.length - pos) 0 0 ⟨Nat.zero_le _,by rw [List.drop_zero];omega,by rw [List.drop_zero],AC,AC⟩ Yl (St.le_refl _) ?_
  rintro pos v ⟨j1,j2,j3,j4,j5⟩
  rw [j3] at h
  have hb0:0<b:=AC
  repeat' ((conv=>whnf);first|(refine BS ?_;intros)|(refine Dk ?_ ?_<;>intro _)|refine WK (λc m hd=>?_)|refine Wr hb0 AC AC ?_|refine sx AC ‹_› ‹_› j2 (λd U hd1 hd2=>?_)|refine wc hb j4 hd1 hd2 ‹_› ?_|refine vK hb j4 hd1 hd2 ‹_› ?_)
  .rename_i hlt hgt
   obtain ⟨e1,e2⟩:=aD (v:=v) (base:=b) hlt hd (by rw [<-U];omega)
   rw [e2,<-U,if_pos hgt] at h
   exact fin h rfl
  .rename_i hlt hgt
   obtain ⟨e1,e2⟩:=aD (v:=v) (base:=b) hlt hd (by rw [<-U];omega)
   have e3:=(NY (base:=b) hlt hd (by rw [<-U];omega)).2
   rw [<-U,if_neg hgt] at e2
   have hf:=vV hb j4 hd1 hd2 hgt
   subst e1
   conv=>whnf
   exact ⟨(pos+1,v*b+d),⟨RL,RL,by rw [j3,e2],hf.1,hf.2⟩,RL,Yl,St.le_refl _⟩
  .rename_i hlt
   rw [List.drop_eq_nil_iff.2 AC] at h
   exact fin h rfl
end
def Cu:Er->An->Prop:=λ_ _=>True
def Dv (A:Rd Nd):Prop:=∀s,Rd.wp A s (λn s'=>Bh [n] s s') Cu
theorem Dv.at {A:Rd Nd} (h:Dv A) {s s':An} {n:Nd} (e:A.run s=.inr (n,s')):Bh [n] s s':=by
 have:=h s
 unfold Rd.wp at this
 simp_all
theorem Dv.of (h:∀s n s',A.run s=.inr (n,s')->Bh [n] s s'):Dv A:=λs=>Rd.aE (λn s' e=>h s n s' e) (λ_ _ _=>trivial)
theorem Dv.size {A:Rd Nd} (h:Dv A) {s s':An} {n:Nd} (e:A.run s=.inr (n,s')):n.size+4*mu s'<=4*mu s:=(h.at e).wK
theorem AQ {c:Prop} [Decidable c] {Q:Prop} (h1:c->P) (h2:¬c->Q):if c then P else Q:=f9
structure Real (s:An):Prop where
 ok:(Ae s).2.2=0
 lt:(Ae s).1.kind<18
 ne:(Ae s).1.kind≠0
section
variable {A B C:Rd Nd} {s s0 s1 s2 s':An} {Q:Nd->An->Prop} {L:FC}
theorem Au (h:BB s k x=true) (U:k≠0) (h1:k<18):Real s:=by
 have e:(Ae s).1.kind=k:=by
  unfold BB at h
  simp only [Bool.and_eq_true,beq_iff_eq] at h
  exact h.1
 exact ⟨HX h U,AC,AC⟩
theorem Lz (h:(Ae s).1.kind≠0) (h1:(Ae s).1.kind<18):Real s:=⟨Fq h,h1,h⟩
theorem A1 (h:((Ae s).1.kind==k)=true) (U:k≠0) (h1:k<18):Real s:=by
 rw [beq_iff_eq] at h;exact Lz AC AC
theorem ER (h:FQ (Ae s).1=true):Real s:=by
 unfold FQ at h
 simp only [Bool.or_eq_true,Bool.and_eq_true,beq_iff_eq] at h
 exact Lz AC AC
theorem ET (h:OX (Ae s).1=true):Real s:=by
 unfold OX at h
 simp only [Bool.or_eq_true,Bool.and_eq_true,beq_iff_eq] at h
 exact Lz AC AC
theorem ES (h:Mv (Ae s).1=true):Real s:=by
 unfold Mv at h
 simp only [Bool.or_eq_true,Bool.and_eq_true,beq_iff_eq] at h
 exact Lz AC AC
theorem Um (h:Mb t=true):DT t=true:=by
 unfold Mb at h
 unfold DT
 grind
theorem I7 (U:Dv A) (k:∀n s1,Bh [n] s s1->Q n s1):Rd.wp A s Q Cu:=Rd.wp_mono (U s) (λn s1 _ h=>k n s1 h) (λ_ _ _ _=>trivial)
theorem CO (U:Real s) (k:Bh [BP (Ae s).1] s (Ae s).2.1->Q (BP (Ae s).1) (Ae s).2.1):Rd.wp A4 s Q Cu:=by
 unfold Rd.wp
 rw [Fl U.ok]
 exact k (.tok U.ok U.lt U.ne)
theorem Tv (U:k≠0) (h1:k<18) (kk:∀n s1,Bh [n] s s1->Q n s1):Rd.wp (BG k x) s Q Cu:=by
 unfold BG
 rw [Rd.Ah,Rd.Aq]
 exact AQ (λe=>CO (Au e U h1) (kk _ _)) (λ_=>trivial)
theorem et (U:(ks.all λk=>decide (k≠0)&&decide (k<18))=true) (kk:∀n s1,Bh [n] s s1->Q n s1):Rd.wp (C8 ks) s Q Cu:=by
 unfold C8
 rw [Rd.Ah,Rd.Aq]
 refine AQ (λe=>?_) (λ_=>trivial)
 have:=List.all_eq_true.1 U _ (List.contains_iff_mem.1 e)
 simp only [Bool.and_eq_true,decide_eq_true_eq] at this
 exact CO (Lz this.1 this.2) (kk _ _)
theorem zf {Q:Unit->An->Prop} (hi:DT (Ae s).1=true) (k:Bh [] s (Ae s).2.1->Q () (Ae s).2.1):Rd.wp K7 s Q Cu:=by
 have e:=Fq (Hu hi).1
 unfold K7
 rw [Rd.wp_seq]
 unfold Rd.wp
 rw [Fl e]
 exact k (.skip e hi)
theorem CE {σ:Type} {body:σ->Rd (Sum σ β)} {P:σ->An->Prop} {Q:β->An->Prop} (hb:∀x s,P x s->Rd.wp (body x) s (λr s'=>match r with| .inl x'=>P x' s'| .inr y=>Q y s') Cu) {x:σ} {s:An} (h0:P x s):Rd.wp (Rd.loop body x) s Q Cu:=by
 have:∀y s',(Rd.loop body x).run s=.inr (y,s')->Q y s':=by
  show ∀y s',Rd.iter body x s=.inr (y,s')->Q y s'
  fun_induction Rd.iter body x s with
  |case1 x s e h=>simp_all
  |case2 x s y s1 h=>
   intro y' s' h';cases h'
   have:=hb x s h0
   unfold Rd.wp at this
   simp_all
  |case3 x s x' s1 h U ih=>
   have:=hb x s h0
   unfold Rd.wp at this
   simp_all
  |case4 x s x' s1 h U=>simp_all
 exact Rd.aE this (λ_ _ _=>trivial)
theorem Bh.nX (h:Bh [BP t] s s') (hk:k≠1) (U:k≠30):Bh [At k [BP t]] s s':=.node h hk (by
 have:PH [BP t]=3:=rfl
 unfold rE;simp_all)
theorem Bh.gd (h:Bh l s s') (U:3<=l.length):Bh [At 30 l] s s':=.node h Do (by have:=QH (l:=l);have:rE 30=2:=rfl;omega)
theorem Bh.CI {m:Nd} (h:Bh [n] s s1) (k:Bh (m::l) s1 s2):Bh (n::m::l) s s2:=.app h k
theorem Bh.pass (h:Bh l s s1) (k:Bh [] s1 s2):Bh l s s2:=by
 have:=Bh.app h k
 simp_all
theorem F9 {l:List α} {a b:α}:2<=(l++[a]++[b]).length:=f9
structure MQ (L:FC):Prop where
 atom:Dv L.atom
 exp:Dv L.exp
 ops:Dv L.ops
 decls:Dv L.decls
 stmts:Dv L.stmts
 alts:Dv L.alts
 HP:∀o s,Rd.wp (L.HP o) s (λn s'=>∀s0,Bh [o] s0 s->Bh [n] s0 s') Cu
 list:∀o s,Rd.wp (L.list o) s (λn s'=>∀s0,Bh [o] s0 s->Bh [n] s0 s') Cu
theorem dvO {B:Nd->Rd Nd} (hB:∀o s,Rd.wp (B o) s (λn s'=>∀s0,Bh [o] s0 s->Bh [n] s0 s') Cu) (U:Bh [o] s0 s) (k:∀n s1,Bh [n] s0 s1->Q n s1):Rd.wp (B o) s Q Cu:=
 Rd.wp_mono (hB o s) (λn s1 _ h=>k n s1 (h s0 U)) (λ_ _ _ _=>trivial)
theorem Vw:Dv Ju:=λs=>by
 simp only [Ju,Rd.Ah,Rd.Aq,Rd.wp_seq,Rd.wp_ret]
 repeat' (first
  |exact trivial
  |assumption
  |refine AQ (λe=>?_) (λe=>?_)
  |refine CO (Au ‹_› Do Do) (λhn=>?_)
  |refine CO (A1 ‹_› Do Do) (λhn=>?_)
  |refine CO (ER ‹_›) (λhn=>?_)
  |refine CO (ET ‹_›) (λhn=>?_)
  |refine CO (ES ‹_›) (λhn=>?_)
  |refine CO ‹_› (λhn=>?_)
  |refine Tv Do Do (λn s1 hn=>?_)
  |refine et Do (λn s1 hn=>?_)
  |refine I7 ‹_› (λn s1 hn=>?_)
  |exact Bh.nX ‹_› Do Do
  |refine Bh.two ?_ Do Do (by first|exact Nat.le_of_ble_eq_true rfl|(simp only [List.length_append,List.length_cons,List.length_nil];omega))
  |apply Bh.CI
  |apply Bh.app)
theorem Ov (U:Dv A):Dv (D0 A p):=λs=>by
 simp only [D0,Rd.Ah,Rd.Aq,Rd.wp_seq,Rd.wp_ret,Rd.Du]
 repeat' (first
  |exact trivial
  |assumption
  |refine AQ (λe=>?_) (λe=>?_)
  |refine CO (Au ‹_› Do Do) (λhn=>?_)
  |refine CO (A1 ‹_› Do Do) (λhn=>?_)
  |refine CO (ER ‹_›) (λhn=>?_)
  |refine CO (ET ‹_›) (λhn=>?_)
  |refine CO (ES ‹_›) (λhn=>?_)
  |refine CO ‹_› (λhn=>?_)
  |refine Tv Do Do (λn s1 hn=>?_)
  |refine et Do (λn s1 hn=>?_)
  |refine I7 ‹_› (λn s1 hn=>?_)
  |refine Bh.two ?_ Do Do (by first|exact Nat.le_of_ble_eq_true rfl|(simp only [List.length_append,List.length_cons,List.length_nil];omega))
  |apply Bh.CI
  |apply Bh.app)
theorem mL {Q:List Nd->An->Prop} (U:Bh l s0 s) (k:∀l s1,Bh l s0 s1->Q l s1):Rd.wp (cH l) s Q Cu:=by
 refine CE (P:=λl s=>Bh l s0 s) (λl s U=>?_) U
 simp only [cG,Rd.Ah,Rd.Aq,Rd.wp_seq,Rd.wp_ret]
 repeat' (first
  |exact trivial
  |assumption
  |refine AQ (λe=>?_) (λe=>?_)
  |refine CO (Au ‹_› Do Do) (λhn=>?_)
  |refine CO (A1 ‹_› Do Do) (λhn=>?_)
  |refine CO (ER ‹_›) (λhn=>?_)
  |refine CO (ET ‹_›) (λhn=>?_)
  |refine CO (ES ‹_›) (λhn=>?_)
  |refine CO ‹_› (λhn=>?_)
  |refine Tv Do Do (λn s1 hn=>?_)
  |refine et Do (λn s1 hn=>?_)
  |refine I7 ‹_› (λn s1 hn=>?_)
  |exact Bh.snoc U (Bh.nX ‹_› Do Do)
  |exact k _ _ U
  |refine Bh.two ?_ Do Do (by first|exact Nat.le_of_ble_eq_true rfl|(simp only [List.length_append,List.length_cons,List.length_nil];omega))
  |apply Bh.CI
  |apply Bh.app)
theorem mO {b:Bool} {Q:List Nd×Bool->An->Prop} (hA:Dv A) (k:∀l b s1,1<=l.length->(b=true->2<=l.length/\BB s1 15 [41]=true)->Bh l s s1->Q (l,b) s1):Rd.wp (Ue A b) s Q Cu:=by
 refine CE (P:=λl s1=>Bh l s s1) (λl s1 h0=>?_) (Bh.nil s)
 simp only [pT,Rd.Ah,Rd.Aq,Rd.wp_seq,Rd.wp_ret]
 refine mL h0 (λl s1 h0=>?_)
 have ho:=Vw
 refine I7 hA (λn s2 hn=>?_)
 refine AQ (λe=>?_) (λe=>k _ _ _ f9 (λh=>by cases h) (h0.snoc hn))
 refine I7 ho (λo s3 U=>?_)
 exact AQ (λ_=>AQ (λe=>k _ _ _ (Nat.le_trans Do F9) (λ_=>⟨F9,e⟩) ((h0.snoc hn).snoc U)) λe=>(h0.snoc hn).snoc U) λe=>(h0.snoc hn).snoc U
theorem Ri (U:Dv A):Dv (cU A):=λs=>by
 simp only [cU,Rd.wp_seq,Rd.wp_ret]
 exact mO U λl b s1 h1 _ h=>h.one Do Do h1
theorem X6 (hA:Dv A) (U:Bh [n] s0 s) (k:∀n s1,Bh [n] s0 s1->Q n s1):Rd.wp (O4 A n) s Q Cu:=by
 simp only [O4,Rd.Ah,Rd.Aq,Rd.wp_seq,Rd.wp_ret]
 repeat' (first
  |exact trivial
  |assumption
  |refine AQ (λe=>?_) (λe=>?_)
  |refine CO (Au ‹_› Do Do) (λhn=>?_)
  |refine CO (A1 ‹_› Do Do) (λhn=>?_)
  |refine CO (ER ‹_›) (λhn=>?_)
  |refine CO (ET ‹_›) (λhn=>?_)
  |refine CO (ES ‹_›) (λhn=>?_)
  |refine CO ‹_› (λhn=>?_)
  |refine Tv Do Do (λn s1 hn=>?_)
  |refine et Do (λn s1 hn=>?_)
  |refine I7 ‹_› (λn s1 hn=>?_)
  |refine k _ _ ?_
  |refine Bh.two ?_ Do Do (by first|exact Nat.le_of_ble_eq_true rfl|(simp only [List.length_append,List.length_cons,List.length_nil];omega))
  |apply Bh.CI
  |apply Bh.app)
theorem xt (U:Dv A) (hB:Dv B):Dv (iT A B):=λs=>by
 simp only [iT,Rd.wp_seq]
 exact I7 (Ri U) λn s1 h=>X6 hB h λn s1 h=>h
theorem X4 {a b:Nd} (hL:MQ L) (U:Bh [a,b] s0 s) (k:∀n s1,Bh [n] s0 s1->Q n s1):Rd.wp (OE L a b) s Q Cu:=by
 have h1:=hL.exp
 simp only [OE,Rd.wp_seq,Rd.wp_ret]
 repeat' (first
  |exact trivial
  |assumption
  |refine AQ (λe=>?_) (λe=>?_)
  |refine CO (Au ‹_› Do Do) (λhn=>?_)
  |refine CO (A1 ‹_› Do Do) (λhn=>?_)
  |refine CO (ER ‹_›) (λhn=>?_)
  |refine CO (ET ‹_›) (λhn=>?_)
  |refine CO (ES ‹_›) (λhn=>?_)
  |refine CO ‹_› (λhn=>?_)
  |refine Tv Do Do (λn s1 hn=>?_)
  |refine et Do (λn s1 hn=>?_)
  |refine I7 ‹_› (λn s1 hn=>?_)
  |exact k _ _ (Bh.two (l:=[a,b,_,_]) (Bh.app U (Bh.CI ‹_› ‹_›)) Do Do (Nat.le_of_ble_eq_true rfl))
  |refine Bh.two ?_ Do Do (by first|exact Nat.le_of_ble_eq_true rfl|(simp only [List.length_append,List.length_cons,List.length_nil];omega))
  |apply Bh.CI
  |apply Bh.app)
theorem iJ (hL:MQ L) (hA:Dv A) (hr:Real s) (k:∀n s1,Bh [n] s s1->Q n s1):Rd.wp (NG L A) s Q Cu:=by
 have h1:=hL.exp
 simp only [NG,Rd.wp_seq]
 refine CO hr λU=>?_
 refine CE (P:=λl s1=>Bh l s s1) (λl s1 U=>?_) U
 .have h2:=Ov (p:=Ma) hA
  simp only [VT,Qk,Rd.Ah,Rd.Aq,Rd.wp_seq,Rd.wp_ret]
  repeat' (first
   |exact trivial
   |assumption
   |refine AQ (λe=>?_) (λe=>?_)
   |refine CO (Au ‹_› Do Do) (λhn=>?_)
   |refine CO (A1 ‹_› Do Do) (λhn=>?_)
   |refine CO (ER ‹_›) (λhn=>?_)
   |refine CO (ET ‹_›) (λhn=>?_)
   |refine CO (ES ‹_›) (λhn=>?_)
   |refine CO ‹_› (λhn=>?_)
   |refine Tv Do Do (λn s1 hn=>?_)
   |refine et Do (λn s1 hn=>?_)
   |refine I7 ‹_› (λn s1 hn=>?_)
   |exact k _ _ (Bh.two (Bh.snoc (Bh.snoc U ‹_›) ‹_›) Do Do F9)
   |refine Bh.two ?_ Do Do (by first|exact Nat.le_of_ble_eq_true rfl|exact F9|(simp only [List.length_append,List.length_cons,List.length_nil];omega))
   |apply Bh.CI
   |apply Bh.app)
theorem sI {Q:Unit->An->Prop} (k:∀s1,Bh [] s s1->Q () s1):Rd.wp (gn w) s Q Cu:=by
 simp only [gn,Rd.Ah,Rd.Aq,Rd.wp_ret]
 exact AQ (λe=>AQ (λ_=>zf (Um e) (k _)) λ_=>k _ (.nil _)) λ_=>k _ (.nil _)
theorem eA {Q:List Nd->An->Prop} (hL:MQ L) (U:Bh l s0 s) (k:∀a e s1,Bh (l++[a]++[e]) s0 s1->Q (l++[a]++[e]) s1):Rd.wp (Pu L l w) s Q Cu:=by
 have h1:=hL.exp
 simp only [Pu,Rd.wp_seq,Rd.wp_ret]
 refine sI λs1 hs=>?_
 have U:=U.pass hs
 repeat' (first
  |exact trivial
  |assumption
  |refine AQ (λe=>?_) (λe=>?_)
  |refine CO (Au ‹_› Do Do) (λhn=>?_)
  |refine CO (A1 ‹_› Do Do) (λhn=>?_)
  |refine CO (ER ‹_›) (λhn=>?_)
  |refine CO (ET ‹_›) (λhn=>?_)
  |refine CO (ES ‹_›) (λhn=>?_)
  |refine CO ‹_› (λhn=>?_)
  |refine Tv Do Do (λn s1 hn=>?_)
  |refine et Do (λn s1 hn=>?_)
  |refine I7 ‹_› (λn s1 hn=>?_)
  |refine k _ _ _ ?_
  |refine Bh.two ?_ Do Do (by first|exact Nat.le_of_ble_eq_true rfl|(simp only [List.length_append,List.length_cons,List.length_nil];omega))
  |apply Bh.CI
  |apply Bh.app)
theorem iH (U:MQ L) (hr:Real s) (k:∀n s1,Bh [n] s s1->Q n s1):Rd.wp (M6 L) s Q Cu:=by
 have h1:=U.exp
 simp only [M6,Rd.wp_seq,Rd.wp_ret]
 refine CO hr λh0=>?_
 refine I7 h1 λc s1 hc=>?_
 exact eA U (h0.cons hc) λa e s2 h2=>eA U h2 λa e s3 h3=>k _ _ (h3.two Do Do F9)
theorem sF (U:MQ L) (hr:Real s) (k:∀n s1,Bh [n] s s1->Q n s1):Rd.wp (ef L) s Q Cu:=by
 have h1:=U.exp
 have h2:=U.alts
 simp only [ef,Rd.wp_seq,Rd.wp_ret]
 refine CO hr λh0=>?_
 repeat' (first
  |exact trivial
  |assumption
  |refine AQ (λe=>?_) (λe=>?_)
  |refine CO (Au ‹_› Do Do) (λhn=>?_)
  |refine CO (A1 ‹_› Do Do) (λhn=>?_)
  |refine CO (ER ‹_›) (λhn=>?_)
  |refine CO (ET ‹_›) (λhn=>?_)
  |refine CO (ES ‹_›) (λhn=>?_)
  |refine CO ‹_› (λhn=>?_)
  |refine Tv Do Do (λn s1 hn=>?_)
  |refine et Do (λn s1 hn=>?_)
  |refine I7 ‹_› (λn s1 hn=>?_)
  |refine k _ _ ?_
  |refine Bh.two ?_ Do Do (by first|exact Nat.le_of_ble_eq_true rfl|(simp only [List.length_append,List.length_cons,List.length_nil];omega))
  |apply Bh.CI
  |apply Bh.app)
theorem mQ (U:MQ L) (hr:Real s) (k:∀n s1,Bh [n] s s1->Q n s1):Rd.wp (S4 L) s Q Cu:=by
 have h1:=U.stmts
 simp only [S4,Rd.wp_seq,Rd.wp_ret,Rd.Aq,Rd.Es]
 refine CO hr λh0=>?_
 repeat' (first
  |exact trivial
  |assumption
  |refine AQ (λe=>?_) (λe=>?_)
  |refine CO (Au ‹_› Do Do) (λhn=>?_)
  |refine CO (A1 ‹_› Do Do) (λhn=>?_)
  |refine CO (ER ‹_›) (λhn=>?_)
  |refine CO (ET ‹_›) (λhn=>?_)
  |refine CO (ES ‹_›) (λhn=>?_)
  |refine CO ‹_› (λhn=>?_)
  |refine Tv Do Do (λn s1 hn=>?_)
  |refine et Do (λn s1 hn=>?_)
  |refine I7 ‹_› (λn s1 hn=>?_)
  |refine k _ _ ?_
  |refine Bh.two ?_ Do Do (by first|exact Nat.le_of_ble_eq_true rfl|(simp only [List.length_append,List.length_cons,List.length_nil];omega))
  |apply Bh.CI
  |apply Bh.app)
theorem xu (U:MQ L) (hr:Real s) (k:∀n s1,Bh [n] s s1->Q n s1):Rd.wp (tI L) s Q Cu:=by
 have h1:=U.decls
 simp only [tI,Rd.wp_seq]
 refine CO hr λh0=>?_
 exact I7 h1 λb s1 hb=>X4 U (h0.cons hb) k
theorem mH (hA:Dv A) (k:∀n s1,Bh [n] s s1->Q n s1):Rd.wp (Oi A) s Q Cu:=by
 simp only [Oi,Rd.wp_seq,Rd.wp_ret]
 refine I7 hA λn s1 hn=>?_
 refine CE (P:=λl s1=>Bh l s s1/\1<=l.length) (λl s1 U=>?_) ⟨hn,Nat.le_refl _⟩
 obtain ⟨U,hl⟩:=U
 simp only [aV,Rd.Ah,Rd.Aq,Rd.wp_seq,Rd.wp_ret]
 exact AQ (λ_=>I7 hA λn s1 hn=>⟨U.snoc hn,f9⟩) λ_=>k _ _ (U.one Do Do hl)
theorem bu (hL:MQ L) (hA:Dv A):Dv (Jv L A):=λs=>by
 simp only [Jv,Rd.Ah,Rd.Aq]
 have U:=mH (s:=s) (Q:=λn s'=>Bh [n] s s') hA λ_ _ h=>h
 refine AQ (λe=>AQ (λ_=>iJ hL hA (A1 e Do Do) λ_ _ h=>h) λ_=>U) λ_=>AQ (λe=>?_) λ_=>U
 have hr:=A1 e Do Do
 exact AQ (λ_=>xu hL hr λ_ _ h=>h) λ_=>AQ (λ_=>iH hL hr λ_ _ h=>h) λ_=>AQ (λ_=>sF hL hr λ_ _ h=>h) λ_=>AQ (λ_=>mQ hL hr λ_ _ h=>h) λ_=>U
theorem ez (U:Bh [o] s0 s) (k:∀n s1,Bh [n] s0 s1->Q n s1):Rd.wp (Yn o) s Q Cu:=by
 simp only [Yn,Rd.wp_seq,Rd.wp_ret]
 refine CE (P:=λl s1=>Bh l s0 s1/\1<=l.length) (λl s1 U=>?_) ⟨U,Nat.le_refl _⟩
 obtain ⟨U,hl⟩:=U
 simp only [Vm,Rd.Ah,Rd.Aq,Rd.wp_seq,Rd.wp_ret]
 exact AQ (λe=>CO (Au e Do Do) λh=>⟨U.snoc h,f9⟩) λ_=>Tv Do Do λn s1 h=>k _ _ ((U.snoc h).two Do Do f9)
theorem iM (U:MQ L) (h0:Bh [o] s0 s) (k:∀n s1,Bh [n] s0 s1->Q n s1):Rd.wp (SM L o) s Q Cu:=by
 have h1:=U.ops
 have h2:=Vw
 simp only [SM,Rd.Ah,Rd.Aq,Rd.wp_seq,Rd.wp_ret]
 repeat' (first
  |exact trivial
  |assumption
  |refine AQ (λe=>?_) (λe=>?_)
  |refine CO (Au ‹_› Do Do) (λhn=>?_)
  |refine CO (A1 ‹_› Do Do) (λhn=>?_)
  |refine CO (ER ‹_›) (λhn=>?_)
  |refine CO (ET ‹_›) (λhn=>?_)
  |refine CO (ES ‹_›) (λhn=>?_)
  |refine CO ‹_› (λhn=>?_)
  |refine Tv Do Do (λn s1 hn=>?_)
  |refine et Do (λn s1 hn=>?_)
  |refine I7 ‹_› (λn s1 hn=>?_)
  |exact dvO U.HP h0 k
  |refine k _ _ ?_
  |refine Bh.two ?_ Do Do (by first|exact Nat.le_of_ble_eq_true rfl|(simp only [List.length_append,List.length_cons,List.length_nil];omega))
  |apply Bh.CI
  |apply Bh.app)
theorem iL (hL:MQ L) (U:Bh [o] s0 s) (k:∀n s1,Bh [n] s0 s1->Q n s1):Rd.wp (Xd L o) s Q Cu:=by
 simp only [Xd,Rd.Ah,Rd.Aq,Rd.wp_seq,Rd.wp_ret]
 have hc:=iM (Q:=Q) hL U k
 refine AQ (λe=>AQ (λe2=>?_) λ_=>hc) λ_=>hc
 exact CO (ET e) λh1=>CO (Au e2 Do Do) λh2=>k _ _ ((U.cons (h1.cons h2)).two Do Do (Nat.le_of_ble_eq_true rfl))
theorem mN (hL:MQ L) (hr:Real s) (k:∀n s1,Bh [n] s s1->Q n s1):Rd.wp (SN L) s Q Cu:=by
 simp only [SN,Rd.Ah,Rd.Aq,Rd.wp_seq]
 exact CO hr λU=>AQ (λ_=>ez U k) λ_=>AQ (λ_=>ez U k) λ_=>iL hL U k
theorem iN (hL:MQ L) (hr:Real s) (k:∀n s1,Bh [n] s s1->Q n s1):Rd.wp (N6 L) s Q Cu:=by
 simp only [N6,Rd.Ah,Rd.Aq,Rd.wp_seq,Rd.wp_ret]
 refine CO hr λU=>?_
 repeat' (first
  |exact trivial
  |assumption
  |refine AQ (λe=>?_) (λe=>?_)
  |refine CO (Au ‹_› Do Do) (λhn=>?_)
  |refine CO (A1 ‹_› Do Do) (λhn=>?_)
  |refine CO (ER ‹_›) (λhn=>?_)
  |refine CO (ET ‹_›) (λhn=>?_)
  |refine CO (ES ‹_›) (λhn=>?_)
  |refine CO ‹_› (λhn=>?_)
  |refine Tv Do Do (λn s1 hn=>?_)
  |refine et Do (λn s1 hn=>?_)
  |refine I7 ‹_› (λn s1 hn=>?_)
  |exact dvO hL.list U k
  |refine k _ _ ?_
  |refine Bh.two ?_ Do Do (by first|exact Nat.le_of_ble_eq_true rfl|(simp only [List.length_append,List.length_cons,List.length_nil];omega))
  |apply Bh.CI
  |apply Bh.app)
theorem sE (U:MQ L):Dv (T2 L):=λs=>by
 have h1:=U.atom
 simp only [T2,Rd.Ah,Rd.Aq,Rd.wp_seq,Rd.wp_ret]
 refine AQ (λe=>?_) λ_=>trivial
 have hr:=ER e
 repeat' (first
  |exact trivial
  |assumption
  |refine AQ (λe=>?_) (λe=>?_)
  |refine CO (Au ‹_› Do Do) (λhn=>?_)
  |refine CO (A1 ‹_› Do Do) (λhn=>?_)
  |refine CO (ER ‹_›) (λhn=>?_)
  |refine CO (ET ‹_›) (λhn=>?_)
  |refine CO (ES ‹_›) (λhn=>?_)
  |refine CO ‹_› (λhn=>?_)
  |refine Tv Do Do (λn s1 hn=>?_)
  |refine et Do (λn s1 hn=>?_)
  |refine I7 ‹_› (λn s1 hn=>?_)
  |exact mN U hr λ_ _ h=>h
  |exact iN U hr λ_ _ h=>h
  |exact Bh.nX ‹_› Do Do
  |refine Bh.two ?_ Do Do (by first|exact Nat.le_of_ble_eq_true rfl|(simp only [List.length_append,List.length_cons,List.length_nil];omega))
  |apply Bh.CI
  |apply Bh.app)
theorem iK (hL:MQ L) (hr:Real s) (U:Bh [n] s0 s) (k:∀n s1,Bh [n] s0 s1->Q n s1):Rd.wp (LA L n) s Q Cu:=by
 have h1:=hL.exp
 simp only [LA,Rd.wp_seq,Rd.wp_ret]
 refine CO hr λhb=>?_
 refine CE (P:=λl s1=>Bh l s0 s1/\1<=l.length) (λl s1 U=>?_) ⟨U.cons hb,Nat.le_of_ble_eq_true rfl⟩
 obtain ⟨U,hl⟩:=U
 have hend:∀{l:List Nd} {s:An},Bh l s0 s->1<=l.length->Rd.wp (BG 15 [125]) s (λc s'=>Q (At 12 (l++[c])) s') Cu:=λU hl=>Tv Do Do λn s1 h=>k _ _ ((U.snoc h).two Do Do f9)
 simp only [Xa,VE,Rd.Ah,Rd.Aq,Rd.wp_seq,Rd.wp_ret]
 have hf:Rd.wp (C8 [1,3]) s1 (λnm s'=>Rd.wp (BG 10 [61]) s' (λq s'=>Rd.wp L.exp s' (λe s'=>if BB s' 15 [44]=true then Rd.wp A4 s' (λc s'=>Bh (l++[At 13 [nm,q,e]]++[c]) s0 s'/\1<=(l++[At 13 [nm,q,e]]++[c]).length) Cu
  else Rd.wp (BG 15 [125]) s' (λc s'=>Q (At 12 (l++[At 13 [nm,q,e]]++[c])) s') Cu) Cu) Cu) Cu:=by
  refine et Do λnm s2 g1=>Tv Do Do λq s3 g2=>I7 h1 λe s4 g3=>?_
  have h2:=U.snoc ((g1.cons (g2.cons g3)).two (k:=13) Do Do (Nat.le_of_ble_eq_true rfl))
  exact AQ (λe=>CO (Au e Do Do) λh=>⟨h2.snoc h,Nat.le_trans Do F9⟩) λ_=>hend h2 f9
 simp_all
theorem Ni (hL:MQ L):Dv (MV L):=λs=>by
 simp only [MV,Rd.wp_seq]
 refine I7 (sE hL) λn s1 hn=>?_
 refine CE (P:=λn s1=>Bh [n] s s1) (λn s1 U=>?_) hn
 simp only [lU,Rd.Ah,Rd.Aq,Rd.wp_seq,Rd.wp_ret]
 exact AQ (λe=>iK hL (Au e Do Do) U λ_ _ h=>h) λ_=>U
end
section
variable {A B C D E:Rd Nd} {s s0 s1 s2 s':An} {Q:Nd->An->Prop} {L:FC}
theorem kS:∀{l:List Nd},2<=l.length->l.take (l.length - 1)++[l.getLastD Hv]=l/\1<=(l.take (l.length - 1)).length:=λ{l} h=>by
 have U:l≠[]:=λe=>by simp_all
 refine ⟨?_,by grind⟩
 have h1:=List.dropLast_concat_getLast U
 grind
theorem Bh.split:∀{l:List Nd} {s s':An},Bh l s s'->∀{a b:List Nd},l=a++b->∃s1,Bh a s s1/\Bh b s1 s':=by
 intro l s s' h
 induction h with
 |nil s=>intro a b e;obtain ⟨rfl,rfl⟩:=List.append_eq_nil_iff.1 e.symm;exact ⟨s,.nil s,.nil s⟩
 |app h1 h2 i1 i2=>
  intro a b e
  rcases List.append_eq_append_iff.1 e with ⟨x,U,e2⟩|⟨x,U,e2⟩
  .obtain ⟨s1,k1,k2⟩:=i2 e2
   subst U
   exact ⟨s1,.app h1 k1,k2⟩
  .obtain ⟨s1,k1,k2⟩:=i1 U
   subst e2
   exact ⟨s1,k1,.app k2 h2⟩
 |tok g1 g2 g3=>
  intro a b e
  match a with
  |[]=>rw [List.nil_append] at e;subst e;exact ⟨_,.nil _,.tok g1 g2 g3⟩
  |x::r=>
   rw [List.cons_append] at e
   injection e with U e2
   obtain ⟨rfl,rfl⟩:=List.append_eq_nil_iff.1 e2.symm
   subst U
   exact ⟨_,.tok g1 g2 g3,.nil _⟩
 |skip g1 g2=>intro a b e;obtain ⟨rfl,rfl⟩:=List.append_eq_nil_iff.1 e.symm;exact ⟨_,.nil _,.skip g1 g2⟩
 |close g1=>intro a b e;obtain ⟨rfl,rfl⟩:=List.append_eq_nil_iff.1 e.symm;exact ⟨_,.nil _,.close g1⟩
 |node g1 g2 g3 ih=>
  intro a b e
  match a with
  |[]=>rw [List.nil_append] at e;subst e;exact ⟨_,.nil _,.node g1 g2 g3⟩
  |x::r=>
   rw [List.cons_append] at e
   injection e with U e2
   obtain ⟨rfl,rfl⟩:=List.append_eq_nil_iff.1 e2.symm
   subst U
   exact ⟨_,.node g1 g2 g3,.nil _⟩
 |block g1 g2 g3 ih=>
  intro a b e
  match a with
  |[]=>rw [List.nil_append] at e;subst e;exact ⟨_,.nil _,.block g1 g2 g3⟩
  |x::r=>
   rw [List.cons_append] at e
   injection e with U e2
   obtain ⟨rfl,rfl⟩:=List.append_eq_nil_iff.1 e2.symm
   subst U
   exact ⟨_,.block g1 g2 g3,.nil _⟩
theorem mJ (hA:Dv A) (hB:Dv B) (hC:Dv C):∀s,Rd.wp (Fw A B C o) s (λn s'=>∀s0,Bh [o] s0 s->Bh [n] s0 s') Cu:=λs=>by
 simp only [Fw,Rd.Aq,Rd.wp_seq,Rd.wp_ret]
 refine mO hA λl b s1 h1 h2 hl=>?_
 dsimp only
 refine AQ (λe=>?_) λ_=>?_
 .obtain ⟨h3,h4⟩:=h2 e
  obtain ⟨t1,t2⟩:=kS h3
  obtain ⟨s2,k1,k2⟩:=hl.split t1.symm
  exact CO (Au h4 Do Do) λg1 s0 U=>(U.cons ((k1.one Do Do t2).cons (k2.cons g1))).two Do Do (Nat.le_of_ble_eq_true rfl)
 .refine X6 hB (hl.one Do Do h1) λn s1 hn=>?_
  refine CE (P:=λq s1=>(q.1=4\/q.1=5)/\2<=q.2.length/\∀s0,Bh [o] s0 s->Bh q.2 s0 s1) (λq s1 h0=>?_) ⟨.inl rfl,Nat.le_refl _,λs0 U=>U.cons hn⟩
  obtain ⟨hq,hl,h0⟩:=h0
  simp only [dI,Rd.Ah,Rd.Aq,Rd.wp_seq,Rd.wp_ret]
  refine AQ (λe=>CO (Au e Do Do) λg1=>I7 hC λn s2 g2=>⟨.inr trivial,F9,λs0 U=>((h0 s0 U).snoc g1).snoc g2⟩) λ_=>Tv Do Do λc s2 hc s0 U=>?_
  exact ((h0 s0 U).snoc hc).two AC AC (by grind)
theorem X5 {Q:List Nd->An->Prop} (hA:Dv A) (U:Bh l s0 s) (k:∀l' s1,l.length+2<=l'.length->Bh l' s0 s1->Q l' s1):Rd.wp (Gu A l) s Q Cu:=by
 simp only [Gu,Rd.wp_seq]
 refine Tv Do Do λb s1 hb=>I7 hA λt s2 ht=>?_
 refine CE (P:=λl' s1=>Bh l' s0 s1/\l.length+2<=l'.length) (λl' s1 U=>?_) ⟨(U.snoc hb).snoc ht,f9⟩
 obtain ⟨U,hl⟩:=U
 simp only [ON,Rd.Ah,Rd.Aq,Rd.wp_seq,Rd.wp_ret]
 exact AQ (λe=>CO (Au e Do Do) λg1=>I7 hA λn s2 g2=>⟨(U.snoc g1).snoc g2,by grind⟩) λ_=>k _ _ hl U
theorem sH (hA:Dv A) (hB:Dv B):∀s,Rd.wp (Sg A B o) s (λn s'=>∀s0,Bh [o] s0 s->Bh [n] s0 s') Cu:=λs=>by
 simp only [Sg,Rd.Ah,Rd.Aq,Rd.wp_seq,Rd.wp_ret]
 refine I7 hA λe s1 he=>AQ (λ_=>?_) λ_=>?_
 .have:Rd.wp (Gu B [o,e]) s1 (λl s2=>Rd.wp (BG 15 [93]) s2 (λc s'=>∀s0,Bh [o] s0 s->Bh [At 8 (l++[c])] s0 s') Cu) Cu:=by
   refine Rd.aE (λl s2 hr=>?_) (λ_ _ _=>trivial)
   refine Tv Do Do λc s3 hc s0 ho=>?_
   have h1:Rd.wp (Gu B [o,e]) s1 (λl s2=>Bh l s0 s2/\2<=l.length) Cu:=X5 hB (ho.cons he) λl' s1 hl h=>⟨h,AC⟩
   unfold Rd.wp at h1
   rw [hr] at h1
   exact (h1.1.snoc hc).two Do Do (by grind)
  omega
 .refine CE (P:=λl s1=>2<=l.length/\∀s0,Bh [o] s0 s->Bh l s0 s1) (λl s1 h0=>?_) ⟨Nat.le_refl _,λs0 ho=>ho.cons he⟩
  obtain ⟨hl,h0⟩:=h0
  have U:∀{k:Int} {l:List Nd} {s1:An},k≠1->k≠30->2<=l.length->(∀s0,Bh [o] s0 s->Bh l s0 s1)->Rd.wp (BG 15 [93]) s1 (λc s'=>∀s0,Bh [o] s0 s->Bh [At k (l++[c])] s0 s') Cu:=λhk h30 hl h0=>
   Tv Do Do λc s3 hc s0 ho=>((h0 s0 ho).snoc hc).two hk h30 (by grind)
  simp only [ou,fo,Rd.Ah,Rd.Aq,Rd.wp_seq,Rd.wp_ret]
  have hc:if BB s1 15 [44]=true then Rd.wp A4 s1 (λc s'=>Rd.wp A s' (λe s'=>2<=(l++[c]++[e]).length/\∀s0,Bh [o] s0 s->Bh (l++[c]++[e]) s0 s') Cu) Cu
   else Rd.wp (BG 15 [93]) s1 (λc s'=>∀s0,Bh [o] s0 s->Bh [At 6 (l++[c])] s0 s') Cu:=
   AQ (λe=>CO (Au e Do Do) λg1=>I7 hA λn s2 g2=>⟨F9,λs0 ho=>((h0 s0 ho).snoc g1).snoc g2⟩) λ_=>U Do Do hl h0
  refine AQ (λ_=>AQ (λe=>CO (Au e Do Do) λg1=>AQ (λ_=>?_) λ_=>I7 hA λn s2 g2=>?_) λ_=>hc) λ_=>hc
  .exact U Do Do (by grind) λs0 ho=>(h0 s0 ho).snoc g1
  .exact U Do Do F9 λs0 ho=>((h0 s0 ho).snoc g1).snoc g2
theorem ew (hA:Dv A) (U:Bh [n] s0 s) (k:∀n s1,Bh [n] s0 s1->Q n s1):Rd.wp (XY A n) s Q Cu:=by
 simp only [XY,Rd.Ah,Rd.Aq,Rd.wp_seq,Rd.wp_ret,Rd.Es]
 exact AQ (λe=>AQ (λ_=>CO (Au e Do Do) λg1=>I7 hA λm s2 g2=>k _ _ ((U.cons (g1.cons g2)).two Do Do (Nat.le_of_ble_eq_true rfl))) λ_=>trivial) λ_=>k _ _ U
theorem sJ (hL:MQ L) (U:Dv A):Dv (UL L A):=λs=>by
 simp only [UL,Rd.Ah,Rd.Aq,Rd.wp_seq,Rd.wp_ret]
 exact AQ (λe=>CO (Au e Do Do) λg1=>I7 hL.decls λb s2 g2=>AQ (λ_=>X4 hL (g1.cons g2) λn s3 g3=>ew U g3 λ_ _ h=>h) λ_=>(g1.cons g2).two Do Do (Nat.le_of_ble_eq_true rfl))
  λ_=>I7 U λn s3 g3=>ew U g3 λ_ _ h=>h
theorem eB (hL:MQ L) (hA:Dv A) (hB:Dv B) (U:Bh l s0 s) (hl:l=[]\/2<=PH l) (k:∀n s1,Bh [n] s0 s1->Q n s1):Rd.wp (pM L A B m l) s Q Cu:=by
 simp only [pM,Rd.wp_seq,Rd.Ah,Rd.Aq,Rd.wp_ret]
 refine CE (P:=λl s1=>Bh l s0 s1/\(l=[]\/2<=PH l)) (λl s1 U=>?_) ⟨U,hl⟩
 obtain ⟨U,hl⟩:=U
 have hs:Rd.wp (Gu B []) s1 (λg s'=>Rd.wp (BG 10 m) s' (λq s'=>Rd.wp A s' (λe s'=>Bh (l++[At 30 (g++[q]++[e])]) s0 s'/\(l++[At 30 (g++[q]++[e])]=[]\/2<=PH (l++[At 30 (g++[q]++[e])]))) Cu) Cu) Cu:=by
  refine X5 hB (.nil s1) λg s2 hg h=>Tv Do Do λq s3 g1=>I7 hA λe s4 g2=>⟨U.snoc (Bh.gd ((h.snoc g1).snoc g2) (by grind)),.inr ?_⟩
  rw [Kf]
  have:PH [At 30 (g++[q]++[e])]=2:=rfl
  omega
 have he:∀{l:List Nd} {s1:An},Bh l s0 s1->2<=PH l->if BB s1 9 Kk=true then Rd.wp A4 s1 (λw s'=>Rd.wp L.decls s' (λb s'=>Q (At 29 (l++[At 31 [w,b]])) s') Cu) Cu else Q (At 29 l) s1:=λ{l s1} U hl=>
  AQ (λe=>CO (Au e Do Do) λg1=>I7 hL.decls λb s2 g2=>k _ _ (.node (U.snoc ((g1.cons g2).two Do Do (Nat.le_of_ble_eq_true rfl))) Do (by rw [Kf];have:rE 29=1:=rfl;omega)))
   λ_=>k _ _ (.node U Do (by have:rE 29=1:=rfl;omega))
 simp only [VP,RQ,Rd.Ah,Rd.Aq,Rd.wp_seq,Rd.wp_ret]
 grind
theorem mM (hL:MQ L) (hA:Dv A) (hB:Dv B):Dv (dg L A B m):=λs=>by
 simp only [dg,Rd.Ah,Rd.Aq,Rd.wp_seq]
 refine AQ (λe=>?_) λ_=>AQ (λ_=>eB hL hA hB (.nil s) (.inl rfl) λ_ _ h=>h) λ_=>trivial
 by_cases U:Real s
 .exact CO U λg1=>I7 hA λe s2 g2=>eB hL hA hB (g1.cons g2) (.inr (Nat.le_trans (Nat.le_of_ble_eq_true rfl) QH)) λ_ _ h=>h
 .exact absurd (Au e Do Do) U
theorem xq (hL:MQ L) (U:Dv A) (hB:Dv B) (hC:Dv C):Dv (gY L A B C):=λs=>by
 simp only [gY,Rd.Aq,Rd.wp_seq,Rd.wp_ret,Rd.Es]
 exact I7 U λn s1 g1=>AQ (λ_=>I7 (mM hL hB hC) λr s2 g2=>(g1.cons g2).two Do Do (Nat.le_of_ble_eq_true rfl)) λ_=>trivial
theorem Rh (U:Bh l s0 s) (hl:1<=l.length) (k:∀n s1,Bh [n] s0 s1->Q n s1):Rd.wp (Nq l) s Q Cu:=by
 have ho:=Ov (p:=MD) Vw
 simp only [Nq,Rd.wp_seq]
 refine I7 ho λo s1 g1=>?_
 refine CE (P:=λl s1=>Bh l s0 s1/\2<=l.length) (λl s1 U=>?_) ⟨U.snoc g1,f9⟩
 obtain ⟨U,hl⟩:=U
 simp only [VI,Rd.Ah,Rd.Aq,Rd.wp_seq,Rd.wp_ret]
 exact AQ (λe=>CO (Au e Do Do) λg1=>I7 ho λo s2 g2=>⟨(U.snoc g1).snoc g2,F9⟩) λ_=>k _ _ (U.two Do Do hl)
theorem iI (U:Real s) (k:∀n s1,Bh [n] s s1->Q n s1):Rd.wp Nr s Q Cu:=by
 simp only [Nr,Rd.Ah,Rd.Aq,Rd.wp_seq]
 refine CO U λg1=>AQ (λe=>?_) λ_=>Rh g1 (Nat.le_of_ble_eq_true rfl) k
 simp only [D0,Rd.Ah,Rd.Aq,Rd.wp_seq,Rd.wp_ret,Rd.Du]
 exact CO (A1 e Do Do) λg2=>AQ (λ_=>Rh (g1.cons g2) (Nat.le_of_ble_eq_true rfl) k) λ_=>trivial
theorem mP (hA:Dv A) (hB:Dv B) (U:Bh [n] s0 s) (k:∀n s1,Bh [n] s0 s1->Q n s1):Rd.wp (kB A B n) s Q Cu:=by
 have ho:=Ov (p:=lu) hA
 simp only [kB,Rd.Aq,Rd.wp_seq,Rd.Es]
 refine AQ (λ_=>?_) λ_=>trivial
 refine CE (P:=λl s1=>Bh l s0 s1) (λl s1 U=>?_) U
 simp only [yR,Rd.Ah,Rd.Aq,Rd.wp_seq,Rd.wp_ret]
 exact AQ (λe=>CO (Au e Do Do) λg1=>I7 ho λo s2 g2=>(U.snoc g1).snoc g2) λ_=>Tv Do Do λc s2 g1=>I7 hB λt s3 g2=>k _ _ (((U.snoc g1).snoc g2).two Do Do F9)
theorem sG (hL:MQ L) (U:Dv A) (hB:Dv B) (hC:Dv C) (hD:Dv D) (hE:Dv E):Dv (Ua L A B C D E):=λs=>by
 simp only [Ua,Rd.Ah,Rd.Aq,Rd.wp_seq,Rd.wp_ret,Rd.Es]
 exact AQ (λe=>iI (ES e) λ_ _ h=>h) λ_=>I7 hB λn s1 g1=>AQ (λ_=>mP U hE g1 λ_ _ h=>h) λ_=>AQ (λ_=>mP U hE g1 λ_ _ h=>h) λ_=>
  AQ (λ_=>I7 (mM hL hC hD) λr s2 g2=>(g1.cons g2).two Do Do (Nat.le_of_ble_eq_true rfl)) λ_=>trivial
theorem Rj {Q:Unit->An->Prop} (k:∀s1,Bh [] s s1->Q () s1):Rd.wp SS s Q Cu:=by
 refine CE (P:=λ_ s1=>Bh [] s s1) (λ_ s1 U=>?_) (.nil s)
 simp only [Xj,Rd.Ah,Rd.Aq,Rd.wp_seq,Rd.wp_ret]
 exact AQ (λe=>zf (Um e) λh=>U.pass h) λ_=>k _ U
theorem Je {f m:Bool} {Q:Bool->An->Prop} (k:∀b s1,Bh [] s s1->Q b s1):Rd.wp (JU f m) s Q Cu:=by
 simp only [JU,Rd.Ah,Rd.Aq,Rd.wp_seq,Rd.wp_ret]
 have hi:∀{f:Bool},(if f then BB s 15 [125] else (Ae s).1.kind==20)=true->DT (Ae s).1=true:=λ{f} e=>by
  unfold DT
  cases f with
  |true=>
   rw [if_pos rfl] at e
   unfold BB at e
   simp_all
  |false=>
   simp_all
 refine AQ (λe=>zf (hi e) λh=>k _ _ h) λ_=>AQ (λ_=>AQ (λ_=>trivial) λ_=>?_) λ_=>k _ _ (.nil s)
 unfold Rd.wp On
 dsimp only
 by_cases e:(DX s).2=true
 .rw [if_pos e];exact k _ _ (.close e)
 .rw [if_neg e];trivial
theorem KG {p:Tk->Bool} (hA:Dv A):Dv (FT p A):=λs=>by
 simp only [FT,Rd.Ah,Rd.Aq,Rd.wp_seq,Rd.wp_ret]
 have hb:∀{f:Bool} {s1:An},(Ae s).2.2=0->DT (Ae s).1=true->(Ae s).2.1=s1->Rd.wp (Rd.loop (Vc p A f) []) s1 (λl s'=>Bh [Dr f l] s s') Cu:=λ{f s1} e1 e2 e3=>by
  subst e3
  refine CE (P:=λl s1=>Bh l (Ae s).2.1 s1) (λl s1 U=>?_) (.nil _)
  simp only [Vc,Rd.Ah,Rd.Aq,Rd.wp_seq,Rd.wp_ret]
  refine Rj λs2 g2=>Je λb s3 g3=>AQ (λ_=>.block e1 e2 ((U.pass g2).pass g3)) λ_=>I7 hA λn s4 g4=>Je λb s5 g5=>AQ (λ_=>.block e1 e2 ((((U.pass g2).pass g3).snoc g4).pass g5)) λ_=>(((U.pass g2).pass g3).snoc g4).pass g5
 refine AQ (λe=>?_) λ_=>?_
 .have hi:DT (Ae s).1=true:=by rw [beq_iff_eq] at e;simp [DT,e]
  exact zf hi λ_=>hb (Fq (Hu hi).1) hi rfl
 .unfold BG
  rw [Rd.Ah,Rd.Aq]
  refine AQ (λe=>?_) λ_=>trivial
  have hi:DT (Ae s).1=true:=by
   unfold BB at e
   simp only [Bool.and_eq_true,beq_iff_eq] at e
   simp [DT,e.1,e.2]
  exact CO (Au e Do Do) λ_=>hb (Fq (Hu hi).1) hi rfl
theorem E8 (d:Nat):Dv (KO d):=Dv.of λs n s' h=>by
 have U:Dj (Hj (DS (DV (d - 1)))):=sB (Io (Ip _))
 refine U s n s' ?_
 unfold KO H0 at h
 grind
theorem ey {e:Er}:∀s,Rd.wp (Rd.fail e:Rd Nd) s (λn s'=>∀s0,Bh [o] s0 s->Bh [n] s0 s') Cu:=λs=>trivial
theorem Ow (U:MQ L):Dv (pf L):=bu U (Ni U)
theorem Ln (U:Dv A) (hL:MQ L):Dv (Rt A L):=xt (Ow hL) U
theorem KI (hA:Dv A) (U:MQ L):Dv (N7 A L):=sJ U (Ln hA U)
theorem eu (hA:Dv A) (U:MQ L):Dv (rL A L):=xq U (Ri (Ow U)) (Ln hA U) (KI hA U)
theorem HS (hA:Dv A) (U:MQ L):Dv (T9 A L):=sG U (Ni U) (Ri (Ow U)) (Ln hA U) (KI hA U) hA
theorem zA (hA:Dv A) (U:MQ L):MQ (upL A L) where
 atom:=Ni U
 exp:=Ln hA U
 ops:=Ri (Ow U)
 decls:=KG (HS hA U)
 stmts:=KG (KI hA U)
 alts:=KG (eu hA U)
 HP:=λo=>mJ (Ow U) hA (Ln hA U)
 list:=λo=>sH (Ln hA U) (KI hA U)
theorem KH:∀d,MQ (jB d)
 |0=>⟨λ_=>trivial,λ_=>trivial,λ_=>trivial,λ_=>trivial,λ_=>trivial,λ_=>trivial,λo=>ey,λo=>ey⟩
 |d+1=>zA (E8 _) (KH d)
end
theorem Dv.sz {s:An} (h:Dv A) (U:A.run s=.inr (n,s')) (hm:mu s<=100000000):n.size<=1000000000:=by have:=h.size U;omega
theorem pg {s:An} (h:Ju.run s=.inr (n,s')):∃x,n.kids[(Int.tdiv (n.kids.length:Int) 2).toNat]? =some x/\n.kids[n.kids.length / 2]? =some x:=by
 unfold Ju at h
 replace h:(if OX (Ae s).1=true then Rd.seq A4 λt=>.ret (At 18 [t]) else Rd.seq (BG 15 [96]) λo=>.seq (C8 [1,2,3,4]) λn=>.seq (BG 15 [96]) λc=>.ret (At 18 [o,n,c]):Rd Nd).run s=.inr (n,s'):=h
 split at h
 .obtain ⟨t,s1,_,h⟩:=Bm h
  cases h
  exact ⟨t,(by show [t][(Int.tdiv (1:Int) 2).toNat]? =some t;rw [show (Int.tdiv (1:Int) 2).toNat=0 by decide];rfl),by simp [At,Nd.kids]⟩
 .obtain ⟨o,s1,_,h⟩:=Bm h
  obtain ⟨x,s2,_,h⟩:=Bm h
  obtain ⟨c,s3,_,h⟩:=Bm h
  cases h
  exact ⟨x,(by show [o,x,c][(Int.tdiv (3:Int) 2).toNat]? =some x;rw [show (Int.tdiv (3:Int) 2).toNat=1 by decide];rfl),by simp [At,Nd.kids]⟩
section
variable {st0 st:St} {b d:Nat} {s:An} {rows:List (AH×List Nd)} {K:As->St->Prop} {L:FC}
attribute [local irreducible] Go.Aw.Aj
theorem sw (h:K (.ret (.bool (Vs n))) st):PC 343 [enc n] st K:=by
 refine pB Tryz.func343 ?_
 repeat' ((conv=>whnf);(first|  refine Dk ?_ ?_|refine XH ?_)<;>intros)
 all_goals conv=>whnf
 all_goals (refine AB h ?_;clear h;simp_all [Vs])
theorem Yk:A9 enc 341 (λb=>[pv b d,.func 344 [] [],.func 345 [] []]) (D0 Ju MD):=
 Lp Qt λU _ k=>by obtain ⟨x,h1,h2⟩:=pg U;exact pq h1 h2 k
theorem sO:A9 enc 341 (λb=>[pv b d,.func 342 [] [],.func 343 [] []]) (D0 A4 Vs):=
 Lp bQ λ_ _ k=>sw k
theorem sX {atom:Rd Nd} (ha:A9 enc 349 (λb=>[pv b d]) atom) (U:Dv atom):A9 enc 341 (λb=>[pv b d,.func 349 [] [],.func 348 [] []]) (D0 atom lu):=
 Lp ha λhr hm k=>eT (Dv.sz U hr hm) k
theorem iX:A9 enc 309 (λb=>[pv b d]) Nr:=by
 refine ⟨λ{st0 b s st rows K} U h=>?_⟩
 simp only [Nr,Nq,Rd.Ah,Rd.Aq,Rd.wp_seq,Rd.wp_ret] at h
 have hmu:=U.mu
 refine pB Tryz.func309 ?_
 repeat' ((conv=>whnf);(first|refine BS ?_|refine Gg ?_ ?_|refine Cx.HN (l:=[_]) (Cx.push ‹_› [_]) (Nat.le_of_ble_eq_true rfl) ?_|refine U1 ?_|refine Mi ?_ ?_|refine MT ?_|refine LV ?_ ?_|exact FO|refine Ky ?_|refine L4 ?_|refine Gc.go (by first|  exact sO.a|exact Yk.a) ?_ ?_)<;>intros)
 all_goals refine CJ (λl own=>[(3,.slice 6 (l.map AK) own)]) (λ_ _=>[]) [1,2] [0,1] (λl own=>(own,l)::rows) (λl=>l.length) _ ‹_› ‹_› PP Yl ?_
 all_goals intro l s1 st1 own1 U h hl hm1
 all_goals simp only [VI,Rd.Ah,Rd.Aq,Rd.wp_seq,Rd.wp_ret,Rd.BI] at h
 all_goals (repeat' ((conv=>whnf);(first|refine BS ?_|refine Gg ?_ ?_|refine U1 ?_|refine Mi ?_ ?_|refine MT ?_|refine LV ?_ ?_|exact FO|refine Ky ?_|refine L4 ?_|refine Gc.go (by first|  exact Yk.a) ?_ ?_)<;>intros))
theorem yS {atom full:Rd Nd} (hn:n.size<=1000000000) (ha:A9 enc 349 (λb=>[pv b d]) atom) (hD:Dv atom) (hf:A9 enc 350 (λb=>[pv b d]) full):A9 enc 312 (λb=>[pv b d,enc n]) (kB atom full n):=by
 refine ⟨λ{st0 b s st rows K} U h=>?_⟩
 simp only [kB,Rd.Aq,Rd.wp_seq,Rd.wp_ret,Rd.Es] at h
 have hmu:=U.mu
 refine pB Tryz.func312 ?_
 repeat' ((conv=>whnf);(first|exact DF|refine BS ?_|(refine DG ?_ ?_ ?_;rotate_left)|refine Gg ?_ ?_|refine Mi ?_ ?_|refine MT ?_|refine LV ?_ ?_|exact FO|refine Ky ?_|refine L4 ?_|refine Av ?_|refine eT hn ?_|refine V4 ?_|refine V3 ?_|refine Ab [(0,true),(1,true),(2,false),(3,false)] [] GE ?_|fail)<;>intros)
 all_goals refine CJ (λl own=>[(5,.slice 6 (l.map AK) own)]) (λ_ _=>[]) [2,3,4] [0,1,2] (λl own=>(own,l)::rows) (λl=>l.length) .full (Cx.push ‹_› _) ‹_› (by show 1+_<=_;omega) Yl ?_
 all_goals intro l s1 st1 own1 U h hl hm1
 all_goals simp only [yR,Rd.Ah,Rd.Aq,Rd.wp_seq,Rd.wp_ret,Rd.BI] at h
 all_goals (repeat' ((conv=>whnf);(first|exact DF|refine BS ?_|(refine DG ?_ ?_ ?_;rotate_left)|refine Gg ?_ ?_|refine Mi ?_ ?_|refine MT ?_|refine LV ?_ ?_|exact FO|refine Ky ?_|refine L4 ?_|refine Av ?_|refine Gc.go (by first|exact A9.q|exact (sX ha hD).a) ?_ ?_|fail)<;>intros))
theorem sv {atom ops exp full:Rd Nd} (hL:Mh d L) (ha:A9 enc 349 (λb=>[pv b d]) atom) (hD:Dv atom) (ho:A9 enc 310 (λb=>[pv b d]) ops) (hE:Dv ops) (he:A9 enc 353 (λb=>[pv b d]) exp)
 (hs:A9 enc 388 (λb=>[pv b d]) stmt) (hf:A9 enc 350 (λb=>[pv b d]) full):A9 enc 272 (λb=>[pv b d]) (Ua L atom ops exp stmt full):=by
 refine ⟨λ{st0 b s st rows K} hc h=>?_⟩
 simp only [Ua,Rd.Ah,Rd.Aq,Rd.wp_seq,Rd.wp_ret,Rd.Es] at h
 have U:=hc.mu
 refine pB Tryz.func272 ?_
 repeat' ((conv=>whnf);(first|exact DF|refine BS ?_|(refine DG ?_ ?_ ?_;rotate_left)|refine Gg ?_ ?_|refine U1 ?_|refine Mi ?_ ?_|exact FO|refine Ky ?_|refine Av ?_|refine VH ?_|refine Gc.go (by first|exact A9.q|exact iX.a|exact (yS (Dv.sz hE ‹_› U) ha hD hf).a|exact (pN hL he hs).a) ?_ ?_|refine zS ?_|refine V4 ?_|refine V3 ?_|refine Ab [(0,true),(1,true),(2,false),(3,true),(4,false),(5,false)] [1] GE ?_|fail)<;>intros)
end
end Go.Proofs.Z
