/-
  Parts of a proof: lemmas that the last text uses.
-/
import Derived.Test.YtpaiiicnhgoijaaGreatDoorK2
set_option linter.unusedVariables false
set_option linter.unusedSimpArgs false
set_option maxHeartbeats 16000000
variable {b:Bool} {p:Nat×Nat->Bool} {k i base:Int} {l x s w m:List UInt8} {c:Go.Code} {t:Go.Proofs.Z.Tk} {K:List Go.Aw.V->Prop} {f g:Go.FuncId} {mk:Go.Proofs.Z.Af->List Go.Aw.V} {A stmt:Go.Proofs.Z.Rd Go.Aw.Nd} {args cs:List Go.Aw.V} {r':Go.Aw.Ay} {n o:Go.Aw.Nd} {β α:Type} {env:Go.Aw.Env} {Q:List Go.Aw.Nd->Go.Proofs.Z.Af->Prop} {P:Prop} {ks:List Int} {s':Go.Proofs.Z.Af} {J:Go.Aw.Mem} {R:Go.Aw.Ay->Go.Aw.St->Prop} {st':Go.Aw.St} {pos d:Nat}
namespace Go.Aw
theorem iw {p q:Prop} (h:b=true) (k:p):Bc b p q:=Wk (λ_=>k) (λe=>by rw [h] at e;cases e)
theorem iv {p q:Prop} (h:b=false) (k:q):Bc b p q:=Wk (λe=>by rw [h] at e;cases e) (λ_=>k)
theorem WG {l c:Int} {t:List UInt8} {p q:Prop} (h:p):Bc (k==k&&(t==t&&(l==l&&(c==c&&true)))) p q:=iw GT h
theorem WH {l c:Int} {t:List UInt8} {p q:Prop} (h:q):Bc (!(k==k&&(t==t&&(l==l&&(c==c&&true))))) p q:=iv GT h
theorem WI {l:List Int} {x:Int} (h:l[i.toNat]? =some x) (U:0<=i) (k:K [.int .i64 x]):0<=i/\∃e,(ints l)[i.toNat]? =some e/\K e:=⟨U,_,by simp [ints,h],k⟩
end Go.Aw
namespace Go.Proofs.Z
open Go Go.Aw
section
variable {st:St} {R:Ay->St->Prop}
attribute [local irreducible] Go.Aw.Ag
theorem aH:∀(m:Nat) {n:Nd} {st:St} {R:Ay->St->Prop},n.size<=m->R (.ret (.bool true)) st->PC 16 [enc n,enc n] st R:=by
 intro m
 induction m with
 |zero=>intro n st R hm h;cases n;rw [Nd.size] at hm;omega
 |succ m ih=>
  intro n st R hm h
  refine pB Tryz.func16 ?_
  repeat' ((conv=>whnf);first|(with_reducible first|refine Wt rfl ?_|refine WG ?_|refine WH ?_|refine WI ‹_› AC ?_|exact Wa|exact Wb|exact Wc|refine Wd EQ ?_|refine We ?_ ?_ ?_|refine W8 GE ?_ ?_ ?_|refine W0 GE ?_ ?_ ?_|refine W9 ?_ ?_ ?_|refine Wt IR ?_|refine Wu IR ?_|refine Wv AC ?_|refine Ww AC ?_|refine Wf Do (λ_=>?_) (λ_=>?_)|refine Wg (λ_=>?_) (λ_=>?_)|refine Wh (λ_=>?_) (λ_=>?_)|refine Wi ?_|refine Wj ?_|refine Wk (λ_=>?_) (λ_=>?_)|refine Wl (λ_=>?_)|refine Wm ‹_› AC ?_|refine Wn AC AC (λ_ _ _=>?_)|refine Wq AC AC ?_|refine Wz (λ_=>?_)|refine WA (λ_=>?_)|refine WB ‹_› AC ?_|refine WC AC AC (λ_ _=>?_)|refine WD AC AC (λ_ _=>?_))|with_reducible refine WF ?_)
  refine Lm 5 [2,3] [0,1] n.kids.length (λk=>k<=n.kids.length) (Nat.zero_le _) Yl ?_
  intro k hk
  by_cases U:k<n.kids.length
  .obtain ⟨x,hx⟩:∃x,n.kids[(k:Int).toNat]? =some x:=⟨_,List.getElem?_eq_getElem U⟩
   have hxm:x ∈ n.kids:=List.mem_of_getElem? hx
   have hxs:=FQ hxm
   repeat' ((conv=>whnf);first|(with_reducible first|refine Wt rfl ?_|refine WG ?_|refine WH ?_|refine WI ‹_› AC ?_|exact Wa|exact Wb|exact Wc|refine Wd EQ ?_|refine We ?_ ?_ ?_|refine W8 GE ?_ ?_ ?_|refine W0 GE ?_ ?_ ?_|refine W9 ?_ ?_ ?_|refine Wt IR ?_|refine Wu IR ?_|refine Wv AC ?_|refine Ww AC ?_|refine Wf Do (λ_=>?_) (λ_=>?_)|refine Wg (λ_=>?_) (λ_=>?_)|refine Wh (λ_=>?_) (λ_=>?_)|refine Wi ?_|refine Wj ?_|refine Wk (λ_=>?_) (λ_=>?_)|refine Wl (λ_=>?_)|refine Wm ‹_› AC ?_|refine Wn AC AC (λ_ _ _=>?_)|refine Wq AC AC ?_|refine Wz (λ_=>?_)|refine WA (λ_=>?_)|refine WB ‹_› AC ?_|refine WC AC AC (λ_ _=>?_)|refine WD AC AC (λ_ _=>?_))|refine ih (n:=x) AC ?_|with_reducible refine WF ?_)
   all_goals conv=>whnf
   all_goals exact ⟨k+1,U,Nat.sub_lt_sub_left U (Nat.lt_succ_self k),Yl,St.le_refl _⟩
  .skip
   repeat' ((conv=>whnf);first|(with_reducible first|refine Wt rfl ?_|refine WG ?_|refine WH ?_|refine WI ‹_› AC ?_|exact Wa|exact Wb|exact Wc|refine Wd EQ ?_|refine We ?_ ?_ ?_|refine W8 GE ?_ ?_ ?_|refine W0 GE ?_ ?_ ?_|refine W9 ?_ ?_ ?_|refine Wt IR ?_|refine Wu IR ?_|refine Wv AC ?_|refine Ww AC ?_|refine Wf Do (λ_=>?_) (λ_=>?_)|refine Wg (λ_=>?_) (λ_=>?_)|refine Wh (λ_=>?_) (λ_=>?_)|refine Wi ?_|refine Wj ?_|refine Wk (λ_=>?_) (λ_=>?_)|refine Wl (λ_=>?_)|refine Wm ‹_› AC ?_|refine Wn AC AC (λ_ _ _=>?_)|refine Wq AC AC ?_|refine Wz (λ_=>?_)|refine WA (λ_=>?_)|refine WB ‹_› AC ?_|refine WC AC AC (λ_ _=>?_)|refine WD AC AC (λ_ _=>?_))|with_reducible refine WF ?_)
   all_goals exact fin h rfl
theorem Um {s:Af} (h:R (.ret (.bool true)) st):PC 17 [Bn s,Bn s] st R:=by
 refine pB Tryz.func17 ?_
 repeat' ((conv=>whnf);first|(with_reducible first|refine Wt rfl ?_|refine WG ?_|refine WH ?_|refine WI ‹_› AC ?_|exact Wa|exact Wb|exact Wc|refine Wd EQ ?_|refine We ?_ ?_ ?_|refine W8 GE ?_ ?_ ?_|refine W0 GE ?_ ?_ ?_|refine W9 ?_ ?_ ?_|refine Wt IR ?_|refine Wu IR ?_|refine Wv AC ?_|refine Ww AC ?_|refine Wf Do (λ_=>?_) (λ_=>?_)|refine Wg (λ_=>?_) (λ_=>?_)|refine Wh (λ_=>?_) (λ_=>?_)|refine Wi ?_|refine Wj ?_|refine Wk (λ_=>?_) (λ_=>?_)|refine Wl (λ_=>?_)|refine Wm ‹_› AC ?_|refine Wn AC AC (λ_ _ _=>?_)|refine Wq AC AC ?_|refine Wz (λ_=>?_)|refine WA (λ_=>?_)|refine WB ‹_› AC ?_|refine WC AC AC (λ_ _=>?_)|refine WD AC AC (λ_ _=>?_))|with_reducible refine WF ?_)
 refine Lm 5 [2,3] [0,1] s.AD.length (λk=>k<=s.AD.length) (Nat.zero_le _) Yl ?_
 intro k hk
 by_cases U:k<s.AD.length
 .obtain ⟨x,hx⟩:∃x,s.AD[(k:Int).toNat]? =some x:=⟨_,List.getElem?_eq_getElem U⟩
  repeat' ((conv=>whnf);first|(with_reducible first|refine Wt rfl ?_|refine WG ?_|refine WH ?_|refine WI ‹_› AC ?_|exact Wa|exact Wb|exact Wc|refine Wd EQ ?_|refine We ?_ ?_ ?_|refine W8 GE ?_ ?_ ?_|refine W0 GE ?_ ?_ ?_|refine W9 ?_ ?_ ?_|refine Wt IR ?_|refine Wu IR ?_|refine Wv AC ?_|refine Ww AC ?_|refine Wf Do (λ_=>?_) (λ_=>?_)|refine Wg (λ_=>?_) (λ_=>?_)|refine Wh (λ_=>?_) (λ_=>?_)|refine Wi ?_|refine Wj ?_|refine Wk (λ_=>?_) (λ_=>?_)|refine Wl (λ_=>?_)|refine Wm ‹_› AC ?_|refine Wn AC AC (λ_ _ _=>?_)|refine Wq AC AC ?_|refine Wz (λ_=>?_)|refine WA (λ_=>?_)|refine WB ‹_› AC ?_|refine WC AC AC (λ_ _=>?_)|refine WD AC AC (λ_ _=>?_))|with_reducible refine WF ?_)
  all_goals conv=>whnf
  all_goals exact ⟨k+1,U,Nat.sub_lt_sub_left U (Nat.lt_succ_self k),Yl,St.le_refl _⟩
 .skip
  repeat' ((conv=>whnf);first|(with_reducible first|refine Wt rfl ?_|refine WG ?_|refine WH ?_|refine WI ‹_› AC ?_|exact Wa|exact Wb|exact Wc|refine Wd EQ ?_|refine We ?_ ?_ ?_|refine W8 GE ?_ ?_ ?_|refine W0 GE ?_ ?_ ?_|refine W9 ?_ ?_ ?_|refine Wt IR ?_|refine Wu IR ?_|refine Wv AC ?_|refine Ww AC ?_|refine Wf Do (λ_=>?_) (λ_=>?_)|refine Wg (λ_=>?_) (λ_=>?_)|refine Wh (λ_=>?_) (λ_=>?_)|refine Wi ?_|refine Wj ?_|refine Wk (λ_=>?_) (λ_=>?_)|refine Wl (λ_=>?_)|refine Wm ‹_› AC ?_|refine Wn AC AC (λ_ _ _=>?_)|refine Wq AC AC ?_|refine Wz (λ_=>?_)|refine WA (λ_=>?_)|refine WB ‹_› AC ?_|refine WC AC AC (λ_ _=>?_)|refine WD AC AC (λ_ _=>?_))|with_reducible refine WF ?_)
  refine Lm 6 [2,3] [0,1] s.Ca.length (λk=>k<=s.Ca.length) (Nat.zero_le _) Yl ?_
  intro k hk
  by_cases U:k<s.Ca.length
  .obtain ⟨x,hx⟩:∃x,s.Ca[(k:Int).toNat]? =some x:=⟨_,List.getElem?_eq_getElem U⟩
   repeat' ((conv=>whnf);first|(with_reducible first|refine Wt rfl ?_|refine WG ?_|refine WH ?_|refine WI ‹_› AC ?_|exact Wa|exact Wb|exact Wc|refine Wd EQ ?_|refine We ?_ ?_ ?_|refine W8 GE ?_ ?_ ?_|refine W0 GE ?_ ?_ ?_|refine W9 ?_ ?_ ?_|refine Wt IR ?_|refine Wu IR ?_|refine Wv AC ?_|refine Ww AC ?_|refine Wf Do (λ_=>?_) (λ_=>?_)|refine Wg (λ_=>?_) (λ_=>?_)|refine Wh (λ_=>?_) (λ_=>?_)|refine Wi ?_|refine Wj ?_|refine Wk (λ_=>?_) (λ_=>?_)|refine Wl (λ_=>?_)|refine Wm ‹_› AC ?_|refine Wn AC AC (λ_ _ _=>?_)|refine Wq AC AC ?_|refine Wz (λ_=>?_)|refine WA (λ_=>?_)|refine WB ‹_› AC ?_|refine WC AC AC (λ_ _=>?_)|refine WD AC AC (λ_ _=>?_))|with_reducible refine WF ?_)
   all_goals conv=>whnf
   all_goals exact ⟨k+1,U,Nat.sub_lt_sub_left U (Nat.lt_succ_self k),Yl,St.le_refl _⟩
  .skip
   repeat' ((conv=>whnf);first|(with_reducible first|refine Wt rfl ?_|refine WG ?_|refine WH ?_|refine WI ‹_› AC ?_|exact Wa|exact Wb|exact Wc|refine Wd EQ ?_|refine We ?_ ?_ ?_|refine W8 GE ?_ ?_ ?_|refine W0 GE ?_ ?_ ?_|refine W9 ?_ ?_ ?_|refine Wt IR ?_|refine Wu IR ?_|refine Wv AC ?_|refine Ww AC ?_|refine Wf Do (λ_=>?_) (λ_=>?_)|refine Wg (λ_=>?_) (λ_=>?_)|refine Wh (λ_=>?_) (λ_=>?_)|refine Wi ?_|refine Wj ?_|refine Wk (λ_=>?_) (λ_=>?_)|refine Wl (λ_=>?_)|refine Wm ‹_› AC ?_|refine Wn AC AC (λ_ _ _=>?_)|refine Wq AC AC ?_|refine Wz (λ_=>?_)|refine WA (λ_=>?_)|refine WB ‹_› AC ?_|refine WC AC AC (λ_ _=>?_)|refine WD AC AC (λ_ _=>?_))|with_reducible refine WF ?_)
   all_goals exact fin h rfl
end
structure Kj (f:FuncId) (mk:Af->List V) (A:Rd Nd):Prop where
 ap:∀{st0:St} {s:Af} {st:St} {rows:List (AB×List Nd)} {K:Ay->St->Prop},mu s<=100000000->Rx st0 st rows->
  Rd.wp A s (λv s'=>∀st',Rx st0 st' rows->K (.ret (BM v s' 0)) st') (λe s'=>∀n st',Rx st0 st' rows->K (.ret (BM n s' e.1)) st')->PC f (mk s) st K
section
variable {st0 st:St} {s:Af} {rows:List (AB×List Nd)} {K:Ay->St->Prop} {Q:Nd->Af->Prop} {E:Er->Af->Prop}
theorem Kj.go (hf:Kj f mk A) (U:mu s<=100000000) (hc:Rx st0 st rows) (h:Rd.wp A s Q E)
 (k:∀n s' st',A.run s=.inr (n,s')->mu s'<=mu s->mu s'<=100000000->Rx st0 st' rows->Q n s'->K (.ret (BM n s' 0)) st')
 (kb:∀e n s' st',¬e.1=0->Rx st0 st' rows->E e s'->K (.ret (BM n s' e.1)) st'):PC f (mk s) st K:=
 hf.ap U hc (Rd.wp_mono h (λv s' r q st' c=>k v s' st' r (A.le _ _ _ r) (Nat.le_trans (A.le _ _ _ r) U) c q) (λe s' _ q n st' c=>kb e n s' st' e.2 c q))
theorem Kj.jt (hf:Kj f mk A) (hF:Rd.A2 A) (U:mu s<=100000000) (hc:Rx st0 st rows) (h:Rd.wp A s Q E)
 (k:∀n s' st',A.run s=.inr (n,s')->mu s'<mu s->mu s'<=100000000->Rx st0 st' rows->Q n s'->K (.ret (BM n s' 0)) st')
 (kb:∀e n s' st',¬e.1=0->Rx st0 st' rows->E e s'->K (.ret (BM n s' e.1)) st'):PC f (mk s) st K:=
 hf.ap U hc (Rd.wp_mono h (λv s' r q st' c=>k v s' st' r (hF _ _ _ r) (Nat.le_trans (A.le _ _ _ r) U) c q) (λe s' _ q n st' c=>kb e n s' st' e.2 c q))
def pX (f:FuncId) (args:List V) (s:Af) (A:Rd Nd):Prop:=∀{st0:St} {st:St} {rows:List (AB×List Nd)} {K:Ay->St->Prop},mu s<=100000000->Rx st0 st rows->
 Rd.wp A s (λv s'=>∀st',Rx st0 st' rows->K (.ret (BM v s' 0)) st') (λe s'=>∀n st',Rx st0 st' rows->K (.ret (BM n s' e.1)) st')->PC f args st K
theorem Kj.a (h:Kj f mk A):pX f (mk s) s A:=h.ap
theorem Kj.q (h:Kj f mk A:=by assumption) (e:args=mk s:=by rfl):pX f args s A:=e ▸ h.a
theorem pX.go (hf:pX f args s A)
 (k:∀n s' st',A.run s=.inr (n,s')->mu s'<=mu s->mu s'<=100000000->Rx st0 st' rows->Q n s'->K (.ret (BM n s' 0)) st')
 (kb:∀e n s' st',¬e.1=0->Rx st0 st' rows->E e s'->K (.ret (BM n s' e.1)) st') (U:mu s<=100000000:=by assumption) (hc:Rx st0 st rows:=by assumption) (h:Rd.wp A s Q E:=by assumption):PC f args st K:=
 hf U hc (Rd.wp_mono h (λv s' r q st' c=>k v s' st' r (A.le _ _ _ r) (Nat.le_trans (A.le _ _ _ r) U) c q) (λe s' _ q n st' c=>kb e n s' st' e.2 c q))
theorem Cv {r:Nd->Ay} (hc:Rx st0 st rows) (h:∀n st',Rx st0 st' rows->K (r n) st') (e:r n=r'.wk):∃r2 U,(r2=r'\/r2=r'.wk)/\St.le U st/\K r2 U:=⟨r n,st,.inr e,St.le_refl _,h n st hc⟩
theorem B8 {r:Ay} (hc:Rx st0 st rows) (h:∀st',Rx st0 st' rows->K r st') (e:r=r'.wk):∃r2 U,(r2=r'\/r2=r'.wk)/\St.le U st/\K r2 U:=⟨r,st,.inr e,St.le_refl _,h st hc⟩
theorem Yi {σ:Type} {ih:(AE->Env->St->Prop)->Env->St->Prop} {Q0:AE->Env->St->Prop} {Q:β->Af->Prop} {body:σ->Rd (Sum σ β)} {x0:σ}
 (f:σ->Af->AB->List (Nat×V)) (g:σ->Af->AB->List (Nat×List V)) (keep kb:List Nat) (rw:σ->AB->List (AB×List Nd)) (wt:σ->Nat) (U:AB) (hm:mu s<=100000000) (hc:Rx st0 st (rw x0 U)) (h:Rd.wp (Rd.loop body x0) s Q E) (hl:wt x0+4*mu s<=500000000)
 (he:(env.L0 (f x0 s U) (g x0 s U) keep kb).Ep env)
 (hb:∀x s1 st1 own1,mu s1<=100000000->mu s1<=mu s->Rx st0 st1 (rw x own1)->Rd.wp (body x) s1 (Rd.again body s1 Q E) E->wt x+4*mu s1<=500000000->
   ih (BL (λenv' st'=>∃y:LS σ,(mu y.s<=100000000/\mu y.s<=mu s/\Rx st0 y.m (rw y.x y.o)/\Rd.wp (Rd.loop body y.x) y.s Q E/\wt y.x+4*mu y.s<=500000000)/\mu y.s<mu s1/\(env.L0 (f y.x y.s y.o) (g y.x y.s y.o) keep kb).Ep env'/\St.le y.m st') Q0)
    (env.L0 (f x s1 own1) (g x s1 own1) keep kb) st1):
 ∃(α:Type) (E:α->Env) (S:α->St) (J:α->Prop) (μ:α->Nat) (x0:α),J x0/\(E x0).Ep env/\St.le (S x0) st/\
  ∀x,J x->ih (BL (λenv' st'=>∃y,J y/\μ y<μ x/\(E y).Ep env'/\St.le (S y) st') Q0) (E x) (S x):=
 ⟨LS σ,λy=>env.L0 (f y.x y.s y.o) (g y.x y.s y.o) keep kb,λy=>y.m,
   λy=>mu y.s<=100000000/\mu y.s<=mu s/\Rx st0 y.m (rw y.x y.o)/\Rd.wp (Rd.loop body y.x) y.s Q E/\wt y.x+4*mu y.s<=500000000,λy=>mu y.s,⟨x0,s,st,U⟩,⟨hm,Nat.le_refl _,hc,h,hl⟩,he,St.le_refl _,
   λy ⟨j1,j2,j3,j4,j5⟩=>hb y.x y.s y.m y.o j1 j2 j3 (by rw [<-Rd.wp_loop];exact j4) j5⟩
theorem Nl (U:mu s<=100000000) (h:K (.ret (Ei (Ab s).1)) st):PC 35 [Bn s] st K:=kC (C2 U) h
theorem pR (U:k≠0) (hm:mu s<=100000000) (h:K (.ret (.bool (Ba s k x))) st):PC 123 [Bn s,.int .i64 k,.str x] st K:=mc U (C2 hm) h
theorem fN:Kj 74 (λs=>[Bn s]) AH:=by
 refine ⟨λ{st0 s st rows K} U hc h=>?_⟩
 refine Sv (C2 U) ?_
 by_cases e:(Ab s).2.2=0
 .rw [if_pos e]
  unfold Rd.wp at h;rw [DS e] at h;exact h st hc
 .rw [if_neg e]
  unfold Rd.wp at h;rw [LO e] at h;exact h FN st hc
theorem gT (hm:mu s<=100000000) (h:Rd.wp AH s Q E) (e:(Ab s).2.2=0) (h2:(Ab s).1.kind≠21) (k:∀s1,(Ab s).2.1=s1->mu s1<mu s->mu s1<=100000000->Q (Bp (Ab s).1) s1->K (.ret (BM (Bp (Ab s).1) s1 0)) st):PC 74 [Bn s] st K:=by
 unfold Rd.wp at h;rw [DS e] at h
 have U:=(DZ e).2 h2
 exact Sv (C2 hm) (by rw [if_pos e];exact k _ rfl U AC h)
theorem FT (hm:mu s<=100000000) (h:Rd.wp AH s Q E) (U:(Ab s).1.kind≠0/\(Ab s).1.kind≠21) (kk:∀s1,(Ab s).2.1=s1->mu s1<mu s->mu s1<=100000000->Q (Bp (Ab s).1) s1->K (.ret (BM (Bp (Ab s).1) s1 0)) st):PC 74 [Bn s] st K:=
 gT hm h (F8 U.1) U.2 kk
theorem IF {Q:α->Af->Prop} (U:mu s<=100000000) (h:Rd.wp (Rc:Rd α) s Q E) (k:∀e:Er,¬e.1=0->E e s->K (.ret (BM FN s e.1)) st):PC 106 [Bn s] st K:=
 fm (C2 U) (k ⟨Om s,KM s⟩ (KM s) h)
theorem fP (U:k≠0):Kj 75 (λs=>[Bn s,.int .i64 k,.str x]) (Bs k x):=by
 refine ⟨λ{st0 s st rows K} hm hc h=>?_⟩
 unfold Bs at h
 rw [Rd.Ah,Rd.Ax] at h
 refine kE U (C2 hm) ?_
 unfold IE
 by_cases e:Ba s k x=true
 .rw [if_pos e] at h |-
  rw [G7 e U]
  unfold Rd.wp at h;rw [UE e U] at h;exact h st hc
 .rw [if_neg e] at h |-
  exact h FN st hc
theorem lB (h:K (.ret (BM n s 0)) st):PC 36 [BM n s 0] st K:=by
 refine pB Tryz.func36 ?_
 repeat' ((conv=>whnf);(first|refine AZ ?_|refine A0 ?_ ?_|refine A1 ?_ ?_|refine cL ?_)<;>intros)
 all_goals exact Be rfl h
theorem Y3 {e:Int} (U:¬e=0) (h:K (.ret (BM FN s e)) st):PC 36 [BM n s e] st K:=by
 refine pB Tryz.func36 ?_
 repeat' ((conv=>whnf);(first|refine AZ ?_|refine A0 ?_ ?_|refine A1 ?_ ?_|refine Zn U ?_)<;>intros)
 all_goals exact Be rfl h
end
def pE (p:List Nd×Bool):Nd:=if p.2=true then Ar 17 p.1 else T5 17 p.1
structure qu (f:FuncId) (mk:Af->List V) (A:Rd (List Nd×Bool)):Prop where
 ap:∀{st0:St} {s:Af} {st:St} {rows:List (AB×List Nd)} {K:Ay->St->Prop},mu s<=100000000->Rx st0 st rows->
  Rd.wp A s (λv s'=>∀st',Rx st0 st' rows->K (.ret (.Bq [BM (pE v) s' 0,.bool v.2])) st') (λe s'=>∀n st',Rx st0 st' rows->K (.ret (.Bq [BM n s' e.1,.bool false])) st')->PC f (mk s) st K
structure qs (B:Nat) (f:FuncId) (mk:Af->V->List V) (A:List Nd->Rd (List Nd)):Prop where
 ap:∀{st0:St} {s:Af} {st:St} {rows:List (AB×List Nd)} {K:Ay->St->Prop} {own:AB} {l:List Nd},l.length<=B->mu s<=100000000->Rx st0 st ((own,l)::rows)->
  Rd.wp (A l) s (λl' s'=>∀n own' st',Rx st0 st' ((own',l')::rows)->K (.ret (.Bq [.slice 6 (l'.map Az) own',BM n s' 0])) st') (λe s'=>∀l' n own' st',Rx st0 st' ((own',l')::rows)->K (.ret (.Bq [.slice 6 (l'.map Az) own',BM n s' e.1])) st')->PC f (mk s (.slice 6 (l.map Az) own)) st K
structure qt (f:FuncId) (mk:Af->V->List V) (A:List Nd->Rd Nd):Prop where
 ap:∀{st0:St} {s:Af} {st:St} {rows:List (AB×List Nd)} {K:Ay->St->Prop} {own:AB} {l:List Nd},l.length<=900000000->mu s<=100000000->Rx st0 st ((own,l)::rows)->
  Rd.wp (A l) s (λv s'=>∀st',Rx st0 st' rows->K (.ret (BM v s' 0)) st') (λe s'=>∀n st',Rx st0 st' rows->K (.ret (BM n s' e.1)) st')->PC f (mk s (.slice 6 (l.map Az) own)) st K
section
variable {st0 st:St} {s:Af} {rows:List (AB×List Nd)} {K:Ay->St->Prop} {E:Er->Af->Prop}
theorem qu.go {A:Rd (List Nd×Bool)} {Q:List Nd×Bool->Af->Prop} (hf:qu f mk A) (U:mu s<=100000000) (hc:Rx st0 st rows) (h:Rd.wp A s Q E)
 (k:∀n s' st',A.run s=.inr (n,s')->mu s'<=mu s->mu s'<=100000000->Rx st0 st' rows->Q n s'->K (.ret (.Bq [BM (pE n) s' 0,.bool n.2])) st')
 (kb:∀e n s' st',¬e.1=0->Rx st0 st' rows->E e s'->K (.ret (.Bq [BM n s' e.1,.bool false])) st'):PC f (mk s) st K:=
 hf.ap U hc (Rd.wp_mono h (λv s' r q st' c=>k v s' st' r (A.le _ _ _ r) (Nat.le_trans (A.le _ _ _ r) U) c q) (λe s' _ q n st' c=>kb e n s' st' e.2 c q))
theorem qs.go {B:Nat} {mk:Af->V->List V} {A:List Nd->Rd (List Nd)} {own:AB} {l:List Nd} (hf:qs B f mk A) (hl:l.length<=B) (hm:mu s<=100000000) (hc:Rx st0 st ((own,l)::rows)) (h:Rd.wp (A l) s Q E)
 (k:∀l' n U s' st',(A l).run s=.inr (l',s')->mu s'<=mu s->mu s'<=100000000->Rx st0 st' ((U,l')::rows)->Q l' s'->K (.ret (.Bq [.slice 6 (l'.map Az) U,BM n s' 0])) st')
 (kb:∀e l' n U s' st',¬e.1=0->Rx st0 st' ((U,l')::rows)->E e s'->K (.ret (.Bq [.slice 6 (l'.map Az) U,BM n s' e.1])) st'):PC f (mk s (.slice 6 (l.map Az) own)) st K:=
 hf.ap hl hm hc (Rd.wp_mono h (λv s' r q n U st' c=>k v n U s' st' r ((A l).le _ _ _ r) (Nat.le_trans ((A l).le _ _ _ r) hm) c q) (λe s' _ q l' n U st' c=>kb e l' n U s' st' e.2 c q))
theorem qt.go {mk:Af->V->List V} {A:List Nd->Rd Nd} {own:AB} {l:List Nd} {Q:Nd->Af->Prop} (hf:qt f mk A) (hl:l.length<=900000000) (U:mu s<=100000000) (hc:Rx st0 st ((own,l)::rows)) (h:Rd.wp (A l) s Q E)
 (k:∀n s' st',(A l).run s=.inr (n,s')->mu s'<=mu s->mu s'<=100000000->Rx st0 st' rows->Q n s'->K (.ret (BM n s' 0)) st')
 (kb:∀e n s' st',¬e.1=0->Rx st0 st' rows->E e s'->K (.ret (BM n s' e.1)) st'):PC f (mk s (.slice 6 (l.map Az) own)) st K:=
 hf.ap hl U hc (Rd.wp_mono h (λv s' r q st' c=>k v s' st' r ((A l).le _ _ _ r) (Nat.le_trans ((A l).le _ _ _ r) U) c q) (λe s' _ q n st' c=>kb e n s' st' e.2 c q))
attribute [local irreducible] Go.Aw.Ag
end
theorem Jt (h:ES t=true):t.kind≠0/\t.kind≠21:=by
 unfold ES at h
 simp only [Bool.or_eq_true,Bool.and_eq_true,beq_iff_eq] at h
 omega
theorem PR (h:MA t=true):t.kind≠0/\t.kind≠21:=by
 unfold MA at h
 simp only [Bool.or_eq_true,Bool.and_eq_true,beq_iff_eq] at h
 omega
theorem N4 (h:Kd t=true):t.kind≠0/\t.kind≠21:=by
 unfold Kd at h
 simp only [Bool.or_eq_true,Bool.and_eq_true,beq_iff_eq] at h
 omega
abbrev pv (b d:Nat):V:=.agg [.ptr b 0,.int .i64 (d:Int)]
section
variable {st0 st:St} {b d:Nat} {s:Af} {rows:List (AB×List Nd)} {K:Ay->St->Prop}
theorem YE (hc:Cx st0 b s st rows) (kk:∀st',Cx st0 b s st' rows->K (.ret (.bool (Ba s 15 x))) st'):PC 213 [pv b d,.str x] st K:=by
 refine pB Tryz.func213 ?_
 repeat' ((conv=>whnf);first|(refine AZ ?_;intros)|(refine A0 ?_ ?_<;>intro e h)|(refine A1 ?_ ?_<;>intro _)|refine jC hc (λU hc=>?_))
 all_goals conv=>whnf
 all_goals exact Ao (kk U hc) ‹_›
theorem Sn (hc:Cx st0 b s st rows) (e:Ba s 15 x=true) (U:∀st',Cx st0 b s st' rows->K (.ret (.bool true)) st'):PC 213 [pv b d,.str x] st K:=YE hc (by rw [e];exact U)
theorem WZ (hc:Cx st0 b s st rows) (e:Ba s 15 x=false) (U:∀st',Cx st0 b s st' rows->K (.ret (.bool false)) st'):PC 213 [pv b d,.str x] st K:=YE hc (by rw [e];exact U)
theorem nT {Q:Prop} (hc:Cx st0 b s st rows) (h:if Ba s 15 x=true then P else Q) (U:∀st',Cx st0 b s st' rows->Ba s 15 x=true->P->K (.ret (.bool true)) st') (k2:∀st',Cx st0 b s st' rows->Ba s 15 x=false->Q->K (.ret (.bool false)) st'):
 PC 213 [pv b d,.str x] st K:=by
 cases e:Ba s 15 x with
 |true=>exact Sn hc e λst' c=>U st' c e (by rw [if_pos e] at h;exact h)
 |false=>exact WZ hc e λst' c=>k2 st' c e (by rw [if_neg (by rw [e];decide)] at h;exact h)
theorem DX {own:AB} (h0:ks.contains 0=false):AO enc 157 (λb=>[.ptr b 0,.slice 1 (ints ks) own]) (CA ks):=by
 refine ⟨λ{st0 b s st rows K} hc h=>?_⟩
 unfold CA at h
 simp only [Rd.Ah,Rd.Ax] at h
 refine pB Tryz.func157 ?_
 repeat' ((conv=>whnf);first|(refine AZ ?_;intros)|(refine A0 ?_ ?_<;>intro e h)|(refine A1 ?_ ?_<;>intro _)|refine Pt ‹_› (λU hc=>?_)|refine LP ‹_› ‹_› ‹_› Do (λs1 U hz hm hc h=>?_)|refine LQ ‹_› ‹_› (by first|exact Jt ‹_›|exact PR ‹_›|omega) (λs1 U hz hm hc h=>?_)|refine Gb.go ‹_› ‹_› (λn s1 U hr hm hc h=>?_) (λe s1 U hc h=>?_)|refine Qn ‹_› ‹_› (λe s1 U hc h=>?_)|exact BE (Cx.y ‹_›) ‹_›|exact BE (Cx.y (Cx.drop ‹_›)) ‹_›|refine BP (λ_=>?_)|refine Ae (λe1=>?_)|exact ⟨⟨_,_,_,_⟩,⟨‹_›,Rd.Dq ‹_› cb,f8,cb⟩,cb,(by refine ⟨rfl,?_,?_,rfl⟩<;>repeat' (first|exact trivial|exact rfl|refine And.intro ?_ ?_)),St.le_refl _⟩|exact X6 ‹_› ‹_› rfl|exact CI ‹_› ‹_› rfl|exact CI ‹_› ‹_› BK|exact CI (Cx.drop ‹_›) ‹_› rfl|exact CI (Cx.drop ‹_›) ‹_› BK|exact BE ‹_› ‹_›|exact BE (Cy.drop ‹_›) ‹_›|exact BE (Cy.drop (Cy.drop ‹_›)) ‹_›|refine WA (λ_=>?_))
 refine R2 (α:=Nat×St) (λx=>[(12,.int .i64 (x.1:Int))]) [0,4,5,10,11] [0,1] (λx=>x.2) (λx=>x.1<=ks.length/\Cx st0 b s x.2 rows/\ks.contains (Ab s).1.kind=(ks.drop x.1).contains (Ab s).1.kind) (λx=>ks.length - x.1) (0,_) ⟨Nat.zero_le _,hc,rfl⟩ Yl (St.le_refl _) ?_
 rintro ⟨k,st2⟩ ⟨hk,hc2,hi⟩
 dsimp only at hk hc2 hi |-
 by_cases hlt:k<ks.length
 .obtain ⟨x,hx⟩:∃x,ks[(k:Int).toNat]? =some x:=⟨_,List.getElem?_eq_getElem hlt⟩
  have hx':ks[k]? =some x:=hx
  rw [drop_at hx',List.contains_cons] at hi
  have hx1:=hx
  by_cases e:(Ab s).1.kind=x
  .rw [beq_iff_eq.2 e,Bool.true_or] at hi
   rw [if_pos hi] at h
   have hkd:(Ab s).1.kind≠0:=λz=>by rw [z] at hi;rw [h0] at hi;cases hi
   have hc:=hc2
   repeat' ((conv=>whnf);first|refine dR hx AC ?_|(refine AZ ?_;intros)|(refine A0 ?_ ?_<;>intro e h)|(refine A1 ?_ ?_<;>intro _)|refine Gb.go hc h (λn s1 U hr hm hc h=>?_) (λe s1 U hc h=>?_)|exact CI hc h rfl|exact BE hc h)
  .rw [beq_eq_false_iff_ne.2 e,Bool.false_or] at hi
   repeat' ((conv=>whnf);first|refine dR hx AC ?_|(refine AZ ?_;intros)|(refine A0 ?_ ?_<;>intro e h)|(refine A1 ?_ ?_<;>intro _)|fail)
   all_goals conv=>whnf
   all_goals exact ⟨(k+1,st2),⟨hlt,hc2,hi⟩,Nat.sub_lt_sub_left hlt (Nat.lt_succ_self k),Yl,St.le_refl _⟩
 .rw [List.drop_eq_nil_iff.2 AC] at hi
  rw [if_neg (by rw [hi];exact Bool.false_ne_true)] at h
  have hc:=hc2
  repeat' ((conv=>whnf);first|(refine AZ ?_;intros)|(refine A0 ?_ ?_<;>intro e h)|(refine A1 ?_ ?_<;>intro _)|refine Qn hc h (λe s1 U hc h=>?_)|exact BE hc h)
theorem dV:AO enc 157 (λb=>[.ptr b 0,.slice 1 [[.int .i64 1],[.int .i64 2],[.int .i64 3],[.int .i64 4]] .full]) (CA [1,2,3,4]):=DX (ks:=[1,2,3,4]) Do
theorem NY:AO enc 283 (λb=>[pv b d]) HJ:=by
 refine ⟨λ{st0 b s st rows K} hc h=>?_⟩
 unfold HJ at h
 simp only [Rd.Ah,Rd.Ax,Rd.wp_seq,Rd.wp_ret] at h
 refine pB Tryz.func283 ?_
 repeat' ((conv=>whnf);first|exact CK|(refine AZ ?_;intros)|(refine CL ?_ ?_ ?_;rotate_left)|(refine A0 ?_ ?_<;>intro e h)|(refine A1 ?_ ?_<;>intro _)|refine Pt ‹_› (λU hc=>?_)|refine LP ‹_› ‹_› ‹_› Do (λs1 U hz hm hc h=>?_)|refine LQ ‹_› ‹_› (by first|exact Jt ‹_›|exact PR ‹_›|omega) (λs1 U hz hm hc h=>?_)|refine Gb.go ‹_› ‹_› (λn s1 U hr hm hc h=>?_) (λe s1 U hc h=>?_)|refine SP.go ‹_› ‹_› (λn s1 U hr hm hc h=>?_) (λe s1 U hc h=>?_)|exact BE (Cx.y ‹_›) ‹_›|exact BE (Cx.y (Cx.drop ‹_›)) ‹_›|refine HR ?_|refine Yq ?_|refine Yr ?_|refine Sc ?_|refine Ys ?_|refine Je ?_|refine Ae (λe1=>?_)|exact ⟨⟨_,_,_,_⟩,⟨‹_›,Rd.Dq ‹_› cb,f8,cb⟩,cb,(by refine ⟨rfl,?_,?_,rfl⟩<;>repeat' (first|exact trivial|exact rfl|refine And.intro ?_ ?_)),St.le_refl _⟩|exact X6 ‹_› ‹_› rfl|exact CI ‹_› ‹_› rfl|exact CI ‹_› ‹_› BK|exact CI (Cx.drop ‹_›) ‹_› rfl|exact CI (Cx.drop ‹_›) ‹_› BK|exact BE ‹_› ‹_›|exact BE (Cy.drop ‹_›) ‹_›|exact BE (Cy.drop (Cy.drop ‹_›)) ‹_›|refine dV.go hc h (λn s1 U hr hm hc h=>?_) (λe s1 U hc h=>?_)|refine Ac [(0,true),(1,true),(2,true),(3,true),(4,false),(5,true),(6,false),(7,false)] [1] GE ?_|with_reducible refine WF ?_)
end
theorem ER (h:P:=by (with_reducible show ∃_,_);first|exact ⟨⟨_,_,_,_⟩,⟨‹_›,Rd.Dq ‹_› cb,f8,cb⟩,cb,Yl,St.le_refl _⟩|exact BE (Cx.y ‹_›) ‹_›|exact BE (Cx.y (Cx.drop ‹_›)) ‹_›|exact X6 ‹_› ‹_› rfl|exact CI ‹_› ‹_› rfl|exact CI ‹_› ‹_› BK|exact CI (Cx.drop ‹_›) ‹_› rfl|exact CI (Cx.drop ‹_›) ‹_› BK|exact BE ‹_› ‹_›|exact BE (Cy.drop ‹_›) ‹_›|exact BE (Cy.drop (Cy.drop ‹_›)) ‹_›|fail):P:=h
theorem J3 {A:Prop} (k:A) (h:A->P:=by intro k;(with_reducible show Ag _ _ _ _ _ _ _);first|exact Cx.Ee ‹_› f9 k|exact Cx.Ee (Cx.push ‹_› _) f9 k|fail):P:=h k
theorem Hb {A:Prop} (k:A) (h:A->P:=by intro k;(with_reducible show PC _ _ _ _);first|((with_reducible show PC 156 _ _ _);exact VT ‹_› ‹_› k)|((with_reducible show PC 156 _ _ _);exact dT ‹_› ‹_› k)|((with_reducible show PC 213 _ _ _);exact Sn ‹_› ‹_› k)|((with_reducible show PC 213 _ _ _);exact WZ ‹_› ‹_› k)|((with_reducible show PC 83 _ _ _);exact Pt ‹_› k)|fail):P:=h k
theorem Kk {A B:Prop} (k:A) (l:B) (h:A->B->P:=by intro k l;(with_reducible show PC _ _ _ _);first|((with_reducible show PC 156 _ _ _);exact dS ‹_› ‹_› k l)|((with_reducible show PC 213 _ _ _);exact nT ‹_› ‹_› k l)|fail):P:=h k l
theorem Js {A:Prop} (k:A) (h:A->P:=by intro k;(with_reducible show PC _ _ _ _);first|((with_reducible show PC 121 _ _ _);exact LP ‹_› ‹_› ‹_› Do k)|((with_reducible show PC 121 _ _ _);exact LQ ‹_› ‹_› (by first|exact Jt ‹_›|exact PR ‹_›|omega) k)|fail):P:=h k
theorem HU {A B:Prop} (k:A) (l:B) (h:A->B->P:=by intro k l;(with_reducible show PC _ _ _ _);first|((with_reducible show PC 121 _ _ _);exact Gb.go ‹_› ‹_› k l)|((with_reducible show PC 118 _ _ _);exact SP.go ‹_› ‹_› k l)|fail):P:=h k l
theorem bT {A:Prop} (k:A) (h:A->P:=by intro k;(with_reducible show PC _ _ _ _);first|((with_reducible show PC 171 _ _ _);exact Qn ‹_› ‹_› k)|fail):P:=h k
theorem IP {A:Prop} (k:A) (h:A->P:=by intro k;(with_reducible show PC _ _ _ _);first|((with_reducible show PC 341 _ _ _);exact HR k)|((with_reducible show PC 343 _ _ _);exact jz k)|((with_reducible show PC 207 _ _ _);exact SY k)|((with_reducible show PC 217 _ _ _);exact Yq k)|((with_reducible show PC 217 _ _ _);exact Yr k)|((with_reducible show PC 217 _ _ _);exact Sc k)|((with_reducible show PC 217 _ _ _);exact Ys k)|((with_reducible show PC 217 _ _ _);exact Je k)|((with_reducible show PC 286 _ _ _);exact mY k)|fail):P:=h k
theorem ou (h:MA t=true):t.kind≠21:=(PR h).2
theorem OP:Rd.A2 HJ:=Rd.A2.look λs v s' h=>by
 split at h
 .rename_i U
  exact Rd.A2.at (λv s' e=>GH e (ou U)) h
 .exact Rd.A2.seq (Ko Do) s v s' h
section
variable {st0 st:St} {b d:Nat} {s:Af} {rows:List (AB×List Nd)} {K:Ay->St->Prop}
attribute [local irreducible] Go.Aw.Ag
theorem fK {br:Bool} {U:Rd Nd} (ho:AO enc 342 (λb=>[pv b d]) U):lF (λp own=>.Bq [.slice 6 (p.1.map Az) own,.bool p.2]) (·.1) 285 (λb=>[pv b d,.bool br]) (Qx U br):=by
 refine ⟨λ{st0 b s st rows K} hc h=>?_⟩
 unfold Qx at h
 refine pB Tryz.func285 ?_
 have hmu:=hc.mu
 repeat' ((conv=>whnf);(first|refine AZ ?_|refine A0 ?_ ?_|refine A1 ?_ ?_|refine SR ?_ ?_|fail)<;>intros)
 refine Cd (λl own=>[(4,.slice 6 (l.map Az) own)]) (λ_ _=>[]) [1,2] [0] (λl own=>(own,l)::rows) (λl=>l.length) .full (Cx.push ‹_› []) ‹_› i7 Yl ?_
 intro l s1 st1 own1 hc h hl hm1
 simp only [fD,Rd.Ah,Rd.Ax,Rd.wp_seq,Rd.wp_ret,Rd.Bk] at h
 repeat' ((conv=>whnf);(first|refine AZ ?_|refine A0 ?_ ?_|refine A1 ?_ ?_|refine SR ?_ ?_|fail)<;>intros)
 unfold V5 at h
 refine Cd (λl own=>[(4,.slice 6 (l.map Az) own)]) (λ_ _=>[]) [1,2] [0] (λl own=>(own,l)::rows) (λl=>l.length) own1 ‹_› ‹_› hl Yl ?_
 intro l2 s2 st2 own2 hc h hl hm2
 simp only [V4,Rd.Ah,Rd.Ax,Rd.wp_seq,Rd.wp_ret,Rd.Bk] at h
 cases br
 .simp only [Bool.false_eq_true,if_false] at h
  repeat' ((conv=>whnf);(first|refine AZ ?_|refine A0 ?_ ?_|refine A1 ?_ ?_|refine SR ?_ ?_|refine Hb ?_|refine Kk ?_ ?_|refine Js ?_|refine HU ?_ ?_|exact ER|refine IP ?_|refine J3 ?_|refine Ae ?_|refine ho.go ‹_› ‹_› ?_ ?_|refine NY.jt OP ‹_› ‹_› ?_ ?_)<;>intros)
 .simp only [if_true] at h
  repeat' ((conv=>whnf);(first|refine AZ ?_|refine A0 ?_ ?_|refine A1 ?_ ?_|refine SR ?_ ?_|refine Hb ?_|refine Kk ?_ ?_|refine Js ?_|refine HU ?_ ?_|exact ER|refine IP ?_|refine J3 ?_|refine Ae ?_|refine ho.go ‹_› ‹_› ?_ ?_|refine NY.jt OP ‹_› ‹_› ?_ ?_)<;>intros)
end
section
variable {st0 st:St} {b d:Nat} {s:Af} {rows:List (AB×List Nd)} {K:Ay->St->Prop}
attribute [local irreducible] Go.Aw.Ag
theorem eY {U:Rd Nd} (ho:AO enc 342 (λb=>[pv b d]) U):AO enc 212 (λb=>[pv b d]) (aq U):=by
 refine ⟨λ{st0 b s st rows K} hc h=>?_⟩
 simp only [aq,Rd.wp_seq,Rd.wp_ret] at h
 refine pB Tryz.func212 ?_
 repeat' ((conv=>whnf);(first|refine AZ ?_|refine A0 ?_ ?_|refine A1 ?_ ?_|exact ER|refine IP ?_|refine Ae ?_|refine lF.go (fK ho) ‹_› ‹_› ?_ ?_)<;>intros)
theorem UH {A:Af->Rs} {hle:∀s v s',A s=.inr (v,s')->mu s'<=mu s} (hB:EC A) (hc:Cx st0 b s st rows) (h:Rd.wp (Jg A hle) s (λv s'=>∀st',Cx st0 b s' st' rows->K (.ret (enc v)) st') (λe s'=>∀st',Cy st0 b s' st' rows->K (.BU (fault e.1)) st')):El st b K (A s):=by
 cases U:A s with
 |inl p=>
  obtain ⟨e,s'⟩:=p
  unfold Rd.wp at h
  rw [T4 hB U] at h
  exact λst' hu=>h st' (hc.qh hu)
 |inr p=>
  obtain ⟨n,s'⟩:=p
  unfold Rd.wp at h
  rw [Se U] at h
  exact λst' hu=>h st' (hc.MG hu (hle _ _ _ U))
theorem jA (hd:d<=1000000) (h0:d=0->A=.fail GW) (hc:Cx st0 b s st rows)
 (h:Rd.wp A s (λv s'=>∀st',Cx st0 b s' st' rows->K (.ret (enc v)) st') (λe s'=>∀st',Cy st0 b s' st' rows->K (.BU (fault e.1)) st'))
 (hg:d≠0->∀K:Ay->St->Prop,Rd.wp A s (λv s'=>∀st',Cx st0 b s' st' rows->K (.ret (enc v)) st') (λe s'=>∀st',Cy st0 b s' st' rows->K (.BU (fault e.1)) st')->PC g [pv b d] st K):
 PC 294 [pv b (d+1),.func g [] []] st K:=by
 refine pB Tryz.func294 ?_
 by_cases hz:d=0
 .have U:((d+1:Nat):Int)<2:=AC
  rw [h0 hz,Rd.DG] at h
  repeat' ((conv=>whnf);(first|refine AZ ?_|refine A0 ?_ ?_|refine A1 ?_ ?_|refine B6 ?_|exact BE (Cx.y ‹_›) ‹_›)<;>intros)
 .have U:¬((d+1:Nat):Int)<2:=AC
  repeat' ((conv=>whnf);(first|refine QO hd ?_|refine AZ ?_|refine A0 ?_ ?_|refine A1 ?_ ?_|refine hg hz _ (Rd.wp_mono ‹_› ?_ ?_)|refine B6 ?_|exact ER|refine Ae ?_)<;>intros)
theorem NP {c:Nat} (hd:d<=1000000) (h0:d=0->A=.fail GW) (hc:Cx st0 b s st rows)
 (h:Rd.wp A s (λv s'=>∀st',Cx st0 b s' st' rows->K (.ret (enc v)) st') (λe s'=>∀st',Cy st0 b s' st' rows->K (.BU (fault e.1)) st'))
 (hg:d≠0->∀K:Ay->St->Prop,Rd.wp A s (λv s'=>∀st',Cx st0 b s' st' rows->K (.ret (enc v)) st') (λe s'=>∀st',Cy st0 b s' st' rows->K (.BU (fault e.1)) st')->PC g [pv b d,.ptr c 0] st K):
 PC 294 [pv b (d+1),.func g [] [.ptr c 0]] st K:=by
 refine pB Tryz.func294 ?_
 by_cases hz:d=0
 .have U:((d+1:Nat):Int)<2:=AC
  rw [h0 hz,Rd.DG] at h
  repeat' ((conv=>whnf);(first|refine AZ ?_|refine A0 ?_ ?_|refine A1 ?_ ?_|refine B6 ?_|exact BE (Cx.y ‹_›) ‹_›)<;>intros)
 .have U:¬((d+1:Nat):Int)<2:=AC
  repeat' ((conv=>whnf);(first|refine QO hd ?_|refine AZ ?_|refine A0 ?_ ?_|refine A1 ?_ ?_|refine hg hz _ (Rd.wp_mono ‹_› ?_ ?_)|refine B6 ?_|exact ER|refine Ae ?_)<;>intros)
theorem Dt (hd:d<=1000000) (U:d=0->A=.fail GW) (hg:d≠0->AO enc g (λb=>[pv b d]) A):AO enc 294 (λb=>[pv b (d+1),.func g [] []]) A:=by
 refine ⟨λ{st0 b s st rows K} hc h=>?_⟩
 exact jA hd U hc h λhz K h=>(hg hz).ap hc h
end
section
variable {st0 st:St} {b d:Nat} {s:Af} {rows:List (AB×List Nd)} {K:Ay->St->Prop}
attribute [local irreducible] Go.Aw.Ag
theorem VM (U:d+1<=100):CZ 231 ((d+1:Nat):Int) (G0 (DD (Dz (d+1 - 1)))):=by
 have:=lS (deep:=((d+1:Nat):Int))
 have e:DC ((d+1:Nat):Int) - 1=d+1 - 1:=by unfold DC;split<;>omega
 rw [e] at this;exact this
theorem X8 (hd:d+1<=100):AO enc 289 (λb=>[pv b (d+1)]) (C4 (d+1)):=by
 refine ⟨λ{st0 b s st rows K} hc h=>?_⟩
 have U:EC (G0 (DD (Dz (d+1 - 1)))):=Qo (Gi (EJ _))
 have hi:∀{K:Ay->St->Prop},Rd.wp (C4 (d+1)) s (λv s'=>∀st',Cx st0 b s' st' rows->K (.ret (enc v)) st') (λe s'=>∀st',Cy st0 b s' st' rows->K (.BU (fault e.1)) st')->
  PC 84 [.ptr b 0,.func 231 [] [],.int .i64 ((d+1:Nat):Int)] st K:=λh=>
  O5 (d:=d+1) rfl (VM hd) (λe=>by omega) U hc.mu hc.has (UH U hc h)
 refine pB Tryz.func289 ?_
 repeat' ((conv=>whnf);(first|refine AZ ?_|refine A0 ?_ ?_|refine A1 ?_ ?_|refine hi (Rd.wp_mono ‹_› ?_ ?_)|exact ER|refine Ae ?_)<;>intros)
theorem UR {full:Rd Nd} (U:AO enc 289 (λb=>[pv b d]) full):AO enc 359 (λb=>[pv b d,enc n]) (ME full n):=by
 refine ⟨λ{st0 b s st rows K} hc h=>?_⟩
 simp only [ME,Rd.Ah,Rd.Ax,Rd.wp_seq,Rd.wp_ret] at h
 refine pB Tryz.func359 ?_
 repeat' ((conv=>whnf);(first|exact CK|refine AZ ?_|(refine CL ?_ ?_ ?_;rotate_left)|refine A0 ?_ ?_|refine A1 ?_ ?_|refine Hb ?_|refine Kk ?_ ?_|refine Js ?_|refine HU ?_ ?_|exact ER|refine IP ?_|refine Ae ?_|refine Fe.go (by first|exact AO.q) ?_ ?_|refine Ac [(0,true),(1,true),(2,true),(4,true),(3,false),(5,false),(6,true),(7,false),(8,false)] [2] GE ?_|with_reducible refine WF ?_)<;>intros)
theorem mZ {U full:Rd Nd} (ho:AO enc 342 (λb=>[pv b d]) U) (hf:AO enc 289 (λb=>[pv b d]) full):AO enc 292 (λb=>[pv b d]) (dx U full):=by
 refine ⟨λ{st0 b s st rows K} hc h=>?_⟩
 simp only [dx,Rd.wp_seq] at h
 refine pB Tryz.func292 ?_
 repeat' ((conv=>whnf);(first|exact CK|refine AZ ?_|(refine CL ?_ ?_ ?_;rotate_left)|refine A0 ?_ ?_|refine A1 ?_ ?_|exact ER|refine Ae ?_|refine Fe.go (by first|exact AO.q|exact (eY ho).a|exact (UR hf).a) ?_ ?_|refine Ac [(0,true),(1,true),(2,false),(3,false),(4,false)] [1] GE ?_|with_reducible refine WF ?_)<;>intros)
theorem TN {L:EP} {lt U:Nd} (he:AO enc 294 (λb=>[pv b d,.func 292 [] []]) L.exp):AO enc 389 (λb=>[pv b d,enc lt,enc U]) (Mh L lt U):=by
 refine ⟨λ{st0 b s st rows K} hc h=>?_⟩
 simp only [Mh,Rd.wp_seq,Rd.wp_ret] at h
 refine pB Tryz.func389 ?_
 repeat' ((conv=>whnf);(first|exact CK|refine AZ ?_|(refine CL ?_ ?_ ?_;rotate_left)|refine A0 ?_ ?_|refine A1 ?_ ?_|refine HU ?_ ?_|exact ER|refine IP ?_|refine Ae ?_|refine Fe.go (by first|exact AO.q) ?_ ?_|refine Ac [(0,true),(1,true),(2,true),(3,true),(4,false),(5,true),(6,false),(7,false)] [3] GE ?_|with_reducible refine WF ?_)<;>intros)
theorem Yz {L:EP} (he:AO enc 294 (λb=>[pv b d,.func 292 [] []]) L.exp):lG 414 (λb v=>[pv b d,v,.str w]) (λl=>MZ L l w):=by
 refine ⟨λ{st0 b s st rows K own l} hl hc h=>?_⟩
 simp only [MZ,YN,Rd.Ah,Rd.Ax,Rd.wp_seq,Rd.wp_ret] at h
 refine pB Tryz.func414 ?_
 have U:=hc.mu
 rcases hc.has with hs|⟨t,u,o1,o2,e0,hs⟩
 .skip
  repeat' ((conv=>whnf);(first|refine AZ ?_|refine A0 ?_ ?_|refine A1 ?_ ?_|refine SR ?_ ?_|refine At hs ?_|refine Hb ?_|refine Kk ?_ ?_|refine HU ?_ ?_|exact ER|refine J3 ?_|refine Ae ?_|refine Sw ?_|refine YT ‹_› ‹_› (N4 ‹_›) ?_|refine FD ‹_› U ?_|refine Fe.go (by first|exact AO.q) ?_ ?_)<;>intros)
 .skip
  repeat' ((conv=>whnf);(first|refine AZ ?_|refine A0 ?_ ?_|refine A1 ?_ ?_|refine SR ?_ ?_|refine At hs ?_|refine Hb ?_|refine Kk ?_ ?_|refine HU ?_ ?_|exact ER|refine J3 ?_|refine Ae ?_|refine Sw ?_|refine YT ‹_› ‹_› (N4 ‹_›) ?_|refine FD ‹_› U ?_|refine Fe.go (by first|exact AO.q) ?_ ?_)<;>intros)
theorem JD {p:FuncId} {may:Nd->Bool} (hg:AO enc g (λb=>[pv b d]) A) (hp:∀{s s' n} {st:St} {K:Ay->St->Prop},A.run s=.inr (n,s')->mu s<=100000000->K (.ret (.bool (may n))) st->PC p [enc n] st K):
 AO enc 280 (λb=>[pv b d,.func g [] [],.func p [] []]) (Dm A may):=by
 refine ⟨λ{st0 b s st rows K} hc h=>?_⟩
 simp only [Dm,Rd.Ah,Rd.Ax,Rd.wp_seq,Rd.wp_ret,Rd.Gm] at h
 refine pB Tryz.func280 ?_
 have U:=hc.mu
 rcases hc.has with hs|⟨t,u,o1,o2,e0,hs⟩
 .skip
  repeat' ((conv=>whnf);(first|refine AZ ?_|refine A0 ?_ ?_|refine A1 ?_ ?_|refine At hs ?_|refine B6 ?_|exact ER|refine Ae ?_|refine FD ‹_› U ?_|refine Fe.go (by first|exact AO.q) ?_ ?_|refine hp ‹_› U ?_)<;>intros)
 .skip
  repeat' ((conv=>whnf);(first|refine AZ ?_|refine A0 ?_ ?_|refine A1 ?_ ?_|refine At hs ?_|refine B6 ?_|exact ER|refine Ae ?_|refine FD ‹_› U ?_|refine Fe.go (by first|exact AO.q) ?_ ?_|refine hp ‹_› U ?_)<;>intros)
end
structure Ki (D:Nat) (L:EP):Prop where
 atom:AO enc 294 (λb=>[pv b D,.func 288 [] []]) L.atom
 exp:AO enc 294 (λb=>[pv b D,.func 292 [] []]) L.exp
 ops:AO enc 294 (λb=>[pv b D,.func 212 [] []]) L.ops
 decls:AO enc 294 (λb=>[pv b D,.func 295 [] []]) L.decls
 stmts:AO enc 294 (λb=>[pv b D,.func 416 [] []]) L.stmts
 alts:AO enc 294 (λb=>[pv b D,.func 391 [] []]) L.alts
 Gn:∀{o:Nd} {c:Nat} {st0:St} {b:Nat} {s:Af} {st:St} {rows:List (AB×List Nd)} {K:Ay->St->Prop},st.box c=some (Az o)->Cx st0 b s st rows->
  Rd.wp (L.Gn o) s (λv s'=>∀st',Cx st0 b s' st' rows->K (.ret (enc v)) st') (λe s'=>∀st',Cy st0 b s' st' rows->K (.BU (fault e.1)) st')->PC 294 [pv b D,.func 418 [] [.ptr c 0]] st K
 list:∀{o:Nd} {c:Nat} {st0:St} {b:Nat} {s:Af} {st:St} {rows:List (AB×List Nd)} {K:Ay->St->Prop},st.box c=some (Az o)->Cx st0 b s st rows->
  Rd.wp (L.list o) s (λv s'=>∀st',Cx st0 b s' st' rows->K (.ret (enc v)) st') (λe s'=>∀st',Cy st0 b s' st' rows->K (.BU (fault e.1)) st')->PC 294 [pv b D,.func 420 [] [.ptr c 0]] st K
theorem o9 (h:n.kids.length=0):H8 n=true:=by
 unfold H8;rw [List.length_eq_zero_iff.1 h];rfl
theorem Ye {x:Nd} (h:n.kids[((n.kids.length:Nat) - 1:Int).toNat]? =some x):n.kids.getLast? =some x:=by
 rw [List.getLast?_eq_getElem?,<-h];congr 1;omega
theorem pb {x:Nd} (h:n.kids[((n.kids.length:Nat) - 1:Int).toNat]? =some x) (k:x.kind=32\/x.kind=33):H8 n=true:=by
 unfold H8;rw [Ye h];simpa using k
theorem pc {x:Nd} (h:n.kids[((n.kids.length:Nat) - 1:Int).toNat]? =some x) (k:¬x.kind=32) (U:¬x.kind=33):¬H8 n=true:=by
 unfold H8;rw [Ye h];simp [k,U]
theorem Bl {m:Rd α} {k:α->Rd β} {s:Af} {v:β} (h:(Rd.seq m k).run s=.inr (v,s')):∃a s1,m.run s=.inr (a,s1)/\(k a).run s1=.inr (v,s'):=by
 unfold Rd.seq at h
 dsimp only at h
 split at h
 .cases h
 .exact ⟨_,_,‹_›,h⟩
theorem eZ {L:EP} {a b:Nd} {l:List Nd} {s:Af} {n:Nat} (h:(MZ L [a,b] w).run s=.inr (l,s')) (U:n<=100000000):l.length<=90000000:=by
 unfold MZ at h
 obtain ⟨_,_,_,h⟩:=Bl h
 obtain ⟨_,_,_,h⟩:=Bl h
 obtain ⟨_,_,_,h⟩:=Bl h
 cases h
 exact Nat.le_of_ble_eq_true rfl
section
variable {st0 st:St} {b d:Nat} {s:Af} {rows:List (AB×List Nd)} {K:Ay->St->Prop} {L:EP} {atom:Rd Nd}
attribute [local irreducible] Go.Aw.Ag
theorem Zm (U:Ki d L):AO enc 390 (λb=>[pv b d]) (KV L):=by
 refine ⟨λ{st0 b s st rows K} hc h=>?_⟩
 simp only [KV,Rd.wp_seq,Rd.wp_ret] at h
 have hmu:=hc.mu
 refine pB Tryz.func390 ?_
 repeat' ((conv=>whnf);(first|exact CK|refine AZ ?_|(refine CL ?_ ?_ ?_;rotate_left)|refine A0 ?_ ?_|refine A1 ?_ ?_|refine Js ?_|refine HU ?_ ?_|exact ER|refine IP ?_|refine Ae ?_|refine Fe.go (by first|exact AO.q|exact (U.exp).a) ?_ ?_|refine lG.go (l:=[_,_]) (Yz U.exp) (Nat.le_of_ble_eq_true rfl) (Cx.push ‹_› _) ‹_› ?_ ?_|refine lG.go (Yz U.exp) (eZ ‹_› hmu) ‹_› ‹_› ?_ ?_|refine Ac [(0,true),(1,true),(3,true),(2,false),(4,false),(5,true),(6,true)] [] GE ?_|refine Ac [(0,true),(1,true),(2,true),(3,false),(4,false),(5,false),(6,false)] [1] GE ?_|with_reducible refine WF ?_)<;>intros)
theorem gj (hL:Ki d L):AO enc 392 (λb=>[pv b d]) (PO L):=by
 refine ⟨λ{st0 b s st rows K} hc h=>?_⟩
 simp only [PO,Rd.wp_seq,Rd.wp_ret,Rd.Ax,Rd.DG] at h
 refine pB Tryz.func392 ?_
 repeat' ((conv=>whnf);first|(refine AZ ?_;intros)|(refine A0 ?_ ?_<;>intro e h)|(refine A1 ?_ ?_<;>intro _)|(refine Js ?_;intro s1 U hz hm hc h)|(refine HU ?_ ?_<;>(first|intro n s1 U hr hm hc h|intro e s1 U hc h))|refine B6 ?_|exact ER|refine IP ?_|refine BP (λ_=>?_)|refine Ae (λe1=>?_)|refine AO.go hL.stmts hc h (λn s1 U hr hm hc h=>?_) (λe s1 U hc h=>?_))
 all_goals conv=>whnf
 all_goals first
  |(rw [if_pos (o9 AC)] at h;exact BE hc.y h)
  |(rw [if_pos (pb ‹_› AC)] at h;exact BE hc.y h)
  |(rw [if_neg (pc ‹_› AC AC)] at h;exact CI hc h rfl)
end
section
variable {st0 st:St} {b d:Nat} {s:Af} {rows:List (AB×List Nd)} {K:Ay->St->Prop} {L:EP} {atom:Rd Nd}
attribute [local irreducible] Go.Aw.Ag
theorem dA (U:AO enc 288 (λb=>[pv b d]) atom):AO enc 280 (λb=>[pv b d,.func 288 [] [],.func 403 [] []]) (Dm atom Ka):=
 JD U λ_ _ k=>RW k
theorem RE {p:Nd->Bool} (h:Rd.A2 A):Rd.A2 (Dm A p):=Rd.A2.look λs v s' e=>Rd.A2.at (h _) e
theorem ZV (hL:Ki d L) (ha:AO enc 288 (λb=>[pv b d]) atom) (hF:Rd.A2 atom):AO enc 388 (λb=>[pv b d]) (Li L atom):=by
 refine ⟨λ{st0 b s st rows K} hc h=>?_⟩
 simp only [Li,Rd.wp_seq,Rd.wp_ret] at h
 refine pB Tryz.func388 ?_
 have hmu:=hc.mu
 repeat' ((conv=>whnf);(first|refine AZ ?_|refine A0 ?_ ?_|refine A1 ?_ ?_|refine Hb ?_|refine Js ?_|refine HU ?_ ?_|exact ER|refine IP ?_|refine J3 ?_|refine BP ?_|refine Ae ?_)<;>intros)
 refine Cd (λl own=>[(3,.slice 6 (l.map Az) own)]) (λ_ _=>[]) [1,2] [0,1] (λl own=>(own,l)::rows) (λl=>l.length) .full (Cx.push ‹_› _) ‹_› (by show 1+_<=_;omega) Yl ?_
 intro l s1 st1 U hc h hl hm1
 simp only [RX,NQ,Rd.Ah,Rd.Ax,Rd.wp_seq,Rd.wp_ret,Rd.Bk] at h
 repeat' ((conv=>whnf);(first|refine AZ ?_|refine A0 ?_ ?_|refine A1 ?_ ?_|refine Hb ?_|refine Js ?_|refine HU ?_ ?_|exact ER|refine IP ?_|refine J3 ?_|refine BP ?_|refine Ae ?_|refine AO.jt (dA ha) (RE hF) ‹_› ‹_› ?_ ?_|refine Fe.go (by first|exact AO.q|exact (hL.exp).a) ?_ ?_)<;>intros)
theorem WU (U:Ki d L) (ha:AO enc 288 (λb=>[pv b d]) atom) (hF:Rd.A2 atom):AO enc 342 (λb=>[pv b d]) (Jh L atom):=by
 refine ⟨λ{st0 b s st rows K} hc h=>?_⟩
 simp only [Jh,L6,jM,XL,Rd.Ah,Rd.Ax,Rd.wp_seq,Rd.wp_ret] at h
 refine pB Tryz.func342 ?_
 have hmu:=hc.mu
 repeat' ((conv=>whnf);(first|exact CK|refine AZ ?_|(refine CL ?_ ?_ ?_;rotate_left)|refine A0 ?_ ?_|refine A1 ?_ ?_|refine Hb ?_|refine Js ?_|refine HU ?_ ?_|exact ER|refine IP ?_|refine J3 ?_|refine Ae ?_|refine Fe.go (by first|exact AO.q|exact (ZV U ha hF).a|exact (Zm U).a|exact (gj U).a|exact (U.decls).a|exact (TN U.exp).a|exact (U.exp).a|exact (U.alts).a) ?_ ?_|refine Cx.Ee (l:=[_,_,_]) (Cx.push ‹_› _) (Nat.le_of_ble_eq_true rfl) ?_|refine Ac [(0,true),(1,true),(2,true),(4,true),(3,false),(5,false),(6,false),(7,false)] [1] GE ?_|refine Ac [(0,true),(1,true),(3,true),(5,true),(6,true),(2,false),(4,false),(7,false),(8,true),(9,true)] [] GE ?_|with_reducible refine WF ?_)<;>intros)
 all_goals refine Cd (λl own=>[(5,.slice 6 (l.map Az) own)]) (λ_ _=>[]) [1,2] [0,1] (λl own=>(own,l)::rows) (λl=>l.length) .full (Cx.push ‹_› _) ‹_› (by show 1+_<=_;omega) Yl ?_
 all_goals intro l s1 st1 own1 hc h hl hm1
 all_goals simp only [Vk,Rd.Ah,Rd.Ax,Rd.wp_seq,Rd.wp_ret,Rd.Bk] at h
 all_goals (repeat' ((conv=>whnf);(first|exact CK|refine AZ ?_|(refine CL ?_ ?_ ?_;rotate_left)|refine A0 ?_ ?_|refine A1 ?_ ?_|refine Hb ?_|refine Js ?_|refine HU ?_ ?_|exact ER|refine IP ?_|refine J3 ?_|refine Ae ?_|refine AO.jt ha hF ‹_› ‹_› ?_ ?_|with_reducible refine WF ?_)<;>intros))
end
end Go.Proofs.Z
namespace Go.Aw
open Go
def St.JA (st:St) (b:Nat):St:={st with box:=λx=>if x=b then none else st.box x}
theorem St.VW {st:St} {b:Nat} (h:st.box b=none):st.le ((st.Aa b cs).JA b):=
 ⟨λx c e=>by
   simp only [St.JA,St.Aa]
   grind,λ_ _ e=>e⟩
theorem BV.of_flat {I:Mem} {sz:Nat}:∀{es:List (List V)} {vs:List Value},(∀e ∈ es,e.length=sz)->Ak I es.flatten vs->BV I sz es vs
 |[],vs,_,h=>by simpa only [List.flatten_nil,Ak,BV] using h
 |e::r,vs,hl,h=>by
  rw [List.flatten_cons] at h
  have U:=Ak.take e.length h
  have h2:=Ak.drop e.length h
  rw [List.take_left' rfl] at U
  rw [List.drop_left' rfl] at h2
  simp only [BV]
  exact ⟨_,_,(List.take_append_drop e.length vs).symm,hl e List.mem_cons_self,U,BV.of_flat (λx hx=>hl x (List.mem_cons_of_mem _ hx)) h2⟩
section
variable {P:Program} {D:List Deferred} {I0 I:Mem} {st0 st:St} {w0 w:World} {β:Nat->Option Nat} {env:Env} {a:Act}
theorem Rel.freeze (h:Rel D I0 st0 w0 I β env st a w) {b:Nat} (hb:st.box b=some cs):
 ∃vs:List Value,Ak I cs vs/\I.le (I.add b 0 vs vs.length)/\Rel D I0 st0 w0 (I.add b 0 vs vs.length) β env (st.JA b) a w:=by
 obtain ⟨vs,ty,hw,hv⟩:=h.s.box b cs hb
 obtain ⟨i1,i2,i3⟩:=h.s.Hd b ke
 have hl:I.le (I.add b 0 vs vs.length):=Mem.O8 (λo _=>i1 o) (.inl i3)
 have hd:=h.fr.JY b (.inl ke)
 have nb:∀x,(st.JA b).box x≠none->x≠b/\st.box x≠none:=λx e=>by
  by_cases U:x=b
  .subst U;exact absurd (if_pos rfl) e
  .refine ⟨U,?_⟩
   have e':(if x=b then none else st.box x)≠none:=e
   simp_all
 refine ⟨vs,hv,hl,⟨⟨h.fr.os,h.fr.tape,h.fr.output,h.fr.size,h.fr.Kc,Mem.le_trans h.fr.le hl,?_,?_,λx e=>h.fr.JY x (e.imp (λe=>(nb x e).2) id)⟩,⟨?_,?_,?_,?_,?_,RP hl.1 hl.2 h.s.QV⟩,Ha.mem h.f hl ?_⟩⟩
 .intro x o h1 h2
  by_cases e:x=b
  .simp_all
  .exact h.fr.new x o h1 (by simpa [Mem.add,e] using h2)
 .intro x h1 h2
  by_cases e:x=b
  .simp_all
  .exact h.fr.JZ x h1 (by simpa [Mem.add,e] using h2)
 .intro x o v e
  simp only [Mem.add] at e
  split at e
  .rename_i U
   obtain ⟨rfl,h1,h2⟩:=U
   simp only [World.cell?,hw,Option.isSome_none,Bool.false_eq_true,if_false,List.getElem?_toArray]
   exact e
  .exact h.s.cell x o v e
 .intro x n e
  simp only [Mem.add] at e
  split at e
  .simp_all
  .exact h.s.shape x n e
 .intro x c e
  have U:=(nb x ke).1
  have e':st.box x=some c:=by
   have:(if x=b then none else st.box x)=some c:=e
   rwa [if_neg U] at this
  obtain ⟨us,ty',h1,h2⟩:=h.s.box x c e'
  exact ⟨us,ty',h1,Ak.mono hl _ _ h2⟩
 .intro x e
  obtain ⟨U,e'⟩:=nb x e
  obtain ⟨h1,h2,h3⟩:=h.s.Hd x e'
  exact ⟨λo=>by simp [Mem.add,U,h1 o],h2,by simp [Mem.add,U,h3]⟩
 .intro x n e
  have U:x≠b:=λU=>by subst U;rw [show (st.JA x).hw x=st.hw x from rfl,i2] at e;cases e
  exact ⟨(h.s.hw x n e).1,λo ho=>by simp only [Mem.add];rw [if_neg (by simp [U])];exact (h.s.hw x n e).2 o ho⟩
 .intro id x e
  obtain ⟨h1,h2,h3,h4,h5,h6⟩:=h.f.sep id x e
  have U:x≠b:=λU=>by simp_all
  exact ⟨λo=>by simp [Mem.add,U,h3 o],by simp [Mem.add,U,h4],by grind,h6⟩
theorem W6 {b sz n cap:Nat} {es:List (List V)} {rest:List V} {vs:List Value} (hv:Ak I (es.flatten++rest) vs) (hl:I.le (I.add b 0 vs vs.length)) (hz:∀e ∈ es,e.length=sz) (hn:es.length=n) {c:Value} (h:AG I (.FM sz b n cap) c):
 AG (I.add b 0 vs vs.length) (.slice sz es .any) c:=by
 simp only [AG] at h |-
 obtain ⟨rfl,h1,h2,h3⟩:=h
 subst hn
 refine ⟨_,cap,rfl,h1,h2,h3,trivial,.inr rfl,?_⟩
 have U:=Ak.take es.flatten.length hv
 rw [List.take_left' rfl] at U
 refine Cb.add es _ 0 (BV.of_flat hz U) hl λj c e=>?_
 rw [Nat.zero_add]
 have e':vs[j]? =some c:=by
  rw [List.getElem?_take] at e
  split at e
  .exact e
  .cases e
 have:=Mem.Of (I:=I) (b:=b) (h:=0) (n:=vs.length) e'
 simp_all
inductive my (o n:V):V->V->Prop
 |same (v:V):my o n v v
 |here:my o n o n
inductive U8 (o n:V):List V->List V->Prop
 |nil:U8 o n [] []
 |cons {v v':V} {l l':List V}:my o n v v'->U8 o n l l'->U8 o n (v::l) (v'::l')
theorem my.rep {o n v U:V} (h:my o n v U) (hl:I.le J) (k:∀c,AG I o c->AG J n c) {c:Value} (r:AG I v c):AG J U c:=by
 cases h with
 |same=>exact AG.mono hl _ _ r
 |here=>grind
theorem U8.rep {J:Mem} {o n:V}:∀{l l':List V} {vs:List Value},U8 o n l l'->I.le J->(∀c,AG I o c->AG J n c)->Ak I l vs->Ak J l' vs
 |_,_,vs,.nil,U,k,r=>by simpa only [Ak] using r
 |_,_,vs,.cons h1 h2,U,k,r=>by
  simp only [Ak] at r |-
  obtain ⟨c,s,rfl,r1,r2⟩:=r
  exact ⟨c,s,rfl,h1.rep U k r1,h2.rep U k r2⟩
inductive Y5 (o n:V):Ay->Ay->Prop
 |val {v v':V}:my o n v v'->Y5 o n (.ret v) (.ret v')
 |agg {l l':List V}:U8 o n l l'->Y5 o n (.ret (.agg l)) (.ret (.agg l'))
 |Bq {l l':List V}:U8 o n l l'->Y5 o n (.ret (.Bq l)) (.ret (.Bq l'))
theorem Y5.rep {J:Mem} {o n:V} {r r':Ay} (h:Y5 o n r r') (hl:I.le J) (k:∀c,AG I o c->AG J n c) {e:Ending} (m:Ue I e r):Ue J e r':=by
 cases e with
 |returned c=>
  cases h with
  |val h=>exact my.rep h hl k m
  |agg h=>have U:AG I _ c:=m;simp only [AG] at U;obtain ⟨vs,e,m3⟩:=U;show AG J _ _;simp only [AG];exact ⟨vs,e,h.rep hl k m3⟩
  |Bq h=>have U:AG I _ c:=m;simp only [AG] at U;obtain ⟨vs,e,m3⟩:=U;show AG J _ _;simp only [AG];exact ⟨vs,e,h.rep hl k m3⟩
 |panicked chain=>cases h<;>exact m.elim
 |outgrown=>cases h<;>exact m.elim
theorem A3.freeze {f:FuncId} {args:List V} {R R':Ay->St->Prop} (h:A3 P f args st R')
 (k:∀r s,R' r s->R r s\/∃b sz n cap es rest r',s.box b=some (es.flatten++rest)/\(∀e ∈ es,e.length=sz)/\es.length=n/\Y5 (.FM sz b n cap) (.slice sz es .any) r r'/\R r' (s.JA b)):A3 P f args st R:=by
 refine ⟨λI w U hs ha=>(h.a I w U hs ha).mono ?_,h.b⟩
 rintro e w' ⟨I',st',r,k1,k2,k3,k4⟩
 rcases k r st' k4 with k4|⟨b,sz,n,cap,es,rest,r',g1,g2,g3,g4,g5⟩
 .grind
 have hr:Rel [] I st w I' (λ_=>none) {tmps:=[],boxes:=[],Bj:=0,sz:=0,gl:=[]} st' {tmps:=#[],defers:=[]} w':=
  ⟨k1,k2,⟨rfl,λt v e=>(by cases e),λid cs e=>(by cases e),λid b e=>(by cases e),λi j b e=>(by cases e),λid b e=>(by cases e),rfl⟩⟩
 obtain ⟨vs,hv,hl,hr'⟩:=hr.freeze g1
 exact ⟨_,_,r',hr'.fr,hr'.s,g4.rep hl (λc hc=>W6 hv hl g2 g3 hc) k3,g5⟩
theorem ia {Q:AE->Env->St->Prop} {env':Env} {st:St} (h:AW P c Q env' st') (U:env'.Ep env) (hs:St.le st' st):AW P c Q env st:=
 λD I0 st0 w0 I β a w hr=>h D I0 st0 w0 I _ a w ((hr.Iy (Env.Iz U)).GQ hs)
theorem Xz {Q:AE->Env->St->Prop} {st:St} (e:st'=st) (h:AW P c Q env st'):AW P c Q env st:=e ▸ h
theorem AV {T : List (Nat × Ty)} (hP : Q6 P T) {fn : Func} (gl : List Nat) (hf : P.funcs[f]? = some fn) (hb : fn.body = some c) (hn : (fn.name == "runtime.NumGoroutine") = false) (hle : Nat.ble args.length fn.ntmps = true)
 (h:AW P c (YJ T fn (Ends R)) {tmps:=Iw 0 args,boxes:=[],Bj:=0,sz:=fn.ntmps,gl} st):A3 P f args st R:=by
 refine ⟨?_,fn,hf,ke,hn⟩
 intro I w cargs hs hargs
 refine calls_of_wp hf hb ?_
 refine wp_mono (h [] I st w I _ _ w (Gl gl hs hargs hle)) ?_
 rintro e a w' ⟨I1,β1,env1,st1,ae,h1,h2,h3⟩
 have hret:(E1 T env1 st1 fn.results.toList λvs=>match vs with
  |[v]=>Ends R (.ret v) st1
  |vs=>Ends R (.ret (.Bq vs)) st1)->
  a.defers=[]/\∃v,(results fn a.tmps).run P w'=.ok v w'/\∃I' st' r,Fr I st w I' st' w'/\Ci I' st' w'/\Ue I' (.returned v) r/\R r st':=by
  intro h3
  obtain ⟨v,c,g1,g2,r2,st2,g3,g4,g5⟩:=CD (P:=P) (R:=Ends R) hP.t h1 h3
  have U:=h1.GQ g4
  refine ⟨h1.f.defers,c,g1,I1,st2,r2,U.fr,U.s,?_,g5⟩
  rcases g3 with rfl|rfl
  .exact g2
  .exact g2.wk
 cases ae with
 |normal=>cases e<;>first|exact hret h3|exact h2.elim
 |exit i=>exact h3.elim
 |goto i=>exact h3.elim
 |ret=>cases e<;>first|exact hret h3|exact h2.elim
 |BU v=>
  cases e<;>try exact h2.elim
  obtain ⟨r2,st2,g3,g4,g5⟩:=h3
  obtain ⟨c',rfl,h2⟩:=h2
  have U:=h1.GQ g4
  refine ⟨h1.f.defers,I1,st2,r2,U.fr,U.s,?_,g5⟩
  rcases g3 with rfl|rfl
  .exact ⟨c',rfl,h2⟩
  .exact ⟨c',rfl,h2.wk⟩
end
def V.eM (id:Nat):V->V
 | .BH i o=>bif Nat.beq i id then .BO else .BH i o
 |v=>v
noncomputable def H0 (id:Nat) (l:List (Nat×V)):List (Nat×V):=List.rec (motive:=λ_=>List (Nat×V)) [] (λp _ U=>(p.1,p.2.eM id)::U) l
noncomputable def GV (id:Nat) (l:List (Nat×List V)):List (Nat×List V):=List.rec (motive:=λ_=>List (Nat×List V)) [] (λp _ U=>bif Nat.beq p.1 id then U else p::U) l
theorem Ry (id:Nat) (p:Nat×V) (r:List (Nat×V)):H0 id (p::r)=(p.1,p.2.eM id)::H0 id r:=rfl
theorem Rw (id:Nat) (p:Nat×List V) (r:List (Nat×List V)):GV id (p::r)=bif Nat.beq p.1 id then GV id r else p::GV id r:=rfl
theorem J5 {id t:Nat}:∀{l:List (Nat×V)} {v:V},assoc (H0 id l) t=some v->∃u,assoc l t=some u/\v=u.eM id
 |[],v,h=>by cases h
 |p::r,v,h=>by
  rw [Ry,Bi] at h
  rw [Bi]
  cases hb:Nat.beq p.1 t with
  |true=>simp_all
  |false=>rw [hb] at h;simp only [cond_false] at h |-;exact J5 h
theorem Hc {id i:Nat}:∀{l:List (Nat×List V)} {cs:List V},assoc (GV id l) i=some cs->i≠id/\assoc l i=some cs
 |[],cs,h=>by cases h
 |p::r,cs,h=>by
  rw [Rw] at h
  cases hb:Nat.beq p.1 id with
  |true=>
   rw [hb] at h
   simp only [cond_true] at h
   have hp:=Nat.eq_of_beq_eq_true hb
   obtain ⟨U,h2⟩:=Hc h
   refine ⟨U,?_⟩
   rw [Bi]
   have:Nat.beq p.1 i=false:=by
    rw [hp]
    cases e:Nat.beq id i with
    |true=>simp_all
    |false=>rfl
   simp_all
  |false=>
   rw [hb] at h
   simp only [cond_false] at h
   rw [Bi] at h |-
   cases e:Nat.beq p.1 i with
   |true=>
    grind
   |false=>rw [e] at h;exact Hc h
theorem YF {X:List Deferred->Mem->St->World->Act->World->Prop} {st:St} (t id:Nat) (ht:env.get t=.BH id 0) (hb:assoc env.boxes id=some cs) (hn:Mo cs=true)
 (h:∀b,st.fresh b->∀D I0 st0 w0 I β a w,Rel D I0 st0 w0 I β {env with tmps:=(t,.ptr b 0)::H0 id env.tmps,boxes:=GV id env.boxes} (st.Aa b cs) a w->X D I0 st0 w0 a w):
 ∀D I0 st0 w0 I β a w,Rel D I0 st0 w0 I β env st a w->X D I0 st0 w0 a w:=λD I0 st0 w0 I β a w U=>by
 obtain ⟨b,hβ,hl⟩:=U.f.box id cs hb
 obtain ⟨s1,s2,s3,s4,s5,s6⟩:=U.f.sep id b hβ
 have h1:=U.f.get t
 rw [ht] at h1
 obtain ⟨b',hβ',h1⟩:∃b,β id=some b/\_:=h1
 obtain rfl:b'=b:=Option.some.inj (hβ'.symm.trans hβ)
 refine h b' ⟨s5,s6⟩ D I0 st0 w0 I (λi=>if i=id then none else β i) a w ⟨⟨U.fr.os,U.fr.tape,U.fr.output,U.fr.size,U.fr.Kc,U.fr.le,U.fr.new,U.fr.JZ,λx hx=>?_⟩,⟨U.s.cell,U.s.shape,?_,?_,?_,U.s.QV⟩,⟨U.f.size,?_,?_,?_,?_,?_,U.f.defers⟩⟩
 .by_cases e:x=b'
  .omega
  .refine U.fr.JY x (hx.imp (λhx=>?_) (λhx=>hx))
   simp only [St.Aa] at hx
   simp_all
 .intro x us hx
  by_cases e:x=b'
  .subst e
   simp only [St.Aa,if_true,Option.some.injEq] at hx
   subst hx
   exact hl.cells hn
  .simp only [St.Aa] at hx
   rw [if_neg e] at hx
   exact U.s.box x us hx
 .intro x hx
  by_cases e:x=b'
  .subst e;exact ⟨s3,s6,s4⟩
  .simp only [St.Aa] at hx
   rw [if_neg e] at hx
   exact U.s.Hd x hx
 .exact U.s.hw
 .intro t' v e
  rw [Bi] at e
  cases hbq:Nat.beq t t' with
  |true=>
   rw [hbq] at e
   have:=Nat.eq_of_beq_eq_true hbq
   subst this
   simp only [cond_true,Option.some.injEq] at e
   subst e
   refine AR.of ?_
   simp only [AG]
   exact h1
  |false=>
   rw [hbq] at e
   simp only [cond_false] at e
   obtain ⟨u,hu,rfl⟩:=J5 e
   have hk:=U.f.tmps t' u hu
   cases u with
   |BH i o=>
    show AR I _ (bif Nat.beq i id then .BO else .BH i o) _
    cases hi:Nat.beq i id with
    |true=>exact AR.of (I:=I) (β:=_) (v:=.BO) trivial
    |false=>
     obtain ⟨b2,g1,g2⟩:∃b,β i=some b/\_:=hk
     refine ⟨b2,?_,g2⟩
     have:i≠id:=λx=>by simp_all
     simp_all
   |_=>exact hk
 .intro i us e
  obtain ⟨h2,h3⟩:=Hc e
  obtain ⟨b2,g1,g2⟩:=U.f.box i us h3
  simp_all
 .intro i x e
  split at e
  .cases e
  .exact U.f.Bj i x e
 .intro i j x e1 e2
  split at e1
  .cases e1
  .split at e2
   .cases e2
   .exact U.f.inj i j x e1 e2
 .intro i x e
  split at e
  .cases e
  .rename_i hi
   obtain ⟨g1,g2,g3,g4,g5,g6⟩:=U.f.sep i x e
   have hx:x≠b':=λhx=>by subst hx;exact hi (U.f.inj i id x e hβ)
   exact ⟨g1,g2,g3,g4,by simp only [St.Aa];simp_all,g6⟩
theorem Kh {P:Program} {Q:AE->Env->St->Prop} {st:St} (t id:Nat) (U:env.get t=.BH id 0) (hb:assoc env.boxes id=some cs) (hn:Mo cs=true)
 (h:∀b,st.fresh b->AW P c Q {env with tmps:=(t,.ptr b 0)::H0 id env.tmps,boxes:=GV id env.boxes} (st.Aa b cs)):AW P c Q env st:=
 YF (X:=λD I0 st0 w0 a w=>c.wp P (B0 D I0 st0 w0 Q) a w) t id U hb hn h
def bM (Q:Env->St->Prop) (env:Env) (st:St):Prop:=∀D I0 st0 w0 I β a w,Rel D I0 st0 w0 I β env st a w->∃I β env' st',Rel D I0 st0 w0 I β env' st' a w/\Q env' st'
theorem bM.here {Q:Env->St->Prop} {st:St} (h:Q env st):bM Q env st:=λD I0 st0 w0 I β a w U=>⟨I,β,env,st,U,h⟩
theorem bM.qz {Q:Env->St->Prop} {st:St} (t id:Nat) (U:env.get t=.BH id 0) (hb:assoc env.boxes id=some cs) (hn:Mo cs=true)
 (h:∀b,st.fresh b->bM Q {env with tmps:=(t,.ptr b 0)::H0 id env.tmps,boxes:=GV id env.boxes} (st.Aa b cs)):bM Q env st:=
 YF (X:=λD I0 st0 w0 a w=>∃I β env' st',Rel D I0 st0 w0 I β env' st' a w/\Q env' st') t id U hb hn h
theorem bM.le {Q:Env->St->Prop} {env env':Env} {st st':St} (U:env'.Ep env) (hs:St.le st' st) (h:bM Q env' st'):bM Q env st:=λD I0 st0 w0 I β a w hr=>h _ _ _ _ _ _ _ _ ((hr.GQ hs).Iy (Env.Iz U))
end Go.Aw
namespace Go.Proofs.Z
open Go Go.Aw
section
variable {st0 st:St} {b d:Nat} {s:Af} {rows:List (AB×List Nd)} {K:Ay->St->Prop} {L:EP} {atom:Rd Nd}
attribute [local irreducible] Go.Aw.Ag
theorem nG {Q:Nd->Af->Prop} {E:Er->Af->Prop} (hc:Cx st0 b s st rows)
 (h:if MA (Ab s).1=true then (if Ba (Ab s).2.1 15 [41]=true then Rd.wp AH s (λp s'=>Rd.wp AH s' (λc s'=>Q (Ar 3 [o,p,c]) s') E) E else P) else P)
 (k1:∀n s' st',mu s'<=mu s->Cx st0 b s' st' rows->Q n s'->K (.ret (.Bq [enc n,.bool true])) st') (k2:∀st',Cx st0 b s st' rows->P->K (.ret (.Bq [enc FN,.bool false])) st'):
 PC 417 [pv b d,enc o] st K:=by
 refine pB Tryz.func417 ?_
 have hmu:=hc.mu
 have hc1:=hc.look
 cases hy:MA (Ab s).1 with
 |false=>
  rw [if_neg (by rw [hy];decide)] at h
  repeat' ((conv=>whnf);first|exact CK|(refine AZ ?_;intros)|(refine CL ?_ ?_ ?_;rotate_left)|(refine A0 ?_ ?_<;>intro e h)|(refine A1 ?_ ?_<;>intro _)|refine Pt hc (λU hc=>?_)|refine HR ?_|with_reducible refine WF ?_)
  all_goals exact Be rfl (k2 U hc h)
 |true=>
  rw [if_pos hy] at h
  have hkd:=PR hy
  cases hi:Ba (Ab s).2.1 15 [41] with
  |true=>
   rw [if_pos hi] at h
   repeat' ((conv=>whnf);first|exact CK|(refine AZ ?_;intros)|(refine CL ?_ ?_ ?_;rotate_left)|(refine A0 ?_ ?_<;>intro e h)|(refine A1 ?_ ?_<;>intro _)|refine At (St.Al ..) ?_|refine FZ hc.has hc.hb ?_|refine HR ?_|refine LQ hc1 h hkd (λs1 U hz hm hc h=>?_)|refine Sn hc (hz ▸ hi) (λU hc=>?_)|refine LP hc h (hz ▸ hi) Do (λs2 st2 hz2 hm2 hc h=>?_)|refine Sc ?_|refine Ac [(0,true),(1,true),(2,true),(3,true),(4,false),(5,true),(6,false),(7,false),(8,true)] [2] GE ?_|with_reducible refine WF ?_)
   all_goals exact Be rfl (k1 _ s2 st2 AC hc h)
  |false=>
   rw [if_neg (by rw [hi];decide)] at h
   repeat' ((conv=>whnf);first|exact CK|(refine AZ ?_;intros)|(refine CL ?_ ?_ ?_;rotate_left)|(refine A0 ?_ ?_<;>intro e h)|(refine A1 ?_ ?_<;>intro _)|refine At (St.Al ..) ?_|refine FZ hc.has hc.hb ?_|refine HR ?_|refine ov hc1 hkd (λs1 U hz hm hc=>?_)|refine WZ hc (hz ▸ hi) (λU hc=>?_)|refine FD hc hmu (λst2 hc=>?_)|with_reducible refine WF ?_)
   all_goals exact Be rfl (k2 st2 hc h)
theorem fC (hL:Ki d L):AO enc 394 (λb=>[pv b d]) (Pw L):=by
 refine ⟨λ{st0 b s st rows K} hc h=>?_⟩
 simp only [Pw,Tz,Su,Pv,Rd.Ah,Rd.Ax,Rd.wp_seq,Rd.wp_ret] at h
 refine AV Ad [] Tryz.func394 rfl Do rfl ?_
 have hmu:=hc.mu
 refine Aj (Ai Ad ?_)
 repeat' ((conv=>whnf);(first|exact CK|refine AZ ?_|(refine CL ?_ ?_ ?_;rotate_left)|refine A0 ?_ ?_|refine A1 ?_ ?_|with_reducible refine WF ?_)<;>intros)
 refine Aj (Ai Ad ?_)
 repeat' ((conv=>whnf);(first|exact CK|refine AZ ?_|(refine CL ?_ ?_ ?_;rotate_left)|refine A0 ?_ ?_|refine A1 ?_ ?_|refine Gb.go ‹_› ‹_› ?_ ?_|exact BE ‹_› ‹_›|with_reducible refine WF ?_)<;>intros)
 refine Aj (Ai Ad ?_)
 repeat' ((conv=>whnf);first|exact CK|(refine AZ ?_;intros)|(refine CL ?_ ?_ ?_;rotate_left)|(refine A0 ?_ ?_<;>intro e h)|(refine A1 ?_ ?_<;>intro _)|(refine Hb ?_;intro U hc)|(refine Kk ?_ ?_<;>intro U hc e h)|(refine Js ?_;intro s1 U hz hm hc h)|(refine HU ?_ ?_<;>(first|intro n s1 U hr hm hc h|intro e s1 U hc h))|exact ER|refine IP ?_|(refine J3 ?_;intro own1 U hc)|refine Ae (λe1=>?_)|with_reducible refine WF ?_)
 all_goals first
  |(refine Cd (λl own=>[(4,.slice 6 (l.map Az) own)]) (λ_ _=>[]) [1,2] [0,1] (λl own=>(own,l)::rows) (λl=>l.length) .full (hc.push _) h (by show 1+_<=_;omega) Yl ?_
    intro l s1 U own1 hc h hl hm1
    simp only [Ro,Rd.Ah,Rd.Ax,Rd.wp_seq,Rd.wp_ret,Rd.Bk] at h
    repeat' ((conv=>whnf);(first|exact CK|refine AZ ?_|(refine CL ?_ ?_ ?_;rotate_left)|refine A0 ?_ ?_|refine A1 ?_ ?_|refine Hb ?_|refine Kk ?_ ?_|refine Js ?_|refine HU ?_ ?_|exact ER|refine IP ?_|refine J3 ?_|refine Ae ?_|with_reducible refine WF ?_)<;>intros))
  |skip
 refine Aj (Ai Ad ?_)
 repeat' ((conv=>whnf);(first|exact CK|refine AZ ?_|(refine CL ?_ ?_ ?_;rotate_left)|refine A0 ?_ ?_|refine A1 ?_ ?_|refine nG (Q:=λn s'=>∀st',Cx st0 b s' st' rows->K (.ret (enc n)) st') ‹_› ‹_› ?_ ?_|refine Hb ?_|refine Kk ?_ ?_|refine Js ?_|refine HU ?_ ?_|exact ER|refine IP ?_|refine J3 ?_|refine Ae ?_|with_reducible refine WF ?_)<;>intros)
 refine Aj (Ai Ad ?_)
 repeat' ((conv=>whnf);first|exact CK|(refine AZ ?_;intros)|(refine CL ?_ ?_ ?_;rotate_left)|(refine A0 ?_ ?_<;>intro e h)|(refine A1 ?_ ?_<;>intro _)|(refine Hb ?_;intro U hc)|(refine Kk ?_ ?_<;>intro U hc e h)|(refine Js ?_;intro s1 U hz hm hc h)|(refine HU ?_ ?_<;>(first|intro n s1 U hr hm hc h|intro e s1 U hc h))|exact ER|refine IP ?_|(refine J3 ?_;intro own1 U hc)|refine Ae (λe1=>?_)|refine NY.go hc h (λn s1 U hr hm hc h=>?_) (λe s1 U hc h=>?_)|refine AO.go hL.ops hc h (λn s1 U hr hm hc h=>?_) (λe s1 U hc h=>?_)|refine Ac [(0,true),(1,true),(2,true),(4,true),(5,true),(3,false),(6,false),(7,true),(8,false),(9,false)] [1] GE ?_|with_reducible refine WF ?_)
 all_goals refine Kh 3 2 rfl rfl rfl (λc fc=>?_)
 all_goals have hne:=hc.RO fc
 all_goals refine Ai Ad ?_
 all_goals (repeat' ((conv=>whnf);first|exact CK|(refine AZ ?_;intros)|(refine CL ?_ ?_ ?_;rotate_left)|(refine A0 ?_ ?_<;>intro e h)|(refine A1 ?_ ?_<;>intro _)|refine hL.Gn (St.Al ..) (hc.Sp fc) (Rd.wp_mono h (λv s1 hr h U hc=>?_) (λe s1 hr h U hc=>?_))|exact CI (hc.unbox hne) h rfl|exact BE (hc.unbox hne) h|with_reducible refine WF ?_))
end
section
variable {st0 st:St} {b d:Nat} {s:Af} {rows:List (AB×List Nd)} {K:Ay->St->Prop} {L:EP} {atom:Rd Nd}
attribute [local irreducible] Go.Aw.Ag
theorem aQ (hL:Ki d L):AO enc 395 (λb=>[pv b d]) (LL L):=by
 refine ⟨λ{st0 b s st rows K} hc h=>?_⟩
 simp only [LL,Rd.Ah,Rd.Ax,Rd.wp_seq,Rd.wp_ret] at h
 refine AV Ad [] Tryz.func395 rfl Do rfl ?_
 refine Aj (Ai Ad ?_)
 repeat' ((conv=>whnf);(first|exact CK|refine AZ ?_|(refine CL ?_ ?_ ?_;rotate_left)|refine A0 ?_ ?_|refine A1 ?_ ?_|with_reducible refine WF ?_)<;>intros)
 refine Aj (Ai Ad ?_)
 repeat' ((conv=>whnf);(first|exact CK|refine AZ ?_|(refine CL ?_ ?_ ?_;rotate_left)|refine A0 ?_ ?_|refine A1 ?_ ?_|refine Gb.go ‹_› ‹_› ?_ ?_|exact BE ‹_› ‹_›|with_reducible refine WF ?_)<;>intros)
 refine Aj (Ai Ad ?_)
 repeat' ((conv=>whnf);first|exact CK|(refine AZ ?_;intros)|(refine CL ?_ ?_ ?_;rotate_left)|(refine A0 ?_ ?_<;>intro e h)|(refine A1 ?_ ?_<;>intro _)|(refine Hb ?_;intro U hc)|(refine Kk ?_ ?_<;>intro U hc e h)|(refine Js ?_;intro s1 U hz hm hc h)|(refine HU ?_ ?_<;>(first|intro n s1 U hr hm hc h|intro e s1 U hc h))|exact ER|refine IP ?_|refine Ae (λe1=>?_)|refine Ac [(0,true),(1,true),(2,true),(3,false),(4,true),(5,false),(6,false)] [1] GE ?_|with_reducible refine WF ?_)
 all_goals refine Kh 3 2 rfl rfl rfl (λc fc=>?_)
 all_goals have hne:=hc.RO fc
 all_goals refine Ai Ad ?_
 all_goals (repeat' ((conv=>whnf);first|exact CK|(refine AZ ?_;intros)|(refine CL ?_ ?_ ?_;rotate_left)|(refine A0 ?_ ?_<;>intro e h)|(refine A1 ?_ ?_<;>intro _)|refine hL.list (St.Al ..) (hc.Sp fc) (Rd.wp_mono h (λv s1 hr h U hc=>?_) (λe s1 hr h U hc=>?_))|exact CI (hc.unbox hne) h rfl|exact BE (hc.unbox hne) h|with_reducible refine WF ?_))
theorem ir (U:Ki d L):AO enc 345 (λb=>[pv b d]) (Qp L):=by
 refine ⟨λ{st0 b s st rows K} hc h=>?_⟩
 simp only [Qp,Rd.Ah,Rd.Ax,Rd.wp_seq,Rd.wp_ret] at h
 refine pB Tryz.func345 ?_
 repeat' ((conv=>whnf);(first|exact CK|refine AZ ?_|(refine CL ?_ ?_ ?_;rotate_left)|refine A0 ?_ ?_|refine A1 ?_ ?_|refine Hb ?_|refine Kk ?_ ?_|refine Js ?_|refine HU ?_ ?_|refine bT ?_|exact ER|refine IP ?_|refine Ae ?_|refine Fe.go (by first|exact AO.q|exact (fC U).a|exact (aQ U).a|exact (U.atom).a) ?_ ?_|refine Ac [(0,true),(1,true),(3,true),(2,false),(4,false),(5,true),(6,false),(7,false)] [1] GE ?_|refine Ac [(0,true),(1,true),(2,true),(4,true),(3,false),(5,false),(6,true),(7,false),(8,false)] [1] GE ?_|with_reducible refine WF ?_)<;>intros)
theorem dU:AO enc 157 (λb=>[.ptr b 0,.slice 1 [[.int .i64 1],[.int .i64 3]] .full]) (CA [1,3]):=DX (ks:=[1,3]) Do
theorem aB (hL:Ki d L):AO enc 346 (λb=>[pv b d,enc n]) (JN L n):=by
 refine ⟨λ{st0 b s st rows K} hc h=>?_⟩
 simp only [JN,Rd.Ah,Rd.Ax,Rd.wp_seq,Rd.wp_ret] at h
 refine pB Tryz.func346 ?_
 have hmu:=hc.mu
 repeat' ((conv=>whnf);(first|exact CK|refine AZ ?_|(refine CL ?_ ?_ ?_;rotate_left)|refine A0 ?_ ?_|refine A1 ?_ ?_|refine Hb ?_|refine Kk ?_ ?_|refine Js ?_|refine HU ?_ ?_|exact ER|refine IP ?_|refine J3 ?_|refine BP ?_|refine Ae ?_|refine Ac [(0,true),(1,true),(2,true),(3,false),(4,true),(5,true)] [] GE ?_|refine Ac [(0,true),(1,true),(2,true),(3,true),(5,true),(4,false),(6,false),(7,true),(8,false),(9,true),(10,false),(11,true)] [] GE ?_|with_reducible refine WF ?_)<;>intros)
 refine Cd (λl own=>[(5,.slice 6 (l.map Az) own)]) (λ_ _=>[]) [2,4] [0,2] (λl own=>(own,l)::rows) (λl=>l.length) .full (Cx.push ‹_› _) ‹_› (by show 2+_<=_;omega) Yl ?_
 intro l s1 st1 U hc h hl hm1
 simp only [Sq,RG,Rd.Ah,Rd.Ax,Rd.wp_seq,Rd.wp_ret,Rd.Bk] at h
 repeat' ((conv=>whnf);(first|exact CK|refine AZ ?_|(refine CL ?_ ?_ ?_;rotate_left)|refine A0 ?_ ?_|refine A1 ?_ ?_|refine Hb ?_|refine Kk ?_ ?_|refine Js ?_|refine HU ?_ ?_|exact ER|refine IP ?_|refine J3 ?_|refine BP ?_|refine Ae ?_|refine AO.jt dU (VE rfl) ‹_› ‹_› ?_ ?_|refine Fe.go (by first|exact AO.q|exact (hL.exp).a) ?_ ?_|refine Ac [(0,true),(1,true),(2,true),(3,false),(4,true),(5,true)] [] GE ?_|refine Ac [(0,true),(1,true),(2,true),(3,true),(5,true),(4,false),(6,false),(7,true),(8,false),(9,true),(10,false),(11,true)] [] GE ?_|with_reducible refine WF ?_)<;>intros)
 all_goals conv=>whnf
end
theorem VD {L:EP}:Rd.A2 (Qp L):=Rd.A2.look λs v s' h=>by
 split at h
 .rename_i ha
  have hk:=(Jt ha).2
  have U:∀{v:Nd} {s':Af},AH.run s=.inr (v,s')->mu s'<mu s:=λe=>GH e hk
  split at h
  .split at h
   .exact Rd.A2.at (λ_ _ e=>U e) h
   .exact Rd.A2.at (λ_ _ e=>U e) h
  .split at h
   .exact Rd.A2.at (λ_ _ e=>U e) h
   .split at h
    .exact Rd.A2.at (λ_ _ e=>U e) h
    .exact Rd.A2.at (λ_ _ e=>U e) h
 .cases h
theorem To {L:EP}:Rd.A2 (MN L):=Rd.A2.seq VD
theorem RF {L:EP} {s:Af} {v:Nd} (h:(JN L n).run s=.inr (v,s')) (e:Ba s 15 [123]=true):mu s'<mu s:=by
 refine Rd.A2.at (λv s' U=>GH U λz=>?_) h
 unfold Ba at e
 simp only [Bool.and_eq_true,beq_iff_eq] at e
 rw [z] at e;exact absurd e.1 Do
theorem QQ {l U:List Nd} {s:Af} (h:(Fs stmt l).run s=.inr (U,s')):U.length+4*mu s'<=l.length+2+4*mu s:=by
 unfold Fs at h
 obtain ⟨b,s1,h1,h⟩:=Bl h
 obtain ⟨t,s2,h2,h⟩:=Bl h
 have e1:=(Bs 10 [124]).le _ _ _ h1
 have e2:=stmt.le _ _ _ h2
 have:=Rd.ey (body:=Mr stmt) (w:=List.length) (w':=List.length) (c:=0) (λx s x' s' h=>by
  unfold Mr at h
  replace h:(if Ba s 15 [44]=true then Rd.seq AH λc=>Rd.seq stmt λt=>.ret (.inl (x++[c]++[t])) else .ret (.inr x):Rd (Sum (List Nd) (List Nd))).run s=.inr (.inl x',s'):=h
  split at h
  .obtain ⟨_,_,_,h⟩:=Bl h
   obtain ⟨_,_,_,h⟩:=Bl h
   cases h
   simp
  .cases h) (λx s y s' h=>by
  unfold Mr at h
  replace h:(if Ba s 15 [44]=true then Rd.seq AH λc=>Rd.seq stmt λt=>.ret (.inl (x++[c]++[t])) else .ret (.inr x):Rd (Sum (List Nd) (List Nd))).run s=.inr (.inr y,s'):=h
  split at h
  .obtain ⟨_,_,_,h⟩:=Bl h
   obtain ⟨_,_,_,h⟩:=Bl h
   cases h
  .cases h;exact Nat.le_refl _) _ _ _ _ h
 simp only [List.length_append,List.length_cons,List.length_nil] at this
 omega
theorem oO {l:List Nd} {c x y:Nat} (h:l.length+4*y<=c+2+4*x) (hc:c<=500000000) (U:x<=100000000):l.length+1<=1000000000:=AC
section
variable {st0 st:St} {b d:Nat} {s:Af} {rows:List (AB×List Nd)} {K:Ay->St->Prop} {L:EP}
attribute [local irreducible] Go.Aw.Ag
theorem im (hL:Ki d L):AO enc 288 (λb=>[pv b d]) (MN L):=by
 refine ⟨λ{st0 b s st rows K} hc h=>?_⟩
 simp only [MN,Rd.wp_seq] at h
 refine pB Tryz.func288 ?_
 have hmu:=hc.mu
 repeat' ((conv=>whnf);first|(refine AZ ?_;intros)|(refine A0 ?_ ?_<;>intro e h)|(refine A1 ?_ ?_<;>intro _)|refine AO.go (ir hL) hc h (λn s1 U hr hm hc h=>?_) (λe s1 U hc h=>?_)|exact BE hc h)
 refine Cd (λn own=>[]) (λn own=>[(2,Az n)]) [1,2,3] [0,1] (λl own=>rows) (λ_=>0) .full ‹_› ‹_› i7 Yl ?_
 intro n s1 U own1 hc h hl hm1
 simp only [cd,Rd.Ah,Rd.Ax,Rd.wp_seq,Rd.wp_ret,Rd.Bk] at h
 repeat' ((conv=>whnf);first|(refine AZ ?_;intros)|(refine A0 ?_ ?_<;>intro e h)|(refine A1 ?_ ?_<;>intro _)|(refine Hb ?_;intro U hc)|(refine Kk ?_ ?_<;>intro U hc e h)|exact ER|refine Ae (λe1=>?_)|refine AO.go (aB hL) hc h (λn s1 U hr hm hc h=>?_) (λe s1 U hc h=>?_))
 all_goals have hlt:=RF ‹_› ‹_›
 all_goals conv=>whnf
 all_goals exact ⟨⟨_,_,_,.full⟩,⟨hc,Rd.Dq h hlt,UV,UV⟩,hlt,Yl,St.le_refl _⟩
theorem Ub (hs:AO enc 360 (λb=>[pv b d]) stmt):lG 293 (λb v=>[pv b d,v]) (λl=>Fs stmt l):=by
 refine ⟨λ{st0 b s st rows K own l} hl hc h=>?_⟩
 simp only [Fs,Rd.wp_seq] at h
 refine pB Tryz.func293 ?_
 have hmu:=hc.mu
 repeat' ((conv=>whnf);(first|refine AZ ?_|refine A0 ?_ ?_|refine A1 ?_ ?_|refine SR ?_ ?_|refine Hb ?_|refine Kk ?_ ?_|refine Js ?_|refine HU ?_ ?_|exact ER|refine J3 ?_|refine Ae ?_|refine Fe.go (by first|exact AO.q) ?_ ?_)<;>intros)
 refine Cd (λl own=>[(1,.slice 6 (l.map Az) own)]) (λ_ _=>[]) [2] [0] (λl own=>(own,l)::rows) (λl=>l.length) _ ‹_› ‹_› RK Yl ?_
 intro l s1 st1 U hc h hl hm1
 simp only [Mr,Rd.Ah,Rd.Ax,Rd.wp_seq,Rd.wp_ret,Rd.Bk] at h
 repeat' ((conv=>whnf);(first|refine AZ ?_|refine A0 ?_ ?_|refine A1 ?_ ?_|refine SR ?_ ?_|refine Hb ?_|refine Kk ?_ ?_|refine Js ?_|refine HU ?_ ?_|exact ER|refine J3 ?_|refine Ae ?_|refine Fe.go (by first|exact AO.q) ?_ ?_)<;>intros)
theorem jO {exp:Rd Nd} (he:AO enc 292 (λb=>[pv b d]) exp) (hs:AO enc 360 (λb=>[pv b d]) stmt):AO enc 421 (λb=>[pv b d,enc o]) (QD exp stmt o):=by
 refine ⟨λ{st0 b s st rows K} hc h=>?_⟩
 simp only [QD,Rd.Ah,Rd.Ax,Rd.wp_seq,Rd.wp_ret] at h
 refine pB Tryz.func421 ?_
 have hmu:=hc.mu
 repeat' ((conv=>whnf);(first|exact CK|refine AZ ?_|(refine CL ?_ ?_ ?_;rotate_left)|refine A0 ?_ ?_|refine A1 ?_ ?_|refine Hb ?_|refine Kk ?_ ?_|refine Js ?_|refine HU ?_ ?_|exact ER|refine IP ?_|refine J3 ?_|refine BP ?_|refine Ae ?_|refine Fe.go (by first|exact AO.q) ?_ ?_|refine Cx.Ee ‹_› (oO (QQ ‹_›) (Nat.le_of_ble_eq_true rfl) AC) ?_|refine lG.go (l:=[_,_]) (Ub hs) (Nat.le_of_ble_eq_true rfl) (Cx.push ‹_› _) ‹_› ?_ ?_|refine Ac [(0,true),(1,true),(2,false),(3,true),(4,true)] [] GE ?_|refine Ac [(0,true),(1,true),(3,true),(4,true),(2,false),(5,false),(6,true),(7,false),(8,false),(9,false)] [2] GE ?_|with_reducible refine WF ?_)<;>intros)
 refine Cd (λl own=>[(5,.slice 6 (l.map Az) own)]) (λ_ _=>[]) [2,4,6] [0,2] (λl own=>(own,l)::rows) (λl=>l.length) .full (Cx.push ‹_› _) ‹_› (by show 2+_<=_;omega) Yl ?_
 intro l s1 st1 U hc h hl hm1
 simp only [et,Yh,Rd.Ah,Rd.Ax,Rd.wp_seq,Rd.wp_ret,Rd.Bk] at h
 repeat' ((conv=>whnf);(first|exact CK|refine AZ ?_|(refine CL ?_ ?_ ?_;rotate_left)|refine A0 ?_ ?_|refine A1 ?_ ?_|refine Hb ?_|refine Kk ?_ ?_|refine Js ?_|refine HU ?_ ?_|exact ER|refine IP ?_|refine J3 ?_|refine BP ?_|refine Ae ?_|refine Fe.go (by first|exact AO.q) ?_ ?_|with_reducible refine WF ?_)<;>intros)
end
section
variable {st0 st:St} {b d:Nat} {s:Af} {rows:List (AB×List Nd)} {K:Ay->St->Prop} {L:EP}
attribute [local irreducible] Go.Aw.Ag
theorem R6 (k:K (.BU (fault GX.1)) st):PC 216 [pv b d,.bool false] st K:=by
 refine pB Tryz.func216 ?_
 repeat' ((conv=>whnf);(first|refine AZ ?_|refine A0 ?_ ?_|refine A1 ?_ ?_|refine B6 ?_)<;>intros)
 all_goals exact ⟨_,_,.inl rfl,St.le_refl _,k⟩
theorem R7 (k:K (.ret (.Bq [])) st):PC 216 [pv b d,.bool true] st K:=by
 refine pB Tryz.func216 ?_
 repeat' ((conv=>whnf);(first|refine AZ ?_|refine A0 ?_ ?_|refine A1 ?_ ?_|refine B6 ?_)<;>intros)
 all_goals exact ⟨_,_,.inl rfl,St.le_refl _,k⟩
theorem kO (U:Ki d L) {exp:Rd Nd} (he:AO enc 292 (λb=>[pv b d]) exp):AO enc 360 (λb=>[pv b d]) (UB L exp):=by
 refine ⟨λ{st0 b s st rows K} hc h=>?_⟩
 simp only [UB,S4,Rd.Ah,Rd.Ax,Rd.wp_seq,Rd.wp_ret,Rd.DG] at h
 refine pB Tryz.func360 ?_
 repeat' ((conv=>whnf);(first|exact CK|refine AZ ?_|(refine CL ?_ ?_ ?_;rotate_left)|refine A0 ?_ ?_|refine A1 ?_ ?_|refine Hb ?_|refine Kk ?_ ?_|refine Js ?_|refine HU ?_ ?_|exact ER|refine IP ?_|refine Ae ?_|refine Fe.go (by first|exact AO.q|exact (U.decls).a|exact (TN U.exp).a) ?_ ?_|refine RW ?_|refine R7 ?_|refine R6 ?_|refine Ac [(0,true),(1,true),(2,false),(3,false)] [] GE ?_|refine Ac [(0,true),(1,true),(2,true),(4,true),(3,false),(5,false),(6,true),(7,false),(8,false)] [1] GE ?_|with_reducible refine WF ?_)<;>intros)
 all_goals conv=>whnf
 all_goals exact BE hc.y h
end
theorem Tp {l:List Nd}:Rd.A2 (Fs stmt l):=Rd.A2.seq (Ko Do)
theorem Ok {l:List Nd} {x:Nd} (h:l[i.toNat]? =some x) (U:0<=i) (k:K (Az x)):0<=i/\∃e,(l.map Az)[i.toNat]? =some e/\K e:=⟨U,Az x,by rw [List.getElem?_map,h];rfl,k⟩
section
variable {st0 st:St} {b d:Nat} {s:Af} {rows:List (AB×List Nd)} {K:Ay->St->Prop} {L:EP}
attribute [local irreducible] Go.Aw.Ag
theorem JM (hs:AO enc 360 (λb=>[pv b d]) stmt) {E:Er->Af->Prop} (hc:Cx st0 b s st rows) (h:Rd.wp (Fs stmt []) s Q E)
 (k:∀l' U s' st',l'.length<=400000002->mu s'<mu s->Cx st0 b s' st' ((U,l')::rows)->Q l' s'->K (.ret (.slice 6 (l'.map Az) U)) st') (kb:∀e s' st',Cy st0 b s' st' rows->E e s'->K (.BU (fault e.1)) st'):PC 293 [pv b d,.slice 6 [] .full] st K:=
 lG.go (l:=[]) (own:=.full) (Ub hs) (Nat.le_of_ble_eq_true rfl) (hc.push _) h (λl' U s' st' hr hm hc' q=>k l' U s' st' (by have:=QQ hr;have:=hc.mu;simp only [List.length_nil] at *;omega) (Tp _ _ _ hr) hc' q) kb
theorem fy (hL:Ki d L) {exp:Rd Nd} (he:AO enc 292 (λb=>[pv b d]) exp) (hs:AO enc 360 (λb=>[pv b d]) stmt):AO enc 218 (λb=>[pv b d,.str m]) (aD L exp stmt m):=by
 refine ⟨λ{st0 b s st rows K} hc h=>?_⟩
 simp only [aD,fx,Rd.Ah,Rd.Ax,Rd.wp_seq,Rd.wp_ret] at h
 have hmu:=hc.mu
 refine pB Tryz.func218 ?_
 repeat' ((conv=>whnf);first|exact CK|(refine AZ ?_;intros)|(refine CL ?_ ?_ ?_;rotate_left)|(refine A0 ?_ ?_<;>intro e h)|(refine A1 ?_ ?_<;>intro _)|refine SR (λ_=>?_) ?_|(refine Hb ?_;intro U hc)|(refine Kk ?_ ?_<;>intro U hc e h)|(refine Js ?_;intro s1 U hz hm hc h)|(refine HU ?_ ?_<;>(first|intro n s1 U hr hm hc h|intro e s1 U hc h))|(refine bT ?_;intro e s1 U hc h)|exact ER|refine IP ?_|(refine J3 ?_;intro own1 U hc)|refine BP (λ_=>?_)|refine Ae (λe1=>?_)|refine AO.go he hc h (λn s1 U hr hm hc h=>?_) (λe s1 U hc h=>?_)|refine Cx.mH (l:=[]) (hc.push []) (Nat.le_of_ble_eq_true rfl) (λown1 U hc=>?_)|refine Ac [(0,true),(1,true),(2,true),(4,true),(3,false),(5,false),(6,true),(7,false),(8,true)] [] GE ?_|refine Ac [(0,true),(1,true),(2,true),(4,true),(3,false),(5,false),(6,true),(7,false),(8,true),(9,false),(10,true)] [] GE ?_|with_reducible refine WF ?_)
 .refine Cd (λl own=>[(5,.slice 6 (l.map Az) own)]) (λ_ _=>[]) [1,2,4] [0,1] (λl own=>(own,l)::rows) (λl=>l.length) _ hc h RK Yl ?_
  intro l s1 U own1 hc h hl hm1
  have hl2:l.length+1<=1000000000:=AC
  simp only [RQ,O1,Rd.Ah,Rd.Ax,Rd.wp_seq,Rd.wp_ret,Rd.Bk] at h
  clear hmu
  have hmu:=hc.mu
  by_cases hn:l=[]
  .subst hn
   rw [if_pos (show ((([]:List Nd).length:Int)==0)=true from rfl)] at h
   repeat' ((conv=>whnf);(first|exact CK|refine AZ ?_|(refine CL ?_ ?_ ?_;rotate_left)|refine A0 ?_ ?_|refine A1 ?_ ?_|refine SR ?_ ?_|refine Hb ?_|refine Kk ?_ ?_|refine Js ?_|refine HU ?_ ?_|refine bT ?_|exact ER|refine IP ?_|refine J3 ?_|refine BP ?_|refine Ae ?_|refine JM hs ‹_› ‹_› ?_ ?_|refine Fe.go (by first|exact AO.q|exact (hL.decls).a) ?_ ?_|exact absurd rfl ‹_›|refine Ok hx AC ?_|refine Cx.Ee ‹_› So ?_|refine Cx.Ee (x:=Ar 30 _) (Cx.drop ‹_›) hl2 ?_|refine Ac [(0,true),(1,true),(2,true),(4,true),(3,false),(5,false),(6,true),(7,false),(8,true)] [] GE ?_|refine Ac [(0,true),(1,true),(2,true),(4,true),(3,false),(5,false),(6,true),(7,false),(8,true),(9,false),(10,true)] [] GE ?_|with_reducible refine WF ?_)<;>intros)
   all_goals conv=>whnf
  .obtain ⟨x,hx⟩:∃x,l[((0:Int)).toNat]? =some x:=by
    cases l with
    |nil=>exact absurd rfl hn
    |cons x l=>exact ⟨x,rfl⟩
   have hz:((l.length:Int)==0)=false:=beq_eq_false_iff_ne.2 λe=>hn (List.length_eq_zero_iff.1 AC)
   have hd:l.headD FN=x:=by
    cases l with
    |nil=>exact absurd rfl hn
    |cons y l=>cases hx;rfl
   rw [if_neg (by rw [hz];decide),hd] at h
   repeat' ((conv=>whnf);(first|exact CK|refine AZ ?_|(refine CL ?_ ?_ ?_;rotate_left)|refine A0 ?_ ?_|refine A1 ?_ ?_|refine SR ?_ ?_|refine Hb ?_|refine Kk ?_ ?_|refine Js ?_|refine HU ?_ ?_|refine bT ?_|exact ER|refine IP ?_|refine J3 ?_|refine BP ?_|refine Ae ?_|refine JM hs ‹_› ‹_› ?_ ?_|refine Fe.go (by first|exact AO.q|exact (hL.decls).a) ?_ ?_|exact absurd rfl ‹_›|refine Ok hx AC ?_|refine Cx.Ee ‹_› So ?_|refine Cx.Ee (x:=Ar 30 _) (Cx.drop ‹_›) hl2 ?_|refine Ac [(0,true),(1,true),(2,true),(4,true),(3,false),(5,false),(6,true),(7,false),(8,true)] [] GE ?_|refine Ac [(0,true),(1,true),(2,true),(4,true),(3,false),(5,false),(6,true),(7,false),(8,true),(9,false),(10,true)] [] GE ?_|with_reducible refine WF ?_)<;>intros)
   all_goals conv=>whnf
 .refine Cd (λl own=>[(5,.slice 6 (l.map Az) own)]) (λ_ _=>[]) [1,2,4] [0,1] (λl own=>(own,l)::rows) (λl=>l.length) .full (hc.push []) h RK Yl ?_
  intro l s1 U own1 hc h hl hm1
  have hl2:l.length+1<=1000000000:=AC
  simp only [RQ,O1,Rd.Ah,Rd.Ax,Rd.wp_seq,Rd.wp_ret,Rd.Bk] at h
  clear hmu
  have hmu:=hc.mu
  by_cases hn:l=[]
  .subst hn
   rw [if_pos (show ((([]:List Nd).length:Int)==0)=true from rfl)] at h
   repeat' ((conv=>whnf);(first|exact CK|refine AZ ?_|(refine CL ?_ ?_ ?_;rotate_left)|refine A0 ?_ ?_|refine A1 ?_ ?_|refine SR ?_ ?_|refine Hb ?_|refine Kk ?_ ?_|refine Js ?_|refine HU ?_ ?_|refine bT ?_|exact ER|refine IP ?_|refine J3 ?_|refine BP ?_|refine Ae ?_|refine JM hs ‹_› ‹_› ?_ ?_|refine Fe.go (by first|exact AO.q|exact (hL.decls).a) ?_ ?_|exact absurd rfl ‹_›|refine Ok hx AC ?_|refine Cx.Ee ‹_› So ?_|refine Cx.Ee (x:=Ar 30 _) (Cx.drop ‹_›) hl2 ?_|refine Ac [(0,true),(1,true),(2,true),(4,true),(3,false),(5,false),(6,true),(7,false),(8,true)] [] GE ?_|refine Ac [(0,true),(1,true),(2,true),(4,true),(3,false),(5,false),(6,true),(7,false),(8,true),(9,false),(10,true)] [] GE ?_|with_reducible refine WF ?_)<;>intros)
   all_goals conv=>whnf
  .obtain ⟨x,hx⟩:∃x,l[((0:Int)).toNat]? =some x:=by
    cases l with
    |nil=>exact absurd rfl hn
    |cons x l=>exact ⟨x,rfl⟩
   have hz:((l.length:Int)==0)=false:=beq_eq_false_iff_ne.2 λe=>hn (List.length_eq_zero_iff.1 AC)
   have hd:l.headD FN=x:=by
    cases l with
    |nil=>exact absurd rfl hn
    |cons y l=>cases hx;rfl
   rw [if_neg (by rw [hz];decide),hd] at h
   repeat' ((conv=>whnf);(first|exact CK|refine AZ ?_|(refine CL ?_ ?_ ?_;rotate_left)|refine A0 ?_ ?_|refine A1 ?_ ?_|refine SR ?_ ?_|refine Hb ?_|refine Kk ?_ ?_|refine Js ?_|refine HU ?_ ?_|refine bT ?_|exact ER|refine IP ?_|refine J3 ?_|refine BP ?_|refine Ae ?_|refine JM hs ‹_› ‹_› ?_ ?_|refine Fe.go (by first|exact AO.q|exact (hL.decls).a) ?_ ?_|exact absurd rfl ‹_›|refine Ok hx AC ?_|refine Cx.Ee ‹_› So ?_|refine Cx.Ee (x:=Ar 30 _) (Cx.drop ‹_›) hl2 ?_|refine Ac [(0,true),(1,true),(2,true),(4,true),(3,false),(5,false),(6,true),(7,false),(8,true)] [] GE ?_|refine Ac [(0,true),(1,true),(2,true),(4,true),(3,false),(5,false),(6,true),(7,false),(8,true),(9,false),(10,true)] [] GE ?_|with_reducible refine WF ?_)<;>intros)
   all_goals conv=>whnf
end
mutual
def F9:Nd->List Tk
 | .mk k f t l c ks=>if k=1 then [⟨f,t,l,c⟩] else B3 ks
def B3:List Nd->List Tk
 |[]=>[]
 |n::r=>F9 n++B3 r
end
theorem EA:∀{a b:List Nd},B3 (a++b)=B3 a++B3 b
 |[],b=>rfl
 |n::r,b=>by rw [List.cons_append,B3,B3,EA,List.append_assoc]
theorem Lj (t:Tk):F9 (Bp t)=[t]:=rfl
theorem H9 {l:List Nd} (h:¬k=1):F9 (Ar k l)=B3 l:=by unfold Ar;rw [F9,if_neg h]
theorem CU:B3 [n]=F9 n:=by rw [B3,B3,List.append_nil]
inductive Path:Af->List Tk->Af->Prop where
 |nil (s:Af):Path s [] s
 |cons {s:Af} {l:List Tk} {t:Af}:(Ab s).2.2=0->mu (Ab s).2.1<mu s->Path (Ab s).2.1 l t->Path s ((Ab s).1::l) t
theorem Path.trans {s t u:Af} {l m:List Tk} (h:Path s l t) (k:Path t m u):Path s (l++m) u:=by
 induction h with
 |nil s=>exact k
 |cons U h2 _ ih=>exact .cons U h2 (ih k)
theorem Path.one {s:Af} (U:(Ab s).2.2=0) (h2:mu (Ab s).2.1<mu s):Path s [(Ab s).1] (Ab s).2.1:=.cons U h2 (.nil _)
theorem Path.is {s:Af} (h:Ba s k x=true) (U:k≠0) (h1:k≠21):Path s [(Ab s).1] (Ab s).2.1:=.one (FX h U) (DM h U h1)
variable {A:Af->Rs}
theorem fF (l:List Nd) (s:Af):∀q s',GO A l s=.inr (q,s')->∃r,q=l++r:=by
 fun_induction GO A l s with
 |case1 l s U e1 h2=>simp_all
 |case2 l s U p h2 h3 ih=>grind
 |case3 l s U p h2 h3=>simp_all
 |case4 l s U=>simp_all
section
variable {st:St} {R:Ay->St->Prop}
attribute [local irreducible] Go.Aw.Ag
theorem Sz {a b:List Nd}:C6 (a++b)=C6 a+C6 b:=by
 induction a with
 |nil=>simp [C6]
 |cons x r U=>rw [List.cons_append,C6,C6,U];omega
end
def hZ (k:Int):Nat:=if k=1 then 3 else if k=30 then 2 else 1
def Nu:List Nd->Nat
 |[]=>0
 |n::r=>hZ n.kind+Nu r
theorem kK (k:Int):1<=hZ k:=by
 unfold hZ
 grind
theorem Ir:∀{a b:List Nd},Nu (a++b)=Nu a+Nu b
 |[],b=>by rw [List.nil_append,Nu,Nat.zero_add]
 |n::r,b=>by rw [List.cons_append,Nu,Nu,Ir];omega
theorem N5:∀{l:List Nd},l.length<=Nu l
 |[]=>Nat.le_refl _
 |n::r=>by have:=N5 (l:=r);have:=kK n.kind;rw [Nu,List.length_cons];omega
def F1 (t:Tk):Bool:=t.kind==18||t.kind==19||t.kind==20||(t.kind==15&&(t.text==[123]||t.text==[125]||t.text==[59]))
inductive A4:List Nd->Af->Af->Prop where
 |nil (s:Af):A4 [] s s
 |app {l m:List Nd} {s s1 s2:Af}:A4 l s s1->A4 m s1 s2->A4 (l++m) s s2
 |tok {s:Af}:(Ab s).2.2=0->(Ab s).1.kind<18->(Ab s).1.kind≠0->A4 [Bp (Ab s).1] s (Ab s).2.1
 |skip {s:Af}:(Ab s).2.2=0->F1 (Ab s).1=true->A4 [] s (Ab s).2.1
 |close {s:Af}:(ED s).2=true->A4 [] s (ED s).1
 |node {k:Int} {l:List Nd} {s s':Af}:A4 l s s'->k≠1->1+hZ k<=Nu l->A4 [Ar k l] s s'
 |block {f:Bool} {l:List Nd} {s s':Af}:(Ab s).2.2=0->F1 (Ab s).1=true->A4 l (Ab s).2.1 s'->A4 [Eg f l] s s'
theorem NO (h:F1 t=true):t.kind≠0/\t.kind≠21:=by
 unfold F1 at h
 grind
theorem A4.size {l:List Nd} {s s':Af} (h:A4 l s s'):C6 l+Nu l+4*mu s'<=4*mu s:=by
 induction h with
 |nil s=>simp only [C6,Nu];omega
 |app _ _ U h2=>rw [Sz,Ir];omega
 |tok U h2 h3=>
  rename_i s
  have:=(DZ U).2 AC
  have e:C6 [Bp (Ab s).1]+Nu [Bp (Ab s).1]=4:=rfl
  omega
 |skip U h2=>have:=(DZ U).1;simp only [C6,Nu];omega
 |close U=>have:=Ma U;simp only [C6,Nu];omega
 |node U h2 h3 ih=>
  rename_i k l s s'
  have e:C6 [Ar k l]+Nu [Ar k l]=(1+C6 l+0)+(hZ k+0):=by simp only [Ar,C6,Nd.size,Nu];rfl
  omega
 |block U h2 h3 ih=>
  rename_i f l s s'
  have:=(DZ U).2 (NO h2).2
  have e:C6 [Eg f l]+Nu [Eg f l]=(1+C6 l+0)+(1+0):=by simp only [Eg,C6,Nd.size,Nu];rfl
  omega
theorem A4.pG {s:Af} (h:A4 [n] s s'):n.size+4*mu s'<=4*mu s:=by
 have:=h.size
 simp only [C6] at this
 omega
theorem A4.two {l:List Nd} {s:Af} (h:A4 l s s') (hk:k≠1) (U:k≠30) (hl:2<=l.length):A4 [Ar k l] s s':=
 .node h hk (by have:=N5 (l:=l);unfold hZ;grind)
theorem A4.is {s:Af} (h:Ba s k x=true) (U:k≠0) (h1:k<18):A4 [Bp (Ab s).1] s (Ab s).2.1:=by
 have e:(Ab s).1.kind=k:=by
  unfold Ba at h
  simp only [Bool.and_eq_true,beq_iff_eq] at h
  exact h.1
 exact .tok (FX h U) AC AC
theorem A4.cons {l:List Nd} {s s1 s2:Af} (h:A4 [n] s s1) (k:A4 l s1 s2):A4 (n::l) s s2:=.app h k
theorem A4.snoc {l:List Nd} {s s1 s2:Af} (h:A4 l s s1) (k:A4 [n] s1 s2):A4 (l++[n]) s s2:=.app h k
theorem A4.one {l:List Nd} {s:Af} (h:A4 l s s') (hk:k≠1) (U:k≠30) (hl:1<=l.length):A4 [T5 k l] s s':=by
 unfold T5
 split
 .match l,‹l.length=1› with
  |[x],_=>exact h
 .exact h.two hk U AC
def C7 (A:Af->Rs):Prop:=∀s n s',A s=.inr (n,s')->A4 [n] s s'
variable {A:Af->Rs}
theorem aR (h:DF t=true):t.kind≠0/\t.kind<18:=by
 unfold DF at h
 grind
theorem RA {s:Af} (hs:DF (Ab s).1=true) (h:CY s=.inr (n,s')):A4 [n] s s':=by
 have U:=aR hs
 unfold CY at h
 split at h
 .rename_i e;cases h;exact .tok e U.2 U.1
 grind
theorem iS {s:Af} (U:k≠0) (h1:k<18) (h:IE s k x=.inr (n,s')):A4 [n] s s':=by
 unfold IE at h
 split at h
 .rename_i e
  rw [G7 e U] at h
  cases h
  exact .is e U h1
 .cases h
theorem OD {s:Af} {l:List Nd} {s0:Af} (hk:k≠1) (U:k≠30) (hl:1<=l.length) (h0:A4 l s0 s) (h:IH k l s x=.inr (n,s')):A4 [n] s0 s':=by
 unfold IH at h
 split at h
 .cases h
 .rename_i p hp
  cases h
  exact (h0.snoc (iS Do Do hp)).two hk U ke
theorem iR (hA:C7 A) (l:List Nd) (s:Af):∀s0 q s',A4 l s0 s->GO A l s=.inr (q,s')->A4 q s0 s':=by
 fun_induction GO A l s with
 |case1 l s U e1 h2=>simp_all
 |case2 l s U p h2 h3 ih=>intro s0 q s' h0 h;exact ih s0 q s' (h0.snoc (hA s p.1 p.2 h2)) h
 |case3 l s U p h2 h3=>simp_all
 |case4 l s U=>simp_all
theorem Vx (U:C7 A):C7 (Hs A):=λs n s' h=>by
 unfold Hs at h
 split at h
 .cases h
 .rename_i p hp
  have h1:=U s p.1 p.2 hp
  split at h
  .cases h
  .rename_i q hq
   have h2:=iR U _ _ _ _ _ h1 hq
   obtain ⟨r,hr⟩:=fF _ _ _ _ hq
   split at h
   .simp_all
   .rename_i hl
    cases h
    exact h2.two Do Do (by grind)
theorem iP (hA:C7 A) (l:List Nd) (s:Af):∀s0 q s',A4 l s0 s->Hw A l s=.inr (q,s')->A4 q s0 s'/\∃r,q=l++r:=by
 fun_induction Hw A l s with
 |case1 l s U e1 h2=>simp_all
 |case2 l s U p h2 h3 ih=>
  intro s0 q s' h0 h
  obtain ⟨k1,r,k2⟩:=ih s0 q s' (.app h0 (.cons (.is U Do Do) (Vx hA _ p.1 p.2 h2))) h
  simp_all
 |case3 l s U p h2 h3=>simp_all
 |case4 l s U=>simp_all
theorem Qu (hA:C7 A) {U:Nd} {s0 s:Af} (h0:A4 [n] s0 s) (h:Ey A n s=.inr (U,s')):A4 [U] s0 s':=by
 unfold Ey at h
 split at h
 .cases h
 .rename_i q hq
  obtain ⟨k1,r,k3⟩:=iP hA _ _ _ _ _ h0 hq
  split at h
  .simp_all
  .rename_i hl
   cases h
   exact k1.two Do Do (by grind)
theorem Td (U:C7 A):C7 (Fc A):=λs n s' h=>by
 unfold Fc at h
 split at h
 .cases h
 .rename_i p hp
  exact Qu U (Vx U _ p.1 p.2 hp) h
theorem iQ (U:C7 A):C7 (G0 A):=λs n s' h=>by
 unfold G0 at h
 split at h
 .cases h
 .rename_i p hp
  have h1:=Vx U _ p.1 p.2 hp
  split at h
  .rename_i hi
   split at h
   .cases h
   .rename_i q hq
    cases h
    exact (h1.cons (.cons (.is hi Do Do) (Td U _ q.1 q.2 hq))).two Do Do (Nat.le_of_ble_eq_true rfl)
  .exact Qu U h1 h
theorem Zx (hA:C7 A) (l:List Nd) (s:Af):∀s0 q s',A4 l s0 s->1<=l.length->C3 A l s=.inr (q,s')->A4 q s0 s'/\1<=q.length:=by
 fun_induction C3 A l s with
 |case1 l s U e1 h2=>simp_all
 |case2 l s U p h2 h3 ih=>
  intro s0 q s' h0 hl h
  exact ih s0 q s' (.app h0 (.cons (.is U Do Do) (hA _ p.1 p.2 h2))) ke h
 |case3 l s U p h2 h3=>simp_all
 |case4 l s U=>grind
theorem cU (l:List Nd) (s:Af):∀s0,A4 l s0 s->1<=l.length->A4 (DJ l s).1 s0 (DJ l s).2/\1<=(DJ l s).1.length:=by
 fun_induction DJ l s with
 |case1 l s U h2 ih=>intro s0 h0 hl;exact ih s0 (h0.snoc (.is U Do Do)) ke
 |case2 l s U h2=>simp_all
 |case3 l s U=>simp_all
theorem cV (hA:C7 A) {s:Af} (hs:DF (Ab s).1=true) (h:Hr A s=.inr (n,s')):A4 [n] s s':=by
 unfold Hr at h
 split at h
 .cases h
 .rename_i p hp
  have U:=RA hs (n:=p.1) (s':=p.2) hp
  split at h
  .rename_i hi
   exact OD Do Do (Nat.le_of_ble_eq_true rfl) (U.cons (.is hi Do Do)) h
  split at h
  .exact OD Do Do (Nat.le_of_ble_eq_true rfl) U h
  split at h
  .obtain ⟨k1,k2⟩:=cU [p.1] p.2 s U (Nat.le_of_ble_eq_true rfl)
   exact OD Do Do k2 k1 h
  split at h
  .cases h
  .rename_i q hq
   have h2:=hA _ q.1 q.2 hq
   split at h
   .cases h
   .rename_i r hr
    obtain ⟨k1,k2⟩:=Zx hA _ _ _ _ _ (U.cons h2) (Nat.le_of_ble_eq_true rfl) hr
    exact OD AC AC k2 k1 h
theorem Zw (hA:C7 A) {s:Af} (hs:DF (Ab s).1=true) (h:FH A s=.inr (n,s')):A4 [n] s s':=by
 unfold FH at h
 split at h
 .cases h
 .rename_i p hp
  have U:=RA hs (n:=p.1) (s':=p.2) hp
  split at h
  .rename_i hi
   cases h
   exact (U.cons (.is hi Do Do)).two Do Do (Nat.le_of_ble_eq_true rfl)
  split at h
  .cases h
  .rename_i q hq
   exact OD Do Do (Nat.le_of_ble_eq_true rfl) (U.cons (hA _ q.1 q.2 hq)) h
theorem XT (hA:C7 A):C7 (DD A):=λs n s' h=>by
 unfold DD at h
 split at h
 .rename_i U
  split at h
  .split at h
   .exact cV hA U h
   .exact Zw hA U h
  .exact RA U h
 .cases h
theorem XU:∀d,C7 (Dz d)
 |0=>λs n s' h=>by cases h
 |d+1=>Td (XT (XU d))
namespace Rd
variable {α β γ σ:Type}
def Ap (a b:Rd α):Prop:=∀s,(∃e t,a.run s=.inl (e,t)/\e.1=2)\/b.run s=a.run s
theorem Ap.trans {a b c:Rd α} (h:Ap a b) (k:Ap b c):Ap a c:=λs=>by
 rcases h s with h|h
 .exact .inl h
 .rcases k s with ⟨e,t,k,U⟩|k
  .exact .inl ⟨e,t,h ▸ k,U⟩
  .exact .inr (k.trans h)
theorem Ap.seq {m m':Rd α} {k U:α->Rd β} (h:Ap m m') (hk:∀v,Ap (k v) (U v)):Ap (seq m k) (seq m' U):=λs=>by
 unfold Rd.seq
 dsimp only
 rcases h s with ⟨e,t,h,he⟩|h
 .left;rw [h];exact ⟨e,t,rfl,he⟩
 .rw [h]
  cases m.run s with
  |inl e=>exact .inr rfl
  |inr p=>exact hk p.1 p.2
theorem Ap.look {f U:Af->Rd α} (h:∀s,Ap (f s) (U s)):Ap (look f) (look U):=λs=>h s s
theorem Ap.deep {b:Rd α}:Ap (fail GW) b:=λs=>.inl ⟨GW,s,rfl,rfl⟩
theorem Ap.loop {body U:σ->Rd (Sum σ β)} (h:∀x,Ap (body x) (U x)) (x:σ):Ap (loop body x) (loop U x):=λs=>by
 show (∃e t,iter body x s=.inl (e,t)/\e.1=2)\/iter U x s=iter body x s
 fun_induction iter body x s with
 |case1 x s e h1=>
  rcases h x s with ⟨e',t,h2,he⟩|h2
  .rw [h1] at h2;cases h2;exact .inl ⟨_,_,rfl,he⟩
  .right;rw [iter,h2,h1]
 |case2 x s y s1 h1=>
  rcases h x s with ⟨e',t,h2,he⟩|h2
  .rw [h1] at h2;cases h2
  .right;rw [iter,h2,h1]
 |case3 x s x' s1 h1 hlt ih=>
  rcases h x s with ⟨e',t,h2,he⟩|h2
  .rw [h1] at h2;cases h2
  .have e:iter U x s=iter U x' s1:=by
    rw [iter,h2,h1];dsimp only;rw [if_pos hlt]
   rw [e];exact ih
 |case4 x s x' s1 h1 hlt=>exact .inl ⟨_,_,rfl,rfl⟩
end Rd
open Rd (Ap)
structure qp (L L':EP):Prop where
 atom:Ap L.atom L'.atom
 exp:Ap L.exp L'.exp
 ops:Ap L.ops L'.ops
 decls:Ap L.decls L'.decls
 stmts:Ap L.stmts L'.stmts
 alts:Ap L.alts L'.alts
 Gn:∀o,Ap (L.Gn o) (L'.Gn o)
 list:∀o,Ap (L.list o) (L'.list o)
def EO:Er->Af->Prop:=λ_ _=>True
def Dv (A:Rd Nd):Prop:=∀s,Rd.wp A s (λn s'=>A4 [n] s s') EO
theorem Dv.at {A:Rd Nd} (h:Dv A) {s s':Af} {n:Nd} (e:A.run s=.inr (n,s')):A4 [n] s s':=by
 have:=h s
 unfold Rd.wp at this
 simp_all
theorem Dv.of {A:Rd Nd} (h:∀s n s',A.run s=.inr (n,s')->A4 [n] s s'):Dv A:=λs=>Rd.Y2 (λn s' e=>h s n s' e) (λ_ _ _=>trivial)
theorem Dv.size {A:Rd Nd} (h:Dv A) {s s':Af} {n:Nd} (e:A.run s=.inr (n,s')):n.size+4*mu s'<=4*mu s:=(h.at e).pG
theorem BF {c:Prop} [Decidable c] {Q:Prop} (U:c->P) (h2:¬c->Q):if c then P else Q:=ke
structure Real (s:Af):Prop where
 ok:(Ab s).2.2=0
 lt:(Ab s).1.kind<18
 ne:(Ab s).1.kind≠0
section
variable {A B C:Rd Nd} {s s0 s1 s2 s':Af} {Q:Nd->Af->Prop} {L:EP}
theorem Bv (h:Ba s k x=true) (U:k≠0) (h1:k<18):Real s:=by
 have e:(Ab s).1.kind=k:=by
  unfold Ba at h
  simp only [Bool.and_eq_true,beq_iff_eq] at h
  exact h.1
 exact ⟨FX h U,AC,AC⟩
theorem LD (h:(Ab s).1.kind≠0) (U:(Ab s).1.kind<18):Real s:=⟨F8 h,U,h⟩
theorem Dp (h:((Ab s).1.kind==k)=true) (U:k≠0) (h1:k<18):Real s:=by
 rw [beq_iff_eq] at h;exact LD AC AC
theorem D1 (h:ES (Ab s).1=true):Real s:=by
 unfold ES at h
 simp only [Bool.or_eq_true,Bool.and_eq_true,beq_iff_eq] at h
 exact LD AC AC
theorem D3 (h:MA (Ab s).1=true):Real s:=by
 unfold MA at h
 simp only [Bool.or_eq_true,Bool.and_eq_true,beq_iff_eq] at h
 exact LD AC AC
theorem D2 (h:Kr (Ab s).1=true):Real s:=by
 unfold Kr at h
 simp only [Bool.or_eq_true,Bool.and_eq_true,beq_iff_eq] at h
 exact LD AC AC
theorem QA (h:Kd t=true):F1 t=true:=by
 unfold Kd at h
 unfold F1
 grind
theorem Hu (U:Dv A) (k:∀n s1,A4 [n] s s1->Q n s1):Rd.wp A s Q EO:=Rd.wp_mono (U s) (λn s1 _ h=>k n s1 h) (λ_ _ _ _=>trivial)
theorem Cu (U:Real s) (k:A4 [Bp (Ab s).1] s (Ab s).2.1->Q (Bp (Ab s).1) (Ab s).2.1):Rd.wp AH s Q EO:=by
 unfold Rd.wp
 rw [DS U.ok]
 exact k (.tok U.ok U.lt U.ne)
theorem P2 (U:k≠0) (h1:k<18) (kk:∀n s1,A4 [n] s s1->Q n s1):Rd.wp (Bs k x) s Q EO:=by
 unfold Bs
 rw [Rd.Ah,Rd.Ax]
 exact BF (λe=>Cu (Bv e U h1) (kk _ _)) (λ_=>trivial)
theorem Zy (U:(ks.all λk=>decide (k≠0)&&decide (k<18))=true) (kk:∀n s1,A4 [n] s s1->Q n s1):Rd.wp (CA ks) s Q EO:=by
 unfold CA
 rw [Rd.Ah,Rd.Ax]
 refine BF (λe=>?_) (λ_=>trivial)
 have:=List.all_eq_true.1 U _ (List.contains_iff_mem.1 e)
 simp only [Bool.and_eq_true,decide_eq_true_eq] at this
 exact Cu (LD this.1 this.2) (kk _ _)
theorem p4 {Q:Unit->Af->Prop} (hi:F1 (Ab s).1=true) (k:A4 [] s (Ab s).2.1->Q () (Ab s).2.1):Rd.wp Jl s Q EO:=by
 have e:=F8 (NO hi).1
 unfold Jl
 rw [Rd.wp_seq]
 unfold Rd.wp
 rw [DS e]
 exact k (.skip e hi)
theorem EE {σ:Type} {body:σ->Rd (Sum σ β)} {P:σ->Af->Prop} {Q:β->Af->Prop} (hb:∀x s,P x s->Rd.wp (body x) s (λr s'=>match r with| .inl x'=>P x' s'| .inr y=>Q y s') EO) {x:σ} {s:Af} (h0:P x s):Rd.wp (Rd.loop body x) s Q EO:=by
 have:∀y s',(Rd.loop body x).run s=.inr (y,s')->Q y s':=by
  show ∀y s',Rd.iter body x s=.inr (y,s')->Q y s'
  fun_induction Rd.iter body x s with
  |case1 x s e h=>simp_all
  |case2 x s y s1 h=>
   intro y' s' h';cases h'
   have:=hb x s h0
   unfold Rd.wp at this
   simp_all
  |case3 x s x' s1 h U ih=>
   have:=hb x s h0
   unfold Rd.wp at this
   simp_all
  |case4 x s x' s1 h U=>simp_all
 exact Rd.Y2 this (λ_ _ _=>trivial)
theorem A4.dZ (h:A4 [Bp t] s s') (hk:k≠1) (U:k≠30):A4 [Ar k [Bp t]] s s':=.node h hk (by
 have:Nu [Bp t]=3:=rfl
 unfold hZ;simp_all)
theorem A4.gd {l:List Nd} (h:A4 l s s') (U:3<=l.length):A4 [Ar 30 l] s s':=.node h Do (by have:=N5 (l:=l);have:hZ 30=2:=rfl;omega)
theorem A4.GU {m:Nd} {l:List Nd} (h:A4 [n] s s1) (k:A4 (m::l) s1 s2):A4 (n::m::l) s s2:=.app h k
theorem A4.pass {l:List Nd} (h:A4 l s s1) (k:A4 [] s1 s2):A4 l s s2:=by
 have:=A4.app h k
 simp_all
theorem A4.pre {l:List Nd} (h:A4 [] s s1) (k:A4 l s1 s2):A4 l s s2:=A4.app h k
theorem B7 {l:List α} {a b:α}:2<=(l++[a]++[b]).length:=ke
structure KI (L:EP):Prop where
 atom:Dv L.atom
 exp:Dv L.exp
 ops:Dv L.ops
 decls:Dv L.decls
 stmts:Dv L.stmts
 alts:Dv L.alts
 Gn:∀o s,Rd.wp (L.Gn o) s (λn s'=>∀s0,A4 [o] s0 s->A4 [n] s0 s') EO
 list:∀o s,Rd.wp (L.list o) s (λn s'=>∀s0,A4 [o] s0 s->A4 [n] s0 s') EO
theorem qw {B:Nd->Rd Nd} (hB:∀o s,Rd.wp (B o) s (λn s'=>∀s0,A4 [o] s0 s->A4 [n] s0 s') EO) (U:A4 [o] s0 s) (k:∀n s1,A4 [n] s0 s1->Q n s1):Rd.wp (B o) s Q EO:=
 Rd.wp_mono (hB o s) (λn s1 _ h=>k n s1 (h s0 U)) (λ_ _ _ _=>trivial)
theorem RC:Dv HJ:=λs=>by
 simp only [HJ,Rd.Ah,Rd.Ax,Rd.wp_seq,Rd.wp_ret]
 repeat' (first
  |exact trivial
  |assumption
  |refine BF (λe=>?_) (λe=>?_)
  |refine Cu (Bv ‹_› Do Do) (λhn=>?_)
  |refine Cu (Dp ‹_› Do Do) (λhn=>?_)
  |refine Cu (D1 ‹_›) (λhn=>?_)
  |refine Cu (D3 ‹_›) (λhn=>?_)
  |refine Cu (D2 ‹_›) (λhn=>?_)
  |refine Cu ‹_› (λhn=>?_)
  |refine P2 Do Do (λn s1 hn=>?_)
  |refine Zy Do (λn s1 hn=>?_)
  |refine Hu ‹_› (λn s1 hn=>?_)
  |exact A4.dZ ‹_› Do Do
  |refine A4.two ?_ Do Do (by first|exact Nat.le_of_ble_eq_true rfl|exact B7|(simp only [List.length_append,List.length_cons,List.length_nil];omega))
  |apply A4.GU
  |apply A4.app)
theorem Mb {p:Nd->Bool} (U:Dv A):Dv (Dm A p):=λs=>by
 simp only [Dm,Rd.Ah,Rd.Ax,Rd.wp_seq,Rd.wp_ret,Rd.Gm]
 repeat' (first
  |exact trivial
  |assumption
  |refine BF (λe=>?_) (λe=>?_)
  |refine Cu (Bv ‹_› Do Do) (λhn=>?_)
  |refine Cu (Dp ‹_› Do Do) (λhn=>?_)
  |refine Cu (D1 ‹_›) (λhn=>?_)
  |refine Cu (D3 ‹_›) (λhn=>?_)
  |refine Cu (D2 ‹_›) (λhn=>?_)
  |refine Cu ‹_› (λhn=>?_)
  |refine P2 Do Do (λn s1 hn=>?_)
  |refine Zy Do (λn s1 hn=>?_)
  |refine Hu ‹_› (λn s1 hn=>?_)
  |refine A4.two ?_ Do Do (by first|exact Nat.le_of_ble_eq_true rfl|exact B7|(simp only [List.length_append,List.length_cons,List.length_nil];omega))
  |apply A4.GU
  |apply A4.app)
theorem cY {l:List Nd} {Q:List Nd->Af->Prop} (U:A4 l s0 s) (k:∀l s1,A4 l s0 s1->Q l s1):Rd.wp (V5 l) s Q EO:=by
 refine EE (P:=λl s=>A4 l s0 s) (λl s U=>?_) U
 simp only [V4,Rd.Ah,Rd.Ax,Rd.wp_seq,Rd.wp_ret]
 repeat' (first
  |exact trivial
  |assumption
  |refine BF (λe=>?_) (λe=>?_)
  |refine Cu (Bv ‹_› Do Do) (λhn=>?_)
  |refine Cu (Dp ‹_› Do Do) (λhn=>?_)
  |refine Cu (D1 ‹_›) (λhn=>?_)
  |refine Cu (D3 ‹_›) (λhn=>?_)
  |refine Cu (D2 ‹_›) (λhn=>?_)
  |refine Cu ‹_› (λhn=>?_)
  |refine P2 Do Do (λn s1 hn=>?_)
  |refine Zy Do (λn s1 hn=>?_)
  |refine Hu ‹_› (λn s1 hn=>?_)
  |exact A4.snoc U (A4.dZ ‹_› Do Do)
  |exact k _ _ U
  |refine A4.two ?_ Do Do (by first|exact Nat.le_of_ble_eq_true rfl|exact B7|(simp only [List.length_append,List.length_cons,List.length_nil];omega))
  |apply A4.GU
  |apply A4.app)
theorem c9 {Q:List Nd×Bool->Af->Prop} (hA:Dv A) (k:∀l b s1,1<=l.length->(b=true->2<=l.length/\Ba s1 15 [41]=true)->A4 l s s1->Q (l,b) s1):Rd.wp (Qx A b) s Q EO:=by
 refine EE (P:=λl s1=>A4 l s s1) (λl s1 h0=>?_) (A4.nil s)
 simp only [fD,Rd.Ah,Rd.Ax,Rd.wp_seq,Rd.wp_ret]
 refine cY h0 (λl s1 h0=>?_)
 have ho:=RC
 refine Hu hA (λn s2 hn=>?_)
 refine BF (λe=>?_) (λe=>k _ _ _ ke (λh=>by cases h) (h0.snoc hn))
 refine Hu ho (λo s3 U=>?_)
 exact BF (λ_=>BF (λe=>k _ _ _ (Nat.le_trans Do B7) (λ_=>⟨B7,e⟩) ((h0.snoc hn).snoc U)) λe=>(h0.snoc hn).snoc U) λe=>(h0.snoc hn).snoc U
theorem OI (hA:Dv A):Dv (aq A):=λs=>by
 simp only [aq,Rd.wp_seq,Rd.wp_ret]
 exact c9 hA λl b s1 U _ h=>h.one Do Do U
theorem Th (hA:Dv A) (U:A4 [n] s0 s) (k:∀n s1,A4 [n] s0 s1->Q n s1):Rd.wp (ME A n) s Q EO:=by
 simp only [ME,Rd.Ah,Rd.Ax,Rd.wp_seq,Rd.wp_ret]
 repeat' (first
  |exact trivial
  |assumption
  |refine BF (λe=>?_) (λe=>?_)
  |refine Cu (Bv ‹_› Do Do) (λhn=>?_)
  |refine Cu (Dp ‹_› Do Do) (λhn=>?_)
  |refine Cu (D1 ‹_›) (λhn=>?_)
  |refine Cu (D3 ‹_›) (λhn=>?_)
  |refine Cu (D2 ‹_›) (λhn=>?_)
  |refine Cu ‹_› (λhn=>?_)
  |refine P2 Do Do (λn s1 hn=>?_)
  |refine Zy Do (λn s1 hn=>?_)
  |refine Hu ‹_› (λn s1 hn=>?_)
  |refine k _ _ ?_
  |refine A4.two ?_ Do Do (by first|exact Nat.le_of_ble_eq_true rfl|exact B7|(simp only [List.length_append,List.length_cons,List.length_nil];omega))
  |apply A4.GU
  |apply A4.app)
theorem mT (U:Dv A) (hB:Dv B):Dv (dx A B):=λs=>by
 simp only [dx,Rd.wp_seq]
 exact Hu (OI U) λn s1 h=>Th hB h λn s1 h=>h
theorem Tf {a b:Nd} (hL:KI L) (U:A4 [a,b] s0 s) (k:∀n s1,A4 [n] s0 s1->Q n s1):Rd.wp (Mh L a b) s Q EO:=by
 have h1:=hL.exp
 simp only [Mh,Rd.wp_seq,Rd.wp_ret]
 repeat' (first
  |exact trivial
  |assumption
  |refine BF (λe=>?_) (λe=>?_)
  |refine Cu (Bv ‹_› Do Do) (λhn=>?_)
  |refine Cu (Dp ‹_› Do Do) (λhn=>?_)
  |refine Cu (D1 ‹_›) (λhn=>?_)
  |refine Cu (D3 ‹_›) (λhn=>?_)
  |refine Cu (D2 ‹_›) (λhn=>?_)
  |refine Cu ‹_› (λhn=>?_)
  |refine P2 Do Do (λn s1 hn=>?_)
  |refine Zy Do (λn s1 hn=>?_)
  |refine Hu ‹_› (λn s1 hn=>?_)
  |exact k _ _ (A4.two (l:=[a,b,_,_]) (A4.app U (A4.GU ‹_› ‹_›)) Do Do (Nat.le_of_ble_eq_true rfl))
  |refine A4.two ?_ Do Do (by first|exact Nat.le_of_ble_eq_true rfl|exact B7|(simp only [List.length_append,List.length_cons,List.length_nil];omega))
  |apply A4.GU
  |apply A4.app)
theorem ZB (hL:KI L) (hA:Dv A) (hr:Real s) (k:∀n s1,A4 [n] s s1->Q n s1):Rd.wp (Li L A) s Q EO:=by
 have h1:=hL.exp
 simp only [Li,Rd.wp_seq]
 refine Cu hr λU=>?_
 refine EE (P:=λl s1=>A4 l s s1) (λl s1 U=>?_) U
 .have h2:=Mb (p:=Ka) hA
  simp only [RX,NQ,Rd.Ah,Rd.Ax,Rd.wp_seq,Rd.wp_ret]
  repeat' (first
   |exact trivial
   |assumption
   |refine BF (λe=>?_) (λe=>?_)
   |refine Cu (Bv ‹_› Do Do) (λhn=>?_)
   |refine Cu (Dp ‹_› Do Do) (λhn=>?_)
   |refine Cu (D1 ‹_›) (λhn=>?_)
   |refine Cu (D3 ‹_›) (λhn=>?_)
   |refine Cu (D2 ‹_›) (λhn=>?_)
   |refine Cu ‹_› (λhn=>?_)
   |refine P2 Do Do (λn s1 hn=>?_)
   |refine Zy Do (λn s1 hn=>?_)
   |refine Hu ‹_› (λn s1 hn=>?_)
   |exact k _ _ (A4.two (A4.snoc (A4.snoc U ‹_›) ‹_›) Do Do B7)
   |refine A4.two ?_ Do Do (by first|exact Nat.le_of_ble_eq_true rfl|exact B7|(simp only [List.length_append,List.length_cons,List.length_nil];omega))
   |apply A4.GU
   |apply A4.app)
theorem iX {Q:Unit->Af->Prop} (k:∀s1,A4 [] s s1->Q () s1):Rd.wp (YN w) s Q EO:=by
 simp only [YN,Rd.Ah,Rd.Ax,Rd.wp_ret]
 exact BF (λe=>BF (λ_=>p4 (QA e) (k _)) λ_=>k _ (.nil _)) λ_=>k _ (.nil _)
theorem XZ {l:List Nd} {Q:List Nd->Af->Prop} (hL:KI L) (U:A4 l s0 s) (k:∀a e s1,A4 (l++[a]++[e]) s0 s1->Q (l++[a]++[e]) s1):Rd.wp (MZ L l w) s Q EO:=by
 have h1:=hL.exp
 simp only [MZ,Rd.wp_seq,Rd.wp_ret]
 refine iX λs1 hs=>?_
 have U:=U.pass hs
 repeat' (first
  |exact trivial
  |assumption
  |refine BF (λe=>?_) (λe=>?_)
  |refine Cu (Bv ‹_› Do Do) (λhn=>?_)
  |refine Cu (Dp ‹_› Do Do) (λhn=>?_)
  |refine Cu (D1 ‹_›) (λhn=>?_)
  |refine Cu (D3 ‹_›) (λhn=>?_)
  |refine Cu (D2 ‹_›) (λhn=>?_)
  |refine Cu ‹_› (λhn=>?_)
  |refine P2 Do Do (λn s1 hn=>?_)
  |refine Zy Do (λn s1 hn=>?_)
  |refine Hu ‹_› (λn s1 hn=>?_)
  |refine k _ _ _ ?_
  |refine A4.two ?_ Do Do (by first|exact Nat.le_of_ble_eq_true rfl|exact B7|(simp only [List.length_append,List.length_cons,List.length_nil];omega))
  |apply A4.GU
  |apply A4.app)
theorem Zz (U:KI L) (hr:Real s) (k:∀n s1,A4 [n] s s1->Q n s1):Rd.wp (KV L) s Q EO:=by
 have h1:=U.exp
 simp only [KV,Rd.wp_seq,Rd.wp_ret]
 refine Cu hr λh0=>?_
 refine Hu h1 λc s1 hc=>?_
 exact XZ U (h0.cons hc) λa e s2 h2=>XZ U h2 λa e s3 h3=>k _ _ (h3.two Do Do B7)
theorem iU (U:KI L) (hr:Real s) (k:∀n s1,A4 [n] s s1->Q n s1):Rd.wp (XL L) s Q EO:=by
 have h1:=U.exp
 have h2:=U.alts
 simp only [XL,Rd.wp_seq,Rd.wp_ret]
 refine Cu hr λh0=>?_
 repeat' (first
  |exact trivial
  |assumption
  |refine BF (λe=>?_) (λe=>?_)
  |refine Cu (Bv ‹_› Do Do) (λhn=>?_)
  |refine Cu (Dp ‹_› Do Do) (λhn=>?_)
  |refine Cu (D1 ‹_›) (λhn=>?_)
  |refine Cu (D3 ‹_›) (λhn=>?_)
  |refine Cu (D2 ‹_›) (λhn=>?_)
  |refine Cu ‹_› (λhn=>?_)
  |refine P2 Do Do (λn s1 hn=>?_)
  |refine Zy Do (λn s1 hn=>?_)
  |refine Hu ‹_› (λn s1 hn=>?_)
  |refine k _ _ ?_
  |refine A4.two ?_ Do Do (by first|exact Nat.le_of_ble_eq_true rfl|exact B7|(simp only [List.length_append,List.length_cons,List.length_nil];omega))
  |apply A4.GU
  |apply A4.app)
theorem dc (U:KI L) (hr:Real s) (k:∀n s1,A4 [n] s s1->Q n s1):Rd.wp (PO L) s Q EO:=by
 have h1:=U.stmts
 simp only [PO,Rd.wp_seq,Rd.wp_ret,Rd.Ax,Rd.DG]
 refine Cu hr λh0=>?_
 repeat' (first
  |exact trivial
  |assumption
  |refine BF (λe=>?_) (λe=>?_)
  |refine Cu (Bv ‹_› Do Do) (λhn=>?_)
  |refine Cu (Dp ‹_› Do Do) (λhn=>?_)
  |refine Cu (D1 ‹_›) (λhn=>?_)
  |refine Cu (D3 ‹_›) (λhn=>?_)
  |refine Cu (D2 ‹_›) (λhn=>?_)
  |refine Cu ‹_› (λhn=>?_)
  |refine P2 Do Do (λn s1 hn=>?_)
  |refine Zy Do (λn s1 hn=>?_)
  |refine Hu ‹_› (λn s1 hn=>?_)
  |refine k _ _ ?_
  |refine A4.two ?_ Do Do (by first|exact Nat.le_of_ble_eq_true rfl|exact B7|(simp only [List.length_append,List.length_cons,List.length_nil];omega))
  |apply A4.GU
  |apply A4.app)
theorem mU (U:KI L) (hr:Real s) (k:∀n s1,A4 [n] s s1->Q n s1):Rd.wp (jM L) s Q EO:=by
 have h1:=U.decls
 simp only [jM,Rd.wp_seq]
 refine Cu hr λh0=>?_
 exact Hu h1 λb s1 hb=>Tf U (h0.cons hb) k
theorem cW (hA:Dv A) (k:∀n s1,A4 [n] s s1->Q n s1):Rd.wp (L6 A) s Q EO:=by
 simp only [L6,Rd.wp_seq,Rd.wp_ret]
 refine Hu hA λn s1 hn=>?_
 refine EE (P:=λl s1=>A4 l s s1/\1<=l.length) (λl s1 U=>?_) ⟨hn,Nat.le_refl _⟩
 obtain ⟨U,hl⟩:=U
 simp only [Vk,Rd.Ah,Rd.Ax,Rd.wp_seq,Rd.wp_ret]
 exact BF (λ_=>Hu hA λn s1 hn=>⟨U.snoc hn,ke⟩) λ_=>k _ _ (U.one Do Do hl)
theorem Vy (hL:KI L) (hA:Dv A):Dv (Jh L A):=λs=>by
 simp only [Jh,Rd.Ah,Rd.Ax]
 have U:=cW (s:=s) (Q:=λn s'=>A4 [n] s s') hA λ_ _ h=>h
 refine BF (λe=>BF (λ_=>ZB hL hA (Dp e Do Do) λ_ _ h=>h) λ_=>U) λ_=>BF (λe=>?_) λ_=>U
 have hr:=Dp e Do Do
 exact BF (λ_=>mU hL hr λ_ _ h=>h) λ_=>BF (λ_=>Zz hL hr λ_ _ h=>h) λ_=>BF (λ_=>iU hL hr λ_ _ h=>h) λ_=>BF (λ_=>dc hL hr λ_ _ h=>h) λ_=>U
theorem XY (U:A4 [o] s0 s) (k:∀n s1,A4 [n] s0 s1->Q n s1):Rd.wp (Tz o) s Q EO:=by
 simp only [Tz,Rd.wp_seq,Rd.wp_ret]
 refine EE (P:=λl s1=>A4 l s0 s1/\1<=l.length) (λl s1 U=>?_) ⟨U,Nat.le_refl _⟩
 obtain ⟨U,hl⟩:=U
 simp only [Ro,Rd.Ah,Rd.Ax,Rd.wp_seq,Rd.wp_ret]
 exact BF (λe=>Cu (Bv e Do Do) λh=>⟨U.snoc h,ke⟩) λ_=>P2 Do Do λn s1 h=>k _ _ ((U.snoc h).two Do Do ke)
theorem ZE (U:KI L) (h0:A4 [o] s0 s) (k:∀n s1,A4 [n] s0 s1->Q n s1):Rd.wp (Pv L o) s Q EO:=by
 have h1:=U.ops
 have h2:=RC
 simp only [Pv,Rd.Ah,Rd.Ax,Rd.wp_seq,Rd.wp_ret]
 repeat' (first
  |exact trivial
  |assumption
  |refine BF (λe=>?_) (λe=>?_)
  |refine Cu (Bv ‹_› Do Do) (λhn=>?_)
  |refine Cu (Dp ‹_› Do Do) (λhn=>?_)
  |refine Cu (D1 ‹_›) (λhn=>?_)
  |refine Cu (D3 ‹_›) (λhn=>?_)
  |refine Cu (D2 ‹_›) (λhn=>?_)
  |refine Cu ‹_› (λhn=>?_)
  |refine P2 Do Do (λn s1 hn=>?_)
  |refine Zy Do (λn s1 hn=>?_)
  |refine Hu ‹_› (λn s1 hn=>?_)
  |exact qw U.Gn h0 k
  |refine k _ _ ?_
  |refine A4.two ?_ Do Do (by first|exact Nat.le_of_ble_eq_true rfl|exact B7|(simp only [List.length_append,List.length_cons,List.length_nil];omega))
  |apply A4.GU
  |apply A4.app)
theorem ZD (hL:KI L) (U:A4 [o] s0 s) (k:∀n s1,A4 [n] s0 s1->Q n s1):Rd.wp (Su L o) s Q EO:=by
 simp only [Su,Rd.Ah,Rd.Ax,Rd.wp_seq,Rd.wp_ret]
 have hc:=ZE (Q:=Q) hL U k
 refine BF (λe=>BF (λe2=>?_) λ_=>hc) λ_=>hc
 exact Cu (D3 e) λh1=>Cu (Bv e2 Do Do) λh2=>k _ _ ((U.cons (h1.cons h2)).two Do Do (Nat.le_of_ble_eq_true rfl))
theorem c8 (hL:KI L) (hr:Real s) (k:∀n s1,A4 [n] s s1->Q n s1):Rd.wp (Pw L) s Q EO:=by
 simp only [Pw,Rd.Ah,Rd.Ax,Rd.wp_seq]
 exact Cu hr λU=>BF (λ_=>XY U k) λ_=>BF (λ_=>XY U k) λ_=>ZD hL U k
theorem ZF (hL:KI L) (hr:Real s) (k:∀n s1,A4 [n] s s1->Q n s1):Rd.wp (LL L) s Q EO:=by
 simp only [LL,Rd.Ah,Rd.Ax,Rd.wp_seq,Rd.wp_ret]
 refine Cu hr λU=>?_
 repeat' (first
  |exact trivial
  |assumption
  |refine BF (λe=>?_) (λe=>?_)
  |refine Cu (Bv ‹_› Do Do) (λhn=>?_)
  |refine Cu (Dp ‹_› Do Do) (λhn=>?_)
  |refine Cu (D1 ‹_›) (λhn=>?_)
  |refine Cu (D3 ‹_›) (λhn=>?_)
  |refine Cu (D2 ‹_›) (λhn=>?_)
  |refine Cu ‹_› (λhn=>?_)
  |refine P2 Do Do (λn s1 hn=>?_)
  |refine Zy Do (λn s1 hn=>?_)
  |refine Hu ‹_› (λn s1 hn=>?_)
  |exact qw hL.list U k
  |refine k _ _ ?_
  |refine A4.two ?_ Do Do (by first|exact Nat.le_of_ble_eq_true rfl|exact B7|(simp only [List.length_append,List.length_cons,List.length_nil];omega))
  |apply A4.GU
  |apply A4.app)
theorem iT (U:KI L):Dv (Qp L):=λs=>by
 have h1:=U.atom
 simp only [Qp,Rd.Ah,Rd.Ax,Rd.wp_seq,Rd.wp_ret]
 refine BF (λe=>?_) λ_=>trivial
 have hr:=D1 e
 repeat' (first
  |exact trivial
  |assumption
  |refine BF (λe=>?_) (λe=>?_)
  |refine Cu (Bv ‹_› Do Do) (λhn=>?_)
  |refine Cu (Dp ‹_› Do Do) (λhn=>?_)
  |refine Cu (D1 ‹_›) (λhn=>?_)
  |refine Cu (D3 ‹_›) (λhn=>?_)
  |refine Cu (D2 ‹_›) (λhn=>?_)
  |refine Cu ‹_› (λhn=>?_)
  |refine P2 Do Do (λn s1 hn=>?_)
  |refine Zy Do (λn s1 hn=>?_)
  |refine Hu ‹_› (λn s1 hn=>?_)
  |exact c8 U hr λ_ _ h=>h
  |exact ZF U hr λ_ _ h=>h
  |exact A4.dZ ‹_› Do Do
  |refine A4.two ?_ Do Do (by first|exact Nat.le_of_ble_eq_true rfl|exact B7|(simp only [List.length_append,List.length_cons,List.length_nil];omega))
  |apply A4.GU
  |apply A4.app)
theorem ZC (hL:KI L) (hr:Real s) (U:A4 [n] s0 s) (k:∀n s1,A4 [n] s0 s1->Q n s1):Rd.wp (JN L n) s Q EO:=by
 have h1:=hL.exp
 simp only [JN,Rd.wp_seq,Rd.wp_ret]
 refine Cu hr λhb=>?_
 refine EE (P:=λl s1=>A4 l s0 s1/\1<=l.length) (λl s1 U=>?_) ⟨U.cons hb,Nat.le_of_ble_eq_true rfl⟩
 obtain ⟨U,hl⟩:=U
 have hend:∀{l:List Nd} {s:Af},A4 l s0 s->1<=l.length->Rd.wp (Bs 15 [125]) s (λc s'=>Q (Ar 12 (l++[c])) s') EO:=λU hl=>P2 Do Do λn s1 h=>k _ _ ((U.snoc h).two Do Do ke)
 simp only [Sq,RG,Rd.Ah,Rd.Ax,Rd.wp_seq,Rd.wp_ret]
 have hf:Rd.wp (CA [1,3]) s1 (λnm s'=>Rd.wp (Bs 10 [61]) s' (λq s'=>Rd.wp L.exp s' (λe s'=>if Ba s' 15 [44]=true then Rd.wp AH s' (λc s'=>A4 (l++[Ar 13 [nm,q,e]]++[c]) s0 s'/\1<=(l++[Ar 13 [nm,q,e]]++[c]).length) EO
  else Rd.wp (Bs 15 [125]) s' (λc s'=>Q (Ar 12 (l++[Ar 13 [nm,q,e]]++[c])) s') EO) EO) EO) EO:=by
  refine Zy Do λnm s2 g1=>P2 Do Do λq s3 g2=>Hu h1 λe s4 g3=>?_
  have h2:=U.snoc ((g1.cons (g2.cons g3)).two (k:=13) Do Do (Nat.le_of_ble_eq_true rfl))
  exact BF (λe=>Cu (Bv e Do Do) λh=>⟨h2.snoc h,Nat.le_trans Do B7⟩) λ_=>hend h2 ke
 simp_all
theorem K2 (hL:KI L):Dv (MN L):=λs=>by
 simp only [MN,Rd.wp_seq]
 refine Hu (iT hL) λn s1 hn=>?_
 refine EE (P:=λn s1=>A4 [n] s s1) (λn s1 U=>?_) hn
 simp only [cd,Rd.Ah,Rd.Ax,Rd.wp_seq,Rd.wp_ret]
 exact BF (λe=>ZC hL (Bv e Do Do) U λ_ _ h=>h) λ_=>U
end
section
variable {A B C D E:Rd Nd} {s s0 s1 s2 s':Af} {Q:Nd->Af->Prop} {L:EP}
theorem aW:∀{l:List Nd},2<=l.length->l.take (l.length - 1)++[l.getLastD FN]=l/\1<=(l.take (l.length - 1)).length:=λ{l} h=>by
 have U:l≠[]:=λe=>by simp_all
 refine ⟨?_,by grind⟩
 have h1:=List.dropLast_concat_getLast U
 grind
theorem A4.split:∀{l:List Nd} {s s':Af},A4 l s s'->∀{a b:List Nd},l=a++b->∃s1,A4 a s s1/\A4 b s1 s':=by
 intro l s s' h
 induction h with
 |nil s=>intro a b e;obtain ⟨rfl,rfl⟩:=List.append_eq_nil_iff.1 e.symm;exact ⟨s,.nil s,.nil s⟩
 |app h1 h2 i1 i2=>
  intro a b e
  rcases List.append_eq_append_iff.1 e with ⟨x,U,e2⟩|⟨x,U,e2⟩
  .obtain ⟨s1,k1,k2⟩:=i2 e2
   subst U
   exact ⟨s1,.app h1 k1,k2⟩
  .obtain ⟨s1,k1,k2⟩:=i1 U
   subst e2
   exact ⟨s1,k1,.app k2 h2⟩
 |tok g1 g2 g3=>
  intro a b e
  match a with
  |[]=>rw [List.nil_append] at e;subst e;exact ⟨_,.nil _,.tok g1 g2 g3⟩
  |x::r=>
   rw [List.cons_append] at e
   injection e with U e2
   obtain ⟨rfl,rfl⟩:=List.append_eq_nil_iff.1 e2.symm
   subst U
   exact ⟨_,.tok g1 g2 g3,.nil _⟩
 |skip g1 g2=>intro a b e;obtain ⟨rfl,rfl⟩:=List.append_eq_nil_iff.1 e.symm;exact ⟨_,.nil _,.skip g1 g2⟩
 |close g1=>intro a b e;obtain ⟨rfl,rfl⟩:=List.append_eq_nil_iff.1 e.symm;exact ⟨_,.nil _,.close g1⟩
 |node g1 g2 g3 ih=>
  intro a b e
  match a with
  |[]=>rw [List.nil_append] at e;subst e;exact ⟨_,.nil _,.node g1 g2 g3⟩
  |x::r=>
   rw [List.cons_append] at e
   injection e with U e2
   obtain ⟨rfl,rfl⟩:=List.append_eq_nil_iff.1 e2.symm
   subst U
   exact ⟨_,.node g1 g2 g3,.nil _⟩
 |block g1 g2 g3 ih=>
  intro a b e
  match a with
  |[]=>rw [List.nil_append] at e;subst e;exact ⟨_,.nil _,.block g1 g2 g3⟩
  |x::r=>
   rw [List.cons_append] at e
   injection e with U e2
   obtain ⟨rfl,rfl⟩:=List.append_eq_nil_iff.1 e2.symm
   subst U
   exact ⟨_,.block g1 g2 g3,.nil _⟩
theorem cX (hA:Dv A) (hB:Dv B) (hC:Dv C):∀s,Rd.wp (Fk A B C o) s (λn s'=>∀s0,A4 [o] s0 s->A4 [n] s0 s') EO:=λs=>by
 simp only [Fk,Rd.Ax,Rd.wp_seq,Rd.wp_ret]
 refine c9 hA λl b s1 h1 h2 hl=>?_
 dsimp only
 refine BF (λe=>?_) λ_=>?_
 .obtain ⟨h3,h4⟩:=h2 e
  obtain ⟨t1,t2⟩:=aW h3
  obtain ⟨s2,k1,k2⟩:=hl.split t1.symm
  exact Cu (Bv h4 Do Do) λg1 s0 U=>(U.cons ((k1.one Do Do t2).cons (k2.cons g1))).two Do Do (Nat.le_of_ble_eq_true rfl)
 .refine Th hB (hl.one Do Do h1) λn s1 hn=>?_
  refine EE (P:=λq s1=>(q.1=4\/q.1=5)/\2<=q.2.length/\∀s0,A4 [o] s0 s->A4 q.2 s0 s1) (λq s1 h0=>?_) ⟨.inl rfl,Nat.le_refl _,λs0 U=>U.cons hn⟩
  obtain ⟨hq,hl,h0⟩:=h0
  simp only [Xq,Rd.Ah,Rd.Ax,Rd.wp_seq,Rd.wp_ret]
  refine BF (λe=>Cu (Bv e Do Do) λg1=>Hu hC λn s2 g2=>⟨.inr trivial,B7,λs0 U=>((h0 s0 U).snoc g1).snoc g2⟩) λ_=>P2 Do Do λc s2 hc s0 U=>?_
  exact ((h0 s0 U).snoc hc).two AC AC (by grind)
theorem Tg {l:List Nd} {Q:List Nd->Af->Prop} (hA:Dv A) (h0:A4 l s0 s) (k:∀U s1,l.length+2<=U.length->A4 U s0 s1->Q U s1):Rd.wp (Fs A l) s Q EO:=by
 simp only [Fs,Rd.wp_seq]
 refine P2 Do Do λb s1 hb=>Hu hA λt s2 ht=>?_
 refine EE (P:=λU s1=>A4 U s0 s1/\l.length+2<=U.length) (λU s1 h0=>?_) ⟨(h0.snoc hb).snoc ht,ke⟩
 obtain ⟨h0,hl⟩:=h0
 simp only [Mr,Rd.Ah,Rd.Ax,Rd.wp_seq,Rd.wp_ret]
 exact BF (λe=>Cu (Bv e Do Do) λg1=>Hu hA λn s2 g2=>⟨(h0.snoc g1).snoc g2,by grind⟩) λ_=>k _ _ hl h0
theorem iW (hA:Dv A) (hB:Dv B):∀s,Rd.wp (QD A B o) s (λn s'=>∀s0,A4 [o] s0 s->A4 [n] s0 s') EO:=λs=>by
 simp only [QD,Rd.Ah,Rd.Ax,Rd.wp_seq,Rd.wp_ret]
 refine Hu hA λe s1 he=>BF (λ_=>?_) λ_=>?_
 .have:Rd.wp (Fs B [o,e]) s1 (λl s2=>Rd.wp (Bs 15 [93]) s2 (λc s'=>∀s0,A4 [o] s0 s->A4 [Ar 8 (l++[c])] s0 s') EO) EO:=by
   refine Rd.Y2 (λl s2 hr=>?_) (λ_ _ _=>trivial)
   refine P2 Do Do λc s3 hc s0 ho=>?_
   have h1:Rd.wp (Fs B [o,e]) s1 (λl s2=>A4 l s0 s2/\2<=l.length) EO:=Tg hB (ho.cons he) λl' s1 hl h=>⟨h,AC⟩
   unfold Rd.wp at h1
   rw [hr] at h1
   exact (h1.1.snoc hc).two Do Do (by grind)
  omega
 .refine EE (P:=λl s1=>2<=l.length/\∀s0,A4 [o] s0 s->A4 l s0 s1) (λl s1 h0=>?_) ⟨Nat.le_refl _,λs0 ho=>ho.cons he⟩
  obtain ⟨hl,h0⟩:=h0
  have U:∀{k:Int} {l:List Nd} {s1:Af},k≠1->k≠30->2<=l.length->(∀s0,A4 [o] s0 s->A4 l s0 s1)->Rd.wp (Bs 15 [93]) s1 (λc s'=>∀s0,A4 [o] s0 s->A4 [Ar k (l++[c])] s0 s') EO:=λhk h30 hl h0=>
   P2 Do Do λc s3 hc s0 ho=>((h0 s0 ho).snoc hc).two hk h30 (by grind)
  simp only [et,Yh,Rd.Ah,Rd.Ax,Rd.wp_seq,Rd.wp_ret]
  have hc:if Ba s1 15 [44]=true then Rd.wp AH s1 (λc s'=>Rd.wp A s' (λe s'=>2<=(l++[c]++[e]).length/\∀s0,A4 [o] s0 s->A4 (l++[c]++[e]) s0 s') EO) EO
   else Rd.wp (Bs 15 [93]) s1 (λc s'=>∀s0,A4 [o] s0 s->A4 [Ar 6 (l++[c])] s0 s') EO:=
   BF (λe=>Cu (Bv e Do Do) λg1=>Hu hA λn s2 g2=>⟨B7,λs0 ho=>((h0 s0 ho).snoc g1).snoc g2⟩) λ_=>U Do Do hl h0
  refine BF (λ_=>BF (λe=>Cu (Bv e Do Do) λg1=>BF (λ_=>?_) λ_=>Hu hA λn s2 g2=>?_) λ_=>hc) λ_=>hc
  .exact U Do Do (by grind) λs0 ho=>(h0 s0 ho).snoc g1
  .exact U Do Do B7 λs0 ho=>((h0 s0 ho).snoc g1).snoc g2
theorem XW (hA:Dv A) (U:A4 [n] s0 s) (k:∀n s1,A4 [n] s0 s1->Q n s1):Rd.wp (S4 A n) s Q EO:=by
 simp only [S4,Rd.Ah,Rd.Ax,Rd.wp_seq,Rd.wp_ret,Rd.DG]
 exact BF (λe=>BF (λ_=>Cu (Bv e Do Do) λg1=>Hu hA λm s2 g2=>k _ _ ((U.cons (g1.cons g2)).two Do Do (Nat.le_of_ble_eq_true rfl))) λ_=>trivial) λ_=>k _ _ U
theorem iY (hL:KI L) (U:Dv A):Dv (UB L A):=λs=>by
 simp only [UB,Rd.Ah,Rd.Ax,Rd.wp_seq,Rd.wp_ret]
 exact BF (λe=>Cu (Bv e Do Do) λg1=>Hu hL.decls λb s2 g2=>BF (λ_=>Tf hL (g1.cons g2) λn s3 g3=>XW U g3 λ_ _ h=>h) λ_=>(g1.cons g2).two Do Do (Nat.le_of_ble_eq_true rfl))
  λ_=>Hu U λn s3 g3=>XW U g3 λ_ _ h=>h
theorem X0 {l:List Nd} (hL:KI L) (hA:Dv A) (hB:Dv B) (U:A4 l s0 s) (hl:l=[]\/2<=Nu l) (k:∀n s1,A4 [n] s0 s1->Q n s1):Rd.wp (fx L A B m l) s Q EO:=by
 simp only [fx,Rd.wp_seq,Rd.Ah,Rd.Ax,Rd.wp_ret]
 refine EE (P:=λl s1=>A4 l s0 s1/\(l=[]\/2<=Nu l)) (λl s1 U=>?_) ⟨U,hl⟩
 obtain ⟨U,hl⟩:=U
 have hs:Rd.wp (Fs B []) s1 (λg s'=>Rd.wp (Bs 10 m) s' (λq s'=>Rd.wp A s' (λe s'=>A4 (l++[Ar 30 (g++[q]++[e])]) s0 s'/\(l++[Ar 30 (g++[q]++[e])]=[]\/2<=Nu (l++[Ar 30 (g++[q]++[e])]))) EO) EO) EO:=by
  refine Tg hB (.nil s1) λg s2 hg h=>P2 Do Do λq s3 g1=>Hu hA λe s4 g2=>⟨U.snoc (A4.gd ((h.snoc g1).snoc g2) (by grind)),.inr ?_⟩
  rw [Ir]
  have:Nu [Ar 30 (g++[q]++[e])]=2:=rfl
  omega
 have he:∀{l:List Nd} {s1:Af},A4 l s0 s1->2<=Nu l->if Ba s1 9 Xx=true then Rd.wp AH s1 (λw s'=>Rd.wp L.decls s' (λb s'=>Q (Ar 29 (l++[Ar 31 [w,b]])) s') EO) EO else Q (Ar 29 l) s1:=λ{l s1} U hl=>
  BF (λe=>Cu (Bv e Do Do) λg1=>Hu hL.decls λb s2 g2=>k _ _ (.node (U.snoc ((g1.cons g2).two Do Do (Nat.le_of_ble_eq_true rfl))) Do (by rw [Ir];have:hZ 29=1:=rfl;omega)))
   λ_=>k _ _ (.node U Do (by have:hZ 29=1:=rfl;omega))
 simp only [RQ,O1,Rd.Ah,Rd.Ax,Rd.wp_seq,Rd.wp_ret]
 grind
theorem cZ (hL:KI L) (hA:Dv A) (hB:Dv B):Dv (aD L A B m):=λs=>by
 simp only [aD,Rd.Ah,Rd.Ax,Rd.wp_seq]
 refine BF (λe=>?_) λ_=>BF (λ_=>X0 hL hA hB (.nil s) (.inl rfl) λ_ _ h=>h) λ_=>trivial
 by_cases U:Real s
 .exact Cu U λg1=>Hu hA λe s2 g2=>X0 hL hA hB (g1.cons g2) (.inr (Nat.le_trans (Nat.le_of_ble_eq_true rfl) N5)) λ_ _ h=>h
 .exact absurd (Bv e Do Do) U
theorem mS (hL:KI L) (U:Dv A) (hB:Dv B) (hC:Dv C):Dv (bV L A B C):=λs=>by
 simp only [bV,Rd.Ax,Rd.wp_seq,Rd.wp_ret,Rd.DG]
 exact Hu U λn s1 g1=>BF (λ_=>Hu (cZ hL hB hC) λr s2 g2=>(g1.cons g2).two Do Do (Nat.le_of_ble_eq_true rfl)) λ_=>trivial
theorem OH {l:List Nd} (U:A4 l s0 s) (hl:1<=l.length) (k:∀n s1,A4 [n] s0 s1->Q n s1):Rd.wp (K8 l) s Q EO:=by
 have ho:=Mb (p:=Kz) RC
 simp only [K8,Rd.wp_seq]
 refine Hu ho λo s1 g1=>?_
 refine EE (P:=λl s1=>A4 l s0 s1/\2<=l.length) (λl s1 U=>?_) ⟨U.snoc g1,ke⟩
 obtain ⟨U,hl⟩:=U
 simp only [RL,Rd.Ah,Rd.Ax,Rd.wp_seq,Rd.wp_ret]
 exact BF (λe=>Cu (Bv e Do Do) λg1=>Hu ho λo s2 g2=>⟨(U.snoc g1).snoc g2,B7⟩) λ_=>k _ _ (U.two Do Do hl)
theorem ZA (U:Real s) (k:∀n s1,A4 [n] s s1->Q n s1):Rd.wp K9 s Q EO:=by
 simp only [K9,Rd.Ah,Rd.Ax,Rd.wp_seq]
 refine Cu U λg1=>BF (λe=>?_) λ_=>OH g1 (Nat.le_of_ble_eq_true rfl) k
 simp only [Dm,Rd.Ah,Rd.Ax,Rd.wp_seq,Rd.wp_ret,Rd.Gm]
 exact Cu (Dp e Do Do) λg2=>BF (λ_=>OH (g1.cons g2) (Nat.le_of_ble_eq_true rfl) k) λ_=>trivial
theorem db (hA:Dv A) (hB:Dv B) (U:A4 [n] s0 s) (k:∀n s1,A4 [n] s0 s1->Q n s1):Rd.wp (aI A B n) s Q EO:=by
 have ho:=Mb (p:=bD) hA
 simp only [aI,Rd.Ax,Rd.wp_seq,Rd.DG]
 refine BF (λ_=>?_) λ_=>trivial
 refine EE (P:=λl s1=>A4 l s0 s1) (λl s1 U=>?_) U
 simp only [om,Rd.Ah,Rd.Ax,Rd.wp_seq,Rd.wp_ret]
 exact BF (λe=>Cu (Bv e Do Do) λg1=>Hu ho λo s2 g2=>(U.snoc g1).snoc g2) λ_=>P2 Do Do λc s2 g1=>Hu hB λt s3 g2=>k _ _ (((U.snoc g1).snoc g2).two Do Do B7)
theorem iV (hL:KI L) (U:Dv A) (hB:Dv B) (hC:Dv C) (hD:Dv D) (hE:Dv E):Dv (Ta L A B C D E):=λs=>by
 simp only [Ta,Rd.Ah,Rd.Ax,Rd.wp_seq,Rd.wp_ret,Rd.DG]
 exact BF (λe=>ZA (D2 e) λ_ _ h=>h) λ_=>Hu hB λn s1 g1=>BF (λ_=>db U hE g1 λ_ _ h=>h) λ_=>BF (λ_=>db U hE g1 λ_ _ h=>h) λ_=>
  BF (λ_=>Hu (cZ hL hC hD) λr s2 g2=>(g1.cons g2).two Do Do (Nat.le_of_ble_eq_true rfl)) λ_=>trivial
theorem da {Q:Unit->Af->Prop} (k:∀s1,A4 [] s s1->Q () s1):Rd.wp Py s Q EO:=by
 refine EE (P:=λ_ s1=>A4 [] s s1) (λ_ s1 U=>?_) (.nil s)
 simp only [Sx,Rd.Ah,Rd.Ax,Rd.wp_seq,Rd.wp_ret]
 exact BF (λe=>p4 (QA e) λh=>U.pass h) λ_=>k _ U
theorem Te {f m:Bool} {Q:Bool->Af->Prop} (k:∀b s1,A4 [] s s1->Q b s1):Rd.wp (H2 f m) s Q EO:=by
 simp only [H2,Rd.Ah,Rd.Ax,Rd.wp_seq,Rd.wp_ret]
 have hi:∀{f:Bool},(if f then Ba s 15 [125] else (Ab s).1.kind==20)=true->F1 (Ab s).1=true:=λ{f} e=>by
  unfold F1
  cases f with
  |true=>
   rw [if_pos rfl] at e
   unfold Ba at e
   simp_all
  |false=>
   simp_all
 refine BF (λe=>p4 (hi e) λh=>k _ _ h) λ_=>BF (λ_=>BF (λ_=>trivial) λ_=>?_) λ_=>k _ _ (.nil s)
 unfold Rd.wp Rm
 dsimp only
 by_cases e:(ED s).2=true
 .rw [if_pos e];exact k _ _ (.close e)
 .rw [if_neg e];trivial
theorem OE {p:Tk->Bool} (hA:Dv A):Dv (Dl p A):=λs=>by
 simp only [Dl,Rd.Ah,Rd.Ax,Rd.wp_seq,Rd.wp_ret]
 have hb:∀{f:Bool} {s1:Af},(Ab s).2.2=0->F1 (Ab s).1=true->(Ab s).2.1=s1->Rd.wp (Rd.loop (Re p A f) []) s1 (λl s'=>A4 [Eg f l] s s') EO:=λ{f s1} e1 e2 e3=>by
  subst e3
  refine EE (P:=λl s1=>A4 l (Ab s).2.1 s1) (λl s1 U=>?_) (.nil _)
  simp only [Re,Rd.Ah,Rd.Ax,Rd.wp_seq,Rd.wp_ret]
  refine da λs2 g2=>Te λb s3 g3=>BF (λ_=>.block e1 e2 ((U.pass g2).pass g3)) λ_=>Hu hA λn s4 g4=>Te λb s5 g5=>BF (λ_=>.block e1 e2 ((((U.pass g2).pass g3).snoc g4).pass g5)) λ_=>(((U.pass g2).pass g3).snoc g4).pass g5
 refine BF (λe=>?_) λ_=>?_
 .have hi:F1 (Ab s).1=true:=by rw [beq_iff_eq] at e;simp [F1,e]
  exact p4 hi λ_=>hb (F8 (NO hi).1) hi rfl
 .unfold Bs
  rw [Rd.Ah,Rd.Ax]
  refine BF (λe=>?_) λ_=>trivial
  have hi:F1 (Ab s).1=true:=by
   unfold Ba at e
   simp only [Bool.and_eq_true,beq_iff_eq] at e
   simp [F1,e.1,e.2]
  exact Cu (Bv e Do Do) λ_=>hb (F8 (NO hi).1) hi rfl
theorem K3 (d:Nat):Dv (C4 d):=Dv.of λs n s' h=>by
 have U:C7 (G0 (DD (Dz (d - 1)))):=iQ (XT (XU _))
 refine U s n s' ?_
 unfold C4 Jg at h
 grind
theorem XX {e:Er}:∀s,Rd.wp (Rd.fail e:Rd Nd) s (λn s'=>∀s0,A4 [o] s0 s->A4 [n] s0 s') EO:=λs=>trivial
theorem Mc (U:KI L):Dv (eW L):=Vy U (K2 U)
theorem JB (U:Dv A) (hL:KI L):Dv (P3 A L):=mT (Mc hL) U
theorem IY (hA:Dv A) (U:KI L):Dv (Na A L):=iY U (JB hA U)
theorem XV (hA:Dv A) (U:KI L):Dv (ie A L):=mS U (OI (Mc U)) (JB hA U) (IY hA U)
theorem OG (hA:Dv A) (U:KI L):Dv (FJ A L):=iV U (K2 U) (OI (Mc U)) (JB hA U) (IY hA U) hA
theorem oU (hA:Dv A) (U:KI L):KI (qI A L) where
 atom:=K2 U
 exp:=JB hA U
 ops:=OI (Mc U)
 decls:=OE (OG hA U)
 stmts:=OE (IY hA U)
 alts:=OE (XV hA U)
 Gn:=λo=>cX (Mc U) hA (JB hA U)
 list:=λo=>iW (JB hA U) (IY hA U)
theorem RB:∀d,KI (Jb d)
 |0=>⟨λ_=>trivial,λ_=>trivial,λ_=>trivial,λ_=>trivial,λ_=>trivial,λ_=>trivial,λo=>XX,λo=>XX⟩
 |d+1=>oU (K3 _) (RB d)
end
end Go.Proofs.Z
namespace Go.Proofs.Z
open Go Go.Aw
open Rd (ret seq fail H3 look loop)
def Vt (item:Rd Nd) (l:List Nd):Rd (Sum (List Nd) (List Nd)):=.seq item λn=>.look λs=>if Ba s 15 [44]=true then .seq AH λc=>.ret (.inl (l++[n]++[c])) else .ret (.inr (l++[n]))
def Rn (item:Rd Nd) (shut:List UInt8) (p:Bool×List Nd):Rd (Sum (Bool×List Nd) (List Nd)):=
 if p.1=true then .look λs=>if Ba s 15 shut=true then .ret (.inr p.2) else .seq item λn=>.look λs=>if Ba s 15 [44]=true then .seq AH λc=>.ret (.inl (false,p.2++[n]++[c])) else .ret (.inr (p.2++[n]))
 else .seq item λn=>.look λs=>if Ba s 15 [44]=true then .seq AH λc=>.ret (.inl (false,p.2++[n]++[c])) else .ret (.inr (p.2++[n]))
def FB (item:Rd Nd) (shut:List UInt8) (l:List Nd):Rd (List Nd):=.seq (.loop (Rn item shut) (true,l)) λl=>.seq (Bs 15 shut) λc=>.ret (l++[c])
def Fa (ks:List Int):Rd Nd:=.seq (Bs 15 [40]) λo=>.seq (CA ks) λn=>.seq (Bs 15 [41]) λc=>.ret (Ar 3 [o,n,c])
def oX (n:Nd):Int:=match n.kids[1]? with
 |some x=>x.form
 |none=>0
def PE:Rd Nd:=.look λs=>if Ba s 15 [40]=true then .look λs0=>.seq (Fa [5,6]) λn=>if (oX n==5)=true then .ret n else .H3 s0 GX else CA [1]
def Lo:Rd Nd:=.look λs=>if Ba s 15 [40]=true then Fa [5,6] else CA [1,2]
def PD (own:Bool):List Int:=if own then [1] else [1,3]
def Kt (own:Bool):List Int:=if own then [2] else [2,4]
def aS (own:Bool):List Int:=if own then [5,6] else [5,6,7,8]
abbrev Y1:List UInt8:=[109,111,100,117,108,101]
abbrev Xw:List UInt8:=[113,117,97,108,105,102,105,101,100]
abbrev qR:List UInt8:=[97,115]
abbrev lp:List UInt8:=[104,105,100,105,110,103]
abbrev SN:List UInt8:=[105,109,112,111,114,116]
abbrev ll:List UInt8:=[101,120,112,111,114,116]
abbrev pO:List UInt8:=[115,97,102,101]
abbrev lr:List UInt8:=[117,110,115,97,102,101]
abbrev mr:List UInt8:=[116,121,112,101]
abbrev mq:List UInt8:=[100,97,116,97]
abbrev UU:List UInt8:=[110,101,119,116,121,112,101]
abbrev gM:List UInt8:=[99,108,97,115,115]
abbrev Q3:List UInt8:=[105,110,115,116,97,110,99,101]
abbrev US:List UInt8:=[100,101,102,97,117,108,116]
abbrev UT:List UInt8:=[102,111,114,101,105,103,110]
abbrev bE:List UInt8:=[100,101,114,105,118,105,110,103]
def TT (l:List Nd):Rd Nd:=.look λs=>if Ba s 15 [40]=true then .seq AH λo=>.look λs=>if Ba s 10 [46,46]=true then .seq AH λd=>.seq (Bs 15 [41]) λc=>.ret (Ar 52 (l++[o]++[d,c]))
 else .seq (FB Lo [41] (l++[o])) λl=>.ret (Ar 52 l)
 else .ret (Ar 52 l)
def TU (own:Bool):Rd Nd:=.look λs=>if Ba s 15 [40]=true then .seq (Fa (aS own)) λn=>.ret (Ar 52 [n])
 else if ((Ab s).1.kind==2)=true then .seq (CA (Kt own)) λn=>TT [n]
 else if ((Ab s).1.kind==4)=true then .seq (CA (Kt own)) λn=>TT [n]
 else .seq (CA (PD own)) λn=>.ret (Ar 52 [n])
def MW (own:Bool):Rd Nd:=if own=true then TU own else .look λs=>if Ba s 9 Y1=true then .seq AH λm=>.seq (CA (Kt own)) λn=>.ret (Ar 52 [m,n]) else TU own
def Kw (own:Bool) (l:List Nd):Rd (Sum (List Nd) (List Nd)):=.look λs=>if Ba s 15 [41]=true then .ret (.inr l) else Vt (MW own) l
def Hp (own:Bool):Rd Nd:=.seq (Bs 15 [40]) λo=>.seq (.loop (Kw own) [o]) λl=>.seq (Bs 15 [41]) λc=>.ret (Ar 51 (l++[c]))
def RU (l:List Nd):Rd Nd:=.seq (Hp true) λn=>.ret (Ar 50 (l++[n]))
def RT (l:List Nd):Rd Nd:=.look λs=>if Ba s 1 lp=true then .seq AH λh=>RU (l++[h])
 else if Ba s 15 [40]=true then RU l else .ret (Ar 50 l)
def RR (l:List Nd):Rd Nd:=.seq (CA [2,4]) λn=>.look λs=>if Ba s 1 qR=true then .seq AH λa=>.seq (CA [2,4]) λm=>RT (l++[n]++[a]++[m]) else RT (l++[n])
def Le:Rd Nd:=.seq AH λi=>.look λs=>if Ba s 1 Xw=true then .seq AH λq=>RR ([i]++[q]) else RR [i]
def OY (full:Rd Nd) (l:List Nd):Rd Nd:=.seq PE λn=>.seq (Bs 10 [58,58]) λc=>.seq full λt=>.ret (Ar 47 (l++[n]++[c]++[t]))
def Lc (full:Rd Nd) (l:List Nd):Rd Nd:=.look λs=>if ((Ab s).1.kind==14)=true then .seq AH λt=>OY full (l++[t]) else OY full l
def Tu (full:Rd Nd) (l:List Nd):Rd Nd:=.look λs=>if (if Ba s 1 pO=true then true else Ba s 1 lr)=true then
 (if Ba (Ab s).2.1 10 [58,58]=true then Lc full l else .seq AH λt=>Lc full (l++[t]))
 else Lc full l
def OX (full:Rd Nd) (l:List Nd):Rd Nd:=.seq AH λw=>.seq (CA [1]) λn=>Tu full (l++[w]++[n])
def Ld (full:Rd Nd):Rd Nd:=.seq AH λf=>.look λs=>if Ba s 9 SN=true then OX full [f] else if Ba s 1 ll=true then OX full [f] else Rc
def Jx (whole:Rd Nd):Rd Nd:=.seq AH λd=>.seq (Bs 15 [40]) λo=>.seq (FB whole [41] [d,o]) λl=>.ret (Ar 46 l)
def D6 (n:Nd):Bool:=if n.kind==39 then n.kids.head?.all (Du · [2])&&n.kids.tail.all (Du · [1]) else Du n [2]
def J7 (row:Rd Nd) (l:List Nd):Rd (List Nd×Nd):=.seq row λr=>.look λs=>if Ba s 10 [61,62]=true then .seq AH λa=>.seq row λq=>.ret (l++[r]++[a],q) else .ret (l,r)
def G4 (b:Bool):Rd Unit:=if b=true then .ret () else .fail GX
def LN (row whole:Rd Nd):Rd Nd:=.seq AH λt=>.seq row λr=>.seq (G4 (D6 r)) λ_=>.seq (Bs 10 [61]) λe=>.seq whole λw=>.ret (Ar 41 ([t,r]++[e]++[w]))
def LM (atom:Rd Nd):Rd Nd:=.seq AH λb=>.seq atom λa=>.ret (Ar 40 [b,a])
def Jo (atom:Rd Nd):Rd Nd:=.look λs=>if Ba s 5 [33]=true then LM atom
 else if Ba s 15 [40]=true then (if ((Ab (Ab s).2.1).1.kind==6)=true then Fa [6] else atom)
 else atom
def SL (t:Tk):Bool:=if t.kind==5 then t.text==[33] else if t.kind==15 then t.text==[40]||t.text==[91] else t.kind==2||t.kind==4||t.kind==1
def WX (atom:Rd Nd) (l:List Nd):Rd (Sum (List Nd) (List Nd)):=.look λs=>if SL (Ab s).1=true then .seq (Jo atom) λn=>.ret (.inl (l++[n])) else .ret (.inr l)
def Mp (atom:Rd Nd):Rd (List Nd):=.seq (Jo atom) λn=>.loop (WX atom) [n]
def E9 (n:Nd):Bool:=n.kind==40
def YP (l:List Nd):Rd Nd:=if l.length=1 then .ret (l.headD FN) else .seq (G4 (!l.any E9)) λ_=>.ret (Ar 39 l)
def GA (n:Nd):Bool:=Du n [2]||(n.kind==3&&n.kids.length==3&&n.kids[1]?.any (Du · [6]))
def dF (l:List Nd):Rd (Sum (List Nd) (List Nd)):=.look λs=>if Ba s 15 [44]=true then .seq AH λc=>.seq PE λn=>.ret (.inl (l++[c]++[n])) else .ret (.inr l)
def LU (atom whole:Rd Nd):Rd Nd:=.seq PE λn=>.seq (.loop dF [n]) λl=>.seq (Bs 10 [58,58]) λc=>.look λs=>
 if Ba s 5 [33]=true then .seq (LM atom) λt=>.ret (Ar 13 (l++[c]++[t])) else .seq whole λt=>.ret (Ar 13 (l++[c]++[t]))
def Xo:Rd Nd:=.look λs=>if ((Ab s).1.kind==6)=true then .seq AH λt=>.ret (Ar 18 [t])
 else .look λs0=>.seq AH λo=>.seq (CA [1,2,3,4]) λn=>.seq (Bs 15 [96]) λc=>if (n.form==2)=true then .ret (Ar 18 [o,n,c]) else .H3 s0 GX
def Jv (atom:Rd Nd) (l:List Nd):Rd Nd:=.seq (YP l) λa=>.seq Xo λo=>.seq (Mp atom) λr=>.seq (YP r) λb=>.ret (Ar 48 [a,o,b])
def KX (atom:Rd Nd) (l:List Nd):Rd Nd:=.look λs=>if ((Ab s).1.kind==6)=true then Jv atom l else if Ba s 15 [96]=true then Jv atom l
 else .seq (G4 (GA (l.headD FN))) λ_=>.ret (Ar 48 l)
def HZ (atom whole:Rd Nd):Rd Nd:=.seq (Mp atom) λl=>if (l.length==1&&GA (l.headD FN))=true then
 .look λs=>if Ba s 15 [123]=true then .seq AH λo=>.seq (FB (LU atom whole) [125] (l++[o])) λl=>.ret (Ar 48 l) else KX atom l
 else KX atom l
def Jy:Rd Nd:=.seq AH λd=>.look λs=>if Ba s 15 [40]=true then .seq AH λo=>.seq (FB (CA [2,4]) [41] ([d]++[o])) λl=>.ret (Ar 49 l) else .seq (CA [2,4]) λc=>.ret (Ar 49 ([d]++[c]))
def KZ (k:Int) (l:List Nd):Rd Nd:=.look λs=>if Ba s 9 bE=true then .seq Jy λd=>.ret (Ar k (l++[d])) else .ret (Ar k l)
def lN (atom whole:Rd Nd) (p:List UInt8×List Nd):Rd (Sum (List UInt8×List Nd) (List Nd)):=.look λs=>if Ba s 10 p.1=true then .seq AH λe=>.seq (HZ atom whole) λc=>.ret (.inl ([124],p.2++[e]++[c])) else .ret (.inr p.2)
def XR (atom row whole:Rd Nd):Rd Nd:=.seq AH λd=>.seq (J7 row [d]) λp=>.seq (G4 (D6 p.2)) λ_=>.seq (.loop (lN atom whole) ([61],p.1++[p.2])) λl=>KZ 42 l
def R9 (n:Nd):Bool:=if GA (n.kids.headD FN) then
 (if n.kids.length=2 then !E9 (n.kids[1]?.getD FN)
 else if n.kids.length=4/\(n.kids[2]?.getD FN).kind=13 then decide ((n.kids[2]?.getD FN).kids.length=3)&& !E9 ((n.kids[2]?.getD FN).kids[2]?.getD FN) else false)
 else false
def Lq (atom row whole:Rd Nd):Rd Nd:=.seq AH λd=>.seq (J7 row [d]) λp=>.seq (G4 (D6 p.2)) λ_=>.seq (Bs 10 [61]) λe=>.seq (HZ atom whole) λc=>.seq (G4 (R9 c)) λ_=>KZ 43 (p.1++[p.2]++[e]++[c])
def XJ (decls:Rd Nd) (k:Int) (l:List Nd) (U:Nd->Bool):Rd Nd:=.look λs=>if Ba s 9 Xx=true then .seq AH λw=>.seq decls λb=>.seq (G4 (b.kids.all U)) λ_=>.ret (Ar k (l++[Ar 31 [w,b]])) else .ret (Ar k l)
def He (n:Nd):Bool:=n.kind==39&&n.kids.length==2&&Du (n.kids[0]?.getD FN) [2]&&Du (n.kids[1]?.getD FN) [1]
def Lg (n:Nd):Bool:=n.kind==39&&n.kids.length==2&&Du (n.kids[0]?.getD FN) [2,4]
def Rl (row decls:Rd Nd):Rd Nd:=.seq AH λc=>.seq (J7 row [c]) λp=>.seq (G4 (He p.2)) λ_=>XJ decls 44 (p.1++[p.2]) λ_=>true
def JF (row decls:Rd Nd):Rd Nd:=.seq AH λc=>.seq (J7 row [c]) λp=>.seq (G4 (Lg p.2)) λ_=>XJ decls 45 (p.1++[p.2]) λn=>n.kind==36
def Qe (atom row whole full decl decls:Rd Nd):Rd Nd:=.look λs=>if ((Ab s).1.kind==9)=true then
 (if ((Ab s).1.text==SN)=true then Le
 else if ((Ab s).1.text==mr)=true then LN row whole
 else if ((Ab s).1.text==mq)=true then XR atom row whole
 else if ((Ab s).1.text==UU)=true then Lq atom row whole
 else if ((Ab s).1.text==gM)=true then Rl row decls
 else if ((Ab s).1.text==Q3)=true then JF row decls
 else if ((Ab s).1.text==US)=true then Jx whole
 else if ((Ab s).1.text==UT)=true then Ld full
 else decl)
 else decl
def YX (t:Tk):Bool:=(t.kind==9&&(t.text==SN||t.text==mr||t.text==mq||t.text==UU||t.text==gM||t.text==Q3||t.text==US||t.text==UT))||(FA t||Kr t)
def Ht (d:Nat):Rd Nd:=Jg (DD (Dz (d - 1))) λs v s' h=>Nat.le_of_lt (BT (BB _) _ _ _ h)
def LY (d:Nat):Rd Nd:=Jg (Hs (DD (Dz (d - 1)))) λs v s' h=>Nat.le_of_lt (Fm (BT (BB _)) _ _ _ h)
def Gf (d:Nat):Rd Nd:=Jg (Fc (DD (Dz (d - 1)))) λs v s' h=>Nat.le_of_lt (GY (BT (BB _)) _ _ _ h)
end Go.Proofs.Z
namespace Go.Proofs.Z
open Go Go.Aw
section
variable {st0 st:St} {s:Af} {rows:List (AB×List Nd)} {K:Ay->St->Prop} {Q:Nd->Af->Prop} {E:Er->Af->Prop}
attribute [local irreducible] Go.Aw.Ag
theorem pT (U:k≠0) (hm:mu s<=100000000) (h:K (.ret (.bool (Ba s k x))) st):PC 94 [Bn s,.int .i64 k,.str x] st K:=by
 refine pB Tryz.func94 ?_
 repeat' ((conv=>whnf);first|(refine Bg ?_;intros)|(refine Bh ?_ ?_<;>intro _)|refine pR U hm ?_)
 all_goals conv=>whnf
 all_goals exact Ao h ‹_›
theorem pU (U:mu s<=100000000) (h:K (.ret (.bool (Ba s 15 x))) st):PC 51 [Bn s,.str x] st K:=by
 refine pB Tryz.func51 ?_
 repeat' ((conv=>whnf);first|(refine Bg ?_;intros)|(refine Bh ?_ ?_<;>intro _)|refine pR Do U ?_)
 all_goals conv=>whnf
 all_goals exact Ao h ‹_›
section
variable {k:Int} {x:List UInt8} {P R:Prop}
theorem U3 (hm:mu s<=100000000) (e:Ba s k x=true) (U:k≠0) (h:K (.ret (.bool true)) st):PC 94 [Bn s,.int .i64 k,.str x] st K:=pT U hm (by rw [e];exact h)
theorem U2 (hm:mu s<=100000000) (e:Ba s k x=false) (U:k≠0) (h:K (.ret (.bool false)) st):PC 94 [Bn s,.int .i64 k,.str x] st K:=pT U hm (by rw [e];exact h)
theorem pS (hm:mu s<=100000000) (U:k≠0) (h:if Ba s k x=true then P else R) (k1:Ba s k x=true->P->K (.ret (.bool true)) st) (k2:Ba s k x=false->R->K (.ret (.bool false)) st):PC 94 [Bn s,.int .i64 k,.str x] st K:=by
 cases e:Ba s k x with
 |true=>exact U3 hm e U (k1 e (by rw [if_pos e] at h;exact h))
 |false=>exact U2 hm e U (k2 e (by rw [if_neg (by rw [e];decide)] at h;exact h))
theorem U5 (U:mu s<=100000000) (e:Ba s 15 x=true) (h:K (.ret (.bool true)) st):PC 51 [Bn s,.str x] st K:=pU U (by rw [e];exact h)
theorem U4 (U:mu s<=100000000) (e:Ba s 15 x=false) (h:K (.ret (.bool false)) st):PC 51 [Bn s,.str x] st K:=pU U (by rw [e];exact h)
theorem Qf (U:mu s<=100000000) (h:if Ba s 15 x=true then P else R) (k1:Ba s 15 x=true->P->K (.ret (.bool true)) st) (k2:Ba s 15 x=false->R->K (.ret (.bool false)) st):PC 51 [Bn s,.str x] st K:=by
 cases e:Ba s 15 x with
 |true=>exact U5 U e (k1 e (by rw [if_pos e] at h;exact h))
 |false=>exact U4 U e (k2 e (by rw [if_neg (by rw [e];decide)] at h;exact h))
end
theorem Da {l:List Nd} {own:AB} (h:K (.ret (enc (Ar k l))) st):PC 96 [.int .i64 k,.slice 6 (l.map Az) own] st K:=by
 refine pB Tryz.func96 ?_
 repeat' ((conv=>whnf);first|(refine Bg ?_;intros)|(refine Bh ?_ ?_<;>intro _)|fail)
 all_goals exact DH (St.le_refl _) BK h
theorem GL {a:Nd} {own:AB} (h:K (.ret (enc (Ar k [a]))) st):PC 96 [.int .i64 k,.slice 6 [Az a] own] st K:=Da (l:=[a]) h
theorem KH {l:List Nd} {own:AB} (hl:l.length<=900000000) (hm:mu s<=100000000) (hc:Rx st0 st ((own,l)::rows)) (h:Rd.wp AH s Q E) (hk:(Ab s).1.kind≠0/\(Ab s).1.kind≠21)
 (kk:∀s1 U st',mu s1<mu s->mu s1<=100000000->Rx st0 st' ((U,l++[Bp (Ab s).1])::rows)->Q (Bp (Ab s).1) s1->K (.ret (.Bq [.slice 6 ((l++[Bp (Ab s).1]).map Az) U,Bn s1])) st'):PC 53 [.slice 6 (l.map Az) own,Bn s] st K:=by
 refine pB Tryz.func53 ?_
 repeat' ((conv=>whnf);first|exact Cr|(refine Bg ?_;intros)|(refine Cs ?_ ?_ ?_;rotate_left)|(refine Bh ?_ ?_<;>intro _)|refine GM (λ_=>?_) ?_|refine FT hm h hk (λs1 e1 hlt hm1 q=>?_)|refine Rx.Ee hc AC (λown1 st1 hc=>?_)|refine Ac [(0,true),(1,true),(2,true),(3,true),(4,false)] [1] GE ?_|with_reducible refine WF ?_)
 all_goals exact ⟨_,_,.inl rfl,St.le_refl _,kk _ _ _ hlt hm1 hc q⟩
theorem gX {l:List Nd} {own:AB} (hk:k≠0) (hl:l.length<=900000000) (hm:mu s<=100000000) (hc:Rx st0 st ((own,l)::rows)) (h:Rd.wp (Bs k x) s Q E)
 (k1:∀n s1 U st',(Bs k x).run s=.inr (n,s1)->mu s1<=mu s->mu s1<=100000000->Rx st0 st' ((U,l++[n])::rows)->Q n s1->K (.ret (.Bq [.slice 6 ((l++[n]).map Az) U,BM n s1 0])) st')
 (k2:∀e n s1 U st',¬e.1=0->Rx st0 st' ((U,l++[n])::rows)->E e s1->K (.ret (.Bq [.slice 6 ((l++[n]).map Az) U,BM n s1 e.1])) st'):PC 50 [.slice 6 (l.map Az) own,Bn s,.int .i64 k,.str x] st K:=by
 refine pB Tryz.func50 ?_
 repeat' ((conv=>whnf);first|exact Cr|(refine Bg ?_;intros)|(refine Cs ?_ ?_ ?_;rotate_left)|(refine Bh ?_ ?_<;>intro _)|refine GM (λ_=>?_) ?_|refine Kj.go (fP hk) hm hc h (λn s1 st1 hr hmm hm1 hc h=>?_) (λe n s1 st1 he hc h=>?_)|refine Rx.Ee hc AC (λown1 st1 hc=>?_)|refine Ac [(0,true),(1,true),(2,true),(3,false)] [1] GE ?_|with_reducible refine WF ?_)
 all_goals first
  |exact ⟨_,_,.inl rfl,St.le_refl _,k1 _ _ _ _ hr hmm hm1 hc h⟩
  |exact ⟨_,_,.inl rfl,St.le_refl _,k2 _ _ _ _ _ he hc h⟩
theorem Nn {a b:Int} {v:Bool} (U:mu s<=100000000) (hv:((Ab s).1.kind==a||(Ab s).1.kind==b)=v) (h:K (.ret (.bool v)) st):PC 174 [Bn s,.int .i64 a,.int .i64 b] st K:=by
 refine pB Tryz.func174 ?_
 repeat' ((conv=>whnf);first|(refine Bg ?_;intros)|(refine Bh ?_ ?_<;>intro _)|refine Nl U ?_)
 all_goals conv=>whnf
 all_goals (refine Ao h ?_;clear h;subst hv;simp_all)
theorem FU {a b:Int} (ha:a≠0/\a≠21) (hb:b≠0/\b≠21):Kj 95 (λs=>[Bn s,.int .i64 a,.int .i64 b]) (CA [a,b]):=by
 refine ⟨λ{st0 s st rows K} U hc h=>?_⟩
 simp only [CA,Rd.Ah,Rd.Ax] at h
 have e0:([a,b]:List Int).contains (Ab s).1.kind=((Ab s).1.kind==a||(Ab s).1.kind==b):=by simp only [List.contains_cons,List.contains_nil,Bool.or_false]
 rw [e0] at h
 refine pB Tryz.func95 ?_
 cases hv:((Ab s).1.kind==a||(Ab s).1.kind==b) with
 |true=>
  rw [hv,if_pos rfl] at h
  repeat' ((conv=>whnf);first|(refine Bg ?_;intros)|(refine Bh ?_ ?_<;>intro _)|refine Nn U hv ?_|refine fN.go U hc h (λn s1 st1 hr hmm hm1 hc h=>?_) (λe n s1 st1 he hc h=>?_))
  all_goals first
   |exact B8 hc h rfl
   |exact Cv hc h rfl
 |false=>
  rw [hv,if_neg Do] at h
  repeat' ((conv=>whnf);first|(refine Bg ?_;intros)|(refine Bh ?_ ?_<;>intro _)|refine Nn U hv ?_|refine IF U h (λe he h=>?_))
  all_goals first
   |exact B8 hc (h FN) rfl
   |exact B8 hc h rfl
   |exact Cv hc h rfl
theorem Gg {l:List Nd} {own:AB} (hl:l.length<=900000000) (hm:mu s<=100000000) (hc:Rx st0 st ((own,l)::rows)) (h:Rd.wp (Bs 15 [41]) s Q E)
 (k1:∀c s1 st',mu s1<=mu s->mu s1<=100000000->Rx st0 st' rows->Q c s1->K (.ret (BM (Ar k (l++[c])) s1 0)) st')
 (k2:∀e n s1 st',¬e.1=0->Rx st0 st' rows->E e s1->K (.ret (BM n s1 e.1)) st'):PC 54 [.int .i64 k,.slice 6 (l.map Az) own,Bn s] st K:=by
 refine pB Tryz.func54 ?_
 repeat' ((conv=>whnf);first|(refine Bg ?_;intros)|(refine Bh ?_ ?_<;>intro _)|refine gX Do hl hm hc h (λn s1 U st1 hr hmm hm1 hc h=>?_) (λe n s1 U st1 he hc h=>?_)|refine Da ?_)
 all_goals first
  |exact ⟨_,_,.inr rfl,St.le_refl _,k1 _ _ _ hmm hm1 hc.drop h⟩
  |exact ⟨_,_,.inr rfl,St.le_refl _,k2 _ _ _ _ he hc.drop h⟩
end
theorem l6 {a b:Int} (e:(k==a||k==b)=true) (U:a≠0/\a≠21) (hb:b≠0/\b≠21):k≠0/\k≠21:=by
 rw [Bool.or_eq_true,beq_iff_eq,beq_iff_eq] at e
 rcases e with rfl|rfl
 .exact U
 .exact hb
theorem ot {o:Bool}:(aS o).contains k=((k==5||k==6)||(!o&&(k==7||k==8))):=by
 unfold aS
 cases o
 .simp only [Bool.false_eq_true,if_false,List.contains_cons,List.contains_nil,Bool.or_false,Bool.not_false,Bool.true_and,Bool.or_assoc]
 .simp only [if_true,List.contains_cons,List.contains_nil,Bool.or_false,Bool.not_true,Bool.false_and]
section
variable {st0 st:St} {s:Af} {rows:List (AB×List Nd)} {K:Ay->St->Prop} {Q:Nd->Af->Prop} {E:Er->Af->Prop}
attribute [local irreducible] Go.Aw.Ag
theorem DU {o:Bool}:Kj 107 (λs=>[Bn s,.bool o]) (Fa (aS o)):=by
 refine ⟨λ{st0 s st rows K} hm hc h=>?_⟩
 simp only [Fa,CA,Rd.Ah,Rd.Ax,Rd.wp_seq,Rd.wp_ret,ot] at h
 refine AV Ad [] Tryz.func107 rfl Do rfl ?_
 refine Aj (Ai Ad ?_)
 repeat' ((conv=>whnf);first|(refine Bg ?_;intros)|(refine Bh ?_ ?_<;>intro _)|refine GM (λ_=>?_) ?_|fail)
 refine Aj (Ai Ad ?_)
 repeat' ((conv=>whnf);first|(refine Bg ?_;intros)|(refine Bh ?_ ?_<;>intro _)|refine GM (λ_=>?_) ?_|refine gX (l:=[]) Do (Nat.zero_le _) hm (hc.push []) h (λn s1 own1 U hr hmm hm1 hc h=>?_) (λe n s1 own1 U he hc h=>?_))
 .cases e5:((Ab s1).1.kind==5||(Ab s1).1.kind==6) with
  |true=>
   have hk:=l6 e5 Do Do
   rw [e5,Bool.true_or,if_pos rfl] at h
   refine Ai Ad ?_
   repeat' ((conv=>whnf);first|(refine Bg ?_;intros)|(refine Bh ?_ ?_<;>intro _)|refine GM (λ_=>?_) ?_|refine Nn ‹_› e5 ?_|refine KH (l:=[]++[_]) (Nat.le_of_ble_eq_true rfl) ‹_› hc h hk (λs2 own2 st2 hlt hm2 hc h=>?_)|refine Gg (l:=[]++[_]++[_]) (Nat.le_of_ble_eq_true rfl) ‹_› hc h (λn s1 U hmm hm1 hc h=>?_) (λe n s1 U he hc h=>?_)|refine IF ‹_› h (λe he h=>?_)|exact B8 hc h rfl|exact Cv hc h rfl|exact B8 hc.drop (h FN) rfl|fail)
  |false=>
   cases o with
   |true=>
    rw [e5,Bool.not_true,Bool.false_and,Bool.or_false,if_neg Do] at h
    have hk:True:=trivial
    refine Ai Ad ?_
    repeat' ((conv=>whnf);first|(refine Bg ?_;intros)|(refine Bh ?_ ?_<;>intro _)|refine GM (λ_=>?_) ?_|refine Nn ‹_› e5 ?_|refine KH (l:=[]++[_]) (Nat.le_of_ble_eq_true rfl) ‹_› hc h hk (λs2 own2 st2 hlt hm2 hc h=>?_)|refine Gg (l:=[]++[_]++[_]) (Nat.le_of_ble_eq_true rfl) ‹_› hc h (λn s1 U hmm hm1 hc h=>?_) (λe n s1 U he hc h=>?_)|refine IF ‹_› h (λe he h=>?_)|exact B8 hc h rfl|exact Cv hc h rfl|exact B8 hc.drop (h FN) rfl|fail)
   |false=>
    cases e7:((Ab s1).1.kind==7||(Ab s1).1.kind==8) with
    |true=>
     have hk:=l6 e7 Do Do
     rw [e5,e7,if_pos H1] at h
     refine Ai Ad ?_
     repeat' ((conv=>whnf);first|(refine Bg ?_;intros)|(refine Bh ?_ ?_<;>intro _)|refine GM (λ_=>?_) ?_|refine Nn ‹_› e5 ?_|refine Nn ‹_› e7 ?_|refine KH (l:=[]++[_]) (Nat.le_of_ble_eq_true rfl) ‹_› hc h hk (λs2 own2 st2 hlt hm2 hc h=>?_)|refine Gg (l:=[]++[_]++[_]) (Nat.le_of_ble_eq_true rfl) ‹_› hc h (λn s1 U hmm hm1 hc h=>?_) (λe n s1 U he hc h=>?_)|refine IF ‹_› h (λe he h=>?_)|exact B8 hc h rfl|exact Cv hc h rfl|exact B8 hc.drop (h FN) rfl|fail)
    |false=>
     rw [e5,e7,if_neg Do] at h
     have hk:True:=trivial
     refine Ai Ad ?_
     repeat' ((conv=>whnf);first|(refine Bg ?_;intros)|(refine Bh ?_ ?_<;>intro _)|refine GM (λ_=>?_) ?_|refine Nn ‹_› e5 ?_|refine Nn ‹_› e7 ?_|refine KH (l:=[]++[_]) (Nat.le_of_ble_eq_true rfl) ‹_› hc h hk (λs2 own2 st2 hlt hm2 hc h=>?_)|refine Gg (l:=[]++[_]++[_]) (Nat.le_of_ble_eq_true rfl) ‹_› hc h (λn s1 U hmm hm1 hc h=>?_) (λe n s1 U he hc h=>?_)|refine IF ‹_› h (λe he h=>?_)|exact B8 hc h rfl|exact Cv hc h rfl|exact B8 hc.drop (h FN) rfl|fail)
 .refine Ai Ad ?_
  repeat' ((conv=>whnf);first|(refine Bg ?_;intros)|(refine Bh ?_ ?_<;>intro _)|refine GM (λ_=>?_) ?_|exact Cv hc.drop h rfl|fail)
theorem O6 (e:Ba s k x=true) (U:k≠0/\k≠21):(Ab s).1.kind≠0/\(Ab s).1.kind≠21:=by
 unfold Ba at e
 simp only [Bool.and_eq_true,beq_iff_eq] at e
 rw [e.1];exact U
theorem Iu {own:AB} (hm:mu s<=100000000) (hc:Rx st0 st ((own,[n])::rows)) (e0:Ba s 15 [40]=true)
 (h:Rd.wp AH s (λo s'=>if Ba s' 10 [46,46]=true then Rd.wp AH s' (λd s'=>Rd.wp (Bs 15 [41]) s' (λc s'=>Q (Ar 52 ([n]++[o]++[d,c])) s') E) E
   else Rd.wp (Rd.loop (Rn Lo [41]) (true,[n]++[o])) s' (λl s'=>Rd.wp (Bs 15 [41]) s' (λc s'=>Q (Ar 52 (l++[c])) s') E) E) E)
 (hQ:∀v s',Q v s'->∀st',Rx st0 st' rows->K (.ret (BM v s' 0)) st') (hE:∀e s',E e s'->∀n st',Rx st0 st' rows->K (.ret (BM n s' e.1)) st'):PC 124 [.slice 6 [Az n] own,Bn s] st K:=by
 refine pB Tryz.func124 ?_
 repeat' ((conv=>whnf);first|(refine Bg ?_;intros)|(refine Bh ?_ ?_<;>intro _)|refine KH (l:=[_]) (by first|exact Nat.le_of_ble_eq_true rfl|(simp only [List.length_append,List.length_cons,List.length_nil]<;>omega)) ‹_› hc h (O6 ‹_› Do) (λs2 own2 st2 hlt hm2 hc h=>?_)|refine KH (l:=[_]++[_]) (by first|exact Nat.le_of_ble_eq_true rfl|(simp only [List.length_append,List.length_cons,List.length_nil]<;>omega)) ‹_› hc h (O6 ‹_› Do) (λs2 own2 st2 hlt hm2 hc h=>?_)|refine pS ‹_› Do h (λe h=>?_) (λe h=>?_)|refine Qf ‹_› h (λe h=>?_) (λe h=>?_)|refine Gg (l:=[_]++[_]++[_]) (Nat.le_of_ble_eq_true rfl) ‹_› hc h (λc s1 U hmm hm1 hc h=>?_) (λe n s1 U he hc h=>?_)|exact B8 hc (hQ _ _ h) rfl|exact Cv hc (hE _ _ h) rfl|fail)
 refine Yi (x0:=(true,[n]++[Bp (Ab s).1])) (λ(p:Bool×List Nd) s own=>[(5,.bool p.1),(0,.slice 6 (p.2.map Az) own)]) (λp s own=>[(0,s.cells)]) [3,4] [1] (λp own=>(own,p.2)::rows) (λp=>p.2.length) own2 hm2 hc h (by show 2+_<=_;omega) Yl ?_
 intro p s3 st3 own3 hm3 hm4 hc h hl
 obtain ⟨f,l⟩:=p
 dsimp only at hc hl
 simp only [Rn,Lo,Rd.Ah,Rd.Ax,Rd.wp_seq,Rd.wp_ret,Rd.Bk] at h
 cases f
 all_goals simp only [Bool.false_eq_true,if_false,if_true] at h
 all_goals (repeat' ((conv=>whnf);first|(refine Bg ?_;intros)|(refine Bh ?_ ?_<;>intro _)|exact ⟨⟨(false,_),_,_,_⟩,⟨‹_›,(by first|omega|(dsimp only<;>omega)|(simp only [List.length_append,List.length_cons,List.length_nil]<;>omega)|(dsimp only<;>simp only [List.length_append,List.length_cons,List.length_nil]<;>omega)),hc,Rd.Dq h (by first|omega|(dsimp only<;>omega)|(simp only [List.length_append,List.length_cons,List.length_nil]<;>omega)|(dsimp only<;>simp only [List.length_append,List.length_cons,List.length_nil]<;>omega)),(by first|omega|(dsimp only<;>omega)|(simp only [List.length_append,List.length_cons,List.length_nil]<;>omega)|(dsimp only<;>simp only [List.length_append,List.length_cons,List.length_nil]<;>omega))⟩,(by first|omega|(dsimp only<;>omega)|(simp only [List.length_append,List.length_cons,List.length_nil]<;>omega)|(dsimp only<;>simp only [List.length_append,List.length_cons,List.length_nil]<;>omega)),Yl,St.le_refl _⟩|refine pS ‹_› Do h (λe h=>?_) (λe h=>?_)|refine Qf ‹_› h (λe h=>?_) (λe h=>?_)|refine Kj.go (DU (o:=true)) ‹_› hc h (λn s1 U hr hmm hm1 hc h=>?_) (λe n s1 U he hc h=>?_)|refine Kj.go (FU (a:=1) (b:=2) Do Do) ‹_› hc h (λn s1 U hr hmm hm1 hc h=>?_) (λe n s1 U he hc h=>?_)|refine Rx.Ee (l:=l) hc AC (λown1 U hc=>?_)|refine KH (l:=l++[_]) (by rw [List.length_append]<;>show l.length+1<=_<;>omega) ‹_› hc h (O6 ‹_› Do) (λs2 own2 st2 hlt hm2 hc h=>?_)|refine Gg (l:=l) AC ‹_› hc h (λc s1 U hmm hm1 hc h=>?_) (λe n s1 U he hc h=>?_)|refine Gg (l:=l++[_]) (by rw [List.length_append]<;>show l.length+1<=_<;>omega) ‹_› hc h (λc s1 U hmm hm1 hc h=>?_) (λe n s1 U he hc h=>?_)|exact B8 hc (hQ _ _ h) rfl|exact Cv hc (hE _ _ h) rfl|exact Cv hc.drop (hE _ _ h) rfl|fail))
theorem gU {o:Bool}:Kj 52 (λs=>[Bn s,.bool o]) (MW o):=by
 refine ⟨λ{st0 s st rows K} hm hc h=>?_⟩
 refine pB Tryz.func52 ?_
 have hcase:(Ab s).1.kind=1\/(Ab s).1.kind=2\/(Ab s).1.kind=3\/(Ab s).1.kind=4\/(¬(Ab s).1.kind=1/\¬(Ab s).1.kind=2/\¬(Ab s).1.kind=3/\¬(Ab s).1.kind=4):=AC
 cases o with
 |false=>
  simp only [MW,TU,TT,FB,Kt,PD,Bool.false_eq_true,if_false,Rd.Ah,Rd.Ax,Rd.wp_seq,Rd.wp_ret] at h
  cases em:Ba s 9 Y1 with
  |true=>
   have hk:=O6 em Do
   rw [em,if_pos rfl] at h
   repeat' ((conv=>whnf);first|exact Cr|(refine Bg ?_;intros)|(refine Cs ?_ ?_ ?_;rotate_left)|(refine Bh ?_ ?_<;>intro _)|refine GM (λ_=>?_) ?_|refine U3 ‹_› ‹_› Do ?_|refine U2 ‹_› ‹_› Do ?_|refine U5 ‹_› ‹_› ?_|refine U4 ‹_› ‹_› ?_|refine Qf ‹_› h (λe h=>?_) (λe h=>?_)|refine Nl ‹_› ?_|refine Kj.go (DU) ‹_› hc h (λn s1 U hr hmm hm1 hc h=>?_) (λe n s1 U he hc h=>?_)|refine Kj.go (FU (a:=2) (b:=4) Do Do) ‹_› hc h (λn s1 U hr hmm hm1 hc h=>?_) (λe n s1 U he hc h=>?_)|refine KH (l:=[]) (Nat.zero_le _) ‹_› (hc.push []) h hk (λs2 own2 st2 hlt hm2 hc h=>?_)|refine FT ‹_› h hk (λs1 e1 hlt hm1 h=>?_)|refine Iu (Q:=λv s'=>∀st',Rx st0 st' rows->K (.ret (BM v s' 0)) st') (E:=λe s'=>∀n st',Rx st0 st' rows->K (.ret (BM n s' e.1)) st') ‹_› hc ‹_› h (λv s1 h U hc=>?_) (λe s1 h n U hc=>?_)|refine Rx.Ee (l:=[]++[_]) hc (Nat.le_of_ble_eq_true rfl) (λown1 U hc=>?_)|refine GL ?_|refine Da (l:=[]++[_]++[_]) ?_|refine Da (l:=[]++[_]) ?_|refine IF ‹_› h (λe he h=>?_)|refine Ac [(0,true),(2,true),(1,false),(3,true),(4,false)] [1] GE ?_|exact B8 hc h rfl|exact Cv hc h rfl|exact B8 hc.drop h rfl|exact Cv hc.drop h rfl|exact B8 hc (h FN) rfl|fail|with_reducible refine WF ?_)
  |false=>
   rw [em,if_neg Do] at h
   cases ep:Ba s 15 [40] with
   |true=>
    rw [ep,if_pos rfl] at h
    have hk:=O6 ep Do
    repeat' ((conv=>whnf);first|exact Cr|(refine Bg ?_;intros)|(refine Cs ?_ ?_ ?_;rotate_left)|(refine Bh ?_ ?_<;>intro _)|refine GM (λ_=>?_) ?_|refine U3 ‹_› ‹_› Do ?_|refine U2 ‹_› ‹_› Do ?_|refine U5 ‹_› ‹_› ?_|refine U4 ‹_› ‹_› ?_|refine Qf ‹_› h (λe h=>?_) (λe h=>?_)|refine Nl ‹_› ?_|refine Kj.go (DU) ‹_› hc h (λn s1 U hr hmm hm1 hc h=>?_) (λe n s1 U he hc h=>?_)|refine Kj.go (FU (a:=2) (b:=4) Do Do) ‹_› hc h (λn s1 U hr hmm hm1 hc h=>?_) (λe n s1 U he hc h=>?_)|refine KH (l:=[]) (Nat.zero_le _) ‹_› (hc.push []) h hk (λs2 own2 st2 hlt hm2 hc h=>?_)|refine FT ‹_› h hk (λs1 e1 hlt hm1 h=>?_)|refine Iu (Q:=λv s'=>∀st',Rx st0 st' rows->K (.ret (BM v s' 0)) st') (E:=λe s'=>∀n st',Rx st0 st' rows->K (.ret (BM n s' e.1)) st') ‹_› hc ‹_› h (λv s1 h U hc=>?_) (λe s1 h n U hc=>?_)|refine Rx.Ee (l:=[]++[_]) hc (Nat.le_of_ble_eq_true rfl) (λown1 U hc=>?_)|refine GL ?_|refine Da (l:=[]++[_]++[_]) ?_|refine Da (l:=[]++[_]) ?_|refine IF ‹_› h (λe he h=>?_)|refine Ac [(0,true),(2,true),(1,false),(3,true),(4,false)] [1] GE ?_|exact B8 hc h rfl|exact Cv hc h rfl|exact B8 hc.drop h rfl|exact Cv hc.drop h rfl|exact B8 hc (h FN) rfl|fail|with_reducible refine WF ?_)
   |false=>
    rw [ep,if_neg Do] at h
    rcases hcase with ck|ck|ck|ck|⟨c1,c2,c3,c4⟩
    iterate 4
     .have hk:(Ab s).1.kind≠0/\(Ab s).1.kind≠21:=by rw [ck];decide
      have c1:(Ab s).1.kind=1\/¬(Ab s).1.kind=1:=AC
      have c2:(Ab s).1.kind=2\/¬(Ab s).1.kind=2:=AC
      have c3:(Ab s).1.kind=3\/¬(Ab s).1.kind=3:=AC
      have c4:(Ab s).1.kind=4\/¬(Ab s).1.kind=4:=AC
      simp (config:={decide:=true}) only [CA,Rd.Ah,Rd.Ax,ck,if_true,if_false] at h
      rcases c1 with c1|c1<;>first|omega|(rcases c2 with c2|c2<;>first|omega|(rcases c3 with c3|c3<;>first|omega|(rcases c4 with c4|c4<;>first|omega|skip)))
      repeat' ((conv=>whnf);first|exact Cr|(refine Bg ?_;intros)|(refine Cs ?_ ?_ ?_;rotate_left)|(refine Bh ?_ ?_<;>intro _)|refine GM (λ_=>?_) ?_|refine U3 ‹_› ‹_› Do ?_|refine U2 ‹_› ‹_› Do ?_|refine U5 ‹_› ‹_› ?_|refine U4 ‹_› ‹_› ?_|refine Qf ‹_› h (λe h=>?_) (λe h=>?_)|refine Nl ‹_› ?_|refine Kj.go (DU) ‹_› hc h (λn s1 U hr hmm hm1 hc h=>?_) (λe n s1 U he hc h=>?_)|refine Kj.go (FU (a:=2) (b:=4) Do Do) ‹_› hc h (λn s1 U hr hmm hm1 hc h=>?_) (λe n s1 U he hc h=>?_)|refine KH (l:=[]) (Nat.zero_le _) ‹_› (hc.push []) h hk (λs2 own2 st2 hlt hm2 hc h=>?_)|refine FT ‹_› h hk (λs1 e1 hlt hm1 h=>?_)|refine Iu (Q:=λv s'=>∀st',Rx st0 st' rows->K (.ret (BM v s' 0)) st') (E:=λe s'=>∀n st',Rx st0 st' rows->K (.ret (BM n s' e.1)) st') ‹_› hc ‹_› h (λv s1 h U hc=>?_) (λe s1 h n U hc=>?_)|refine Rx.Ee (l:=[]++[_]) hc (Nat.le_of_ble_eq_true rfl) (λown1 U hc=>?_)|refine GL ?_|refine Da (l:=[]++[_]++[_]) ?_|refine Da (l:=[]++[_]) ?_|refine IF ‹_› h (λe he h=>?_)|refine Ac [(0,true),(2,true),(1,false),(3,true),(4,false)] [1] GE ?_|exact B8 hc h rfl|exact Cv hc h rfl|exact B8 hc.drop h rfl|exact Cv hc.drop h rfl|exact B8 hc (h FN) rfl|fail|with_reducible refine WF ?_)
    .have d1:((Ab s).1.kind==1)=false:=by simpa using c1
     have d2:((Ab s).1.kind==2)=false:=by simpa using c2
     have d3:((Ab s).1.kind==3)=false:=by simpa using c3
     have d4:((Ab s).1.kind==4)=false:=by simpa using c4
     have hk:True:=trivial
     simp only [CA,Rd.Ah,Rd.Ax,List.contains_cons,List.contains_nil,d1,d2,d3,d4,Bool.or_false,Bool.false_eq_true,if_false] at h
     repeat' ((conv=>whnf);first|exact Cr|(refine Bg ?_;intros)|(refine Cs ?_ ?_ ?_;rotate_left)|(refine Bh ?_ ?_<;>intro _)|refine GM (λ_=>?_) ?_|refine U3 ‹_› ‹_› Do ?_|refine U2 ‹_› ‹_› Do ?_|refine U5 ‹_› ‹_› ?_|refine U4 ‹_› ‹_› ?_|refine Qf ‹_› h (λe h=>?_) (λe h=>?_)|refine Nl ‹_› ?_|refine Kj.go (DU) ‹_› hc h (λn s1 U hr hmm hm1 hc h=>?_) (λe n s1 U he hc h=>?_)|refine Kj.go (FU (a:=2) (b:=4) Do Do) ‹_› hc h (λn s1 U hr hmm hm1 hc h=>?_) (λe n s1 U he hc h=>?_)|refine KH (l:=[]) (Nat.zero_le _) ‹_› (hc.push []) h hk (λs2 own2 st2 hlt hm2 hc h=>?_)|refine FT ‹_› h hk (λs1 e1 hlt hm1 h=>?_)|refine Iu (Q:=λv s'=>∀st',Rx st0 st' rows->K (.ret (BM v s' 0)) st') (E:=λe s'=>∀n st',Rx st0 st' rows->K (.ret (BM n s' e.1)) st') ‹_› hc ‹_› h (λv s1 h U hc=>?_) (λe s1 h n U hc=>?_)|refine Rx.Ee (l:=[]++[_]) hc (Nat.le_of_ble_eq_true rfl) (λown1 U hc=>?_)|refine GL ?_|refine Da (l:=[]++[_]++[_]) ?_|refine Da (l:=[]++[_]) ?_|refine IF ‹_› h (λe he h=>?_)|refine Ac [(0,true),(2,true),(1,false),(3,true),(4,false)] [1] GE ?_|exact B8 hc h rfl|exact Cv hc h rfl|exact B8 hc.drop h rfl|exact Cv hc.drop h rfl|exact B8 hc (h FN) rfl|fail|with_reducible refine WF ?_)
 |true=>
  simp only [MW,TU,TT,FB,Kt,PD,if_true,Rd.Ah,Rd.Ax,Rd.wp_seq,Rd.wp_ret] at h
  cases ep:Ba s 15 [40] with
  |true=>
   rw [ep,if_pos rfl] at h
   have hk:=O6 ep Do
   repeat' ((conv=>whnf);first|exact Cr|(refine Bg ?_;intros)|(refine Cs ?_ ?_ ?_;rotate_left)|(refine Bh ?_ ?_<;>intro _)|refine GM (λ_=>?_) ?_|refine U3 ‹_› ‹_› Do ?_|refine U2 ‹_› ‹_› Do ?_|refine U5 ‹_› ‹_› ?_|refine U4 ‹_› ‹_› ?_|refine Qf ‹_› h (λe h=>?_) (λe h=>?_)|refine Nl ‹_› ?_|refine Kj.go (DU) ‹_› hc h (λn s1 U hr hmm hm1 hc h=>?_) (λe n s1 U he hc h=>?_)|refine Kj.go (FU (a:=2) (b:=4) Do Do) ‹_› hc h (λn s1 U hr hmm hm1 hc h=>?_) (λe n s1 U he hc h=>?_)|refine KH (l:=[]) (Nat.zero_le _) ‹_› (hc.push []) h hk (λs2 own2 st2 hlt hm2 hc h=>?_)|refine FT ‹_› h hk (λs1 e1 hlt hm1 h=>?_)|refine Iu (Q:=λv s'=>∀st',Rx st0 st' rows->K (.ret (BM v s' 0)) st') (E:=λe s'=>∀n st',Rx st0 st' rows->K (.ret (BM n s' e.1)) st') ‹_› hc ‹_› h (λv s1 h U hc=>?_) (λe s1 h n U hc=>?_)|refine Rx.Ee (l:=[]++[_]) hc (Nat.le_of_ble_eq_true rfl) (λown1 U hc=>?_)|refine GL ?_|refine Da (l:=[]++[_]++[_]) ?_|refine Da (l:=[]++[_]) ?_|refine IF ‹_› h (λe he h=>?_)|refine Ac [(0,true),(2,true),(1,false),(3,true),(4,false)] [1] GE ?_|exact B8 hc h rfl|exact Cv hc h rfl|exact B8 hc.drop h rfl|exact Cv hc.drop h rfl|exact B8 hc (h FN) rfl|fail|with_reducible refine WF ?_)
  |false=>
   rw [ep,if_neg Do] at h
   rcases hcase with ck|ck|ck|ck|⟨c1,c2,c3,c4⟩
   iterate 4
    .have hk:(Ab s).1.kind≠0/\(Ab s).1.kind≠21:=by rw [ck];decide
     have c1:(Ab s).1.kind=1\/¬(Ab s).1.kind=1:=AC
     have c2:(Ab s).1.kind=2\/¬(Ab s).1.kind=2:=AC
     have c3:(Ab s).1.kind=3\/¬(Ab s).1.kind=3:=AC
     have c4:(Ab s).1.kind=4\/¬(Ab s).1.kind=4:=AC
     simp (config:={decide:=true}) only [CA,Rd.Ah,Rd.Ax,ck,if_true,if_false] at h
     rcases c1 with c1|c1<;>first|omega|(rcases c2 with c2|c2<;>first|omega|(rcases c3 with c3|c3<;>first|omega|(rcases c4 with c4|c4<;>first|omega|skip)))
     repeat' ((conv=>whnf);first|exact Cr|(refine Bg ?_;intros)|(refine Cs ?_ ?_ ?_;rotate_left)|(refine Bh ?_ ?_<;>intro _)|refine GM (λ_=>?_) ?_|refine U3 ‹_› ‹_› Do ?_|refine U2 ‹_› ‹_› Do ?_|refine U5 ‹_› ‹_› ?_|refine U4 ‹_› ‹_› ?_|refine Qf ‹_› h (λe h=>?_) (λe h=>?_)|refine Nl ‹_› ?_|refine Kj.go (DU) ‹_› hc h (λn s1 U hr hmm hm1 hc h=>?_) (λe n s1 U he hc h=>?_)|refine Kj.go (FU (a:=2) (b:=4) Do Do) ‹_› hc h (λn s1 U hr hmm hm1 hc h=>?_) (λe n s1 U he hc h=>?_)|refine KH (l:=[]) (Nat.zero_le _) ‹_› (hc.push []) h hk (λs2 own2 st2 hlt hm2 hc h=>?_)|refine FT ‹_› h hk (λs1 e1 hlt hm1 h=>?_)|refine Iu (Q:=λv s'=>∀st',Rx st0 st' rows->K (.ret (BM v s' 0)) st') (E:=λe s'=>∀n st',Rx st0 st' rows->K (.ret (BM n s' e.1)) st') ‹_› hc ‹_› h (λv s1 h U hc=>?_) (λe s1 h n U hc=>?_)|refine Rx.Ee (l:=[]++[_]) hc (Nat.le_of_ble_eq_true rfl) (λown1 U hc=>?_)|refine GL ?_|refine Da (l:=[]++[_]++[_]) ?_|refine Da (l:=[]++[_]) ?_|refine IF ‹_› h (λe he h=>?_)|refine Ac [(0,true),(2,true),(1,false),(3,true),(4,false)] [1] GE ?_|exact B8 hc h rfl|exact Cv hc h rfl|exact B8 hc.drop h rfl|exact Cv hc.drop h rfl|exact B8 hc (h FN) rfl|fail|with_reducible refine WF ?_)
   .have d1:((Ab s).1.kind==1)=false:=by simpa using c1
    have d2:((Ab s).1.kind==2)=false:=by simpa using c2
    have d3:((Ab s).1.kind==3)=false:=by simpa using c3
    have d4:((Ab s).1.kind==4)=false:=by simpa using c4
    have hk:True:=trivial
    simp only [CA,Rd.Ah,Rd.Ax,List.contains_cons,List.contains_nil,d1,d2,d3,d4,Bool.or_false,Bool.false_eq_true,if_false] at h
    repeat' ((conv=>whnf);first|exact Cr|(refine Bg ?_;intros)|(refine Cs ?_ ?_ ?_;rotate_left)|(refine Bh ?_ ?_<;>intro _)|refine GM (λ_=>?_) ?_|refine U3 ‹_› ‹_› Do ?_|refine U2 ‹_› ‹_› Do ?_|refine U5 ‹_› ‹_› ?_|refine U4 ‹_› ‹_› ?_|refine Qf ‹_› h (λe h=>?_) (λe h=>?_)|refine Nl ‹_› ?_|refine Kj.go (DU) ‹_› hc h (λn s1 U hr hmm hm1 hc h=>?_) (λe n s1 U he hc h=>?_)|refine Kj.go (FU (a:=2) (b:=4) Do Do) ‹_› hc h (λn s1 U hr hmm hm1 hc h=>?_) (λe n s1 U he hc h=>?_)|refine KH (l:=[]) (Nat.zero_le _) ‹_› (hc.push []) h hk (λs2 own2 st2 hlt hm2 hc h=>?_)|refine FT ‹_› h hk (λs1 e1 hlt hm1 h=>?_)|refine Iu (Q:=λv s'=>∀st',Rx st0 st' rows->K (.ret (BM v s' 0)) st') (E:=λe s'=>∀n st',Rx st0 st' rows->K (.ret (BM n s' e.1)) st') ‹_› hc ‹_› h (λv s1 h U hc=>?_) (λe s1 h n U hc=>?_)|refine Rx.Ee (l:=[]++[_]) hc (Nat.le_of_ble_eq_true rfl) (λown1 U hc=>?_)|refine GL ?_|refine Da (l:=[]++[_]++[_]) ?_|refine Da (l:=[]++[_]) ?_|refine IF ‹_› h (λe he h=>?_)|refine Ac [(0,true),(2,true),(1,false),(3,true),(4,false)] [1] GE ?_|exact B8 hc h rfl|exact Cv hc h rfl|exact B8 hc.drop h rfl|exact Cv hc.drop h rfl|exact B8 hc (h FN) rfl|fail|with_reducible refine WF ?_)
end
end Go.Proofs.Z
namespace Go.Aw
open Go
theorem Oy (h:l≠[]) (g:C5 (AK l)=true) (t:List UInt8):AK (l.take (AK l).2++t)=AK l:=by
 rcases l with _|⟨a,r⟩
 .exact absurd rfl h
 revert g
 generalize U:AK (a::r)=x
 have hx0:=U
 unfold AK at U
 dsimp only at U
 intro g
 rcases r with _|⟨b,_|⟨c,_|⟨d,r⟩⟩⟩
 all_goals simp only [List.getElem?_nil,List.getElem?_cons_zero,List.getElem?_cons_succ,List.getD_cons_zero,List.getD_cons_succ,Bool.and_false,Bool.false_eq_true,if_false] at U
 all_goals repeat' split at U
 all_goals subst U
 all_goals first
  |(exfalso;revert g;simp [C5];done)
  |skip
 all_goals simp only [List.take_succ_cons,List.take_zero,List.cons_append,List.nil_append]
 all_goals unfold AK
 all_goals dsimp only
 all_goals try simp only [List.getElem?_nil,List.getElem?_cons_zero,List.getElem?_cons_succ,List.getD_cons_zero,List.getD_cons_succ]
 all_goals repeat' (first|rfl|rw [if_pos ‹_›]|rw [if_neg ‹_›])
theorem Ox (h:l≠[]) (g:C5 (AK l)=true) (t:List UInt8):AK (l++t)=AK l:=by
 have:=Oy h g (l.drop (AK l).2++t)
 rwa [<-List.append_assoc,List.take_append_drop] at this
theorem QT (l t:List UInt8) (g:Br C5 l=l.length):Br p (l++t)=if Br p l=l.length then l.length+Br p t else Br p l:=by
 fun_induction Br p l with
 |case1=>simp
 |case2 a r hp ih=>
  have hne:a::r≠[]:=GT
  have U:C5 (AK (a::r))=true:=by
   cases hg:C5 (AK (a::r)) with
   |true=>rfl
   |false=>rw [Ev hg] at g;simp at g
  have hle:=F5 hne
  rw [Cn hne U] at g
  have g':Br C5 ((a::r).drop (AK (a::r)).2)=((a::r).drop (AK (a::r)).2).length:=M2
  have ih:=ih g'
  rw [Cn GT (by rw [Ox hne U];exact hp),Ox hne U,List.drop_append_of_le_length hle,ih,List.length_drop]
  have hsl:=PI p ((a::r).drop (AK (a::r)).2)
  rw [List.length_drop] at hsl
  by_cases hc:Br p ((a::r).drop (AK (a::r)).2)=(a::r).length - (AK (a::r)).2
  .rw [if_pos hc,if_pos AC];omega
  .rw [if_neg hc,if_neg AC]
 |case3 a r hp=>
  have hne:a::r≠[]:=GT
  have U:C5 (AK (a::r))=true:=by
   cases hg:C5 (AK (a::r)) with
   |true=>rfl
   |false=>rw [Ev hg] at g;simp at g
  rw [Ev (by rw [Ox hne U];simpa using hp),if_neg GT]
def Vd (l:List UInt8):Prop:=Br C5 l=l.length
theorem Vd.rune (h:Vd l) (hne:l≠[]):C5 (AK l)=true/\Vd (l.drop (AK l).2):=by
 have U:C5 (AK l)=true:=by
  cases U:C5 (AK l) with
  |true=>rfl
  |false=>
   unfold Vd at h
   rw [Ev U] at h
   grind
 refine ⟨U,?_⟩
 unfold Vd at h |-
 rw [Cn hne U] at h
 grind
theorem Vd.nil:Vd []:=D7 _
theorem Vd.app {t:List UInt8} (h:Vd l) (k:Vd t):Vd (l++t):=by
 unfold Vd at *
 rw [QT l t h,if_pos h,k,List.length_append]
inductive Bd:List UInt8->Nat->Prop
 |zero (l:List UInt8):Bd l 0
 |step {l:List UInt8} {k:Nat}:l≠[]->Bd (l.drop (AK l).2) k->Bd l ((AK l).2+k)
theorem Bd.add {i j:Nat} (h:Bd l i) (k:Bd (l.drop i) j):Bd l (i+j):=by
 induction h with
 |zero l=>simp_all
 |step U h ih=>
  rw [Nat.add_assoc]
  refine .step U (ih ?_)
  simp_all
theorem Bd.vd {i:Nat} (h:Bd l i) (k:Vd l):Vd (l.drop i):=by
 induction h with
 |zero l=>exact k
 |step U h ih=>
  have:=ih (k.rune U).2
  simp_all
theorem Bd.span (p:Nat×Nat->Bool) (l:List UInt8):Bd l (Br p l):=by
 fun_induction Br p l with
 |case1=>exact .zero _
 |case2 a r U ih=>exact .step GT ih
 |case3 a r U=>exact .zero _
theorem Bd.one (h:l≠[]):Bd l (AK l).2:=by
 have:=Bd.step h (.zero (l.drop (AK l).2))
 omega
theorem Zr (h:l≠[]) (g:C5 (AK l)=true) (k:Nat) (hk:1<=k) (U:k<(AK l).2):∃b,l[k]? =some b/\128<=b.toNat:=by
 rcases l with _|⟨a,r⟩
 .simp_all
 revert g U
 generalize hx:AK (a::r)=x
 unfold AK at hx
 dsimp only at hx
 intro g U
 have d2:∀b:UInt8,(b.toNat / 64==2)=true->128<=b.toNat:=λb hb=>by grind
 rcases r with _|⟨b,_|⟨c,_|⟨d,r⟩⟩⟩
 all_goals simp only [List.getElem?_nil,List.getElem?_cons_zero,List.getElem?_cons_succ,List.getD_cons_zero,List.getD_cons_succ,Bool.and_false,Bool.false_eq_true,if_false] at hx
 all_goals repeat' split at hx
 all_goals subst hx
 all_goals first
  |(exfalso;revert g;simp [C5];done)
  |skip
 all_goals first
  |(exfalso;have U:k<1:=U;omega)
  |skip
 all_goals simp only [Bool.and_eq_true] at *
 all_goals have hk':k=1\/k=2\/k=3:=by first|omega|(dsimp only at U;omega)
 all_goals rcases hk' with rfl|rfl|rfl
 all_goals first
  |(exfalso;omega)
  |(exfalso;dsimp only at U;omega)
  |skip
 all_goals refine ⟨_,rfl,d2 _ ?_⟩
 all_goals simp only [beq_iff_eq] at *
 all_goals omega
theorem Bd.lJ {k:Nat} {b:UInt8} (hv:Vd l) (hb:l[k]? =some b) (h:b.toNat<128):Bd l k/\Bd l (k+1):=by
 induction hn:l.length using Nat.strongRecOn generalizing l k with
 |_ n ih=>
  have U:l≠[]:=λe=>by simp_all
  obtain ⟨g,hv'⟩:=hv.rune U
  have hp:=DK l
  have hle:=F5 U
  by_cases hk:k<(AK l).2
  .by_cases h0:k=0
   .subst h0
    refine ⟨.zero l,?_⟩
    cases l with
    |nil=>simp_all
    |cons a r=>
     simp only [List.getElem?_cons_zero,Option.some.injEq] at hb
     subst hb
     have e:AK (a::r)=(a.toNat,1):=by unfold AK;dsimp only;rw [if_pos AC]
     have:=Bd.one U
     simp_all
   .obtain ⟨b',h1,h2⟩:=Zr U g k AC hk
    grind
  .obtain ⟨j,rfl⟩:∃j,k=(AK l).2+j:=⟨k - (AK l).2,AC⟩
   have:=ih (l.drop (AK l).2).length (by grind) hv' (k:=j) ke rfl
   exact ⟨.step U this.1,by rw [Nat.add_assoc];exact .step U this.2⟩
inductive BC:List UInt8->Nat->Prop
 |zero (l:List UInt8):BC l 0
 |step {l:List UInt8} {k:Nat}:l≠[]->BC (l.drop (AP l)) k->BC l (AP l+k)
theorem EL (l:List UInt8):(GN l=0/\¬(AQ l=13\/AQ l=10\/AQ l=12))\/(GN l=1/\(AQ l=13\/AQ l=10\/AQ l=12)/\¬(AQ l=13/\AQ (l.drop 1)=10))\/(GN l=2/\AQ l=13/\AQ (l.drop 1)=10):=by
 unfold GN
 grind
theorem Ez (U:0<=AQ l) (h:AQ l<128):(AK l).2=1/\(((AK l).1:Nat):Int)=AQ l:=by
 cases l with
 |nil=>exact absurd U Do
 |cons a r=>
  have h:((a.toNat:Nat):Int)<128:=h
  have e:AK (a::r)=(a.toNat,1):=by unfold AK;dsimp only;rw [if_pos AC]
  rw [e];exact ⟨rfl,rfl⟩
theorem Bd.cut {k:Nat} (h:Bd l k) (hn:¬(0<k/\AQ (l.drop (k - 1))=13/\AQ (l.drop k)=10)):BC l k:=by
 induction hm:l.length using Nat.strongRecOn generalizing l k with
 |_ n ih=>
  cases h with
  |zero=>exact .zero l
  |@step _ j U h=>
   have hp:=DK l
   have hle:=F5 U
   rcases EL l with ⟨e,h1⟩|⟨e,h1,h2⟩|⟨e,h1,h2⟩
   .have es:AP l=(AK l).2:=by unfold AP;rw [if_neg AC]
    rw [<-es]
    refine .step U ?_
    rw [es]
    refine ih _ (by grind) h (λhc=>hn ⟨AC,?_,?_⟩) rfl
    .have:=hc.2.1;rw [List.drop_drop] at this;rwa [show (AK l).2+j - 1=(AK l).2+(j - 1) by omega]
    simp_all
   .have ed:=Ez (l:=l) AC AC
    have es:AP l=(AK l).2:=by unfold AP;rw [if_pos AC,e,ed.1]
    rw [<-es]
    refine .step U ?_
    rw [es]
    refine ih _ (by grind) h (λhc=>hn ⟨AC,?_,?_⟩) rfl
    .have:=hc.2.1;rw [List.drop_drop] at this;rwa [show (AK l).2+j - 1=(AK l).2+(j - 1) by omega]
    .have:=hc.2.2;rwa [List.drop_drop] at this
   .have ed:=Ez (l:=l) AC AC
    rw [ed.1] at h hn |-
    have es:AP l=2:=by unfold AP;rw [if_pos AC,e]
    cases h with
    |zero=>simp_all
    |@step _ j hne' h=>
     have ed':=Ez (l:=l.drop 1) AC AC
     rw [ed'.1] at h hn |-
     rw [show 1+(1+j)=AP l+j by omega]
     refine .step U ?_
     rw [es]
     rw [List.drop_drop] at h
     have hl2:l.length≠0:=by have:=List.length_pos_iff.2 U;omega
     refine ih _ (by grind) h (λhc=>hn ⟨AC,?_,?_⟩) rfl
     .have:=hc.2.1;rw [List.drop_drop] at this;grind
     .have:=hc.2.2;rw [List.drop_drop] at this;grind
theorem SO:∀(n:Nat) (l:List UInt8) (k:Nat) (p:Int×Int),l.length<=n->1<=p.2->p.1<=(BI l k p).1/\(BI l k p).1<=p.1+l.length/\1<=(BI l k p).2/\(BI l k p).2<=p.2+8*l.length
 |n,[],k,p,_,h=>by rw [Fy];simp only [List.length_nil];omega
 |0,a::r,k,p,hn,h=>by simp at hn
 |n+1,a::r,k,p,hn,h=>by
  by_cases U:k<AP (a::r)
  .rw [EH U];omega
  .rw [DT GT U]
   have h1:=E8 (l:=a::r) GT
   have h2:=SF (a::r) p.1
   have h3:=N7 (a::r) h
   have hd:((a::r).drop (AP (a::r))).length=(a::r).length - AP (a::r):=List.length_drop
   have ih:=SO n ((a::r).drop (AP (a::r))) (k - AP (a::r)) (Ed (a::r) p.1,E7 (a::r) p.2) AC h3.1
   dsimp only at ih
   omega
theorem Q4:∀(n:Nat) (l:List UInt8) (k:Nat) (x c U y:Int),l.length<=n->(BI l k (x,c)).1 - x=(BI l k (y,U)).1 - y
 |n,[],k,x,c,U,y,_=>by rw [Fy,Fy];omega
 |0,a::r,k,x,c,U,y,hn=>by simp at hn
 |n+1,a::r,k,x,c,U,y,hn=>by
  by_cases hk:k<AP (a::r)
  .rw [EH hk,EH hk];omega
  .rw [DT GT hk,DT GT hk]
   have h1:=E8 (l:=a::r) GT
   have hd:((a::r).drop (AP (a::r))).length=(a::r).length - AP (a::r):=List.length_drop
   have ih:=Q4 n ((a::r).drop (AP (a::r))) (k - AP (a::r)) (Ed (a::r) x) (E7 (a::r) c) (E7 (a::r) U) (Ed (a::r) y) AC
   have e:Ed (a::r) x - x=Ed (a::r) y - y:=by unfold Ed;split<;>omega
   dsimp only
   omega
theorem UX:∀(n:Nat) (l:List UInt8) (k:Nat) (x c y:Int),l.length<=n->(BI l k (x,c)).2=(BI l k (y,c)).2
 |n,[],k,x,c,y,_=>by rw [Fy,Fy]
 |0,a::r,k,x,c,y,hn=>by simp at hn
 |n+1,a::r,k,x,c,y,hn=>by
  by_cases U:k<AP (a::r)
  .rw [EH U,EH U]
  .rw [DT GT U,DT GT U]
   have h1:=E8 (l:=a::r) GT
   have hd:((a::r).drop (AP (a::r))).length=(a::r).length - AP (a::r):=List.length_drop
   exact UX n _ _ _ _ _ AC
def B9 (d:Nat) (l:List UInt8):Option Nat:=
 match l with
 |[]=>none
 |a::r=>
  if (a.toNat:Int)=123/\AQ r=45 then (B9 (d+1) (r.drop 1)).map (·+2)
  else if (a.toNat:Int)=45/\AQ r=125 then (if d<=1 then some 2 else (B9 (d - 1) (r.drop 1)).map (·+2))
  else (B9 d r).map (·+1)
termination_by l.length
decreasing_by all_goals simp only [List.length_drop,List.length_cons];omega
def Ea (pos:Nat) (o:Option Nat):Int:=match o with
 |none=> -1
 |some n=>(pos+n:Nat)
theorem Md {k:Nat} {o:Option Nat}:Ea pos (o.map (·+k))=Ea (pos+k) o:=by
 cases o with
 |none=>rfl
 |some n=>simp only [Ea,Option.map_some];omega
theorem eI (h:¬pos<s.length):Ea pos (B9 d (s.drop pos))= -1:=by
 rw [List.drop_eq_nil_iff.2 AC,B9];rfl
theorem af (U:AQ (s.drop pos)=123) (h2:AQ (s.drop (pos+1))=45):Ea pos (B9 d (s.drop pos))=Ea (pos+2) (B9 (d+1) (s.drop (pos+2))):=by
 have hp:pos<s.length:=by
  by_cases hp:pos<s.length
  .exact hp
  .rw [Gv AC] at U;exact absurd U Do
 rw [List.drop_eq_getElem_cons hp] at U |-
 rw [B9,if_pos ⟨U,h2⟩,Md,List.drop_drop]
theorem Pl (U:AQ (s.drop pos)=45) (h2:AQ (s.drop (pos+1))=125):Ea pos (B9 d (s.drop pos))=if d<=1 then ((pos+2:Nat):Int) else Ea (pos+2) (B9 (d - 1) (s.drop (pos+2))):=by
 have hp:pos<s.length:=by
  by_cases hp:pos<s.length
  .exact hp
  .rw [Gv AC] at U;exact absurd U Do
 rw [List.drop_eq_getElem_cons hp] at U |-
 have U:((s[pos].toNat:Nat):Int)=45:=U
 rw [B9,if_neg (λe=>by omega),if_pos ⟨U,h2⟩]
 by_cases hd:d<=1
 .rw [if_pos hd,if_pos hd];rfl
 .rw [if_neg hd,if_neg hd,Md,List.drop_drop]
theorem jX (hp:pos<s.length) (U:¬(AQ (s.drop pos)=123/\AQ (s.drop (pos+1))=45)) (h2:¬(AQ (s.drop pos)=45/\AQ (s.drop (pos+1))=125)):Ea pos (B9 d (s.drop pos))=Ea (pos+1) (B9 d (s.drop (pos+1))):=by
 rw [List.drop_eq_getElem_cons hp] at U h2 |-
 have U:¬(((s[pos].toNat:Nat):Int)=123/\AQ (s.drop (pos+1))=45):=U
 have h2:¬(((s[pos].toNat:Nat):Int)=45/\AQ (s.drop (pos+1))=125):=h2
 rw [B9,if_neg U,if_neg h2,Md]
def Db:List UInt8->Nat
 |[]=>0
 |a::r=>if 0<GN (a::r) then 0 else Db r+1
theorem X2 (l:List UInt8):Db l<=l.length:=by
 induction l with
 |nil=>exact Nat.le_refl _
 |cons a r U=>unfold Db;split<;>simp only [List.length_cons]<;>omega
theorem jb (h:0<GN (s.drop pos)):Db (s.drop pos)=0:=by
 cases U:s.drop pos with
 |nil=>rfl
 |cons a r=>rw [U] at h;rw [Db,if_pos h]
theorem ja (U:pos<s.length) (h:¬0<GN (s.drop pos)):Db (s.drop pos)=Db (s.drop (pos+1))+1:=by
 rw [List.drop_eq_getElem_cons U] at h |-
 rw [Db,if_neg h]
theorem dj (U:¬pos<s.length):Db (s.drop pos)=0:=by
 rw [List.drop_eq_nil_iff.2 AC];rfl
theorem ZZ (s:List UInt8) (U pos:Nat) (h:U<=pos) (hpl:pos<=s.length):∃r,Dn s U pos=(s.take (pos+Db (s.drop pos))).drop U::r:=by
 fun_induction Dn s U pos with
 |case1 U pos hp hn ih=>rw [jb hn];exact ⟨_,rfl⟩
 |case2 U pos hp hn ih=>
  obtain ⟨r,e⟩:=ih AC AC
  rw [ja hp hn]
  exact ⟨r,by rw [e,show pos+1+Db (s.drop (pos+1))=pos+(Db (s.drop (pos+1))+1) by omega]⟩
 |case3 U pos hp=>
  rw [dj hp,List.take_of_length_le AC];exact ⟨[],rfl⟩
def Ek (l:List UInt8):Nat:=
 let n:=BQ (λc=>AJ c==5) l
 if 2<=n/\(l.take n).all (λb=>b==45)=true then n+Db (l.drop n) else 0
def Dj (l:List UInt8):Int:=
 if AQ l=123/\AQ (l.drop 1)=45 then Ea 2 (B9 1 (l.drop 2))
 else if AQ l=45 then (Ek l:Nat) else 0
def CC (s:List UInt8) (pos:Nat):Int×Int:=
 if Dj (s.drop pos)<0 then (0,60) else if Dj (s.drop pos)=0 then (0,0) else (pos+Dj (s.drop pos),0)
theorem eH (d:Nat) (l:List UInt8) (n:Nat) (h:B9 d l=some n):n<=l.length:=by
 fun_induction B9 d l generalizing n with
 |case1=>cases h
 |case2 d a r hc ih=>
  obtain ⟨m,hm,rfl⟩:=Option.map_eq_some_iff.1 h
  have:=ih m hm
  have hr:r≠[]:=λe=>by rw [e] at hc;exact absurd hc.2 Do
  have:=List.length_pos_iff.2 hr
  simp only [List.length_drop,List.length_cons] at *;omega
 |case3 d a r hc U hd=>
  have hr:r≠[]:=λe=>by rw [e] at U;exact absurd U.2 Do
  have:=List.length_pos_iff.2 hr
  injection h with h
  simp only [List.length_cons] at *;omega
 |case4 d a r hc U hd ih=>
  obtain ⟨m,hm,rfl⟩:=Option.map_eq_some_iff.1 h
  have:=ih m hm
  have hr:r≠[]:=λe=>by rw [e] at U;exact absurd U.2 Do
  have:=List.length_pos_iff.2 hr
  simp only [List.length_drop,List.length_cons] at *;omega
 |case5 d a r hc U ih=>
  obtain ⟨m,hm,rfl⟩:=Option.map_eq_some_iff.1 h
  have:=ih m hm
  simp only [List.length_cons] at *;omega
theorem aE (l:List UInt8):Ek l<=l.length:=by
 have h1:=E6 (λc=>AJ c==5) l
 have U:=X2 (l.drop (BQ (λc=>AJ c==5) l))
 rw [List.length_drop] at U
 unfold Ek
 dsimp only
 split<;>omega
theorem T2 (l:List UInt8):Dj l<=l.length:=by
 have h1:=aE l
 unfold Dj
 split
 .rename_i hc
  cases h:B9 1 (l.drop 2) with
  |none=>simp only [Ea];omega
  |some n=>
   have:=eH _ _ _ h
   have U:l.drop 1≠[]:=λe=>by rw [e] at hc;exact absurd hc.2 Do
   have:=List.length_pos_iff.2 U
   simp only [List.length_drop,Ea] at *;omega
 .split<;>omega
def GP (c:Int):Option Int:=
 if c=92\/c=34\/c=39 then some c
 else if c=97 then some 7 else if c=98 then some 8 else if c=116 then some 9 else if c=110 then some 10
 else if c=118 then some 11 else if c=102 then some 12 else if c=114 then some 13 else none
def HT (base:Int):Int->List UInt8->Int
 |v,[]=>v
 |v,a::r=>if BA ((a.toNat:Nat):Int) base<0 then v else HT base (min (v*base+BA ((a.toNat:Nat):Int) base) 1114112) r
def IL (base:Int) (l:List UInt8):Option (Int×Nat):=if Bx base l=0\/1114111<HT base 0 l then none else some (HT base 0 l,Bx base l)
def Et:List (List UInt8):=[[78,85,76],[83,79,72],[83,84,88],[69,84,88],[69,79,84],[69,78,81],[65,67,75],[66,69,76],[66,83],[72,84],[76,70],[86,84],[70,70],[67,82],[83,79],[83,73],[68,76,69],[68,67,49],[68,67,50],[68,67,51],[68,67,52],[78,65,75],[83,89,78],[69,84,66],[67,65,78],[69,77],[83,85,66],[69,83,67],[70,83],[71,83],[82,83],[85,83],[83,80],[68,69,76]]
def Ml (l:List UInt8):List (List UInt8)->Nat->Nat×Nat->Nat×Nat
 |[],_,p=>p
 |w::U,i,p=>Ml l U (i+1) (if p.2<w.length/\w.isPrefixOf l=true then (i,w.length) else p)
def IK (l:List UInt8):Int×Nat:=(if (Ml l Et 0 (0,0)).1=33 then 127 else (Ml l Et 0 (0,0)).1,(Ml l Et 0 (0,0)).2)
def Hf (text:Bool) (l:List UInt8):Option (Int×Nat):=
 match GP (AQ (l.drop 1)) with
 |some v=>some (v,2)
 |none=>
  if AQ (l.drop 1)=38/\text=true then some (-1,2)
  else if AQ (l.drop 1)=94/\64<=AQ (l.drop 2)/\AQ (l.drop 2)<=95 then some (AQ (l.drop 2) - 64,3)
  else if AQ (l.drop 1)=111 then (IL 8 (l.drop 2)).map λp=>(p.1,2+p.2)
  else if AQ (l.drop 1)=120 then (IL 16 (l.drop 2)).map λp=>(p.1,2+p.2)
  else if 48<=AQ (l.drop 1)/\AQ (l.drop 1)<=57 then (IL 10 (l.drop 1)).map λp=>(p.1,1+p.2)
  else if 0<(IK (l.drop 1)).2 then some ((IK (l.drop 1)).1,1+(IK (l.drop 1)).2) else none
def En (l:List UInt8):Nat:=
 if AQ l=92/\BQ (λc=>AJ c==1) (l.drop 1)≠0/\AQ (l.drop (1+BQ (λc=>AJ c==1) (l.drop 1)))=92 then BQ (λc=>AJ c==1) (l.drop 1)+2 else 0
def KN (d:Nat×Nat):Bool:=AJ (d.1:Nat)==0||(AJ (d.1:Nat)==1&& !(d.1==32))||(d.1==65533&&d.2==1)
def Ig (text:Bool) (l:List UInt8):Sum Int (Int×Nat):=
 match l with
 |[]=>.inl 50
 |a::r=>
  if AQ (a::r)=92 then
   if text=true/\0<En (a::r) then .inr (-1,En (a::r))
   else match Hf text (a::r) with
    |none=>.inl 51
    |some p=>.inr p
  else if KN (AK (a::r)) then .inl 50 else .inr (((AK (a::r)).1:Nat),(AK (a::r)).2)
theorem R8 (l:List UInt8):∀(U:List (List UInt8)) (i:Nat) (p:Nat×Nat),p.2<=l.length->(Ml l U i p).2<=l.length
 |[],_,p,h=>h
 |w::U,i,p,h=>by
  unfold Ml
  refine R8 l U _ _ ?_
  grind
theorem jn (l:List UInt8):En l<=l.length:=by
 unfold En
 split
 .rename_i h
  have U:=E6 (λc=>AJ c==1) (l.drop 1)
  rw [List.length_drop] at U
  have h2:l.drop (1+BQ (λc=>AJ c==1) (l.drop 1))≠[]:=λe=>by rw [e] at h;exact absurd h.2.2 Do
  grind
 omega
theorem Up {c v:Int} (h:GP c=some v):0<=c/\0<=v:=by
 unfold GP at h
 grind
theorem NW {p:Int×Nat} (h:IL base l=some p):1<=p.2/\p.2<=l.length:=by
 unfold IL at h
 split at h
 .cases h
 .injection h with h
  subst h
  exact ⟨AC,D5 base l⟩
theorem X4 {text:Bool} {p:Int×Nat} (h:Hf text l=some p):1<=p.2/\p.2<=l.length:=by
 unfold Hf at h
 split at h
 .rename_i v hs
  have:=Cc (l:=l) (k:=1) (Up hs).1
  grind
 .rename_i hs
  have e1:∀k,0<=AQ (l.drop k)->k<l.length:=λk=>Cc
  have e2:=e1 1
  have e3:=e1 2
  repeat' split at h
  .grind
  .grind
  .obtain ⟨q,U,rfl⟩:=Option.map_eq_some_iff.1 h
   have:=NW U
   grind
  .obtain ⟨q,U,rfl⟩:=Option.map_eq_some_iff.1 h
   have:=NW U
   grind
  .obtain ⟨q,U,rfl⟩:=Option.map_eq_some_iff.1 h
   have:=NW U
   grind
  .injection h with h;subst h
   have:=R8 (l.drop 1) Et 0 (0,0) (Nat.zero_le _)
   rw [List.length_drop] at this
   have h7:(IK (l.drop 1)).2=(Ml (l.drop 1) Et 0 (0,0)).2:=by simp only [IK]
   omega
  grind
theorem Lv {text:Bool} {p:Int×Nat} (h:Ig text l=.inr p):1<=p.2/\p.2<=l.length:=by
 unfold Ig at h
 split at h
 .cases h
 .rename_i a r
  have h1:=DK (a::r)
  have h2:=F5 (l:=a::r) GT
  have h3:=jn (a::r)
  split at h
  .split at h
   .grind
   .split at h
    .cases h
    .rename_i q U
     injection h with h;subst h;exact X4 U
  grind
def Ex (l:List UInt8):Sum (Nat×Int) Nat:=
 if AQ l=34 then .inr 1
 else match h:Ig true l with
  | .inl e=>.inl (0,e)
  | .inr p=>match Ex (l.drop p.2) with
    | .inl q=>.inl (q.1+p.2,q.2)
    | .inr n=>.inr (n+p.2)
termination_by l.length
decreasing_by
 have:=Lv h
 grind
def IC (l:List UInt8):List Int:=
 if AQ l=34 then []
 else match h:Ig true l with
  | .inl e=>[]
  | .inr p=>if p.1= -1 then IC (l.drop p.2) else p.1::IC (l.drop p.2)
termination_by l.length
decreasing_by
 all_goals
  have:=Lv h
  rw [List.length_drop];omega
def ID (pos:Nat) (l:List UInt8):List (Nat×Nat):=
 if AQ l=34 then []
 else match h:Ig true l with
  | .inl e=>[]
  | .inr p=>if 0<En l then (pos,pos+p.2)::ID (pos+p.2) (l.drop p.2) else ID (pos+p.2) (l.drop p.2)
termination_by l.length
decreasing_by
 all_goals
  have:=Lv h
  rw [List.length_drop];omega
def MP (l:List UInt8):Sum (Nat×Int) Nat:=
 if AQ l=39 then .inl (0,50)
 else match Ig false l with
  | .inl e=>.inl (0,e)
  | .inr p=>if AQ (l.drop p.2)=39 then .inr (p.2+1) else .inl (p.2,50)
def Ct (s:List UInt8) (pos:Nat):Int×Int×Int:=
 if AQ (s.drop pos)=34 then match Ex (s.drop (pos+1)) with
  | .inl q=>(0,(pos+1+q.1:Nat),q.2)
  | .inr n=>(14,(pos+1+n:Nat),0)
 else if AQ (s.drop pos)=39 then match MP (s.drop (pos+1)) with
  | .inl q=>(0,(pos+1+q.1:Nat),q.2)
  | .inr n=>(13,(pos+1+n:Nat),0)
 else (0,0,0)
theorem BC.add {i j:Nat} (h:BC l i) (k:BC (l.drop i) j):BC l (i+j):=by
 induction h with
 |zero l=>simp_all
 |step U h ih=>
  rw [Nat.add_assoc]
  refine .step U (ih ?_)
  simp_all
theorem BC.bd {k:Nat} (h:BC l k):Bd l k:=by
 induction h with
 |zero l=>exact .zero l
 |@step l k U h ih=>
  rcases EL l with ⟨e,h1⟩|⟨e,h1,h2⟩|⟨e,h1,h2⟩
  .have es:AP l=(AK l).2:=by unfold AP;rw [if_neg AC]
   rw [es] at ih |-;exact .step U ih
  .have ed:=Ez (l:=l) AC AC
   have es:AP l=(AK l).2:=by unfold AP;rw [if_pos AC,e,ed.1]
   rw [es] at ih |-;exact .step U ih
  .have ed:=Ez (l:=l) AC AC
   have ed':=Ez (l:=l.drop 1) AC AC
   have es:AP l=2:=by unfold AP;rw [if_pos AC,e]
   have hne':l.drop 1≠[]:=λe=>by rw [e] at h2;exact absurd h2 Do
   rw [es] at ih |-
   have b1:Bd (l.drop 1) (1+k):=by
    have:=Bd.step hne' (k:=k) ke
    rwa [ed'.1] at this
   have:=Bd.step U (k:=1+k) ke
   grind
theorem BC.one (U:0<=AQ l) (h1:AQ l<128) (h:¬(AQ l=13\/AQ l=10\/AQ l=12)):BC l 1:=by
 have hne:l≠[]:=λe=>by rw [e] at U;exact absurd U Do
 have ed:=Ez U h1
 have es:AP l=1:=by
  rcases EL l with ⟨e,_⟩|⟨_,h2,_⟩|⟨_,h2,_⟩
  .unfold AP;simp_all
  .omega
  .omega
 have:=BC.step hne (.zero (l.drop (AP l)))
 simp_all
theorem BC.span (hp:∀d,p d=true->d.1≠10/\d.1≠12/\d.1≠13) (l:List UInt8):BC l (Br p l):=by
 fun_induction Br p l with
 |case1=>exact .zero _
 |case2 a r hc ih=>
  have h1:=hp _ hc
  have es:AP (a::r)=(AK (a::r)).2:=by
   unfold AP
   rw [if_neg]
   rcases EL (a::r) with ⟨e,_⟩|⟨_,U,_⟩|⟨_,U,_⟩
   .omega
   .have:=Ez (l:=a::r) AC AC;omega
   .have:=Ez (l:=a::r) AC AC;omega
  have:=BC.step (l:=a::r) (k:=Br p ((a::r).drop (AK (a::r)).2)) GT ke
  simp_all
 |case3 a r hc=>exact .zero _
theorem cK {c:Int} (h:AJ c=k) (U:k≠1):c≠10/\c≠12/\c≠13:=by
 refine ⟨?_,?_,?_⟩<;>(rintro rfl;exact U (h.symm.trans Do))
theorem BC.kind (hk:k≠1) (l:List UInt8):BC l (BQ (λc=>AJ c==k) l):=by
 refine BC.span (λd U=>?_) l
 have:=cK (beq_iff_eq.1 U) hk
 omega
theorem BC.name (l:List UInt8):BC l (Kb l):=by
 refine BC.span (λd U=>?_) l
 have U:Hk ((d.1:Nat):Int)=true:=U
 refine ⟨?_,?_,?_⟩<;>(intro e;rw [e] at U;revert U;decide)
theorem cS {a:UInt8} (h:¬BA ((a.toNat:Nat):Int) base<0):48<=a.toNat/\a.toNat<128:=by
 unfold BA at h
 grind
theorem BC.row (base:Int) (l:List UInt8):BC l (Bx base l):=by
 induction l with
 |nil=>exact .zero _
 |cons a r U=>
  unfold Bx
  split
  .exact .zero _
  .rename_i h
   have:=cS h
   rw [Nat.add_comm]
   exact BC.add (BC.one (l:=a::r) (show (0:Int)<=((a.toNat:Nat):Int) by omega) (show ((a.toNat:Nat):Int)<128 by omega) (show ¬(((a.toNat:Nat):Int)=13\/((a.toNat:Nat):Int)=10\/((a.toNat:Nat):Int)=12) by omega)) U
theorem BC.qa (l:List UInt8):BC l (HA l):=by
 unfold HA
 split
 .exact BC.add (BC.one AC AC AC) (BC.row _ _)
 .exact .zero _
theorem BC.sign (l:List UInt8):BC l (Ke l):=by
 unfold Ke
 split
 .exact BC.one AC AC AC
 .exact .zero _
theorem BC.exp (l:List UInt8):BC l (K6 l):=by
 unfold K6
 split
 .rw [Nat.add_assoc]
  refine BC.add (BC.one AC AC AC) (BC.add (BC.sign _) ?_)
  rw [List.drop_drop]
  exact BC.row _ _
 .exact .zero _
theorem BC.num (l:List UInt8):BC l (Ej l).2:=by
 unfold Ej
 split
 .rename_i h
  unfold Cm at h
  split at h
  .rename_i hc
   have hb:=hc.2.1
   unfold D9 at hb
   have h1:65<=AQ (l.drop 1)/\AQ (l.drop 1)<128:=by
    split at hb
    .omega
    .omega
   have U:BC l 2:=BC.add (i:=1) (j:=1) (BC.one AC AC AC) (BC.one AC AC AC)
   exact BC.add U (BC.row _ _)
  omega
 .split
  .exact .zero _
  .refine BC.add (BC.add (BC.row _ _) (BC.qa _)) (BC.exp _)
theorem iG {c:Int} (h:AJ c=6):32<c/\c<128:=by
 unfold AJ at h
 split at h
 .omega
 .split at h
  .omega
  .split at h
   .omega
   .split at h
    .omega
    .split at h
     .unfold Eb at h
      omega
     .unfold KS at h
      omega
theorem jh (h:Gt l=6):32<AQ l/\AQ l<128:=by
 cases l with
 |nil=>exact absurd h Do
 |cons a r=>
  have h:AJ ((AK (a::r)).1:Nat)=6:=h
  have U:=iG h
  by_cases ha:a.toNat<128
  .rw [EV ha] at U
   exact U
  .have:=NL (r:=r) ha
   omega
theorem BC.plain (l:List UInt8):BC l (Bw l).2:=by
 unfold Bw
 split
 .rename_i h
  have:=jh h
  exact BC.one AC AC AC
 .split
  .exact BC.kind Do l
  .split
   .exact BC.name l
   .split
    .exact BC.name l
    .exact .zero _
theorem BC.scan (s:List UInt8) (n:Nat) (k:Int) (h:BC s n):BC s (G6 s n k).2:=by
 fun_induction G6 s n k with
 |case1 n k hn hc ih=>
  have hd:AQ (s.drop n)=46:=hc.2.1
  have U:=BC.one (l:=s.drop n) AC AC AC
  exact ih (BC.add (BC.add h U) (BC.plain _))
 |case2 n k hn hc=>exact h
 |case3 n k hn=>exact h
theorem BC.word (l:List UInt8):BC l (F2 l).2:=BC.scan l _ _ (BC.plain l)
theorem Vd.end (h:Vd l):Bd l l.length:=by
 have:=Bd.span C5 l
 rwa [show Br C5 l=l.length from h] at this
theorem BC.behind {k:Nat} (hv:Vd l) (h0:0<AQ (l.drop k)) (h:AQ (l.drop k)<128) (hn:AQ (l.drop k)≠13):BC l (k+1):=by
 have hk:=Cc (l:=l) (k:=k) AC
 have U:=List.getElem?_eq_getElem hk
 have e:=DL U
 refine ((Bd.lJ hv U AC).2).cut (λhc=>hn ?_)
 simp_all
theorem GC (d:Nat) (l:List UInt8) (n:Nat) (h:B9 d l=some n):2<=n/\AQ (l.drop (n - 1))=125:=by
 fun_induction B9 d l generalizing n with
 |case1=>cases h
 |case2 d a r hc ih=>
  obtain ⟨m,U,rfl⟩:=Option.map_eq_some_iff.1 h
  have:=ih m U
  refine ⟨AC,?_⟩
  rw [show m+2 - 1=(m - 1)+1+1 by omega,List.drop_succ_cons]
  simp_all
 |case3 d a r hc hk hd=>
  injection h with h
  subst h
  simp_all
 |case4 d a r hc hk hd ih=>
  obtain ⟨m,U,rfl⟩:=Option.map_eq_some_iff.1 h
  have:=ih m U
  refine ⟨AC,?_⟩
  rw [show m+2 - 1=(m - 1)+1+1 by omega,List.drop_succ_cons]
  simp_all
 |case5 d a r hc hk ih=>
  obtain ⟨m,U,rfl⟩:=Option.map_eq_some_iff.1 h
  have:=ih m U
  refine ⟨AC,?_⟩
  rw [show m+1 - 1=(m - 1)+1 by omega,List.drop_succ_cons]
  omega
theorem BC.qO (hv:Vd l):BC l (Db l):=by
 have hb:Bd l (Db l)/\¬(0<Db l/\AQ (l.drop (Db l - 1))=13/\AQ (l.drop (Db l))=10):=by
  have key:∀l:List UInt8,(Db l=l.length\/∃b,l[Db l]? =some b/\b.toNat<128)/\¬(0<Db l/\AQ (l.drop (Db l - 1))=13):=by
   intro l
   induction l with
   |nil=>exact ⟨.inl rfl,λh=>absurd h.1 Do⟩
   |cons a r ih=>
    by_cases hn:0<GN (a::r)
    .rw [Db,if_pos hn]
     refine ⟨.inr ⟨a,rfl,?_⟩,λh=>absurd h.1 Do⟩
     rcases EL (a::r) with ⟨e,_⟩|⟨_,U,_⟩|⟨_,U,_⟩
     .omega
     .simp only [AQ] at U;omega
     .simp only [AQ] at U;omega
    .rw [Db,if_neg hn]
     refine ⟨?_,?_⟩
     .simp_all
     .rintro ⟨_,h⟩
      by_cases h0:0<Db r
      .refine ih.2 ⟨h0,?_⟩
       rwa [show Db r+1 - 1=(Db r - 1)+1 by omega,List.drop_succ_cons] at h
      .rw [show Db r+1 - 1=0 by omega,List.drop_zero] at h
       rcases EL (a::r) with ⟨_,e⟩|⟨e,_⟩|⟨e,_⟩
       .omega
       .omega
       .omega
  refine ⟨?_,λh=>(key l).2 ⟨h.1,h.2.1⟩⟩
  rcases (key l).1 with h|⟨b,h1,U⟩
  .rw [h];exact hv.end
  .exact (Bd.lJ hv h1 U).1
 exact hb.1.cut hb.2
theorem BC.note (U:Vd l) {n:Nat} (h:Dj l=n):BC l n:=by
 unfold Dj at h
 split at h
 .rename_i hc
  cases hn:B9 1 (l.drop 2) with
  |none=>rw [hn] at h;simp only [Ea] at h;omega
  |some m=>
   rw [hn] at h
   simp only [Ea] at h
   have:=GC _ _ _ hn
   rw [List.drop_drop] at this
   have e:n=(2+(m - 1))+1:=AC
   rw [e]
   exact BC.behind U AC AC AC
 .split at h
  .have e:n=Ek l:=AC
   rw [e]
   unfold Ek
   dsimp only
   split
   .exact BC.add (BC.kind Do l) (BC.qO ((Bd.span _ l).vd U))
   .exact .zero _
  .have e:n=0:=AC
   rw [e];exact .zero _
theorem Xn (l:List UInt8) (n:Nat) (h:Ex l=.inr n):1<=n/\AQ (l.drop (n - 1))=34:=by
 fun_induction Ex l generalizing n with
 |case1 l hc=>simp_all
 |case2 l hc e he=>cases h
 |case3 l hc p hp q hq U=>cases h
 |case4 l hc p hp m hm U=>
  injection h with h
  subst h
  have:=U m hm
  refine ⟨AC,?_⟩
  have h2:=this.2
  rwa [List.drop_drop,show p.2+(m - 1)=m+p.2 - 1 by omega] at h2
theorem BC.quote {p:Nat} (hv:Vd (s.drop p)) (h:(Ct s p).1≠0):∃n,(Ct s p).2.1=(p+n:Nat)/\2<=n/\BC (s.drop p) n:=by
 unfold Ct at h |-
 split
 .rename_i hq
  rw [if_pos hq] at h
  cases U:Ex (s.drop (p+1)) with
  |inl q=>simp_all
  |inr n=>
   have:=Xn _ _ U
   refine ⟨n+1,by grind,AC,?_⟩
   have h2:=this.2
   rw [show s.drop (p+1)=(s.drop p).drop 1 by simp_all,List.drop_drop,show 1+(n - 1)=n by omega] at h2
   exact BC.behind hv AC AC AC
 .rename_i hq
  rw [if_neg hq] at h
  split
  .rename_i hq'
   rw [if_pos hq'] at h
   cases U:MP (s.drop (p+1)) with
   |inl q=>simp_all
   |inr n=>
    have:1<=n/\AQ ((s.drop (p+1)).drop (n - 1))=39:=by
     unfold MP at U
     split at U
     .cases U
     .grind
    refine ⟨n+1,by grind,AC,?_⟩
    have h2:=this.2
    rw [show s.drop (p+1)=(s.drop p).drop 1 by simp_all,List.drop_drop,show 1+(n - 1)=n by omega] at h2
    exact BC.behind hv AC AC AC
  simp_all
theorem UD (l:List (List UInt8)):(strs l).length=l.length:=by simp [strs]
theorem XG {l:List (List UInt8)} (h:l[i.toNat]? =some x) (U:0<=i) (k:K [V.str x]):0<=i/\∃e,(strs l)[i.toNat]? =some e/\K e:=
 ⟨U,[V.str x],by simp [strs,h],k⟩
theorem ec {l:List (List UInt8)} {K:Nat->Prop} (k:l.length<4611686018427387904->K l.length):∀m,m=(strs l).length->m<EF->K m:=λm U h=>by
 rw [UD] at U;subst U;exact k h
theorem J4 {p:UInt8->Bool}:∀(l:List UInt8),(l.dropWhile p).all p=true->l.all p=true
 |[],_=>rfl
 |a::r,h=>by
  rw [List.dropWhile_cons] at h
  by_cases U:p a=true
  .rw [if_pos U] at h;rw [List.all_cons,U,Bool.true_and];exact J4 r h
  simp_all
theorem dropWhile_nil {p:UInt8->Bool}:∀(l:List UInt8),l.dropWhile p=[]↔l.all p=true
 |[]=>by simp
 |a::r=>by
  rw [List.dropWhile_cons,List.all_cons]
  by_cases U:p a=true
  .rw [if_pos U,U,Bool.true_and];exact dropWhile_nil r
  simp_all
theorem QZ (l:List UInt8):Lib.trimB l 45=[]↔l.all (λb=>b==45)=true:=by
 unfold Lib.trimB Lib.trimLeftB Lib.trimRightB
 rw [dropWhile_nil,List.all_reverse]
 refine ⟨λh=>?_,λh=>?_⟩
 .have:=J4 _ h
  grind
 .have:l.reverse.dropWhile (λb=>b==45)=[]:=(dropWhile_nil _).2 (by grind)
  simp_all
theorem pA (a b:UInt8) (l:List UInt8):[a,b].isPrefixOf l=decide (AQ l=(a.toNat:Nat)/\AQ (l.drop 1)=(b.toNat:Nat)):=by
 rcases l with _|⟨x,_|⟨y,r⟩⟩
 .rfl
 .show (a==x&&false)=_
  rw [Bool.and_false]
  refine (decide_eq_false λe=>?_).symm
  have h:(-1:Int)=(b.toNat:Nat):=e.2;omega
 .show (a==x&&(b==y&&true))=decide (((x.toNat:Nat):Int)=(a.toNat:Nat)/\((y.toNat:Nat):Int)=(b.toNat:Nat))
  rw [Bool.and_true,Bool.eq_iff_iff,Bool.and_eq_true,beq_iff_eq,beq_iff_eq,decide_eq_true_iff]
  exact ⟨λe=>by simp_all,λe=>⟨UInt8.toNat_inj.1 AC,UInt8.toNat_inj.1 AC⟩⟩
theorem Xc {w:(AE->Env->St->Prop)->Env->St->Prop} {U:Nat->Option ((AE->Env->St->Prop)->Env->St->Prop)} {Q:AE->Env->St->Prop} {st:St}
 (h:w (Ya (λl env' st'=>∃y:Empty,(λe:Empty=>(e.elim:Nat)) y=l/\(λ_:Empty=>True) y/\((λe:Empty=>(e.elim:Env)) y).Ep env'/\St.le ((λe:Empty=>(e.elim:St)) y) st') Q) env st):N3 w U Q env st:=
 ⟨Empty,λe=>e.elim,λe=>e.elim,λe=>e.elim,λ_=>True,λe=>e.elim,h,λx=>x.elim⟩
theorem nj {r:Ay} {st:St} (hle:St.le st st') (h:R r st) (e:r=r'):∃r2 U,(r2=r'\/r2=r'.wk)/\St.le U st'/\R r2 U:=⟨r,st,.inl e,hle,h⟩
end Go.Aw
namespace Go.Proofs.Z
open Go Go.Aw
section
variable {st:St} {R:Ay->St->Prop}
theorem Si {n:Nat} (e:i.toNat=n) (h:R (.ret (.bool (decide (AQ (s.drop n)=123/\AQ (s.drop (n+1))=45)))) st):PC 130 [.str (s.drop i.toNat),.str [123,45]] st R:=by
 refine HK ?_
 rw [pA,e,List.drop_drop]
 exact h
theorem iI {n:Nat} (e:i.toNat=n) (h:R (.ret (.bool (decide (AQ (s.drop n)=45/\AQ (s.drop (n+1))=125)))) st):PC 130 [.str (s.drop i.toNat),.str [45,125]] st R:=by
 refine HK ?_
 rw [pA,e,List.drop_drop]
 exact h
theorem eJ (hl:s.length<=100000000) (hs:AQ s=123/\AQ (s.drop 1)=45) (h:R (.ret (.int .i64 (Ea 2 (B9 1 (s.drop 2))))) st):PC 131 [.str s] st R:=by
 have hs0:AQ (s.drop 0)=123:=hs.1
 refine pB Tryz.func131 ?_
 repeat' ((conv=>whnf);first|(refine BR ?_;intros)|(refine BS ?_ ?_<;>intro _)|refine Xc ?_)
 refine V0 (α:=Nat) (β:=Nat) (λpos d=>[(3,.int .i64 (d:Int)),(4,.int .i64 (pos:Int))]) (λ_ _=>[]) [0] [] (λ_ _=>st)
  (λpos d=>pos<=s.length/\d<=pos/\((pos=0/\d=0)\/(1<=d/\2<=pos/\Ea 2 (B9 1 (s.drop 2))=Ea pos (B9 d (s.drop pos))))) (λpos _=>s.length - pos) 0 0 ⟨Nat.zero_le _,Nat.le_refl _,.inl ⟨rfl,rfl⟩⟩ Yl (St.le_refl _) ?_
 rintro pos d ⟨h1,h2,h3⟩
 have q1:=λh=>Cc (l:=s) (k:=pos+1) h
 rcases h3 with ⟨rfl,rfl⟩|⟨h3,h4,h5⟩
 .have hs1:AQ (s.drop (0+1))=45:=hs.2
  repeat' ((conv=>whnf);first|(refine BR ?_;intros)|(refine BS ?_ ?_<;>intro _)|refine Si (n:=0) AC ?_)
  .conv=>whnf
   exact ⟨(2,1),⟨AC,AC,.inr ⟨Nat.le_refl _,Nat.le_refl _,rfl⟩⟩,AC,Yl,St.le_refl _⟩
 repeat' ((conv=>whnf);first|(refine BR ?_;intros)|(refine BS ?_ ?_<;>intro _)|refine Si (n:=pos) AC ?_|refine iI (n:=pos) AC ?_)
 .have k:AQ (s.drop pos)=123/\AQ (s.drop (pos+1))=45:=FS
  conv=>whnf
  exact ⟨(pos+2,d+1),⟨AC,AC,.inr ⟨AC,AC,h5.trans (af k.1 k.2)⟩⟩,AC,Yl,St.le_refl _⟩
 .have k:AQ (s.drop pos)=45/\AQ (s.drop (pos+1))=125:=FS
  have e:=Pl (d:=d) k.1 k.2
  rw [if_pos AC] at e
  exact fin h (BN AC)
 .have k:AQ (s.drop pos)=45/\AQ (s.drop (pos+1))=125:=FS
  have e:=Pl (d:=d) k.1 k.2
  rw [if_neg AC] at e
  obtain ⟨U,rfl⟩:∃U,d=U+1:=⟨d - 1,AC⟩
  rw [Nat.add_sub_cancel] at e
  have e2:((U+1:Nat):Int) - 1=(U:Int):=AC
  refine ⟨(pos+2,U),⟨AC,AC,.inr ⟨AC,AC,h5.trans e⟩⟩,AC,?_,St.le_refl _⟩
  rw [<-e2]
  exact Yl
 .conv=>whnf
  exact ⟨(pos+1,d),⟨AC,AC,.inr ⟨AC,AC,h5.trans (jX AC AC AC)⟩⟩,AC,Yl,St.le_refl _⟩
 .exact fin h (BN (by rw [h5,eI AC]))
theorem nO (hl:s.length<=100000000) (h:R (.ret (.int .i64 (Ek s:Nat))) st):PC 132 [.str s] st R:=by
 have hr:=E6 (λc=>AJ c==5) s
 generalize hn:BQ (λc=>AJ c==5) s=n at hr
 have hrun:∀{R:Ay->St->Prop},R (.ret (.int .i64 (n:Nat))) st->PC 129 [.str s,.int .i64 0,.int .i64 5] st R:=λh=>mj AC ke
 obtain ⟨rest,hg⟩:=ZZ (s.drop n) 0 0 (Nat.le_refl _) (Nat.zero_le _)
 rw [List.drop_zero,List.drop_zero,Nat.zero_add] at hg
 have U:∀{R:Ay->St->Prop},(∀own:AB,own.BG st->R (.ret (.slice 1 (strs (((s.drop n).take (Db (s.drop n)))::rest)) own)) (own.st st (((s.drop n).take (Db (s.drop n)))::rest).length))->PC 199 [.str (s.drop (n:Int).toNat)] st R:=
  λh=>Yg (by grind) ke
 refine pB Tryz.func132 ?_
 have hel:=X2 (s.drop n)
 have hlt:((s.drop n).take (Db (s.drop n))).length=Db (s.drop n):=NE
 rw [List.length_drop] at hel
 have hrl:Ek s=if 2<=n/\(s.take n).all (λb=>b==45)=true then n+Db (s.drop n) else 0:=by unfold Ek;rw [hn]
 repeat' ((conv=>whnf);first|(refine BR ?_;intros)|(refine BS ?_ ?_<;>intro _)|refine hrun ?_|refine oB Do ?_|refine U (λown ho=>?_)|refine XG (l:=((s.drop n).take (Db (s.drop n)))::rest) rfl AC ?_)
 .rw [if_neg AC] at hrl
  exact fin h (BN AC)
 .have ht:=(QZ (s.take n)).1 (by grind)
  rw [if_pos ⟨AC,ht⟩] at hrl
  exact nj (AB.Bu AC) h (BN AC)
 .have ht:¬(s.take n).all (λb=>b==45)=true:=λe=>absurd ((QZ (s.take n)).2 e) (by grind)
  rw [if_neg (λe=>ht e.2)] at hrl
  exact fin h (BN AC)
theorem QL (h:Dj (s.drop pos)<0):CC s pos=(0,60):=if_pos h
theorem Yt (h:Dj (s.drop pos)=0):CC s pos=(0,0):=by unfold CC;simp_all
theorem ah {n:Int} (h:Dj (s.drop pos)=n) (U:0<n) (e:i=pos+n):CC s pos=(i,0):=by unfold CC;grind
theorem Lu {n:Int} (h:Dj (s.drop pos)=n) (U:0<n) (e:i=pos+n):Ay.ret (.Bq [.int .i64 (CC s pos).1,.int .i64 (CC s pos).2])=Ay.ret (.Bq [.int .i64 i,.int .i64 0]):=by rw [ah h U e]
theorem ko (hl:s.length<=100000000) (hp:pos<s.length) (h:R (.ret (.Bq [.int .i64 (CC s pos).1,.int .i64 (CC s pos).2])) st):PC 60 [.str s,.int .i64 pos] st R:=by
 have hle:=T2 (s.drop pos)
 rw [List.length_drop] at hle
 have U:(s.drop pos).length<=100000000:=M2
 have d1:(s.drop pos).drop 1=s.drop (pos+1):=List.drop_drop
 obtain ⟨e,he⟩:∃e,s[pos]? =some e:=⟨s[pos],List.getElem?_eq_getElem hp⟩
 have he':s[(pos:Int).toNat]? =some e:=he
 have hh:=DL he
 refine pB Tryz.func60 ?_
 by_cases hk:AQ (s.drop pos)=123/\AQ (s.drop (pos+1))=45
 .have hN:Dj (s.drop pos)=Ea 2 (B9 1 ((s.drop pos).drop 2)):=if_pos ⟨hk.1,ke⟩
  have hc:∀{R:Ay->St->Prop},R (.ret (.int .i64 (Dj (s.drop pos)))) st->PC 131 [.str (s.drop (pos:Int).toNat)] st R:=λh=>eJ U ⟨hk.1,ke⟩ ke
  repeat' ((conv=>whnf);first|(refine BR ?_;intros)|(refine BS ?_ ?_<;>intro _)|refine Si (n:=pos) AC ?_|refine hc ?_)
  all_goals first
   |exact fin h (by rw [QL AC])
   |exact fin h (by rw [Yt AC])
   |exact fin h (Lu rfl AC AC)
   |exact fin h (Lu (hN AC) AC AC)
 .have hN:AQ (s.drop pos)=45->Dj (s.drop pos)=(Ek (s.drop pos):Nat):=λe=>by unfold Dj;omega
  have hN0:¬AQ (s.drop pos)=45->Dj (s.drop pos)=0:=λe=>by unfold Dj;simp_all
  have hc:∀{R:Ay->St->Prop},R (.ret (.int .i64 (Ek (s.drop pos):Nat))) st->PC 132 [.str (s.drop (pos:Int).toNat)] st R:=λh=>nO U h
  repeat' ((conv=>whnf);first|(refine BR ?_;intros)|(refine BS ?_ ?_<;>intro _)|refine Si (n:=pos) AC ?_|refine hc ?_)
  all_goals first
   |exact fin h (by rw [QL AC])
   |exact fin h (by rw [Yt AC])
   |exact fin h (Lu rfl AC AC)
   |exact fin h (Lu (hN AC) AC AC)
end
end Go.Proofs.Z
