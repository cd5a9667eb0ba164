/-
  Parts of a proof: lemmas that the last text uses.
-/
import Derived.Test.YtpkekfapphbgjaaGreatDoorQ2
set_option linter.unusedVariables false
set_option linter.unusedSimpArgs false
set_option maxHeartbeats 16000000
variable {r t l x s:List UInt8} {K:Go.Aw.V->Go.Aw.St->Prop} {b c p n pos d n1 n2 m:Nat} {cs args:List Go.Aw.V} {α X:Type} {f:Go.FuncId} {mk:Nat->List Go.Aw.V} {st0 st':Go.Aw.St} {rows:List (Go.Aw.AE×List Go.Aw.Nd)} {E:Go.Proofs.Z.Er->Go.Proofs.Z.Aj->Prop} {Q:Go.Aw.AG->Go.Aw.Env->Go.Aw.St->Prop} {r':Go.Aw.Au} {o:List Int} {P:Prop} {env:Go.Aw.Env} {k v i base ln Ds:Int} {g:List (Nat×Nat)} {j tx:Bool} {es Ay notes:List (List Go.Aw.V)} {J:Go.Aw.Mem} {R:Go.Aw.Au->Go.Aw.St->Prop} {fn:Go.Func} {w1 w2:Go.Aw.AE}
namespace Go.Proofs.Z
open Go Go.Aw
def uP (st0 st:St):AE×List Nd->Prop
 |(.any,_)=>False
 |(.full,_)=>True
 |(.tok t,l)=>st0.fresh t/\st.hw t=some (l.length*6)
def dm:AE×List Nd->AE×List Nd->Prop
 |(.tok t,_),(.tok u,_)=>t≠u
 |_,_=>True
theorem dm.symm {r q:AE×List Nd} (h:dm r q):dm q r:=by
 obtain ⟨o1,U⟩:=r;obtain ⟨o2,l2⟩:=q
 cases o1<;>cases o2<;>first|exact trivial|exact Ne.symm h
structure Rx (st0 st:St) (rows:List (AE×List Nd)):Prop where
 le:st0.le st
 ok:∀r ∈ rows,uP st0 st r
 ap:rows.Pairwise dm
section
variable {st0 st:St} {r q:AE×List Nd} {rows:List (AE×List Nd)}
theorem Rx.start:Rx st st []:=⟨St.le_refl _,λr U=>absurd U List.not_mem_nil,List.Pairwise.nil⟩
theorem Rx.drop (h:Rx st0 st (r::rows)):Rx st0 st rows:=⟨h.le,λq U=>h.ok q (List.mem_cons_of_mem _ U),(List.pairwise_cons.1 h.ap).2⟩
theorem Rx.push (h:Rx st0 st rows) (l:List Nd):Rx st0 st ((.full,l)::rows):=⟨h.le,λq U=>by
 rcases List.mem_cons.1 U with e|e
 .subst e;exact trivial
 .exact h.ok q e,List.pairwise_cons.2 ⟨λq U=>trivial,h.ap⟩⟩
theorem Rx.swap (h:Rx st0 st (r::q::rows)):Rx st0 st (q::r::rows):=by
 have h1:=List.pairwise_cons.1 h.ap
 have h2:=List.pairwise_cons.1 h1.2
 refine ⟨h.le,λx U=>h.ok x ?_,List.pairwise_cons.2 ⟨λx U=>?_,List.pairwise_cons.2 ⟨λx U=>h1.1 x (List.mem_cons_of_mem _ U),h2.2⟩⟩⟩
 .grind
 .rcases List.mem_cons.1 U with e|e
  .subst e;exact (h1.1 q (List.mem_cons_self ..)).symm
  simp_all
theorem Rx.fresh {t:Nat} (h:Rx st0 st rows) (U:st.fresh t):st0.fresh t:=by
 refine ⟨?_,?_⟩
 .cases e:st0.box t with
  |none=>rfl
  |some c=>
   have:=h.le.1 t c e
   rw [U.1] at this;grind
 .cases e:st0.hw t with
  |none=>rfl
  |some c=>
   have:=h.le.2 t c e
   rw [U.2] at this;grind
theorem Rx.pN {t:Nat} (h:Rx st0 st rows) (ht:st.fresh t):∀r ∈ rows,r.1≠.tok t:=λr U e=>by
 have:=h.ok r U
 obtain ⟨o,l⟩:=r
 dsimp only at e
 subst e
 have:=this.2
 rw [ht.2] at this;grind
theorem Rx.app {own:AE} {l new:List Nd} (h:Rx st0 st ((own,l)::rows)) (hb:l.length+new.length<=1000000000)
 (k:∀own' st',st'.box=st.box->Rx st0 st' ((own',l++new)::rows)->K (.slice 6 ((l++new).map Ax) own') st'):Am 6 72 (l.map Ax) own (new.map Ax) st K:=by
 have hw:(new.map Ax).map (·.map V.JB)=new.map Ax:=by
  rw [List.map_map]
  exact List.map_congr_left λx _=>rfl
 have hsc:((new.map Ax).all λv=>v.all V.sc)=true:=by
  rw [List.all_map,List.all_eq_true]
  intro x _;rfl
 have hlen:(l.map Ax).length+(new.map Ax).length=(l++new).length:=GT
 have hap:=List.pairwise_cons.1 h.ap
 have mk:∀(t:Nat) (m:St),(∀r ∈ rows,uP st0 m r)->st0.fresh t->st0.le m->(∀r ∈ rows,r.1≠.tok t)->m.hw t=some ((l++new).length*6)->Rx st0 m ((.tok t,l++new)::rows):=by
  intro t m h1 h2 h4 h5 h6
  refine ⟨h4,λr U=>?_,List.pairwise_cons.2 ⟨λr U=>?_,hap.2⟩⟩
  .rcases List.mem_cons.1 U with e|e
   .subst e;exact ⟨h2,h6⟩
   simp_all
  .obtain ⟨o,q⟩:=r
   cases o with
   |tok u=>exact λe=>h5 _ U i7
   |any=>exact trivial
   |full=>exact trivial
 refine ⟨by grind,by rw [hlen,List.length_append];unfold DG;omega,AH hsc ?_⟩
 cases own with
 |any=>exact (h.ok _ (List.mem_cons_self ..)).elim
 |full=>
  refine ⟨λe=>?_,λ_=>.inl λt ht=>?_⟩
  .simp_all
  .rw [hw,hlen,<-List.map_append]
   refine k (.tok t) _ rfl (mk t _ (λr U=>?_) (h.fresh ht) (St.Fk h.le (h.fresh ht).2 _) (h.drop.pN ht) (by simp [St.BZ]))
   have h1:=h.ok r (List.mem_cons_of_mem _ U)
   have h2:=h.drop.pN ht r U
   obtain ⟨o,q⟩:=r
   cases o with
   |tok u=>
    have:u≠t:=λe=>h2 i7
    exact ⟨h1.1,by simp only [St.BZ];rw [if_neg this];exact h1.2⟩
   |any=>exact h1
   |full=>exact h1
 |tok t0=>
  have h0:=h.ok _ (List.mem_cons_self ..)
  refine ⟨by rw [List.length_map];exact h0.2,.inl λt ht=>?_⟩
  rw [hw,hlen,<-List.map_append]
  have hne:∀r ∈ rows,r.1≠.tok t0:=λr U e=>by
   have:=hap.1 r U
   obtain ⟨o,q⟩:=r
   dsimp only at e
   subst e
   exact this rfl
  have hst:∀r ∈ rows,r.1≠.tok t:=λr U=>by
   rcases ht with rfl|ht
   .grind
   .exact h.drop.pN ht r U
  have hf:st0.fresh t:=by
   rcases ht with rfl|ht
   .exact h0.1
   .exact h.fresh ht
  refine k (.tok t) _ rfl (mk t _ (λr U=>?_) hf ⟨h.le.1,λx n hx=>?_⟩ hst (by simp [St.BZ]))
  .have h1:=h.ok r (List.mem_cons_of_mem _ U)
   have h2:=hst r U
   have h3:=hne r U
   obtain ⟨o,q⟩:=r
   cases o with
   |tok u=>
    have e1:u≠t:=λe=>h2 i7
    have e2:u≠t0:=λe=>h3 i7
    exact ⟨h1.1,by simp only [St.BZ,St.Ew];rw [if_neg e1,if_neg e2];exact h1.2⟩
   |any=>exact h1
   |full=>exact h1
  .simp only [St.BZ,St.Ew]
   split
   .rename_i e;subst e
    rw [hf.2] at hx;cases hx
   .split
    .rename_i e;subst e
     rw [h0.1.2] at hx;cases hx
    .exact h.le.2 x n hx
theorem Rx.Aa {b:Nat} {cs cs':List V} (h:Rx (st0.Aa b cs) st rows):Rx (st0.Aa b cs') (st.Aa b cs') rows:=by
 refine ⟨⟨λx c U=>?_,λx n U=>h.le.2 x n U⟩,λr hr=>?_,h.ap⟩
 .by_cases e:x=b
  .subst e;rw [St.Ah] at U |-;exact U
  .rw [St.Ak (Ne.symm e)] at U |-
   exact h.le.1 x c (by rw [St.Ak (Ne.symm e)];exact U)
 .have:=h.ok r hr
  obtain ⟨o,l⟩:=r
  cases o with
  |any=>exact this
  |full=>exact this
  |tok t=>
   have hb:b≠t:=by
    rintro rfl
    have:=this.1.1
    rw [St.Ah] at this;cases this
   exact ⟨⟨by rw [St.Ak hb];have:=this.1.1;rw [St.Ak hb] at this;omega,this.1.2⟩,this.2⟩
end
structure Cx (st0:St) (b:Nat) (s:Aj) (st:St) (rows:List (AE×List Nd)):Prop where
 has:Has st b s
 rx:∃cs,Rx (st0.Aa b cs) st rows
 mu:mu s<=100000000
structure Cy (st0:St) (b:Nat) (s:Aj) (st:St) (rows:List (AE×List Nd)):Prop where
 has:Has st b s
 rx:∃cs,Rx (st0.Aa b cs) st rows
section
variable {st0 st st':St} {b:Nat} {s s':Aj} {r q:AE×List Nd} {rows:List (AE×List Nd)}
theorem Cx.y (h:Cx st0 b s st rows):Cy st0 b s st rows:=⟨h.has,h.rx⟩
theorem Cy.drop (h:Cy st0 b s st (r::rows)):Cy st0 b s st rows:=⟨h.has,h.rx.imp λ_ e=>e.drop⟩
theorem Cx.zV (h:Cx st0 b s st rows) (hu:H5 st st' b s'):Cy st0 b s' st' rows:=by
 obtain ⟨U,cs,rfl⟩:=hu
 obtain ⟨c0,hr⟩:=h.rx
 exact ⟨U,⟨cs,hr.Aa⟩⟩
theorem Cx.hb (h:Cx st0 b s st rows):s.DN.length<=500000000:=FC h.mu
theorem Cx.start (h:Has st b s) (U:Proofs.Z.mu s<=100000000):Cx st b s st []:=
 ⟨h,by
   rcases h with e|⟨_,_,_,_,_,e⟩
   all_goals exact ⟨_,by rw [St.KX e];exact Rx.start⟩,U⟩
theorem Cx.drop (h:Cx st0 b s st (r::rows)):Cx st0 b s st rows:=⟨h.has,h.rx.imp λ_ e=>e.drop,h.mu⟩
theorem Cx.push (h:Cx st0 b s st rows) (l:List Nd):Cx st0 b s st ((.full,l)::rows):=⟨h.has,h.rx.imp λ_ e=>e.push l,h.mu⟩
theorem Cx.swap (h:Cx st0 b s st (r::q::rows)):Cx st0 b s st (q::r::rows):=⟨h.has,h.rx.imp λ_ e=>e.swap,h.mu⟩
theorem Cx.set (h:Cx st0 b s st rows) (hu:H5 st st' b s') (hm:Proofs.Z.mu s'<=100000000):Cx st0 b s' st' rows:=by
 obtain ⟨U,cs,rfl⟩:=hu
 obtain ⟨c0,hr⟩:=h.rx
 exact ⟨U,⟨cs,hr.Aa⟩,hm⟩
theorem Cx.Pw (h:Cx st0 b s st rows) (hu:H5 st st' b s') (U:Proofs.Z.mu s'<=Proofs.Z.mu s):Cx st0 b s' st' rows:=h.set hu (Nat.le_trans U h.mu)
theorem Cx.look (h:Cx st0 b s st rows):Cx st0 b s (st.Aa b (CS s)) rows:=h.Pw A5 (Nat.le_refl _)
theorem Cx.VL {t:Nat} (h:Cx st0 b s st rows) (U:st.fresh t):st0.box t=none/\t≠b:=by
 obtain ⟨c0,hr⟩:=h.rx
 have hb:t≠b:=by
  rintro rfl
  rcases h.has with e|⟨_,_,_,_,_,e⟩<;>(rw [U.1] at e;cases e)
 have:=(hr.fresh U).1
 rw [St.Ak hb.symm] at this
 simp_all
theorem Cx.xy {z:List V} (h:Cx st0 b s st rows) (hf:st.fresh c):Cx (st0.Aa c cs) b s ((st.Aa c z).Aa c cs) rows:=by
 have hb:=(h.VL hf).2
 rw [St.set_set]
 obtain ⟨c0,hr⟩:=h.rx
 refine ⟨?_,⟨c0,⟨λx v U=>?_,λx n U=>hr.le.2 x n U⟩,λr hr'=>?_,hr.ap⟩,h.mu⟩
 .rcases h.has with e|⟨q1,q2,q3,q4,q5,e⟩
  .exact .inl (by rw [St.Ak hb];exact e)
  .exact .inr ⟨q1,q2,q3,q4,q5,by rw [St.Ak hb];exact e⟩
 .by_cases e:x=c
  .subst e
   rw [St.Ak hb.symm,St.Ah] at U
   rw [St.Ah];exact U
  .rw [St.Ak (Ne.symm e)]
   by_cases e2:x=b
   .subst e2
    rw [St.Ah] at U
    exact hr.le.1 x v (by rw [St.Ah];exact U)
   .rw [St.Ak (Ne.symm e2),St.Ak (Ne.symm e)] at U
    exact hr.le.1 x v (by rw [St.Ak (Ne.symm e2)];exact U)
 .have hk:=hr.ok r hr'
  obtain ⟨o,l⟩:=r
  cases o with
  |any=>exact hk
  |full=>exact hk
  |tok t=>
   have htc:t≠c:=by
    rintro rfl
    have:=hk.2
    rw [hf.2] at this;cases this
   have h1:=hk.1.1
   have htb:t≠b:=by
    rintro rfl
    rw [St.Ah] at h1;cases h1
   rw [St.Ak htb.symm] at h1
   exact ⟨⟨by rw [St.Ak htb.symm,St.Ak htc.symm];exact h1,hk.1.2⟩,hk.2⟩
theorem Cx.Xd (h:Cx st0 b s st rows) (U:st.fresh c):Cx (st0.Aa c cs) b s (st.Aa c cs) rows:=by
 have:=h.xy (z:=cs) (cs:=cs) U
 rw [St.set_set] at this;omega
theorem Rx.unbox (h:Rx (st0.Aa c cs) st rows) (hf:st0.box c=none):Rx st0 st rows:=by
 refine ⟨⟨λx v hx=>?_,h.le.2⟩,λr hr=>?_,h.ap⟩
 .have:x≠c:=by rintro rfl;rw [hf] at hx;cases hx
  exact h.le.1 x v (by rw [St.Ak this.symm];exact hx)
 .have U:=h.ok r hr
  obtain ⟨o,l⟩:=r
  cases o with
  |any=>exact U
  |full=>exact U
  |tok t=>
   have h1:=U.1.1
   have:t≠c:=by rintro rfl;rw [St.Ah] at h1;cases h1
   rw [St.Ak this.symm] at h1
   exact ⟨⟨h1,U.1.2⟩,U.2⟩
theorem Tr {cs':List V} (h:c≠b):(st0.Aa c cs).Aa b cs'=(st0.Aa b cs').Aa c cs:=by
 simp only [St.Aa,St.mk.injEq,and_true]
 grind
theorem Cx.unbox {c:Nat} {cs:List V} (h:Cx (st0.Aa c cs) b s st rows) (U:st0.box c=none/\c≠b):Cx st0 b s st rows:=
 ⟨h.has,h.rx.imp λc0 hr=>by rw [Tr U.2] at hr;exact hr.unbox (by rw [St.Ak U.2.symm];grind),h.mu⟩
theorem Cy.unbox {c:Nat} {cs:List V} (h:Cy (st0.Aa c cs) b s st rows) (U:st0.box c=none/\c≠b):Cy st0 b s st rows:=
 ⟨h.has,h.rx.imp λc0 hr=>by rw [Tr U.2] at hr;exact hr.unbox (by rw [St.Ak U.2.symm];grind)⟩
theorem Cx.boxed (h:Cx (st0.Aa c cs) b s st rows) (U:st0.box c=none/\c≠b):st.box c=some cs:=by
 obtain ⟨c0,hr⟩:=h.rx
 exact hr.le.1 c cs (by rw [St.Ak U.2.symm,St.Ah])
theorem Has.eq (h:Has st b s) (e:st'.box=st.box):Has st' b s:=by unfold Has at h |-;simp_all
theorem Cx.app {own:AE} {l new:List Nd} {K:V->St->Prop} (h:Cx st0 b s st ((own,l)::rows)) (hb:l.length+new.length<=1000000000)
 (k:∀U st',Cx st0 b s st' ((U,l++new)::rows)->K (.slice 6 ((l++new).map Ax) U) st'):Am 6 72 (l.map Ax) own (new.map Ax) st K:=by
 obtain ⟨c0,hr⟩:=h.rx
 exact hr.app hb λU st' e hr'=>k U st' ⟨h.has.eq e,⟨c0,hr'⟩,h.mu⟩
theorem Cx.Hh {own:AE} {l:List Nd} {x:Nd} (h:Cx st0 b s st ((own,l)::rows)) (hb:l.length+1<=1000000000)
 (k:∀U st',Cx st0 b s st' ((U,l++[x])::rows)->K (.slice 6 ((l++[x]).map Ax) U) st'):Am 6 72 (l.map Ax) own [Ax x] st K:=h.app (new:=[x]) hb k
theorem Cx.vU {own:AE} {l:List Nd} {x y:Nd} (h:Cx st0 b s st ((own,l)::rows)) (hb:l.length+2<=1000000000)
 (k:∀U st',Cx st0 b s st' ((U,l++[x,y])::rows)->K (.slice 6 ((l++[x,y]).map Ax) U) st'):Am 6 72 (l.map Ax) own [Ax x,Ax y] st K:=h.app (new:=[x,y]) hb k
theorem Rx.Hh {own:AE} {l:List Nd} {x:Nd} (h:Rx st0 st ((own,l)::rows)) (hb:l.length+1<=1000000000)
 (k:∀U st',Rx st0 st' ((U,l++[x])::rows)->K (.slice 6 ((l++[x]).map Ax) U) st'):Am 6 72 (l.map Ax) own [Ax x] st K:=h.app (new:=[x]) hb λU st' _ c=>k U st' c
end
structure AZ {α:Type} (en:α->V) (f:FuncId) (mk:Nat->List V) (A:Rd α):Prop where
 ap:∀{st0:St} {b:Nat} {s:Aj} {st:St} {rows:List (AE×List Nd)} {K:Au->St->Prop},Cx st0 b s st rows->
 Rd.wp A s (λv s'=>∀st',Cx st0 b s' st' rows->K (.ret (en v)) st') (λe s'=>∀st',Cy st0 b s' st' rows->K (.B1 (fault e.1)) st')->PC f (mk b) st K
theorem AZ.go {U:α->V} {A:Rd α} {s:Aj} {st:St} {K:Au->St->Prop} {Q:α->Aj->Prop} (hf:AZ U f mk A) (hc:Cx st0 b s st rows) (h:Rd.wp A s Q E)
 (k:∀v s' st',A.run s=.inr (v,s')->mu s'<=mu s->Cx st0 b s' st' rows->Q v s'->K (.ret (U v)) st') (kb:∀e s' st',Cy st0 b s' st' rows->E e s'->K (.B1 (fault e.1)) st'):PC f (mk b) st K:=
 hf.ap hc (Rd.wp_mono h (λv s' r q st' c=>k v s' st' r (A.le _ _ _ r) c q) (λe s' _ q st' c=>kb e s' st' c q))
theorem AZ.u9 {U:α->V} {A:Rd α} {s:Aj} {st:St} {K:Au->St->Prop} {Q:α->Aj->Prop} (hf:AZ U f mk A) (hF:Rd.A6 A) (hc:Cx st0 b s st rows) (h:Rd.wp A s Q E)
 (k:∀v s' st',A.run s=.inr (v,s')->mu s'<mu s->Cx st0 b s' st' rows->Q v s'->K (.ret (U v)) st') (kb:∀e s' st',Cy st0 b s' st' rows->E e s'->K (.B1 (fault e.1)) st'):PC f (mk b) st K:=
 hf.go hc h (λv s' st' r m c q=>k v s' st' r (hF _ _ _ r) c q) kb
structure qw {α:Type} (en:α->AE->V) (ls:α->List Nd) (f:FuncId) (mk:Nat->List V) (A:Rd α):Prop where
 ap:∀{st0:St} {b:Nat} {s:Aj} {st:St} {rows:List (AE×List Nd)} {K:Au->St->Prop},Cx st0 b s st rows->
 Rd.wp A s (λv s'=>∀own st',Cx st0 b s' st' ((own,ls v)::rows)->K (.ret (en v own)) st') (λe s'=>∀st',Cy st0 b s' st' rows->K (.B1 (fault e.1)) st')->PC f (mk b) st K
theorem qw.go {U:α->AE->V} {ls:α->List Nd} {A:Rd α} {s:Aj} {st:St} {K:Au->St->Prop} {Q:α->Aj->Prop} (hf:qw U ls f mk A) (hc:Cx st0 b s st rows) (h:Rd.wp A s Q E)
 (k:∀v own s' st',A.run s=.inr (v,s')->mu s'<=mu s->Cx st0 b s' st' ((own,ls v)::rows)->Q v s'->K (.ret (U v own)) st') (kb:∀e s' st',Cy st0 b s' st' rows->E e s'->K (.B1 (fault e.1)) st'):PC f (mk b) st K:=
 hf.ap hc (Rd.wp_mono h (λv s' r q own st' c=>k v own s' st' r (A.le _ _ _ r) c q) (λe s' _ q st' c=>kb e s' st' c q))
structure uO (f:FuncId) (mk:Nat->V->List V) (A:List Nd->Rd (List Nd)):Prop where
 ap:∀{st0:St} {b:Nat} {s:Aj} {st:St} {rows:List (AE×List Nd)} {K:Au->St->Prop} {own:AE} {l:List Nd},l.length<=90000000->Cx st0 b s st ((own,l)::rows)->
 Rd.wp (A l) s (λl' s'=>∀own' st',Cx st0 b s' st' ((own',l')::rows)->K (.ret (.slice 6 (l'.map Ax) own')) st') (λe s'=>∀st',Cy st0 b s' st' rows->K (.B1 (fault e.1)) st')->PC f (mk b (.slice 6 (l.map Ax) own)) st K
theorem uO.go {mk:Nat->V->List V} {A:List Nd->Rd (List Nd)} {s:Aj} {st:St} {K:Au->St->Prop} {Q:List Nd->Aj->Prop} {own:AE} {l:List Nd} (hf:uO f mk A) (hl:l.length<=90000000) (hc:Cx st0 b s st ((own,l)::rows)) (h:Rd.wp (A l) s Q E)
 (k:∀l' U s' st',(A l).run s=.inr (l',s')->mu s'<=mu s->Cx st0 b s' st' ((U,l')::rows)->Q l' s'->K (.ret (.slice 6 (l'.map Ax) U)) st') (kb:∀e s' st',Cy st0 b s' st' rows->E e s'->K (.B1 (fault e.1)) st'):PC f (mk b (.slice 6 (l.map Ax) own)) st K:=
 hf.ap hl hc (Rd.wp_mono h (λv s' r q own st' c=>k v own s' st' r ((A l).le _ _ _ r) c q) (λe s' _ q st' c=>kb e s' st' c q))
def Gh {α:Type} (U:α->V) (f:FuncId) (args:List V) (b:Nat) (A:Rd α):Prop:=∀{st0:St} {s:Aj} {st:St} {rows:List (AE×List Nd)} {K:Au->St->Prop},Cx st0 b s st rows->
 Rd.wp A s (λv s'=>∀st',Cx st0 b s' st' rows->K (.ret (U v)) st') (λe s'=>∀st',Cy st0 b s' st' rows->K (.B1 (fault e.1)) st')->PC f args st K
theorem AZ.a {U:α->V} {A:Rd α} (h:AZ U f mk A):Gh U f (mk b) b A:=h.ap
theorem AZ.q {U:α->V} {A:Rd α} (h:AZ U f mk A:=by assumption) (e:args=mk b:=by rfl):Gh U f args b A:=e ▸ h.a
theorem Gh.go {U:α->V} {A:Rd α} {s:Aj} {st:St} {K:Au->St->Prop} {Q:α->Aj->Prop} (hf:Gh U f args b A)
 (k:∀v s' st',A.run s=.inr (v,s')->mu s'<=mu s->Cx st0 b s' st' rows->Q v s'->K (.ret (U v)) st') (kb:∀e s' st',Cy st0 b s' st' rows->E e s'->K (.B1 (fault e.1)) st') (hc:Cx st0 b s st rows:=by assumption) (h:Rd.wp A s Q E:=by assumption):PC f args st K:=
 hf hc (Rd.wp_mono h (λv s' r q st' c=>k v s' st' r (A.le _ _ _ r) c q) (λe s' _ q st' c=>kb e s' st' c q))
theorem dX {s:Aj} {st:St} {F:AE->List (AE×List Nd)} {K:Au->St->Prop} {r:AE->Au} {o:AE} (h:∀o st',Cx st0 b s st' (F o)->K (r o) st') (hc:Cx st0 b s st (F o)) (e:r o=r'):∃r2 U,(r2=r'\/r2=r'.wk)/\St.le U st/\K r2 U:=⟨r o,st,.inl e,St.le_refl _,h o st hc⟩
theorem CZ {s:Aj} {st:St} {K:Au->St->Prop} {r:Au} (hc:Cx st0 b s st rows) (h:∀st',Cx st0 b s st' rows->K r st') (e:r=r'.wk):∃r2 U,(r2=r'\/r2=r'.wk)/\St.le U st/\K r2 U:=⟨r,st,.inr e,St.le_refl _,h st hc⟩
theorem BU {s:Aj} {st:St} {K:Au->St->Prop} {e:Int} (hc:Cy st0 b s st rows) (h:∀st',Cy st0 b s st' rows->K (.B1 (fault e)) st'):∃r2 U,(r2=.B1 (fault e)\/r2=(Au.B1 (fault e)).wk)/\St.le U st/\K r2 U:=⟨_,st,.inl rfl,St.le_refl _,h st hc⟩
theorem X4 {c:Bool} {Q p q:Prop} (h:if c=true then P else Q) (k1:c=true->P->p) (U:c=false->Q->q):Bn c p q:=Wk (λe=>k1 e i7) (λe=>U e i7)
theorem Gp [BEq α] [LawfulBEq α] {a b:α} {Q p q:Prop} (h:if (a==b)=true then P else Q) (k1:a=b->P->p) (U:¬a=b->Q->q):Bn (a==b) p q:=
 Wg (λe=>k1 e i7) (λe=>U e i7)
theorem ga {c:Prop} [Decidable c] {Q p q:Prop} (h:if c then P else Q) (k1:c->P->p) (U:¬c->Q->q):Bn (decide c) p q:=
 Wh (λe=>k1 e i7) (λe=>U e i7)
theorem v8 {b:Bool} {p q:Prop} (h:b=true) (k:p):Bn b p q:=Wk (λ_=>k) (λe=>by simp_all)
theorem kR {b:Bool} {p q:Prop} (h:b=false) (k:q):Bn b p q:=Wk (λe=>by simp_all) (λ_=>k)
structure LS (σ:Type) where
 x:σ
 s:Aj
 m:St
 o:AE
theorem Ct {σ β:Type} {ih:(AG->Env->St->Prop)->Env->St->Prop} {Q0:AG->Env->St->Prop} {st:St} {s:Aj} {Q:β->Aj->Prop} {body:σ->Rd (Sum σ β)} {x0:σ}
 (f:σ->AE->List (Nat×V)) (g:σ->AE->List (Nat×List V)) (keep kb:List Nat) (rw:σ->AE->List (AE×List Nd)) (wt:σ->Nat) (U:AE) (hc:Cx st0 b s st (rw x0 U)) (h:Rd.wp (Rd.loop body x0) s Q E) (hl:wt x0+4*mu s<=500000000)
 (he:(env.Mk (f x0 U) (g x0 U) keep kb).E4 env)
 (hb:∀x s1 st1 own1,Cx st0 b s1 st1 (rw x own1)->Rd.wp (body x) s1 (Rd.again body s1 Q E) E->wt x+4*mu s1<=500000000->mu s1<=mu s->
   ih (BW (λenv' st'=>∃y:LS σ,(Cx st0 b y.s y.m (rw y.x y.o)/\Rd.wp (Rd.loop body y.x) y.s Q E/\wt y.x+4*mu y.s<=500000000/\mu y.s<=mu s)/\mu y.s<mu s1/\(env.Mk (f y.x y.o) (g y.x y.o) keep kb).E4 env'/\St.le y.m st') Q0)
    (env.Mk (f x own1) (g x own1) keep kb) st1):
 ∃(α:Type) (E:α->Env) (S:α->St) (J:α->Prop) (μ:α->Nat) (x0:α),J x0/\(E x0).E4 env/\St.le (S x0) st/\
  ∀x,J x->ih (BW (λenv' st'=>∃y,J y/\μ y<μ x/\(E y).E4 env'/\St.le (S y) st') Q0) (E x) (S x):=
 ⟨LS σ,λy=>env.Mk (f y.x y.o) (g y.x y.o) keep kb,λy=>y.m,
   λy=>Cx st0 b y.s y.m (rw y.x y.o)/\Rd.wp (Rd.loop body y.x) y.s Q E/\wt y.x+4*mu y.s<=500000000/\mu y.s<=mu s,λy=>mu y.s,⟨x0,s,st,U⟩,⟨hc,h,hl,Nat.le_refl _⟩,he,St.le_refl _,
   λy ⟨j1,j2,j3,j4⟩=>hb y.x y.s y.m y.o j1 (by rw [<-Rd.wp_loop];exact j2) j3 j4⟩
section
variable {st0 st:St} {b:Nat} {s:Aj} {rows:List (AE×List Nd)} {K:Au->St->Prop}
theorem S1 (U:Cx st0 b s st rows) (k:∀st',Cx st0 b s st' rows->K (.ret (F0 (Ac s).1)) st'):PC 112 [.ptr b 0] st K:=G8 U.has U.hb (k _ U.look)
theorem sx (U:Cx st0 b s st rows) (kk:∀st',Cx st0 b s st' rows->K (.ret (.bool (Bq s k x))) st'):PC 149 [.ptr b 0,.int .i64 k,.str x] st K:=bJ U.has U.hb (kk _ U.look)
theorem bK (U:Cx st0 b s st rows) (e:Bq s k x=true) (kk:∀st',Cx st0 b s st' rows->K (.ret (.bool true)) st'):PC 149 [.ptr b 0,.int .i64 k,.str x] st K:=sx U i7
theorem mR (U:Cx st0 b s st rows) (e:Bq s k x=false) (kk:∀st',Cx st0 b s st' rows->K (.ret (.bool false)) st'):PC 149 [.ptr b 0,.int .i64 k,.str x] st K:=sx U i7
theorem mQ {Q:Prop} (U:Cx st0 b s st rows) (h:if Bq s k x=true then P else Q) (k1:∀st',Cx st0 b s st' rows->Bq s k x=true->P->K (.ret (.bool true)) st') (k2:∀st',Cx st0 b s st' rows->Bq s k x=false->Q->K (.ret (.bool false)) st'):
 PC 149 [.ptr b 0,.int .i64 k,.str x] st K:=by
 cases e:Bq s k x with
 |true=>exact bK U e λst' c=>k1 st' c e i7
 |false=>exact mR U e λst' c=>k2 st' c e i7
theorem Hu:AZ enc 150 (λb=>[.ptr b 0]) AR:=by
 refine ⟨λ{st0 b s st rows K} U h=>?_⟩
 refine ML U.has U.hb (λe st' hu=>?_) (λe=>?_)
 .unfold Rd.wp at h;rw [C6 e] at h;exact h st' (U.Pw hu (Fv e).1)
 .unfold Rd.wp at h;rw [Ju e] at h;exact h _ U.look.y
theorem Og {Q:Nd->Aj->Prop} (hc:Cx st0 b s st rows) (h:Rd.wp AR s Q E) (e:Bq s k x=true) (hk:k≠0/\k≠21) (kk:∀s' st',(Ac s).2.1=s'->mu s'<mu s->Cx st0 b s' st' rows->Q (BA (Ac s).1) s'->K (.ret (enc (BA (Ac s).1))) st'):
 PC 150 [.ptr b 0] st K:=by
 unfold Rd.wp at h
 rw [pS e hk.1] at h
 have U:=Eh e hk.1 hk.2
 exact ML hc.has hc.hb (λ_ st' hu=>kk _ st' rfl U (hc.Pw hu (Nat.le_of_lt U)) h) (λn=>absurd (F6 e hk.1) n)
theorem Oh {Q:Nd->Aj->Prop} (hc:Cx st0 b s st rows) (h:Rd.wp AR s Q E) (hk:(Ac s).1.kind≠0/\(Ac s).1.kind≠21) (kk:∀s' st',(Ac s).2.1=s'->mu s'<mu s->Cx st0 b s' st' rows->Q (BA (Ac s).1) s'->K (.ret (enc (BA (Ac s).1))) st'):
 PC 150 [.ptr b 0] st K:=by
 have e:=Io hk.1
 unfold Rd.wp at h
 rw [C6 e] at h
 have U:=(Fv e).2 hk.2
 exact ML hc.has hc.hb (λ_ st' hu=>kk _ st' rfl U (hc.Pw hu (Nat.le_of_lt U)) h) (λn=>absurd e n)
theorem T9 {Q:α->Aj->Prop} (U:Cx st0 b s st rows) (h:Rd.wp (Ow:Rd α) s Q E) (kb:∀e s' st',Cy st0 b s' st' rows->E e s'->K (.B1 (fault e.1)) st'):PC 113 [.ptr b 0] st K:=
 kO U.has U.hb (kb _ _ _ U.look.y h)
theorem XK:AZ enc 153 (λb=>[.ptr b 0,.int .i64 k,.str x]) (Bx k x):=by
 refine ⟨λ{st0 b s st rows K} U h=>?_⟩
 unfold Bx at h
 rw [Rd.Aq,Rd.AK] at h
 refine qn U.has U.hb (λe1 e2 st' hu=>?_) (λe1 e2=>?_) (λe1=>?_)
 .rw [if_pos e1] at h
  unfold Rd.wp at h;rw [C6 e2] at h;exact h st' (U.Pw hu (Fv e2).1)
 .rw [if_pos e1] at h
  unfold Rd.wp at h;rw [Ju e2] at h;exact h _ U.look.y
 .rw [if_neg i7] at h
  exact h _ U.look.y
theorem yD {s':Aj} (U:Cx st0 b s st rows) (hm:mu s'<=100000000) (k:∀st',Cx st0 b s' st' rows->K (.ret (.Bp [])) st'):PC 154 [.ptr b 0,DD s'] st K:=sf U.has λst' hu=>k st' (U.set hu hm)
theorem LI {Q:Unit->Aj->Prop} (hc:Cx st0 b s st rows) (h:Rd.wp K1 s Q E) (hk:(Ac s).1.kind≠0/\(Ac s).1.kind≠21) (kk:∀s' st',(Ac s).2.1=s'->mu s'<mu s->Cx st0 b s' st' rows->Q () s'->K (.ret (F0 (Ac s).1)) st'):
 PC 186 [.ptr b 0] st K:=by
 have e:=Io hk.1
 unfold K1 at h
 rw [Rd.wp_seq] at h
 unfold Rd.wp at h
 rw [C6 e] at h
 have U:=(Fv e).2 hk.2
 exact Xq hc.has hc.hb (λ_ st' hu=>kk _ st' rfl U (hc.Pw hu (Nat.le_of_lt U)) h) (λn=>absurd e n)
theorem fv {Q:Unit->Aj->Prop} (hc:Cx st0 b s st rows) (h:if Bq (Ac s).2.1 k x=true then Rd.wp K1 s Q E else P) (hk:(Ac s).1.kind≠0/\(Ac s).1.kind≠21)
 (kk:∀s' st',mu s'<mu s->Cx st0 b s' st' rows->(if Bq s' k x=true then Q () s' else P)->K (.ret (F0 (Ac s).1)) st'):PC 186 [.ptr b 0] st K:=by
 have e:=Io hk.1
 have U:=(Fv e).2 hk.2
 refine Xq hc.has hc.hb (λ_ st' hu=>kk _ st' U (hc.Pw hu (Nat.le_of_lt U)) ?_) (λn=>absurd e n)
 split
 .rename_i hi
  rw [if_pos hi] at h
  unfold K1 at h
  rw [Rd.wp_seq] at h
  unfold Rd.wp at h
  rw [C6 e] at h
  exact h
 simp_all
theorem GL {s0:Aj} (U:Cx st0 b s st rows) (hm:mu s0<=100000000) (k:∀st',Cx st0 b s0 st' rows->K (.ret (.Bp [])) st'):PC 154 [.ptr b 0,.agg s0.cells] st K:=yD U hm k
theorem xR (hc:Cx st0 b s st rows) (hk:(Ac s).1.kind≠0/\(Ac s).1.kind≠21) (kk:∀s' st',(Ac s).2.1=s'->mu s'<mu s->Cx st0 b s' st' rows->K (.ret (enc (BA (Ac s).1))) st'):PC 150 [.ptr b 0] st K:=by
 have e:=Io hk.1
 have U:=(Fv e).2 hk.2
 exact ML hc.has hc.hb (λ_ st' hu=>kk _ st' rfl U (hc.Pw hu (Nat.le_of_lt U))) (λn=>absurd e n)
end
theorem C7 (h:P:=by with_reducible first|(show _/\_;first|exact Wa)|(show Bn _ _ _;first|exact Wb|exact Wc)|fail):P:=h
theorem Bb {A:Prop} (k:A) (h:A->P:=by intro k;with_reducible first|(show _/\_;first|exact Wd EQ k|exact Wm ‹_› AC k|exact Wn AC AC k|exact Wo AC AC k|exact Wp AC AC AC k|exact Wr Do AC AC k|exact Ws Do k|exact WB ‹_› AC k|exact WC AC AC k|exact WD AC AC k|exact WE AC AC AC k)|(show Bn _ _ _;first|exact Wt H9 k|exact Wu H9 k|exact Wv AC k|exact Ww AC k|exact v8 ‹_› k|exact kR ‹_› k|exact Wi k|exact Wj k)|(intro x y z;exact Wl k x y z)|(intro x y z;exact Wz k x y z)|(intro x y z;exact WA k x y z)|(show Exists _;first|exact Wq AC AC k)|fail):P:=h k
theorem C8 {B C:V->Prop} (k:V) (l:B k) (m:C k) (h:∀k,B k->C k->P:=by intro k l m;with_reducible first|(show Exists _;first|exact We k l m|exact W8 GE k l m|exact W0 GE k l m|exact W9 k l m)|fail):P:=h k l m
theorem Bc {A B:Prop} (k:A) (l:B) (h:A->B->P:=by intro k l;with_reducible first|(show Bn _ _ _;first|exact Gp ‹_› k l|exact ga ‹_› k l|exact X4 ‹_› k l)|fail):P:=h k l
theorem Be {A B:Prop} (k:A) (l:B) (h:A->B->P:=by intro k l;with_reducible first|(show Bn _ _ _;first|exact Wf Do k l|exact Wg k l|exact Wh k l|exact Wk k l)|fail):P:=h k l
theorem XN {A B:Prop} (k:A) (l:B) (h:A->B->P:=by intro k l;with_reducible first|(intro x y;exact Wx k l x y)|(intro x y;exact Wy k l x y)|fail):P:=h k l
section
variable {st:St} {R:Au->St->Prop}
attribute [local irreducible] Go.Aw.Am
theorem my {f:Fx} {v:Bool} (U:iH f=v) (h:R (.ret (.bool v)) st):PC 179 [.agg f.cells] st R:=by
 refine pB Tryz.func179 ?_
 repeat' ((conv=>whnf);first|(refine AA ?_;intros)|(refine AB ?_ ?_<;>intro _)|fail)
 all_goals conv=>whnf
 all_goals refine Av h ?_
 all_goals clear h
 all_goals rw [<-U]
 all_goals unfold iH
 all_goals simp only [Bool.and_eq_true,decide_eq_true_eq,Bool.and_eq_false_iff,decide_eq_false_iff_not]
 all_goals omega
theorem VM {n:Nd} (h:R (.ret (.int .i64 (EZ n))) st):PC 211 [enc n] st R:=by
 refine pB Tryz.func211 ?_
 repeat' ((conv=>whnf);first|(refine AA ?_;intros)|(refine AB ?_ ?_<;>intro _)|fail)
 all_goals conv=>whnf
 all_goals refine fin (r:=.ret (.int .i64 (EZ n))) h ?_
 all_goals clear h
 all_goals refine congrArg (λx=>Au.ret (V.int .i64 x)) (?_:EZ n=_)
 all_goals unfold EZ
 all_goals simp [*]
def kt:Prop:=∀(st:St) (R:Au->St->Prop),(∀st',st.le st'->R (.ret (.slice 3 (A4 OR) .any)) st')->PC 180 [] st R
theorem Dw {l:List Fx} {K:Nat->Prop} (k:l.length<4611686018427387904->K l.length):∀m,m=(A4 l).length->m<DG->K m:=λm U h=>by
 rw [show (A4 l).length=l.length from List.length_map ..] at U;subst U;exact k h
theorem F4 {l:List Fx} {x:Fx} {K:List V->Prop} (h:l[i.toNat]? =some x) (U:0<=i) (k:K x.cells):0<=i/\∃e,(A4 l)[i.toNat]? =some e/\K e:=
 ⟨U,x.cells,by simp [A4,h],k⟩
theorem bu {op:List UInt8} (l:List Fx) (x:Fx):PJ (l++[x]) op=if x.op=op/\iH x=true then x else PJ l op:=by
 unfold PJ
 rw [List.reverse_append]
 rfl
theorem rT (hK:kt) {env:List Fx} {op:List UInt8} {w:AE} (hl:env.length<=1000000000) (h:∀st',st.le st'->R (.ret (.agg (PJ env op).cells)) st'):PC 138 [.slice 3 (A4 env) w,.str op] st R:=by
 refine pB Tryz.func138 ?_
 repeat' ((conv=>whnf);first|(refine AA ?_;intros)|(refine AB ?_ ?_<;>intro _)|refine Dw (λ_=>?_))
 refine Dc (α:=Nat) (λi=>[(11,.int .i64 (i:Nat))]) [0,1,4,10] (λ_=>[]) [0] (λ_=>st) (λi=>i<=env.length/\PJ env op=PJ (env.take (env.length - i)) op) (λi=>env.length - i) 0 ⟨Nat.zero_le _,by rw [Nat.sub_zero,List.take_length]⟩ Yl (St.le_refl _) ?_
 rintro i ⟨hi,hf⟩
 by_cases U:i<env.length
 .obtain ⟨x,hx⟩:∃x,env[((env.length:Int) - 1 - (i:Int)).toNat]? =some x:=⟨_,List.getElem?_eq_getElem AC⟩
  have ht:env.take (env.length - i)=env.take (env.length - (i+1))++[x]:=by
   rw [show env.length - i=(env.length - (i+1))+1 by omega,List.take_add_one]
   rw [show env[env.length - (i+1)]? =some x by rw [<-hx];congr 1;omega];rfl
  rw [ht,bu] at hf
  by_cases h1:x.op=op
  .cases h2:iH x with
   |true=>
    rw [if_pos ⟨h1,h2⟩] at hf
    rw [hf] at h
    repeat' ((conv=>whnf);first|(refine AA ?_;intros)|(refine AB ?_ ?_<;>intro _)|refine Dw (λ_=>?_)|refine F4 hx AC ?_|refine my h2 ?_|refine Wq (a:=(env.length:Int) - 1) AC AC ?_|refine Wq (a:=(env.length:Int) - 1 - (i:Int)) AC AC ?_)
    all_goals exact AY rfl (h _ (St.le_refl _))
   |false=>
    rw [if_neg (λe=>by rw [h2] at e;exact absurd e.2 Do)] at hf
    repeat' ((conv=>whnf);first|(refine AA ?_;intros)|(refine AB ?_ ?_<;>intro _)|refine Dw (λ_=>?_)|refine F4 hx AC ?_|refine my h2 ?_|refine Wq (a:=(env.length:Int) - 1) AC AC ?_|refine Wq (a:=(env.length:Int) - 1 - (i:Int)) AC AC ?_|refine Wq (a:=(i:Int)+1) AC AC ?_)
    all_goals conv=>whnf
    all_goals exact ⟨i+1,⟨U,hf⟩,Nat.sub_lt_sub_left U (Nat.lt_succ_self i),Yl,St.le_refl _⟩
  .rw [if_neg (λe=>h1 e.1)] at hf
   repeat' ((conv=>whnf);first|(refine AA ?_;intros)|(refine AB ?_ ?_<;>intro _)|refine Dw (λ_=>?_)|refine F4 hx AC ?_|refine Wq (a:=(env.length:Int) - 1) AC AC ?_|refine Wq (a:=(env.length:Int) - 1 - (i:Int)) AC AC ?_|refine Wq (a:=(i:Int)+1) AC AC ?_)
   all_goals conv=>whnf
   all_goals exact ⟨i+1,⟨U,hf⟩,Nat.sub_lt_sub_left U (Nat.lt_succ_self i),Yl,St.le_refl _⟩
 .rw [show env.length - i=0 by omega,List.take_zero] at hf
  rw [hf] at h
  have hk:PJ [] op=Ns op OR:=rfl
  rw [hk] at h
  generalize hL:OR=L at h
  have hkn:∀{st:St} {R:Au->St->Prop},(∀st',st.le st'->R (.ret (.slice 3 (A4 L) .any)) st')->PC 180 [] st R:=λh=>hK _ _ (by rw [hL];exact h)
  have hLl:L.length<=1000:=by rw [<-hL];decide +kernel
  clear hL hk hf
  have hli:¬(i:Int)<(env.length:Int):=AC
  repeat' ((conv=>whnf);first|refine Ww hli ?_|(refine AA ?_;intros)|(refine AB ?_ ?_<;>intro _)|refine hkn (λst1 hle1=>?_)|refine Dw (λ_=>?_))
  refine Dc (α:=Nat) (λj=>[(34,.int .i64 (j:Nat))]) [1,4,32,33] (λ_=>[]) [0] (λ_=>st1) (λj=>j<=L.length/\Ns op L=Ns op (L.drop j)) (λj=>L.length - j) 0 ⟨Nat.zero_le _,rfl⟩ Yl (St.le_refl _) ?_
  rintro j ⟨hj,hf⟩
  by_cases U:j<L.length
  .obtain ⟨x,hx⟩:∃x,L[(j:Int).toNat]? =some x:=⟨_,List.getElem?_eq_getElem U⟩
   have hd:L.drop j=x::L.drop (j+1):=by
    rw [List.drop_eq_getElem_cons U]
    congr 1
    exact Option.some.inj ((List.getElem?_eq_getElem U).symm.trans (show L[j]? =some x from hx))
   rw [hd,Ns] at hf
   by_cases h1:x.op=op
   .rw [if_pos h1] at hf
    rw [hf] at h
    repeat' ((conv=>whnf);first|(refine AA ?_;intros)|(refine AB ?_ ?_<;>intro _)|refine Dw (λ_=>?_)|refine F4 hx AC ?_)
    all_goals exact AY rfl (h _ hle1)
   .rw [if_neg h1] at hf
    repeat' ((conv=>whnf);first|(refine AA ?_;intros)|(refine AB ?_ ?_<;>intro _)|refine Dw (λ_=>?_)|refine F4 hx AC ?_|refine Wq (a:=(j:Int)+1) AC AC ?_)
    all_goals conv=>whnf
    all_goals exact ⟨j+1,⟨U,hf⟩,Nat.sub_lt_sub_left U (Nat.lt_succ_self j),Yl,St.le_refl _⟩
  .rw [List.drop_of_length_le AC,Ns] at hf
   rw [hf] at h
   repeat' ((conv=>whnf);first|(refine AA ?_;intros)|(refine AB ?_ ?_<;>intro _)|refine Dw (λ_=>?_))
   all_goals exact AY rfl (h _ hle1)
end
end Go.Proofs.Z
namespace Go.Proofs.Z
open Go Go.Aw Go.Shelf
theorem jo {I : Mem} {st : St} {w : World} (hs : Cv I st w) : Lib.TabIs Tryz.prog w "strings.asciiSpace" .u8 Lib.asciiSpaceTab := by
 obtain ⟨c,ty,h1,h2⟩:=hs.shape 4 256 hs.T0.pJ
 have hg : Tryz.prog.globalNamed "strings.asciiSpace" = some 4 := by kernel_rfl
 unfold Lib.TabIs World.var?
 rw [hg]
 simp only [Option.bind_some,h1,Option.some.injEq]
 have hlen:Lib.asciiSpaceTab.length=256:=GE
 refine Array.ext (by rw [h2];simp [hlen]) λi hi hi'=>?_
 have U:=hs.cell _ _ _ (hs.T0.space i AC)
 simp only [World.cell?,h1,Option.isSome_none,Bool.false_eq_true,if_false] at U
 rw [Array.getElem?_eq_getElem hi] at U
 injection U with U
 rw [U]
 have hi2:i<Lib.asciiSpaceTab.length:=by rw [hlen];omega
 simp [List.getD_eq_getElem?_getD,List.getElem?_eq_getElem hi2]
section
variable {st:St} {R:Au->St->Prop}
theorem Ys (hz:s.length<4294967281) (ha:∀b ∈ s,b.toNat<128) (h:R (.ret (.slice 1 (strs (Lib.fields s)) .any)) st) (hl:∀x ∈ Lib.fields s,x.length<DG) (hn:(Lib.fields s).length<DG):PC 214 [.str s] st R:=by
 refine ⟨λI w U hs hc=>?_,⟨_,Tryz.func214,Do,Do⟩⟩
 simp only [Ao,AM] at hc
 obtain ⟨c,r,rfl,⟨rfl,_⟩,rfl⟩:=hc
 refine (Tryz.strings_Fields ⟨s.toArray⟩ w (by show s.toArray.size<_;simpa using hz) (λj b e=>ha b (List.mem_of_getElem? (by simpa using e))) (jo hs)).mono λe w' ⟨he,hw⟩=>?_
 subst hw
 obtain ⟨h1,h2,h3⟩:=hs.row ((Lib.fields s).map λl=>Value.string ⟨l.toArray⟩) 9
 refine ⟨_,_,.ret _,h1,h2,?_,h⟩
 subst he
 exact oW (Lib.fields s) hl hn h3
end
def YE (p:Nat->Bool) (s:List UInt8):Int:=if BB (λd=> !(p d.1)) s<s.length then (BB (λd=> !(p d.1)) s:Nat) else -1
theorem idx_eq (p:Nat->Bool) (s:List UInt8):∀(f pos:Nat),pos<=s.length->s.length - pos<=f->Lib.idxFuncFrom p true ⟨s.toArray⟩ f pos=if BB (λd=> !(p d.1)) (s.drop pos)<s.length - pos then ((pos+BB (λd=> !(p d.1)) (s.drop pos):Nat):Int) else -1
 |0,pos,h1,h2=>by
  rw [if_neg AC];rfl
 |f+1,pos,h1,h2=>by
  unfold Lib.idxFuncFrom
  have hz:(⟨s.toArray⟩:ByteArray).size=s.length:=by simp [ByteArray.size]
  rw [hz]
  by_cases U:pos<s.length
  .rw [if_pos U,Vq U]
   rcases hd:AU (s.drop pos) with ⟨c,m⟩
   have hr:=rune_le U hd.symm
   dsimp only
   by_cases hc:p c=true
   .rw [if_pos hc,Fq (p:=λd=> !(p d.1)) (by rw [hd];simp [hc]),if_pos AC];rfl
   .rw [if_neg hc,idx_eq p s f (pos+m) hr.1 AC]
    have e:=CC (p:=λd=> !(p d.1)) (Vx U) (by rw [hd];simpa using hc)
    rw [hd,List.drop_drop] at e
    dsimp only at e
    rw [e]
    by_cases hk:BB (λd=> !(p d.1)) (s.drop (pos+m))<s.length - (pos+m)
    .rw [if_pos hk,if_pos AC];congr 1;omega
    .rw [if_neg hk,if_neg AC]
  .rw [if_neg U,if_neg AC]
section
variable {st:St} {R:Au->St->Prop}
def xg:St:=⟨λ_=>none,λ_=>none⟩
theorem ej {g:FuncId} {p:Nat->Bool} (hg:∀c:Nat,c<=1114111->PC g [.int .i32 (c:Int)] xg λr _=>r=.ret (.bool (p c))) (h:R (.ret (.int .i64 (YE p s))) st):PC 44 [.str s,.func g [] []] st R:=by
 refine Dh ⟨_,Tryz.func44,Do,Do⟩ _ (λI w U hs hc=>?_) h
 simp only [Ao,AM] at hc
 obtain ⟨c1,r1,rfl,⟨rfl,hl⟩,c2,r2,rfl,⟨az,cs,rfl,rfl,rfl⟩,rfl⟩:=hc
 obtain ⟨fn,p1,p2,p3⟩:=(hg 0 Do).b
 have eg:∀args w,(callFunc g args).run Tryz.prog w=.ok (.enter g args) w:=λargs w=>by
  have hb:fn.body.isNone=false:=by cases hb:fn.body<;>simp_all
  simp only [callFunc,Sem.run_bind,Result.andThen_ok,run_program,p1]
  rw [p3]
  simp [hb]
 have hp:PredGrows Tryz.prog g #[] p w:=λW x hx hb=>by
  obtain ⟨_,hW⟩:=hs.below hb
  have hW0:Cv I xg W:=⟨hW.cell,hW.shape,λb cs e=>(by cases e),λb e=>absurd rfl e,λb n e=>(by cases e),hW.T0⟩
  refine ((hg x hx).a I W [.int .i32 x] hW0 (by simp only [Ao,AM];exact ⟨_,_,rfl,rfl,rfl⟩)).mono ?_
  rintro e w' ⟨I',st',r,k1,k2,k3,rfl⟩
  refine ⟨?_,⟨k1.os,k1.tape,k1.output,k1.size,λk hk=>k1.IL k hk rfl rfl⟩⟩
  cases e with
  |returned c=>
   have k3:AM I' (.bool (p x)) c:=k3
   simp only [AM] at k3
   rw [k3]
  |panicked _=>exact k3.elim
  |outgrown=>exact k3.elim
 refine (Tryz.strings_IndexFunc_grows g #[] eg p ⟨s.toArray⟩ w hp).mono λe w' ⟨he,hb⟩=>⟨⟨_,he,?_⟩,hb⟩
 simp only [AM]
 unfold Lib.idxFunc YE
 rw [idx_eq p s _ 0 (Nat.zero_le _) (by simp [ByteArray.size]),List.drop_zero,Nat.sub_zero,Nat.zero_add]
end
end Go.Proofs.Z
namespace Go.Aw
open Go
theorem RB (h:l≠[]) (g:Dk (AU l)=true) (t:List UInt8):AU (l.take (AU l).2++t)=AU l:=by
 rcases l with _|⟨a,r⟩
 .exact absurd rfl h
 revert g
 generalize U:AU (a::r)=x
 have hx0:=U
 unfold AU at U
 dsimp only at U
 intro g
 rcases r with _|⟨b,_|⟨c,_|⟨d,r⟩⟩⟩
 all_goals simp only [List.getElem?_nil,List.getElem?_cons_zero,List.getElem?_cons_succ,List.getD_cons_zero,List.getD_cons_succ,Bool.and_false,Bool.false_eq_true,if_false] at U
 all_goals repeat' split at U
 all_goals subst U
 all_goals first
  |(exfalso;revert g;simp [Dk];done)
  |skip
 all_goals simp only [List.take_succ_cons,List.take_zero,List.cons_append,List.nil_append]
 all_goals unfold AU
 all_goals dsimp only
 all_goals try simp only [List.getElem?_nil,List.getElem?_cons_zero,List.getElem?_cons_succ,List.getD_cons_zero,List.getD_cons_succ]
 all_goals repeat' (first|rfl|rw [if_pos ‹_›]|rw [if_neg ‹_›])
theorem RA (h:l≠[]) (g:Dk (AU l)=true) (t:List UInt8):AU (l++t)=AU l:=by
 have:=RB h g (l.drop (AU l).2++t)
 rwa [<-List.append_assoc,List.take_append_drop] at this
theorem UR {p:Nat×Nat->Bool} (l t:List UInt8) (g:BB Dk l=l.length):BB p (l++t)=if BB p l=l.length then l.length+BB p t else BB p l:=by
 fun_induction BB p l with
 |case1=>simp
 |case2 a r hp ih=>
  have hne:a::r≠[]:=GT
  have U:Dk (AU (a::r))=true:=by
   cases hg:Dk (AU (a::r)) with
   |true=>rfl
   |false=>rw [Fq hg] at g;simp at g
  have hle:=Hj hne
  rw [CC hne U] at g
  have g':BB Dk ((a::r).drop (AU (a::r)).2)=((a::r).drop (AU (a::r)).2).length:=IR
  have ih:=ih g'
  rw [CC GT (by rw [RA hne U];exact hp),RA hne U,List.drop_append_of_le_length hle,ih,List.length_drop]
  have hsl:=K2 p ((a::r).drop (AU (a::r)).2)
  rw [List.length_drop] at hsl
  by_cases hc:BB p ((a::r).drop (AU (a::r)).2)=(a::r).length - (AU (a::r)).2
  .rw [if_pos hc,if_pos AC];omega
  .rw [if_neg hc,if_neg AC]
 |case3 a r hp=>
  have hne:a::r≠[]:=GT
  have U:Dk (AU (a::r))=true:=by
   cases hg:Dk (AU (a::r)) with
   |true=>rfl
   |false=>rw [Fq hg] at g;simp at g
  rw [Fq (by rw [RA hne U];simpa using hp),if_neg GT]
def Vd (l:List UInt8):Prop:=BB Dk l=l.length
theorem Vd.rune (h:Vd l) (hne:l≠[]):Dk (AU l)=true/\Vd (l.drop (AU l).2):=by
 have U:Dk (AU l)=true:=by
  cases U:Dk (AU l) with
  |true=>rfl
  |false=>
   unfold Vd at h
   rw [Fq U] at h
   grind
 refine ⟨U,?_⟩
 unfold Vd at h |-
 rw [CC hne U] at h
 grind
theorem Vd.nil:Vd []:=EU _
theorem Vd.app (h:Vd l) (k:Vd t):Vd (l++t):=by
 unfold Vd at *
 rw [UR l t h,if_pos h,k,List.length_append]
inductive Bd:List UInt8->Nat->Prop
 |zero (l:List UInt8):Bd l 0
 |step {l:List UInt8} {k:Nat}:l≠[]->Bd (l.drop (AU l).2) k->Bd l ((AU l).2+k)
theorem Bd.add {i j:Nat} (h:Bd l i) (k:Bd (l.drop i) j):Bd l (i+j):=by
 induction h with
 |zero l=>simp_all
 |step U h ih=>
  rw [Nat.add_assoc]
  refine .step U (ih ?_)
  simp_all
theorem Bd.vd {i:Nat} (h:Bd l i) (k:Vd l):Vd (l.drop i):=by
 induction h with
 |zero l=>exact k
 |step U h ih=>
  have:=ih (k.rune U).2
  simp_all
theorem Bd.span (p:Nat×Nat->Bool) (l:List UInt8):Bd l (BB p l):=by
 fun_induction BB p l with
 |case1=>exact .zero _
 |case2 a r U ih=>exact .step GT ih
 |case3 a r U=>exact .zero _
theorem Bd.one (h:l≠[]):Bd l (AU l).2:=by
 have:=Bd.step h (.zero (l.drop (AU l).2))
 omega
theorem gA (h:l≠[]) (g:Dk (AU l)=true) (k:Nat) (hk:1<=k) (U:k<(AU l).2):∃b,l[k]? =some b/\128<=b.toNat:=by
 rcases l with _|⟨a,r⟩
 .simp_all
 revert g U
 generalize hx:AU (a::r)=x
 unfold AU at hx
 dsimp only at hx
 intro g U
 have d2:∀b:UInt8,(b.toNat / 64==2)=true->128<=b.toNat:=λb hb=>by grind
 rcases r with _|⟨b,_|⟨c,_|⟨d,r⟩⟩⟩
 all_goals simp only [List.getElem?_nil,List.getElem?_cons_zero,List.getElem?_cons_succ,List.getD_cons_zero,List.getD_cons_succ,Bool.and_false,Bool.false_eq_true,if_false] at hx
 all_goals repeat' split at hx
 all_goals subst hx
 all_goals first
  |(exfalso;revert g;simp [Dk];done)
  |skip
 all_goals first
  |(exfalso;have U:k<1:=U;omega)
  |skip
 all_goals simp only [Bool.and_eq_true] at *
 all_goals have hk':k=1\/k=2\/k=3:=by first|omega|(dsimp only at U;omega)
 all_goals rcases hk' with rfl|rfl|rfl
 all_goals first
  |(exfalso;omega)
  |(exfalso;dsimp only at U;omega)
  |skip
 all_goals refine ⟨_,rfl,d2 _ ?_⟩
 all_goals simp only [beq_iff_eq] at *
 all_goals omega
theorem Bd.uS {k:Nat} {b:UInt8} (hv:Vd l) (hb:l[k]? =some b) (h:b.toNat<128):Bd l k/\Bd l (k+1):=by
 induction hn:l.length using Nat.strongRecOn generalizing l k with
 |_ n ih=>
  have U:l≠[]:=λe=>by simp_all
  obtain ⟨g,hv'⟩:=hv.rune U
  have hp:=Ev l
  have hle:=Hj U
  by_cases hk:k<(AU l).2
  .by_cases h0:k=0
   .subst h0
    refine ⟨.zero l,?_⟩
    cases l with
    |nil=>simp_all
    |cons a r=>
     simp only [List.getElem?_cons_zero,Option.some.injEq] at hb
     subst hb
     have e:AU (a::r)=(a.toNat,1):=by unfold AU;dsimp only;rw [if_pos AC]
     have:=Bd.one U
     simp_all
   .obtain ⟨b',h1,h2⟩:=gA U g k AC hk
    grind
  .obtain ⟨j,rfl⟩:∃j,k=(AU l).2+j:=⟨k - (AU l).2,AC⟩
   have:=ih (l.drop (AU l).2).length (by grind) hv' (k:=j) i7 rfl
   exact ⟨.step U this.1,by rw [Nat.add_assoc];exact .step U this.2⟩
inductive BQ:List UInt8->Nat->Prop
 |zero (l:List UInt8):BQ l 0
 |step {l:List UInt8} {k:Nat}:l≠[]->BQ (l.drop (A3 l)) k->BQ l (A3 l+k)
theorem FJ (l:List UInt8):(H3 l=0/\¬(A1 l=13\/A1 l=10\/A1 l=12))\/(H3 l=1/\(A1 l=13\/A1 l=10\/A1 l=12)/\¬(A1 l=13/\A1 (l.drop 1)=10))\/(H3 l=2/\A1 l=13/\A1 (l.drop 1)=10):=by
 unfold H3
 grind
theorem Fu (U:0<=A1 l) (h:A1 l<128):(AU l).2=1/\(((AU l).1:Nat):Int)=A1 l:=by
 cases l with
 |nil=>exact absurd U Do
 |cons a r=>
  have h:((a.toNat:Nat):Int)<128:=h
  have e:AU (a::r)=(a.toNat,1):=by unfold AU;dsimp only;rw [if_pos AC]
  rw [e];exact ⟨rfl,rfl⟩
theorem Bd.cut {k:Nat} (h:Bd l k) (hn:¬(0<k/\A1 (l.drop (k - 1))=13/\A1 (l.drop k)=10)):BQ l k:=by
 induction hm:l.length using Nat.strongRecOn generalizing l k with
 |_ n ih=>
  cases h with
  |zero=>exact .zero l
  |@step _ j U h=>
   have hp:=Ev l
   have hle:=Hj U
   rcases FJ l with ⟨e,h1⟩|⟨e,h1,h2⟩|⟨e,h1,h2⟩
   .have es:A3 l=(AU l).2:=by unfold A3;rw [if_neg AC]
    rw [<-es]
    refine .step U ?_
    rw [es]
    refine ih _ (by grind) h (λhc=>hn ⟨AC,?_,?_⟩) rfl
    .have:=hc.2.1;rw [List.drop_drop] at this;rwa [show (AU l).2+j - 1=(AU l).2+(j - 1) by omega]
    simp_all
   .have ed:=Fu (l:=l) AC AC
    have es:A3 l=(AU l).2:=by unfold A3;rw [if_pos AC,e,ed.1]
    rw [<-es]
    refine .step U ?_
    rw [es]
    refine ih _ (by grind) h (λhc=>hn ⟨AC,?_,?_⟩) rfl
    .have:=hc.2.1;rw [List.drop_drop] at this;rwa [show (AU l).2+j - 1=(AU l).2+(j - 1) by omega]
    .have:=hc.2.2;rwa [List.drop_drop] at this
   .have ed:=Fu (l:=l) AC AC
    rw [ed.1] at h hn |-
    have es:A3 l=2:=by unfold A3;rw [if_pos AC,e]
    cases h with
    |zero=>simp_all
    |@step _ j hne' h=>
     have ed':=Fu (l:=l.drop 1) AC AC
     rw [ed'.1] at h hn |-
     rw [show 1+(1+j)=A3 l+j by omega]
     refine .step U ?_
     rw [es]
     rw [List.drop_drop] at h
     have hl2:l.length≠0:=by have:=List.length_pos_iff.2 U;omega
     refine ih _ (by grind) h (λhc=>hn ⟨AC,?_,?_⟩) rfl
     .have:=hc.2.1;rw [List.drop_drop] at this;grind
     .have:=hc.2.2;rw [List.drop_drop] at this;grind
theorem TC:∀(n:Nat) (l:List UInt8) (k:Nat) (p:Int×Int),l.length<=n->1<=p.2->p.1<=(B0 l k p).1/\(B0 l k p).1<=p.1+l.length/\1<=(B0 l k p).2/\(B0 l k p).2<=p.2+8*l.length
 |n,[],k,p,_,h=>by rw [GH];simp only [List.length_nil];omega
 |0,a::r,k,p,hn,h=>by simp at hn
 |n+1,a::r,k,p,hn,h=>by
  by_cases U:k<A3 (a::r)
  .rw [FE U];omega
  .rw [EF GT U]
   have h1:=Ge (l:=a::r) GT
   have h2:=Xv (a::r) p.1
   have h3:=Q3 (a::r) h
   have hd:((a::r).drop (A3 (a::r))).length=(a::r).length - A3 (a::r):=List.length_drop
   have ih:=TC n ((a::r).drop (A3 (a::r))) (k - A3 (a::r)) (E1 (a::r) p.1,Gd (a::r) p.2) AC h3.1
   dsimp only at ih
   omega
theorem U3:∀(n:Nat) (l:List UInt8) (k:Nat) (x c U y:Int),l.length<=n->(B0 l k (x,c)).1 - x=(B0 l k (y,U)).1 - y
 |n,[],k,x,c,U,y,_=>by rw [GH,GH];omega
 |0,a::r,k,x,c,U,y,hn=>by simp at hn
 |n+1,a::r,k,x,c,U,y,hn=>by
  by_cases hk:k<A3 (a::r)
  .rw [FE hk,FE hk];omega
  .rw [EF GT hk,EF GT hk]
   have h1:=Ge (l:=a::r) GT
   have hd:((a::r).drop (A3 (a::r))).length=(a::r).length - A3 (a::r):=List.length_drop
   have ih:=U3 n ((a::r).drop (A3 (a::r))) (k - A3 (a::r)) (E1 (a::r) x) (Gd (a::r) c) (Gd (a::r) U) (E1 (a::r) y) AC
   have e:E1 (a::r) x - x=E1 (a::r) y - y:=by unfold E1;split<;>omega
   dsimp only
   omega
theorem Z8:∀(n:Nat) (l:List UInt8) (k:Nat) (x c y:Int),l.length<=n->(B0 l k (x,c)).2=(B0 l k (y,c)).2
 |n,[],k,x,c,y,_=>by rw [GH,GH]
 |0,a::r,k,x,c,y,hn=>by simp at hn
 |n+1,a::r,k,x,c,y,hn=>by
  by_cases U:k<A3 (a::r)
  .rw [FE U,FE U]
  .rw [EF GT U,EF GT U]
   have h1:=Ge (l:=a::r) GT
   have hd:((a::r).drop (A3 (a::r))).length=(a::r).length - A3 (a::r):=List.length_drop
   exact Z8 n _ _ _ _ _ AC
def Co (d:Nat) (l:List UInt8):Option Nat:=
 match l with
 |[]=>none
 |a::r=>
  if (a.toNat:Int)=123/\A1 r=45 then (Co (d+1) (r.drop 1)).map (·+2)
  else if (a.toNat:Int)=45/\A1 r=125 then (if d<=1 then some 2 else (Co (d - 1) (r.drop 1)).map (·+2))
  else (Co d r).map (·+1)
termination_by l.length
decreasing_by all_goals simp only [List.length_drop,List.length_cons];omega
def EX (pos:Nat) (o:Option Nat):Int:=match o with
 |none=> -1
 |some n=>(pos+n:Nat)
theorem OH {k:Nat} {o:Option Nat}:EX pos (o.map (·+k))=EX (pos+k) o:=by
 cases o with
 |none=>rfl
 |some n=>simp only [EX,Option.map_some];omega
theorem od (h:¬pos<s.length):EX pos (Co d (s.drop pos))= -1:=by
 rw [List.drop_eq_nil_iff.2 AC,Co];rfl
theorem iL (U:A1 (s.drop pos)=123) (h2:A1 (s.drop (pos+1))=45):EX pos (Co d (s.drop pos))=EX (pos+2) (Co (d+1) (s.drop (pos+2))):=by
 have hp:pos<s.length:=by
  by_cases hp:pos<s.length
  .exact hp
  .rw [HP AC] at U;exact absurd U Do
 rw [List.drop_eq_getElem_cons hp] at U |-
 rw [Co,if_pos ⟨U,h2⟩,OH,List.drop_drop]
theorem SO (U:A1 (s.drop pos)=45) (h2:A1 (s.drop (pos+1))=125):EX pos (Co d (s.drop pos))=if d<=1 then ((pos+2:Nat):Int) else EX (pos+2) (Co (d - 1) (s.drop (pos+2))):=by
 have hp:pos<s.length:=by
  by_cases hp:pos<s.length
  .exact hp
  .rw [HP AC] at U;exact absurd U Do
 rw [List.drop_eq_getElem_cons hp] at U |-
 have U:((s[pos].toNat:Nat):Int)=45:=U
 rw [Co,if_neg (λe=>by omega),if_pos ⟨U,h2⟩]
 by_cases hd:d<=1
 .rw [if_pos hd,if_pos hd];rfl
 .rw [if_neg hd,if_neg hd,OH,List.drop_drop]
theorem tg (hp:pos<s.length) (U:¬(A1 (s.drop pos)=123/\A1 (s.drop (pos+1))=45)) (h2:¬(A1 (s.drop pos)=45/\A1 (s.drop (pos+1))=125)):EX pos (Co d (s.drop pos))=EX (pos+1) (Co d (s.drop (pos+1))):=by
 rw [List.drop_eq_getElem_cons hp] at U h2 |-
 have U:¬(((s[pos].toNat:Nat):Int)=123/\A1 (s.drop (pos+1))=45):=U
 have h2:¬(((s[pos].toNat:Nat):Int)=45/\A1 (s.drop (pos+1))=125):=h2
 rw [Co,if_neg U,if_neg h2,OH]
def DE:List UInt8->Nat
 |[]=>0
 |a::r=>if 0<H3 (a::r) then 0 else DE r+1
theorem dT (l:List UInt8):DE l<=l.length:=by
 induction l with
 |nil=>exact Nat.le_refl _
 |cons a r U=>unfold DE;split<;>simp only [List.length_cons]<;>omega
theorem rP (h:0<H3 (s.drop pos)):DE (s.drop pos)=0:=by
 cases U:s.drop pos with
 |nil=>rfl
 |cons a r=>rw [U] at h;rw [DE,if_pos h]
theorem rO (U:pos<s.length) (h:¬0<H3 (s.drop pos)):DE (s.drop pos)=DE (s.drop (pos+1))+1:=by
 rw [List.drop_eq_getElem_cons U] at h |-
 rw [DE,if_neg h]
theorem l6 (U:¬pos<s.length):DE (s.drop pos)=0:=by
 rw [List.drop_eq_nil_iff.2 AC];rfl
theorem ix (s:List UInt8) (frm pos:Nat) (h:frm<=pos) (hpl:pos<=s.length):∃r,DY s frm pos=(s.take (pos+DE (s.drop pos))).drop frm::r:=by
 fun_induction DY s frm pos with
 |case1 frm pos U hn ih=>rw [rP hn];exact ⟨_,rfl⟩
 |case2 frm pos U hn ih=>
  obtain ⟨r,e⟩:=ih AC AC
  rw [rO U hn]
  exact ⟨r,by rw [e,show pos+1+DE (s.drop (pos+1))=pos+(DE (s.drop (pos+1))+1) by omega]⟩
 |case3 frm pos U=>
  rw [l6 U,List.take_of_length_le AC];exact ⟨[],rfl⟩
def E6 (l:List UInt8):Nat:=
 let n:=B3 (λc=>AP c==5) l
 if 2<=n/\(l.take n).all (λb=>b==45)=true then n+DE (l.drop n) else 0
def DR (l:List UInt8):Int:=
 if A1 l=123/\A1 (l.drop 1)=45 then EX 2 (Co 1 (l.drop 2))
 else if A1 l=45 then (E6 l:Nat) else 0
def CJ (s:List UInt8) (pos:Nat):Int×Int:=
 if DR (s.drop pos)<0 then (0,60) else if DR (s.drop pos)=0 then (0,0) else (pos+DR (s.drop pos),0)
theorem n9 (d:Nat) (l:List UInt8) (n:Nat) (h:Co d l=some n):n<=l.length:=by
 fun_induction Co d l generalizing n with
 |case1=>cases h
 |case2 d a r hc ih=>
  obtain ⟨m,hm,rfl⟩:=Option.map_eq_some_iff.1 h
  have:=ih m hm
  have hr:r≠[]:=λe=>by rw [e] at hc;exact absurd hc.2 Do
  have:=List.length_pos_iff.2 hr
  simp only [List.length_drop,List.length_cons] at *;omega
 |case3 d a r hc U hd=>
  have hr:r≠[]:=λe=>by rw [e] at U;exact absurd U.2 Do
  have:=List.length_pos_iff.2 hr
  injection h with h
  simp only [List.length_cons] at *;omega
 |case4 d a r hc U hd ih=>
  obtain ⟨m,hm,rfl⟩:=Option.map_eq_some_iff.1 h
  have:=ih m hm
  have hr:r≠[]:=λe=>by rw [e] at U;exact absurd U.2 Do
  have:=List.length_pos_iff.2 hr
  simp only [List.length_drop,List.length_cons] at *;omega
 |case5 d a r hc U ih=>
  obtain ⟨m,hm,rfl⟩:=Option.map_eq_some_iff.1 h
  have:=ih m hm
  simp only [List.length_cons] at *;omega
theorem ja (l:List UInt8):E6 l<=l.length:=by
 have h1:=Gc (λc=>AP c==5) l
 have U:=dT (l.drop (B3 (λc=>AP c==5) l))
 rw [List.length_drop] at U
 unfold E6
 dsimp only
 split<;>omega
theorem Y7 (l:List UInt8):DR l<=l.length:=by
 have h1:=ja l
 unfold DR
 split
 .rename_i U
  cases h:Co 1 (l.drop 2) with
  |none=>simp only [EX];omega
  |some n=>
   have:=n9 _ _ _ h
   have hr:l.drop 1≠[]:=λe=>by rw [e] at U;exact absurd U.2 Do
   have:=List.length_pos_iff.2 hr
   simp only [List.length_drop,EX] at *;omega
 .split<;>omega
def H4 (c:Int):Option Int:=
 if c=92\/c=34\/c=39 then some c
 else if c=97 then some 7 else if c=98 then some 8 else if c=116 then some 9 else if c=110 then some 10
 else if c=118 then some 11 else if c=102 then some 12 else if c=114 then some 13 else none
def Jx (base:Int):Int->List UInt8->Int
 |v,[]=>v
 |v,a::r=>if BS ((a.toNat:Nat):Int) base<0 then v else Jx base (min (v*base+BS ((a.toNat:Nat):Int) base) 1114112) r
def Kr (base:Int) (l:List UInt8):Option (Int×Nat):=if BP base l=0\/1114111<Jx base 0 l then none else some (Jx base 0 l,BP base l)
def Fm:List (List UInt8):=[[78,85,76],[83,79,72],[83,84,88],[69,84,88],[69,79,84],[69,78,81],[65,67,75],[66,69,76],[66,83],[72,84],[76,70],[86,84],[70,70],[67,82],[83,79],[83,73],[68,76,69],[68,67,49],[68,67,50],[68,67,51],[68,67,52],[78,65,75],[83,89,78],[69,84,66],[67,65,78],[69,77],[83,85,66],[69,83,67],[70,83],[71,83],[82,83],[85,83],[83,80],[68,69,76]]
def OX (l:List UInt8):List (List UInt8)->Nat->Nat×Nat->Nat×Nat
 |[],_,p=>p
 |w::U,i,p=>OX l U (i+1) (if p.2<w.length/\w.isPrefixOf l=true then (i,w.length) else p)
def Kq (l:List UInt8):Int×Nat:=(if (OX l Fm 0 (0,0)).1=33 then 127 else (OX l Fm 0 (0,0)).1,(OX l Fm 0 (0,0)).2)
def IA (text:Bool) (l:List UInt8):Option (Int×Nat):=
 match H4 (A1 (l.drop 1)) with
 |some v=>some (v,2)
 |none=>
  if A1 (l.drop 1)=38/\text=true then some (-1,2)
  else if A1 (l.drop 1)=94/\64<=A1 (l.drop 2)/\A1 (l.drop 2)<=95 then some (A1 (l.drop 2) - 64,3)
  else if A1 (l.drop 1)=111 then (Kr 8 (l.drop 2)).map λp=>(p.1,2+p.2)
  else if A1 (l.drop 1)=120 then (Kr 16 (l.drop 2)).map λp=>(p.1,2+p.2)
  else if 48<=A1 (l.drop 1)/\A1 (l.drop 1)<=57 then (Kr 10 (l.drop 1)).map λp=>(p.1,1+p.2)
  else if 0<(Kq (l.drop 1)).2 then some ((Kq (l.drop 1)).1,1+(Kq (l.drop 1)).2) else none
def Fi (l:List UInt8):Nat:=
 if A1 l=92/\B3 (λc=>AP c==1) (l.drop 1)≠0/\A1 (l.drop (1+B3 (λc=>AP c==1) (l.drop 1)))=92 then B3 (λc=>AP c==1) (l.drop 1)+2 else 0
def MZ (d:Nat×Nat):Bool:=AP (d.1:Nat)==0||(AP (d.1:Nat)==1&& !(d.1==32))||(d.1==65533&&d.2==1)
def JS (text:Bool) (l:List UInt8):Sum Int (Int×Nat):=
 match l with
 |[]=>.inl 50
 |a::r=>
  if A1 (a::r)=92 then
   if text=true/\0<Fi (a::r) then .inr (-1,Fi (a::r))
   else match IA text (a::r) with
    |none=>.inl 51
    |some p=>.inr p
  else if MZ (AU (a::r)) then .inl 50 else .inr (((AU (a::r)).1:Nat),(AU (a::r)).2)
theorem WQ (l:List UInt8):∀(U:List (List UInt8)) (i:Nat) (p:Nat×Nat),p.2<=l.length->(OX l U i p).2<=l.length
 |[],_,p,h=>h
 |w::U,i,p,h=>by
  unfold OX
  refine WQ l U _ _ ?_
  grind
theorem sd (l:List UInt8):Fi l<=l.length:=by
 unfold Fi
 split
 .rename_i h
  have U:=Gc (λc=>AP c==1) (l.drop 1)
  rw [List.length_drop] at U
  have h2:l.drop (1+B3 (λc=>AP c==1) (l.drop 1))≠[]:=λe=>by rw [e] at h;exact absurd h.2.2 Do
  grind
 omega
theorem ZD {c:Int} (h:H4 c=some v):0<=c/\0<=v:=by
 unfold H4 at h
 grind
theorem QR {p:Int×Nat} (h:Kr base l=some p):1<=p.2/\p.2<=l.length:=by
 unfold Kr at h
 split at h
 .cases h
 .injection h with h
  subst h
  exact ⟨AC,ET base l⟩
theorem dV {text:Bool} {p:Int×Nat} (h:IA text l=some p):1<=p.2/\p.2<=l.length:=by
 unfold IA at h
 split at h
 .rename_i v hs
  have:=Cb (l:=l) (k:=1) (ZD hs).1
  grind
 .rename_i hs
  have e1:∀k,0<=A1 (l.drop k)->k<l.length:=λk=>Cb
  have e2:=e1 1
  have e3:=e1 2
  repeat' split at h
  .grind
  .grind
  .obtain ⟨q,U,rfl⟩:=Option.map_eq_some_iff.1 h
   have:=QR U
   grind
  .obtain ⟨q,U,rfl⟩:=Option.map_eq_some_iff.1 h
   have:=QR U
   grind
  .obtain ⟨q,U,rfl⟩:=Option.map_eq_some_iff.1 h
   have:=QR U
   grind
  .injection h with h;subst h
   have:=WQ (l.drop 1) Fm 0 (0,0) (Nat.zero_le _)
   rw [List.length_drop] at this
   have h7:(Kq (l.drop 1)).2=(OX (l.drop 1) Fm 0 (0,0)).2:=by simp only [Kq]
   omega
  grind
theorem JT {text:Bool} {p:Int×Nat} (h:JS text l=.inr p):1<=p.2/\p.2<=l.length:=by
 unfold JS at h
 split at h
 .cases h
 .rename_i a r
  have h1:=Ev (a::r)
  have h2:=Hj (l:=a::r) GT
  have h3:=sd (a::r)
  split at h
  .split at h
   .grind
   .split at h
    .cases h
    .rename_i q U
     injection h with h;subst h;exact dV U
  grind
def EC (l:List UInt8):Sum (Nat×Int) Nat:=
 if A1 l=34 then .inr 1
 else match h:JS true l with
  | .inl e=>.inl (0,e)
  | .inr p=>match EC (l.drop p.2) with
    | .inl q=>.inl (q.1+p.2,q.2)
    | .inr n=>.inr (n+p.2)
termination_by l.length
decreasing_by
 have:=JT h
 grind
def Ko (l:List UInt8):List Int:=
 if A1 l=34 then []
 else match h:JS true l with
  | .inl e=>[]
  | .inr p=>if p.1= -1 then Ko (l.drop p.2) else p.1::Ko (l.drop p.2)
termination_by l.length
decreasing_by
 all_goals
  have:=JT h
  rw [List.length_drop];omega
def Jw (pos:Nat) (l:List UInt8):List (Nat×Nat):=
 if A1 l=34 then []
 else match h:JS true l with
  | .inl e=>[]
  | .inr p=>if 0<Fi l then (pos,pos+p.2)::Jw (pos+p.2) (l.drop p.2) else Jw (pos+p.2) (l.drop p.2)
termination_by l.length
decreasing_by
 all_goals
  have:=JT h
  rw [List.length_drop];omega
def L3 (l:List UInt8):Sum (Nat×Int) Nat:=
 if A1 l=39 then .inl (0,50)
 else match JS false l with
  | .inl e=>.inl (0,e)
  | .inr p=>if A1 (l.drop p.2)=39 then .inr (p.2+1) else .inl (p.2,50)
def Ci (s:List UInt8) (pos:Nat):Int×Int×Int:=
 if A1 (s.drop pos)=34 then match EC (s.drop (pos+1)) with
  | .inl q=>(0,(pos+1+q.1:Nat),q.2)
  | .inr n=>(14,(pos+1+n:Nat),0)
 else if A1 (s.drop pos)=39 then match L3 (s.drop (pos+1)) with
  | .inl q=>(0,(pos+1+q.1:Nat),q.2)
  | .inr n=>(13,(pos+1+n:Nat),0)
 else (0,0,0)
theorem BQ.add {i j:Nat} (h:BQ l i) (k:BQ (l.drop i) j):BQ l (i+j):=by
 induction h with
 |zero l=>simp_all
 |step U h ih=>
  rw [Nat.add_assoc]
  refine .step U (ih ?_)
  simp_all
theorem BQ.bd {k:Nat} (h:BQ l k):Bd l k:=by
 induction h with
 |zero l=>exact .zero l
 |@step l k U h ih=>
  rcases FJ l with ⟨e,h1⟩|⟨e,h1,h2⟩|⟨e,h1,h2⟩
  .have es:A3 l=(AU l).2:=by unfold A3;rw [if_neg AC]
   rw [es] at ih |-;exact .step U ih
  .have ed:=Fu (l:=l) AC AC
   have es:A3 l=(AU l).2:=by unfold A3;rw [if_pos AC,e,ed.1]
   rw [es] at ih |-;exact .step U ih
  .have ed:=Fu (l:=l) AC AC
   have ed':=Fu (l:=l.drop 1) AC AC
   have es:A3 l=2:=by unfold A3;rw [if_pos AC,e]
   have hne':l.drop 1≠[]:=λe=>by rw [e] at h2;exact absurd h2 Do
   rw [es] at ih |-
   have b1:Bd (l.drop 1) (1+k):=by
    have:=Bd.step hne' (k:=k) i7
    rwa [ed'.1] at this
   have:=Bd.step U (k:=1+k) i7
   grind
theorem BQ.one (U:0<=A1 l) (h1:A1 l<128) (h:¬(A1 l=13\/A1 l=10\/A1 l=12)):BQ l 1:=by
 have hne:l≠[]:=λe=>by rw [e] at U;exact absurd U Do
 have ed:=Fu U h1
 have es:A3 l=1:=by
  rcases FJ l with ⟨e,_⟩|⟨_,h2,_⟩|⟨_,h2,_⟩
  .unfold A3;simp_all
  .omega
  .omega
 have:=BQ.step hne (.zero (l.drop (A3 l)))
 simp_all
theorem BQ.span {p:Nat×Nat->Bool} (hp:∀d,p d=true->d.1≠10/\d.1≠12/\d.1≠13) (l:List UInt8):BQ l (BB p l):=by
 fun_induction BB p l with
 |case1=>exact .zero _
 |case2 a r U ih=>
  have h1:=hp _ U
  have es:A3 (a::r)=(AU (a::r)).2:=by
   unfold A3
   rw [if_neg]
   rcases FJ (a::r) with ⟨e,_⟩|⟨_,h2,_⟩|⟨_,h2,_⟩
   .omega
   .have:=Fu (l:=a::r) AC AC;omega
   .have:=Fu (l:=a::r) AC AC;omega
  have:=BQ.step (l:=a::r) (k:=BB p ((a::r).drop (AU (a::r)).2)) GT i7
  simp_all
 |case3 a r U=>exact .zero _
theorem lx {c:Int} (h:AP c=k) (U:k≠1):c≠10/\c≠12/\c≠13:=by
 refine ⟨?_,?_,?_⟩<;>(rintro rfl;exact U (h.symm.trans Do))
theorem BQ.kind (U:k≠1) (l:List UInt8):BQ l (B3 (λc=>AP c==k) l):=by
 refine BQ.span (λd hd=>?_) l
 have:=lx (beq_iff_eq.1 hd) U
 omega
theorem BQ.name (l:List UInt8):BQ l (L8 l):=by
 refine BQ.span (λd hd=>?_) l
 have hd:IF ((d.1:Nat):Int)=true:=hd
 refine ⟨?_,?_,?_⟩<;>(intro e;rw [e] at hd;revert hd;decide)
theorem lF {a:UInt8} (h:¬BS ((a.toNat:Nat):Int) base<0):48<=a.toNat/\a.toNat<128:=by
 unfold BS at h
 grind
theorem BQ.row (base:Int) (l:List UInt8):BQ l (BP base l):=by
 induction l with
 |nil=>exact .zero _
 |cons a r U=>
  unfold BP
  split
  .exact .zero _
  .rename_i h
   have:=lF h
   rw [Nat.add_comm]
   exact BQ.add (BQ.one (l:=a::r) (show (0:Int)<=((a.toNat:Nat):Int) by omega) (show ((a.toNat:Nat):Int)<128 by omega) (show ¬(((a.toNat:Nat):Int)=13\/((a.toNat:Nat):Int)=10\/((a.toNat:Nat):Int)=12) by omega)) U
theorem BQ.zI (l:List UInt8):BQ l (IZ l):=by
 unfold IZ
 split
 .exact BQ.add (BQ.one AC AC AC) (BQ.row _ _)
 .exact .zero _
theorem BQ.sign (l:List UInt8):BQ l (Ma l):=by
 unfold Ma
 split
 .exact BQ.one AC AC AC
 .exact .zero _
theorem BQ.exp (l:List UInt8):BQ l (Np l):=by
 unfold Np
 split
 .rw [Nat.add_assoc]
  refine BQ.add (BQ.one AC AC AC) (BQ.add (BQ.sign _) ?_)
  rw [List.drop_drop]
  exact BQ.row _ _
 .exact .zero _
theorem BQ.num (l:List UInt8):BQ l (E5 l).2:=by
 unfold E5
 split
 .rename_i h
  unfold CB at h
  split at h
  .rename_i hc
   have hb:=hc.2.1
   unfold EW at hb
   have h1:65<=A1 (l.drop 1)/\A1 (l.drop 1)<128:=by
    split at hb
    .omega
    .omega
   have U:BQ l 2:=BQ.add (i:=1) (j:=1) (BQ.one AC AC AC) (BQ.one AC AC AC)
   exact BQ.add U (BQ.row _ _)
  omega
 .split
  .exact .zero _
  .refine BQ.add (BQ.add (BQ.row _ _) (BQ.zI _)) (BQ.exp _)
theorem rl {c:Int} (h:AP c=6):32<c/\c<128:=by
 unfold AP at h
 split at h
 .omega
 .split at h
  .omega
  .split at h
   .omega
   .split at h
    .omega
    .split at h
     .unfold Hg at h
      omega
     .unfold M5 at h
      omega
theorem rV (h:HM l=6):32<A1 l/\A1 l<128:=by
 cases l with
 |nil=>exact absurd h Do
 |cons a r=>
  have h:AP ((AU (a::r)).1:Nat)=6:=h
  have U:=rl h
  by_cases ha:a.toNat<128
  .rw [FY ha] at U
   exact U
  .have:=QD (r:=r) ha
   omega
theorem BQ.plain (l:List UInt8):BQ l (Bo l).2:=by
 unfold Bo
 split
 .rename_i h
  have:=rV h
  exact BQ.one AC AC AC
 .split
  .exact BQ.kind Do l
  .split
   .exact BQ.name l
   .split
    .exact BQ.name l
    .exact .zero _
theorem BQ.scan (s:List UInt8) (n:Nat) (k:Int) (h:BQ s n):BQ s (It s n k).2:=by
 fun_induction It s n k with
 |case1 n k hn U ih=>
  have hd:A1 (s.drop n)=46:=U.2.1
  have c1:=BQ.one (l:=s.drop n) AC AC AC
  exact ih (BQ.add (BQ.add h c1) (BQ.plain _))
 |case2 n k hn U=>exact h
 |case3 n k hn=>exact h
theorem BQ.word (l:List UInt8):BQ l (BJ l).2:=BQ.scan l _ _ (BQ.plain l)
theorem Vd.end (h:Vd l):Bd l l.length:=by
 have:=Bd.span Dk l
 rwa [show BB Dk l=l.length from h] at this
theorem BQ.behind {k:Nat} (hv:Vd l) (h0:0<A1 (l.drop k)) (h:A1 (l.drop k)<128) (hn:A1 (l.drop k)≠13):BQ l (k+1):=by
 have hk:=Cb (l:=l) (k:=k) AC
 have U:=List.getElem?_eq_getElem hk
 have e:=Eg U
 refine ((Bd.uS hv U AC).2).cut (λhc=>hn ?_)
 simp_all
theorem HT (d:Nat) (l:List UInt8) (n:Nat) (h:Co d l=some n):2<=n/\A1 (l.drop (n - 1))=125:=by
 fun_induction Co d l generalizing n with
 |case1=>cases h
 |case2 d a r hc ih=>
  obtain ⟨m,U,rfl⟩:=Option.map_eq_some_iff.1 h
  have:=ih m U
  refine ⟨AC,?_⟩
  rw [show m+2 - 1=(m - 1)+1+1 by omega,List.drop_succ_cons]
  simp_all
 |case3 d a r hc hk hd=>
  injection h with h
  subst h
  simp_all
 |case4 d a r hc hk hd ih=>
  obtain ⟨m,U,rfl⟩:=Option.map_eq_some_iff.1 h
  have:=ih m U
  refine ⟨AC,?_⟩
  rw [show m+2 - 1=(m - 1)+1+1 by omega,List.drop_succ_cons]
  simp_all
 |case5 d a r hc hk ih=>
  obtain ⟨m,U,rfl⟩:=Option.map_eq_some_iff.1 h
  have:=ih m U
  refine ⟨AC,?_⟩
  rw [show m+1 - 1=(m - 1)+1 by omega,List.drop_succ_cons]
  omega
theorem BQ.eol (hv:Vd l):BQ l (DE l):=by
 have hb:Bd l (DE l)/\¬(0<DE l/\A1 (l.drop (DE l - 1))=13/\A1 (l.drop (DE l))=10):=by
  have key:∀l:List UInt8,(DE l=l.length\/∃b,l[DE l]? =some b/\b.toNat<128)/\¬(0<DE l/\A1 (l.drop (DE l - 1))=13):=by
   intro l
   induction l with
   |nil=>exact ⟨.inl rfl,λh=>absurd h.1 Do⟩
   |cons a r ih=>
    by_cases hn:0<H3 (a::r)
    .rw [DE,if_pos hn]
     refine ⟨.inr ⟨a,rfl,?_⟩,λh=>absurd h.1 Do⟩
     rcases FJ (a::r) with ⟨e,_⟩|⟨_,U,_⟩|⟨_,U,_⟩
     .omega
     .simp only [A1] at U;omega
     .simp only [A1] at U;omega
    .rw [DE,if_neg hn]
     refine ⟨?_,?_⟩
     .simp_all
     .rintro ⟨_,h⟩
      by_cases h0:0<DE r
      .refine ih.2 ⟨h0,?_⟩
       rwa [show DE r+1 - 1=(DE r - 1)+1 by omega,List.drop_succ_cons] at h
      .rw [show DE r+1 - 1=0 by omega,List.drop_zero] at h
       rcases FJ (a::r) with ⟨_,e⟩|⟨e,_⟩|⟨e,_⟩
       .omega
       .omega
       .omega
  refine ⟨?_,λh=>(key l).2 ⟨h.1,h.2.1⟩⟩
  rcases (key l).1 with h|⟨b,h1,U⟩
  .rw [h];exact hv.end
  .exact (Bd.uS hv h1 U).1
 exact hb.1.cut hb.2
theorem BQ.note (U:Vd l) (h:DR l=n):BQ l n:=by
 unfold DR at h
 split at h
 .rename_i hc
  cases hn:Co 1 (l.drop 2) with
  |none=>rw [hn] at h;simp only [EX] at h;omega
  |some m=>
   rw [hn] at h
   simp only [EX] at h
   have:=HT _ _ _ hn
   rw [List.drop_drop] at this
   have e:n=(2+(m - 1))+1:=AC
   rw [e]
   exact BQ.behind U AC AC AC
 .split at h
  .have e:n=E6 l:=AC
   rw [e]
   unfold E6
   dsimp only
   split
   .exact BQ.add (BQ.kind Do l) (BQ.eol ((Bd.span _ l).vd U))
   .exact .zero _
  .have e:n=0:=AC
   rw [e];exact .zero _
theorem cZ (l:List UInt8) (n:Nat) (h:EC l=.inr n):1<=n/\A1 (l.drop (n - 1))=34:=by
 fun_induction EC l generalizing n with
 |case1 l U=>simp_all
 |case2 l U e he=>cases h
 |case3 l U p hp q hq ih=>cases h
 |case4 l U p hp m hm ih=>
  injection h with h
  subst h
  have:=ih m hm
  refine ⟨AC,?_⟩
  have h2:=this.2
  rwa [List.drop_drop,show p.2+(m - 1)=m+p.2 - 1 by omega] at h2
theorem BQ.quote (hv:Vd (s.drop p)) (h:(Ci s p).1≠0):∃n,(Ci s p).2.1=(p+n:Nat)/\2<=n/\BQ (s.drop p) n:=by
 unfold Ci at h |-
 split
 .rename_i hq
  rw [if_pos hq] at h
  cases U:EC (s.drop (p+1)) with
  |inl q=>simp_all
  |inr n=>
   have:=cZ _ _ U
   refine ⟨n+1,by grind,AC,?_⟩
   have h2:=this.2
   rw [show s.drop (p+1)=(s.drop p).drop 1 by simp_all,List.drop_drop,show 1+(n - 1)=n by omega] at h2
   exact BQ.behind hv AC AC AC
 .rename_i hq
  rw [if_neg hq] at h
  split
  .rename_i hq'
   rw [if_pos hq'] at h
   cases U:L3 (s.drop (p+1)) with
   |inl q=>simp_all
   |inr n=>
    have:1<=n/\A1 ((s.drop (p+1)).drop (n - 1))=39:=by
     unfold L3 at U
     split at U
     .cases U
     .grind
    refine ⟨n+1,by grind,AC,?_⟩
    have h2:=this.2
    rw [show s.drop (p+1)=(s.drop p).drop 1 by simp_all,List.drop_drop,show 1+(n - 1)=n by omega] at h2
    exact BQ.behind hv AC AC AC
  simp_all
def St.FZ (st:St) (b:Nat):St:={st with box:=λx=>if x=b then none else st.box x}
theorem St.bR {st:St} (h:st.box b=none):st.le ((st.Aa b cs).FZ b):=
 ⟨λx c e=>by
   simp only [St.FZ,St.Aa]
   grind,λ_ _ e=>e⟩
theorem Cc.of_flat {I:Mem} {sz:Nat}:∀{es:List (List V)} {vs:List Value},(∀e ∈ es,e.length=sz)->Ao I es.flatten vs->Cc I sz es vs
 |[],vs,_,h=>by simpa only [List.flatten_nil,Ao,Cc] using h
 |e::r,vs,hl,h=>by
  rw [List.flatten_cons] at h
  have U:=Ao.take e.length h
  have h2:=Ao.drop e.length h
  rw [List.take_left' rfl] at U
  rw [List.drop_left' rfl] at h2
  simp only [Cc]
  exact ⟨_,_,(List.take_append_drop e.length vs).symm,hl e List.mem_cons_self,U,Cc.of_flat (λx hx=>hl x (List.mem_cons_of_mem _ hx)) h2⟩
section
variable {P:Program} {D:List Deferred} {I0 I:Mem} {st0 st:St} {w0 w:World} {β:Nat->Option Nat} {env:Env} {a:Act}
theorem Rel.freeze (h:Rel D I0 st0 w0 I β env st a w) (hb:st.box b=some cs):
 ∃vs:List Value,Ao I cs vs/\I.le (I.add b 0 vs vs.length)/\Rel D I0 st0 w0 (I.add b 0 vs vs.length) β env (st.FZ b) a w:=by
 obtain ⟨vs,ty,hw,hv⟩:=h.s.box b cs hb
 obtain ⟨i1,i2,i3⟩:=h.s.Iz b i7
 have hl:I.le (I.add b 0 vs vs.length):=Mem.SC (λo _=>i1 o) (.inl i3)
 have hd:=h.fr.LQ b (.inl i7)
 have nb:∀x,(st.FZ b).box x≠none->x≠b/\st.box x≠none:=λx e=>by
  by_cases U:x=b
  .subst U;exact absurd (if_pos rfl) e
  .refine ⟨U,?_⟩
   have e':(if x=b then none else st.box x)≠none:=e
   simp_all
 refine ⟨vs,hv,hl,⟨⟨h.fr.os,h.fr.tape,h.fr.output,h.fr.size,h.fr.IL,Mem.le_trans h.fr.le hl,?_,?_,λx e=>h.fr.LQ x (e.imp (λe=>(nb x e).2) id)⟩,⟨?_,?_,?_,?_,?_,VN hl.1 hl.2 h.s.T0⟩,Iw.mem h.f hl ?_⟩⟩
 .intro x o h1 h2
  by_cases e:x=b
  .simp_all
  .exact h.fr.new x o h1 (by simpa [Mem.add,e] using h2)
 .intro x h1 h2
  by_cases e:x=b
  .simp_all
  .exact h.fr.LU x h1 (by simpa [Mem.add,e] using h2)
 .intro x o v e
  simp only [Mem.add] at e
  split at e
  .rename_i U
   obtain ⟨rfl,h1,h2⟩:=U
   simp only [World.cell?,hw,Option.isSome_none,Bool.false_eq_true,if_false,List.getElem?_toArray]
   exact e
  .exact h.s.cell x o v e
 .intro x n e
  simp only [Mem.add] at e
  split at e
  .simp_all
  .exact h.s.shape x n e
 .intro x c e
  have U:=(nb x i7).1
  have e':st.box x=some c:=by
   have:(if x=b then none else st.box x)=some c:=e
   rwa [if_neg U] at this
  obtain ⟨us,ty',h1,h2⟩:=h.s.box x c e'
  exact ⟨us,ty',h1,Ao.mono hl _ _ h2⟩
 .intro x e
  obtain ⟨U,e'⟩:=nb x e
  obtain ⟨h1,h2,h3⟩:=h.s.Iz x e'
  exact ⟨λo=>by simp [Mem.add,U,h1 o],h2,by simp [Mem.add,U,h3]⟩
 .intro x n e
  have U:x≠b:=λU=>by subst U;rw [show (st.FZ x).hw x=st.hw x from rfl,i2] at e;cases e
  exact ⟨(h.s.hw x n e).1,λo ho=>by simp only [Mem.add];rw [if_neg (by simp [U])];exact (h.s.hw x n e).2 o ho⟩
 .intro id x e
  obtain ⟨h1,h2,h3,h4,h5,h6⟩:=h.f.sep id x e
  have U:x≠b:=λU=>by simp_all
  exact ⟨λo=>by simp [Mem.add,U,h3 o],by simp [Mem.add,U,h4],by grind,h6⟩
theorem S5 {sz cap:Nat} {rest:List V} {vs:List Value} (hv:Ao I (es.flatten++rest) vs) (hl:I.le (I.add b 0 vs vs.length)) (hz:∀e ∈ es,e.length=sz) (hn:es.length=n) {c:Value} (h:AM I (.FP sz b n cap) c):
 AM (I.add b 0 vs vs.length) (.slice sz es .any) c:=by
 simp only [AM] at h |-
 obtain ⟨rfl,h1,h2,h3⟩:=h
 subst hn
 refine ⟨_,cap,rfl,h1,h2,h3,trivial,.inr rfl,?_⟩
 have U:=Ao.take es.flatten.length hv
 rw [List.take_left' rfl] at U
 refine Cq.add es _ 0 (Cc.of_flat hz U) hl λj c e=>?_
 rw [Nat.zero_add]
 have e':vs[j]? =some c:=by
  rw [List.getElem?_take] at e
  split at e
  .exact e
  .cases e
 have:=Mem.Mi (I:=I) (b:=b) (h:=0) (n:=vs.length) e'
 simp_all
inductive vK (o n:V):V->V->Prop
 |same (v:V):vK o n v v
 |here:vK o n o n
inductive aq (o n:V):List V->List V->Prop
 |nil:aq o n [] []
 |cons {v v':V} {l l':List V}:vK o n v v'->aq o n l l'->aq o n (v::l) (v'::l')
theorem vK.rep {o n v U:V} (h:vK o n v U) (hl:I.le J) (k:∀c,AM I o c->AM J n c) {c:Value} (r:AM I v c):AM J U c:=by
 cases h with
 |same=>exact AM.mono hl _ _ r
 |here=>grind
theorem aq.rep {J:Mem} {o n:V}:∀{l l':List V} {vs:List Value},aq o n l l'->I.le J->(∀c,AM I o c->AM J n c)->Ao I l vs->Ao J l' vs
 |_,_,vs,.nil,U,k,r=>by simpa only [Ao] using r
 |_,_,vs,.cons h1 h2,U,k,r=>by
  simp only [Ao] at r |-
  obtain ⟨c,s,rfl,r1,r2⟩:=r
  exact ⟨c,s,rfl,h1.rep U k r1,h2.rep U k r2⟩
inductive fJ (o n:V):Au->Au->Prop
 |val {v v':V}:vK o n v v'->fJ o n (.ret v) (.ret v')
 |agg {l l':List V}:aq o n l l'->fJ o n (.ret (.agg l)) (.ret (.agg l'))
 |Bp {l l':List V}:aq o n l l'->fJ o n (.ret (.Bp l)) (.ret (.Bp l'))
theorem fJ.rep {J:Mem} {o n:V} {r r':Au} (h:fJ o n r r') (hl:I.le J) (k:∀c,AM I o c->AM J n c) {e:Ending} (m:Zo I e r):Zo J e r':=by
 cases e with
 |returned c=>
  cases h with
  |val h=>exact vK.rep h hl k m
  |agg h=>have U:AM I _ c:=m;simp only [AM] at U;obtain ⟨vs,e,m3⟩:=U;show AM J _ _;simp only [AM];exact ⟨vs,e,h.rep hl k m3⟩
  |Bp h=>have U:AM I _ c:=m;simp only [AM] at U;obtain ⟨vs,e,m3⟩:=U;show AM J _ _;simp only [AM];exact ⟨vs,e,h.rep hl k m3⟩
 |panicked chain=>cases h<;>exact m.elim
 |outgrown=>cases h<;>exact m.elim
theorem Ba.freeze {f:FuncId} {args:List V} {R R':Au->St->Prop} (h:Ba P f args st R')
 (k:∀r s,R' r s->R r s\/∃b sz n cap es rest r',s.box b=some (es.flatten++rest)/\(∀e ∈ es,e.length=sz)/\es.length=n/\fJ (.FP sz b n cap) (.slice sz es .any) r r'/\R r' (s.FZ b)):Ba P f args st R:=by
 refine ⟨λI w U hs ha=>(h.a I w U hs ha).mono ?_,h.b⟩
 rintro e w' ⟨I',st',r,k1,k2,k3,k4⟩
 rcases k r st' k4 with k4|⟨b,sz,n,cap,es,rest,r',g1,g2,g3,g4,g5⟩
 .grind
 have hr:Rel [] I st w I' (λ_=>none) {tmps:=[],boxes:=[],Bs:=0,sz:=0,gl:=[]} st' {tmps:=#[],defers:=[]} w':=
  ⟨k1,k2,⟨rfl,λt v e=>(by cases e),λid cs e=>(by cases e),λid b e=>(by cases e),λi j b e=>(by cases e),λid b e=>(by cases e),rfl⟩⟩
 obtain ⟨vs,hv,hl,hr'⟩:=hr.freeze g1
 exact ⟨_,_,r',hr'.fr,hr'.s,g4.rep hl (λc hc=>S5 hv hl g2 g3 hc) k3,g5⟩
theorem dj {c:Code} {env':Env} {st:St} (h:AW P c Q env' st') (U:env'.E4 env) (hs:St.le st' st):AW P c Q env st:=
 λD I0 st0 w0 I β a w hr=>h D I0 st0 w0 I _ a w ((hr.Ig (Env.Ip U)).Hs hs)
theorem di {c:Code} {st:St} (e:st'=st) (h:AW P c Q env st'):AW P c Q env st:=e ▸ h
theorem qD {x y:Code} {st:St} (E:α->Env) (S:α->St) (J:α->Prop) (hy:∀p,J p->AW P y Q (E p) (S p))
 (hx:AW P x (BW (λenv' st'=>∃p,J p/\(E p).E4 env'/\St.le (S p) st') Q) env st):AW P (.seq x y) Q env st:=
 Ag (qF hx λe env st h=>by
  cases e with
  |normal=>obtain ⟨p,U,h2,h3⟩:=h;exact dj (hy p U) h2 h3
  |exit i=>exact h
  |goto i=>exact h
  |ret=>exact h
  |B1 v=>exact h)
theorem fH {c:Code} {st:St} (t:Nat) {sz cap:Nat} (rest:List V) (ht:env.get t=.FP sz b n cap) (hts:t<env.sz) (hb:st.box b=some (es.flatten++rest)) (hz:∀e ∈ es,e.length=sz) (hn:es.length=n)
 (h:AW P c Q {env with tmps:=(t,.slice sz es .any)::env.tmps} (st.FZ b)):AW P c Q env st:=λD I0 st0 w0 I β a w hr=>by
 obtain ⟨vs,hv,hl,U⟩:=hr.freeze hb
 have h1:=hr.f.get t
 rw [ht] at h1
 have h2:=S5 hv hl hz hn (show AM I (.FP sz b n cap) _ from h1)
 refine h D I0 st0 w0 _ β a w ⟨U.fr,U.s,{U.f with tmps:=?_}⟩
 intro t' v e
 rw [Bk] at e
 cases hbq:Nat.beq t t' with
 |true=>
  rw [hbq] at e
  have:=Nat.eq_of_beq_eq_true hbq
  subst this
  simp only [cond_true,Option.some.injEq] at e
  subst e
  exact h2
 |false=>
  rw [hbq] at e
  exact U.f.tmps t' v e
theorem AO {T : List (Nat × Ty)} (hP : T4 P T) (gl : List Nat) (hf : P.funcs[f]? = some fn) {c : Code} (hb : fn.body = some c) (hn : (fn.name == "runtime.NumGoroutine") = false) (hle : Nat.ble args.length fn.ntmps = true)
 (h:AW P c (fh T fn (Ends R)) {tmps:=IP 0 args,boxes:=[],Bs:=0,sz:=fn.ntmps,gl} st):Ba P f args st R:=by
 refine ⟨?_,fn,hf,i7,hn⟩
 intro I w cargs hs hargs
 refine calls_of_wp hf hb ?_
 refine wp_mono (h [] I st w I _ _ w (GA gl hs hargs hle)) ?_
 rintro e a w' ⟨I1,β1,env1,st1,ae,h1,h2,h3⟩
 have hret:(Fh T env1 st1 fn.results.toList λvs=>match vs with
  |[v]=>Ends R (.ret v) st1
  |vs=>Ends R (.ret (.Bp vs)) st1)->
  a.defers=[]/\∃v,(results fn a.tmps).run P w'=.ok v w'/\∃I' st' r,Fr I st w I' st' w'/\Cv I' st' w'/\Zo I' (.returned v) r/\R r st':=by
  intro h3
  obtain ⟨v,c,g1,g2,r2,st2,g3,g4,g5⟩:=Cu (P:=P) (R:=Ends R) hP.t h1 h3
  have U:=h1.Hs g4
  refine ⟨h1.f.defers,c,g1,I1,st2,r2,U.fr,U.s,?_,g5⟩
  rcases g3 with rfl|rfl
  .exact g2
  .exact g2.wk
 cases ae with
 |normal=>cases e<;>first|exact hret h3|exact h2.elim
 |exit i=>exact h3.elim
 |goto i=>exact h3.elim
 |ret=>cases e<;>first|exact hret h3|exact h2.elim
 |B1 v=>
  cases e<;>try exact h2.elim
  obtain ⟨r2,st2,g3,g4,g5⟩:=h3
  obtain ⟨c',rfl,h2⟩:=h2
  have U:=h1.Hs g4
  refine ⟨h1.f.defers,I1,st2,r2,U.fr,U.s,?_,g5⟩
  rcases g3 with rfl|rfl
  .exact ⟨c',rfl,h2⟩
  .exact ⟨c',rfl,h2.wk⟩
end
theorem ZT (l:List (List UInt8)):(strs l).length=l.length:=by simp [strs]
theorem dv {l:List (List UInt8)} {K:List V->Prop} (h:l[i.toNat]? =some x) (U:0<=i) (k:K [V.str x]):0<=i/\∃e,(strs l)[i.toNat]? =some e/\K e:=
 ⟨U,[V.str x],by simp [strs,h],k⟩
theorem nq {l:List (List UInt8)} {K:Nat->Prop} (k:l.length<4611686018427387904->K l.length):∀m,m=(strs l).length->m<DG->K m:=λm U h=>by
 rw [ZT] at U;subst U;exact k h
theorem L1 {p:UInt8->Bool}:∀(l:List UInt8),(l.dropWhile p).all p=true->l.all p=true
 |[],_=>rfl
 |a::r,h=>by
  rw [List.dropWhile_cons] at h
  by_cases U:p a=true
  .rw [if_pos U] at h;rw [List.all_cons,U,Bool.true_and];exact L1 r h
  simp_all
theorem dropWhile_nil {p:UInt8->Bool}:∀(l:List UInt8),l.dropWhile p=[]↔l.all p=true
 |[]=>by simp
 |a::r=>by
  rw [List.dropWhile_cons,List.all_cons]
  by_cases U:p a=true
  .rw [if_pos U,U,Bool.true_and];exact dropWhile_nil r
  simp_all
theorem UY (l:List UInt8):Lib.trimB l 45=[]↔l.all (λb=>b==45)=true:=by
 unfold Lib.trimB Lib.trimLeftB Lib.trimRightB
 rw [dropWhile_nil,List.all_reverse]
 refine ⟨λh=>?_,λh=>?_⟩
 .have:=L1 _ h
  grind
 .have:l.reverse.dropWhile (λb=>b==45)=[]:=(dropWhile_nil _).2 (by grind)
  simp_all
theorem yZ (a b:UInt8) (l:List UInt8):[a,b].isPrefixOf l=decide (A1 l=(a.toNat:Nat)/\A1 (l.drop 1)=(b.toNat:Nat)):=by
 rcases l with _|⟨x,_|⟨y,r⟩⟩
 .rfl
 .show (a==x&&false)=_
  rw [Bool.and_false]
  refine (decide_eq_false λe=>?_).symm
  have h:(-1:Int)=(b.toNat:Nat):=e.2;omega
 .show (a==x&&(b==y&&true))=decide (((x.toNat:Nat):Int)=(a.toNat:Nat)/\((y.toNat:Nat):Int)=(b.toNat:Nat))
  rw [Bool.and_true,Bool.eq_iff_iff,Bool.and_eq_true,beq_iff_eq,beq_iff_eq,decide_eq_true_iff]
  exact ⟨λe=>by simp_all,λe=>⟨UInt8.toNat_inj.1 AC,UInt8.toNat_inj.1 AC⟩⟩
theorem cN {w:(AG->Env->St->Prop)->Env->St->Prop} {U:Nat->Option ((AG->Env->St->Prop)->Env->St->Prop)} {st:St}
 (h:w (ei (λl env' st'=>∃y:Empty,(λe:Empty=>(e.elim:Nat)) y=l/\(λ_:Empty=>True) y/\((λe:Empty=>(e.elim:Env)) y).E4 env'/\St.le ((λe:Empty=>(e.elim:St)) y) st') Q) env st):QY w U Q env st:=
 ⟨Empty,λe=>e.elim,λe=>e.elim,λe=>e.elim,λ_=>True,λe=>e.elim,h,λx=>x.elim⟩
theorem wC {r:Au} {st:St} (hle:St.le st st') (h:R r st) (e:r=r'):∃r2 U,(r2=r'\/r2=r'.wk)/\St.le U st'/\R r2 U:=⟨r,st,.inl e,hle,h⟩
end Go.Aw
namespace Go.Proofs.Z
open Go Go.Aw
section
variable {st:St} {R:Au->St->Prop}
theorem WZ (e:i.toNat=n) (h:R (.ret (.bool (decide (A1 (s.drop n)=123/\A1 (s.drop (n+1))=45)))) st):PC 73 [.str (s.drop i.toNat),.str [123,45]] st R:=by
 refine Jk ?_
 rw [yZ,e,List.drop_drop]
 exact h
theorem rp (e:i.toNat=n) (h:R (.ret (.bool (decide (A1 (s.drop n)=45/\A1 (s.drop (n+1))=125)))) st):PC 73 [.str (s.drop i.toNat),.str [45,125]] st R:=by
 refine Jk ?_
 rw [yZ,e,List.drop_drop]
 exact h
theorem oe (hl:s.length<=100000000) (hs:A1 s=123/\A1 (s.drop 1)=45) (h:R (.ret (.int .i64 (EX 2 (Co 1 (s.drop 2))))) st):PC 74 [.str s] st R:=by
 have hs0:A1 (s.drop 0)=123:=hs.1
 refine pB Tryz.func74 ?_
 repeat' ((conv=>whnf);first|(refine B7 ?_;intros)|(refine B8 ?_ ?_<;>intro _)|refine cN ?_)
 refine bY (α:=Nat) (β:=Nat) (λpos d=>[(3,.int .i64 (d:Int)),(4,.int .i64 (pos:Int))]) (λ_ _=>[]) [0] [] (λ_ _=>st)
  (λpos d=>pos<=s.length/\d<=pos/\((pos=0/\d=0)\/(1<=d/\2<=pos/\EX 2 (Co 1 (s.drop 2))=EX pos (Co d (s.drop pos))))) (λpos _=>s.length - pos) 0 0 ⟨Nat.zero_le _,Nat.le_refl _,.inl ⟨rfl,rfl⟩⟩ Yl (St.le_refl _) ?_
 rintro pos d ⟨h1,h2,h3⟩
 have q1:=λh=>Cb (l:=s) (k:=pos+1) h
 rcases h3 with ⟨rfl,rfl⟩|⟨h3,h4,h5⟩
 .have hs1:A1 (s.drop (0+1))=45:=hs.2
  repeat' ((conv=>whnf);first|(refine B7 ?_;intros)|(refine B8 ?_ ?_<;>intro _)|refine WZ (n:=0) AC ?_)
  .conv=>whnf
   exact ⟨(2,1),⟨AC,AC,.inr ⟨Nat.le_refl _,Nat.le_refl _,rfl⟩⟩,AC,Yl,St.le_refl _⟩
 repeat' ((conv=>whnf);first|(refine B7 ?_;intros)|(refine B8 ?_ ?_<;>intro _)|refine WZ (n:=pos) AC ?_|refine rp (n:=pos) AC ?_)
 .have k:A1 (s.drop pos)=123/\A1 (s.drop (pos+1))=45:=FS
  conv=>whnf
  exact ⟨(pos+2,d+1),⟨AC,AC,.inr ⟨AC,AC,h5.trans (iL k.1 k.2)⟩⟩,AC,Yl,St.le_refl _⟩
 .have k:A1 (s.drop pos)=45/\A1 (s.drop (pos+1))=125:=FS
  have e:=SO (d:=d) k.1 k.2
  rw [if_pos AC] at e
  exact fin h (B5 AC)
 .have k:A1 (s.drop pos)=45/\A1 (s.drop (pos+1))=125:=FS
  have e:=SO (d:=d) k.1 k.2
  rw [if_neg AC] at e
  obtain ⟨U,rfl⟩:∃U,d=U+1:=⟨d - 1,AC⟩
  rw [Nat.add_sub_cancel] at e
  have e2:((U+1:Nat):Int) - 1=(U:Int):=AC
  refine ⟨(pos+2,U),⟨AC,AC,.inr ⟨AC,AC,h5.trans e⟩⟩,AC,?_,St.le_refl _⟩
  rw [<-e2]
  exact Yl
 .conv=>whnf
  exact ⟨(pos+1,d),⟨AC,AC,.inr ⟨AC,AC,h5.trans (tg AC AC AC)⟩⟩,AC,Yl,St.le_refl _⟩
 .exact fin h (B5 (by rw [h5,od AC]))
theorem xj (hl:s.length<=100000000) (h:R (.ret (.int .i64 (E6 s:Nat))) st):PC 75 [.str s] st R:=by
 have hr:=Gc (λc=>AP c==5) s
 generalize hn:B3 (λc=>AP c==5) s=n at hr
 have hrun:∀{R:Au->St->Prop},R (.ret (.int .i64 (n:Nat))) st->PC 72 [.str s,.int .i64 0,.int .i64 5] st R:=λh=>vA AC i7
 obtain ⟨rest,hg⟩:=ix (s.drop n) 0 0 (Nat.le_refl _) (Nat.zero_le _)
 rw [List.drop_zero,List.drop_zero,Nat.zero_add] at hg
 have U:∀{R:Au->St->Prop},(∀own:AE,own.BD st->R (.ret (.slice 1 (strs (((s.drop n).take (DE (s.drop n)))::rest)) own)) (own.st st (((s.drop n).take (DE (s.drop n)))::rest).length))->PC 120 [.str (s.drop (n:Int).toNat)] st R:=
  λh=>ey (by grind) i7
 refine pB Tryz.func75 ?_
 have hel:=dT (s.drop n)
 have hlt:((s.drop n).take (DE (s.drop n))).length=DE (s.drop n):=NE
 rw [List.length_drop] at hel
 have hrl:E6 s=if 2<=n/\(s.take n).all (λb=>b==45)=true then n+DE (s.drop n) else 0:=by unfold E6;rw [hn]
 repeat' ((conv=>whnf);first|(refine B7 ?_;intros)|(refine B8 ?_ ?_<;>intro _)|refine hrun ?_|refine xU Do ?_|refine U (λown ho=>?_)|refine dv (l:=((s.drop n).take (DE (s.drop n)))::rest) rfl AC ?_)
 .rw [if_neg AC] at hrl
  exact fin h (B5 AC)
 .have ht:=(UY (s.take n)).1 (by grind)
  rw [if_pos ⟨AC,ht⟩] at hrl
  exact wC (AE.Bz AC) h (B5 AC)
 .have ht:¬(s.take n).all (λb=>b==45)=true:=λe=>absurd ((UY (s.take n)).2 e) (by grind)
  rw [if_neg (λe=>ht e.2)] at hrl
  exact fin h (B5 AC)
theorem UF (h:DR (s.drop pos)<0):CJ s pos=(0,60):=if_pos h
theorem eI (h:DR (s.drop pos)=0):CJ s pos=(0,0):=by unfold CJ;simp_all
theorem iM {n:Int} (h:DR (s.drop pos)=n) (U:0<n) (e:i=pos+n):CJ s pos=(i,0):=by unfold CJ;grind
theorem NX {n:Int} (h:DR (s.drop pos)=n) (U:0<n) (e:i=pos+n):Au.ret (.Bp [.int .i64 (CJ s pos).1,.int .i64 (CJ s pos).2])=Au.ret (.Bp [.int .i64 i,.int .i64 0]):=by rw [iM h U e]
theorem tu (hl:s.length<=100000000) (hp:pos<s.length) (h:R (.ret (.Bp [.int .i64 (CJ s pos).1,.int .i64 (CJ s pos).2])) st):PC 48 [.str s,.int .i64 pos] st R:=by
 have hle:=Y7 (s.drop pos)
 rw [List.length_drop] at hle
 have U:(s.drop pos).length<=100000000:=IR
 have d1:(s.drop pos).drop 1=s.drop (pos+1):=List.drop_drop
 obtain ⟨e,he⟩:∃e,s[pos]? =some e:=⟨s[pos],List.getElem?_eq_getElem hp⟩
 have he':s[(pos:Int).toNat]? =some e:=he
 have hh:=Eg he
 refine pB Tryz.func48 ?_
 by_cases hk:A1 (s.drop pos)=123/\A1 (s.drop (pos+1))=45
 .have hN:DR (s.drop pos)=EX 2 (Co 1 ((s.drop pos).drop 2)):=if_pos ⟨hk.1,i7⟩
  have hc:∀{R:Au->St->Prop},R (.ret (.int .i64 (DR (s.drop pos)))) st->PC 74 [.str (s.drop (pos:Int).toNat)] st R:=λh=>oe U ⟨hk.1,i7⟩ i7
  repeat' ((conv=>whnf);first|(refine B7 ?_;intros)|(refine B8 ?_ ?_<;>intro _)|refine WZ (n:=pos) AC ?_|refine hc ?_)
  all_goals first
   |exact fin h (by rw [UF AC])
   |exact fin h (by rw [eI AC])
   |exact fin h (NX rfl AC AC)
   |exact fin h (NX (hN AC) AC AC)
 .have hN:A1 (s.drop pos)=45->DR (s.drop pos)=(E6 (s.drop pos):Nat):=λe=>by unfold DR;omega
  have hN0:¬A1 (s.drop pos)=45->DR (s.drop pos)=0:=λe=>by unfold DR;simp_all
  have hc:∀{R:Au->St->Prop},R (.ret (.int .i64 (E6 (s.drop pos):Nat))) st->PC 75 [.str (s.drop (pos:Int).toNat)] st R:=λh=>xj U h
  repeat' ((conv=>whnf);first|(refine B7 ?_;intros)|(refine B8 ?_ ?_<;>intro _)|refine WZ (n:=pos) AC ?_|refine hc ?_)
  all_goals first
   |exact fin h (by rw [UF AC])
   |exact fin h (by rw [eI AC])
   |exact fin h (NX rfl AC AC)
   |exact fin h (NX (hN AC) AC AC)
end
end Go.Proofs.Z
namespace Go.Aw
open Go
def LP (l:List UInt8):Int:=if A1 l<0 then 0 else A1 l
theorem we {i:Nat} {e:UInt8} (h:s[i]? =some e):LP (s.drop i)=(e.toNat:Nat):=by unfold LP;rw [Eg h,if_neg AC]
theorem lf {i:Nat} (h:s.length<=i):LP (s.drop i)=0:=by unfold LP;rw [HP h];rfl
theorem Ky (l:List UInt8):(A1 l= -1/\LP l=0)\/(0<=A1 l/\LP l=A1 l):=by
 have:=mH l
 unfold LP
 split
 .exact .inl ⟨AC,rfl⟩
 .exact .inr ⟨AC,rfl⟩
def qA (l:List (Nat×Nat)):List (List V):=l.map λp=>[V.int .i64 (p.1:Int),V.int .i64 (p.2:Int)]
def T3 (st:St) (n:Nat):AE->Prop
 | .full=>True
 | .tok b=>st.hw b=some n
 | .any=>False
def ku (st0:St):AE->Prop
 | .tok b=>st0.fresh b
 |_=>True
def dp:AE->AE->Prop
 | .tok b,.tok c=>b≠c
 |_,_=>True
structure B6 (st0 st:St) (w1:AE) (n1:Nat) (w2:AE) (n2:Nat):Prop where
 o1:T3 st n1 w1
 o2:T3 st n2 w2
 f1:ku st0 w1
 f2:ku st0 w2
 ne:dp w1 w2
 le:st0.le st
theorem dp.symm {a b:AE} (h:dp a b):dp b a:=by
 cases a<;>cases b<;>first|exact h|exact Ne.symm h
theorem B6.swap {st:St} (h:B6 st0 st w1 n1 w2 n2):B6 st0 st w2 n2 w1 n1:=⟨h.o2,h.o1,h.f2,h.f1,h.ne.symm,h.le⟩
theorem B6.set {st:St} (h:B6 st0 st w1 n1 w2 n2) (hb:st0.box b=none) (cs:List V):B6 st0 (st.Aa b cs) w1 n1 w2 n2:=
 ⟨by have:=h.o1;cases w1<;>exact this,by have:=h.o2;cases w2<;>exact this,h.f1,h.f2,h.ne,St.Af h.le hb cs⟩
theorem LC {st:St} {sz bytes:Nat} {new:List (List V)} (h:B6 st0 st w1 n1 w2 n2) (hn:n1=es.length*sz)
 (h1:(es.length+new.length)*bytes<=140737488355328) (h2:es.length+new.length<DG) (h3:(new.all λv=>v.all V.sc)=true) (hne:new≠[])
 (k:∀w1' st',B6 st0 st' w1' ((es.length+new.length)*sz) w2 n2->st'.box=st.box->K (.slice sz (es++new.map (·.map V.JB)) w1') st'):Am sz bytes es w1 new st K:=by
 subst hn
 have frs:∀{x:Nat},st.fresh x->st0.fresh x:=λ{x} hx=>by
  refine ⟨?_,?_⟩
  .cases e:st0.box x with
   |none=>rfl
   |some c=>have:=h.le.1 _ _ e;rw [hx.1] at this;cases this
  .cases e:st0.hw x with
   |none=>rfl
   |some c=>have:=h.le.2 _ _ e;rw [hx.2] at this;cases this
 refine ⟨h1,h2,AH h3 ?_⟩
 cases hw:w1 with
 |any=>have:=h.o1;rw [hw] at this;exact this
 |full=>
  refine ⟨λe=>absurd e hne,λ_=>.inl λb hb=>k (.tok b) _ ⟨?_,?_,frs hb,h.f2,?_,St.Fk h.le (frs hb).2 _⟩ rfl⟩
  .simp [T3,St.BZ]
  .have:=h.o2
   cases w2 with
   |tok c=>
    have hc:st.hw c=some n2:=this
    have:c≠b:=λe=>by subst e;rw [hb.2] at hc;cases hc
    simp [T3,St.BZ,this,hc]
   |_=>exact this
  .cases w2 with
   |tok c=>
    have hc:st.hw c=some n2:=h.o2
    exact λe=>by subst e;rw [hb.2] at hc;cases hc
   |_=>trivial
 |tok b=>
  subst hw
  have hb:st.hw b=some (es.length*sz):=h.o1
  have hb0:st0.fresh b:=h.f1
  refine ⟨hb,.inl λb' U=>k (.tok b') _ ⟨?_,?_,?_,h.f2,?_,?_⟩ rfl⟩
  .simp [T3,St.BZ]
  .have:=h.o2
   cases w2 with
   |tok c=>
    have hc:st.hw c=some n2:=this
    have hcb:b≠c:=h.ne
    have hcb':c≠b':=λe=>by
     subst e
     rcases U with e|U
     .exact hcb e.symm
     .rw [U.2] at hc;cases hc
    simp [T3,St.BZ,St.Ew,hcb',hcb.symm,hc]
   |_=>exact this
  .rcases U with rfl|U
   .exact hb0
   .exact frs U
  .cases w2 with
   |tok c=>
    have hc:st.hw c=some n2:=h.o2
    have hcb:b≠c:=h.ne
    refine λ(e:b'=c)=>?_
    subst e
    rcases U with e|U
    .exact hcb e.symm
    .rw [U.2] at hc;cases hc
   |_=>trivial
  .refine ⟨λx cs e=>h.le.1 x cs e,λx n e=>?_⟩
   have e1:=h.le.2 x n e
   have hx:x≠b:=λhx=>by subst hx;rw [hb0.2] at e;cases e
   have hx':x≠b':=λhx=>by
    subst hx
    rcases U with e'|U
    .exact hx e'
    .rw [U.2] at e1;cases e1
   simp [St.BZ,St.Ew,hx,hx',e1]
theorem Ik (l:List Int):(ints l).length=l.length:=by simp [ints]
theorem J0 (l:List (Nat×Nat)):(qA l).length=l.length:=by simp [qA]
theorem Zu {st:St} (h:B6 st0 st w1 o.length w2 n2) (hl:o.length<=1000000000)
 (k:∀U st',B6 st0 st' U (o++[v]).length w2 n2->st'.box=st.box->K (.slice 1 (ints (o++[v])) U) st'):Am 1 8 (ints o) w1 [[.int .i64 v]] st K:=by
 refine LC h (by rw [Ik];omega) (by rw [Ik,List.length_singleton];omega) (by rw [Ik,List.length_singleton];unfold DG;omega) rfl GT (λU st' hr hb=>?_)
 have:=k U st' (by rw [Ik] at hr;rw [List.length_append];simpa using hr) hb
 rwa [show ints (o++[v])=ints o++([[V.int .i64 v]]:List (List V)).map (·.map V.JB) by simp [ints,V.JB]] at this
theorem jd {st:St} {p:Nat×Nat} {a b:Int} (h:B6 st0 st w1 n1 w2 (2*g.length)) (hl:g.length<=1000000000) (ha:a=(p.1:Int)) (hb:b=(p.2:Int))
 (k:∀U st',B6 st0 st' w1 n1 U (2*(g++[p]).length)->st'.box=st.box->K (.slice 2 (qA (g++[p])) U) st'):Am 2 16 (qA g) w2 [[.int .i64 a,.int .i64 b]] st K:=by
 subst ha;subst hb
 refine LC h.swap (by rw [J0];omega) (by rw [J0,List.length_singleton];omega) (by rw [J0,List.length_singleton];unfold DG;omega) rfl GT (λw1' st' hr hb=>?_)
 have:=k w1' st' (by rw [J0] at hr;rw [List.length_append];have:=hr.swap;simpa [Nat.mul_comm] using this) hb
 rwa [show qA (g++[p])=qA g++([[V.int .i64 (p.1:Int),V.int .i64 (p.2:Int)]]:List (List V)).map (·.map V.JB) by simp [qA,V.JB]] at this
theorem St.AQ (st:St) (b:Nat) (cs:List V):(st.Aa b cs).box b=some cs:=by simp [St.Aa]
theorem Al {st:St} {K:List V->Prop} (h:st.box b=some cs) (k:K cs):∃cs,st.box b=some cs/\K cs:=⟨cs,h,k⟩
end Go.Aw
namespace Go.Proofs.Z
open Go Go.Aw
def Mh (c:Int):Int:=if c=97 then 0 else if c=98 then 1 else if c=116 then 2 else if c=110 then 3 else if c=118 then 4 else if c=102 then 5 else if c=114 then 6 else -1
theorem vQ (u:UInt8):Lib.indexByte [97,98,116,110,118,102,114] u=Mh (u.toNat:Nat):=by
 have key:∀k:UInt8,((u.toNat:Nat):Int)=((k.toNat:Nat):Int)->u=k:=λk e=>UInt8.toNat_inj.1 AC
 unfold Mh
 by_cases U:((u.toNat:Nat):Int)=97
 .rw [key 97 U];rfl
 by_cases h2:((u.toNat:Nat):Int)=98
 .rw [key 98 h2];rfl
 by_cases h3:((u.toNat:Nat):Int)=116
 .rw [key 116 h3];rfl
 by_cases h4:((u.toNat:Nat):Int)=110
 .rw [key 110 h4];rfl
 by_cases h5:((u.toNat:Nat):Int)=118
 .rw [key 118 h5];rfl
 by_cases h6:((u.toNat:Nat):Int)=102
 .rw [key 102 h6];rfl
 by_cases h7:((u.toNat:Nat):Int)=114
 .rw [key 114 h7];rfl
 rw [if_neg U,if_neg h2,if_neg h3,if_neg h4,if_neg h5,if_neg h6,if_neg h7]
 have ne:∀k:UInt8,¬((u.toNat:Nat):Int)=((k.toNat:Nat):Int)->(k==u)=false:=λk e=>beq_eq_false_iff_ne.2 (λx=>e (by rw [x]))
 simp only [Lib.indexByte,ne 97 U,ne 98 h2,ne 116 h3,ne 110 h4,ne 118 h5,ne 102 h6,ne 114 h7]
 rfl
def qC (s:List UInt8) (p:Nat) (tx:Bool) (o:List Int) (w1:AE) (g:List (Nat×Nat)) (w2:AE):List V:=[.str s,.int .i64 (p:Int),.bool tx,.slice 1 (ints o) w1,.slice 2 (qA g) w2]
def J1 (p:Int) (e:Int):V:=.iface 257 (.agg [.int .i64 p,.int .i64 e])
section
variable {st:St} {R:Au->St->Prop}
theorem GO {v:V} {p e:Int} (h:R (.B1 (J1 p e)) st):PC 245 [v,.int .i64 p,.int .i64 e] st R:=by
 refine pB Tryz.func245 ?_
 repeat' ((conv=>whnf);first|(refine B7 ?_;intros)|(refine B8 ?_ ?_<;>intro _)|fail)
 all_goals exact fin h rfl
theorem Fg {k:Nat} (hl:s.length<=100000000) (hp:p<=s.length) (hk:k<=10) (hb:st.box b=some (qC s p tx o w1 g w2))
 (h:R (.ret (.int .u8 (LP (s.drop (p+k))))) st):PC 243 [.ptr b 0,.int .i64 k] st R:=by
 refine pB Tryz.func243 ?_
 have e0:((p:Int)+(k:Int)).toNat=p+k:=AC
 by_cases U:p+k<s.length
 .obtain ⟨e,he⟩:∃e,s[p+k]? =some e:=⟨s[p+k],List.getElem?_eq_getElem U⟩
  have he':s[((p:Int)+(k:Int)).toNat]? =some e:=by rw [e0];exact he
  rw [we he] at h
  repeat' ((conv=>whnf);first|exact DA|(refine B7 ?_;intros)|(refine DB ?_ ?_ ?_;rotate_left)|(refine B8 ?_ ?_<;>intro _)|refine Al hb ?_|with_reducible refine WF ?_)
  all_goals exact fin h rfl
 .rw [lf AC] at h
  repeat' ((conv=>whnf);first|exact DA|(refine B7 ?_;intros)|(refine DB ?_ ?_ ?_;rotate_left)|(refine B8 ?_ ?_<;>intro _)|refine Al hb ?_|with_reducible refine WF ?_)
  all_goals exact fin h rfl
theorem yi {c:Int} (U:0<=c) (h1:c<=255) (h:R (.ret (.int .i64 (Mh c))) st):PC 294 [.str [97,98,116,110,118,102,114],.int .u8 c] st R:=by
 obtain ⟨u,rfl⟩:∃u:UInt8,c=((u.toNat:Nat):Int):=⟨UInt8.ofNat c.toNat,by rw [UInt8.toNat_ofNat'];omega⟩
 exact wg (by rw [vQ];exact h)
def xI:Option Int->V
 |some v=>.Bp [.int .i64 v,.bool true]
 |none=>.Bp [.int .i64 0,.bool false]
theorem pG {c:Int} (U:0<=c) (h1:c<=255) (h:R (.ret (xI (H4 c))) st):PC 332 [.int .u8 c] st R:=by
 have ha:(Mh c= -1/\¬(c=97\/c=98\/c=116\/c=110\/c=118\/c=102\/c=114))\/(0<=Mh c/\Mh c<=6/\((c=97/\Mh c=0)\/(c=98/\Mh c=1)\/(c=116/\Mh c=2)\/(c=110/\Mh c=3)\/(c=118/\Mh c=4)\/(c=102/\Mh c=5)\/(c=114/\Mh c=6))):=by
  unfold Mh
  (repeat' split)<;>first|(left;omega)|(right;omega)
 refine pB Tryz.func332 ?_
 repeat' ((conv=>whnf);first|(refine B7 ?_;intros)|(refine B8 ?_ ?_<;>intro _)|refine yi U h1 ?_)
 all_goals first
  |exact fin h (by rw [show H4 c=some c by unfold H4;rw [if_pos AC]];rfl)
  |(have e:H4 c=some (7+Mh c):=by
     unfold H4
     rw [if_neg AC]
     (repeat' split)<;>first|(congr 1;omega)|(exfalso;omega)
    exact fin h (by rw [e];rfl))
  |(have e:H4 c=none:=by
     unfold H4
     rw [if_neg AC]
     (repeat' split)<;>first|rfl|(exfalso;omega)
    exact fin h (by rw [e];rfl))
end
end Go.Proofs.Z
namespace Go.Aw
open Go
def SN:List UInt8:=[78,85,76,32,83,79,72,32,83,84,88,32,69,84,88,32,69,79,84,32,69,78,81,32,65,67,75,32,66,69,76,32,66,83,32,72,84,32,76,70,32,86,84,32,70,70,32,67,82,32,83,79,32,83,73,32,68,76,69,32,68,67,49,32,68,67,50,32,68,67,51,32,68,67,52,32,78,65,75,32,83,89,78,32,69,84,66,32,67,65,78,32,69,77,32,83,85,66,32,69,83,67,32,70,83,32,71,83,32,82,83,32,85,83,32,83,80,32,68,69,76]
theorem VE:Lib.fields SN=Fm:=GE
theorem n7:∀b ∈ SN,b.toNat<128:=by
 have h:SN.all (λb=>decide (b.toNat<128))=true:=GE
 simp_all
theorem UA:∀w ∈ Fm,1<=w.length/\w.length<=3:=by
 have h:Fm.all (λw=>decide (1<=w.length)&&decide (w.length<=3))=true:=GE
 simp_all
theorem s9:Fm.length=34:=H1
theorem XH (h:pos<s.length) (hd:(c,m)=AU (s.drop pos)) (k:¬BS (c:Int) base<0):Jx base v (s.drop pos)=Jx base (min (v*base+BS (c:Int) base) 1114112) (s.drop (pos+1)):=by
 rw [List.drop_eq_getElem_cons h] at hd |-
 by_cases hb:s[pos].toNat<128
 .rw [FY hb] at hd
  injection hd with U h2
  subst U
  rw [Jx,if_neg k]
 .have:=QD (r:=s.drop (pos+1)) hb
  rw [<-hd] at this
  exact absurd (IV (c:=(c:Int)) (base:=base) AC) k
theorem LL (h:pos<s.length) (hd:(c,m)=AU (s.drop pos)) (k:BS (c:Int) base<0):Jx base v (s.drop pos)=v:=by
 rw [List.drop_eq_getElem_cons h] at hd |-
 by_cases hb:s[pos].toNat<128
 .rw [FY hb] at hd
  injection hd with U h2
  subst U
  rw [Jx,if_pos k]
 .rw [Jx,if_pos (IV AC)]
theorem Py (h:s.length<=pos):Jx base v (s.drop pos)=v:=by rw [List.drop_eq_nil_iff.2 h];rfl
theorem Lk {c b:Int}:BS c b<0\/BS c b<b:=by
 unfold BS
 grind
theorem aX {c b:Int} {K:Int->Prop} (h0:0<=v) (h1:v<=1114112) (hb:0<=b) (U:b<=16) (hk:¬BS c b<0) (k:K (v*b+BS c b)):∃r,r=IntKind.i64.wrap (v*b+BS c b)/\K r:=by
 have h2:0<=v*b:=Int.mul_nonneg h0 hb
 have h3:v*b<=1114112*16:=Int.mul_le_mul h1 U hb Do
 have h4:=Lk (c:=c) (b:=b)
 exact Wq AC AC k
theorem nZ:SN.length<1000:=GE
theorem nP {a b:Int} {K:Int->Prop} (k:K (min a b)):∃r,r=(if b<a then b else a)/\K r:=⟨min a b,AC,k⟩
theorem iI {i:Nat} (h:Fm[i]? =some x):OX l (Fm.drop i) i (c,n)=OX l (Fm.drop (i+1)) (i+1) (if n<x.length/\x.isPrefixOf l=true then (i,x.length) else (c,n)):=by
 rw [drop_at h,OX]
theorem s8 (h:OX l Fm 0 (0,0)=(c,n)):Kq l=(if c=33 then 127 else (c:Int),n):=by
 have key:∀p:Nat×Nat,p=(c,n)->((if p.1=33 then 127 else (p.1:Int),p.2):Int×Nat)=(if c=33 then 127 else (c:Int),n):=λp U=>by simp_all
 exact key _ h
end Go.Aw
namespace Go.Proofs.Z
open Go Go.Aw
theorem Gb {b:Int} {t:Bool} (U:BP b s=n) (e2:Jx b 0 s=v) (e3:decide (n≠0/\v<=1114111)=t):Au.ret (.Bp [.int .i64 (Jx b 0 s),.int .i64 (BP b s:Nat),.bool (decide (BP b s≠0/\Jx b 0 s<=1114111))])=Au.ret (.Bp [.int .i64 v,.int .i64 (n:Int),.bool t]):=i7
section
variable {st:St} {R:Au->St->Prop}
theorem ml {l:List (List UInt8)} (e:Lib.fields s=l) (hz:s.length<1000) (U:∀b ∈ s,b.toNat<128) (hl:∀x ∈ l,x.length<=3) (hn:l.length<=1000) (h:R (.ret (.slice 1 (strs l) .any)) st):PC 214 [.str s] st R:=by
 subst e
 exact Ys AC U h (λx hx=>by have:=hl x hx;unfold DG;omega) (by unfold DG;omega)
theorem te (h:R (.ret (.slice 1 (strs Fm) .any)) st):PC 214 [.str SN] st R:=
 ml VE nZ n7 (λx U=>(UA x U).2) (Nat.le_trans (Nat.le_of_eq s9) Do) h
set_option maxRecDepth 100000 in
theorem tc (hl:s.length<=100000000) (h:R (.ret (.Bp [.int .i64 (Kq s).1,.int .i64 (Kq s).2])) st):PC 334 [.str s] st R:=by
 refine pB Tryz.func334 ?_
 repeat' ((conv=>whnf);first|(refine B7 ?_;intros)|(refine B8 ?_ ?_<;>intro _)|refine te ?_|refine nq (λ_=>?_))
 refine V3 (α:=Nat) (β:=Nat) (γ:=Nat) (λi c n=>[(8,.int .i64 (i:Int)),(2,.int .i64 (c:Int)),(3,.int .i64 (n:Int))]) (λ_ _ _=>[]) [0,6,7] [] (λ_ _ _=>st)
  (λi c n=>i<=Fm.length/\n<=3/\OX s Fm 0 (0,0)=OX s (Fm.drop i) i (c,n)) (λi _ _=>Fm.length - i) 0 0 0 ⟨Nat.zero_le _,Do,rfl⟩ Yl (St.le_refl _) ?_
 rintro i c n ⟨h1,h2,U⟩
 rcases hx:Fm[i]? with _|x
 .have hge:=List.getElem?_eq_none_iff.1 hx
  rw [List.drop_eq_nil_iff.2 hge] at U
  have e:=s8 U
  repeat' ((conv=>whnf);first|(refine B7 ?_;intros)|(refine B8 ?_ ?_<;>intro _)|fail)
  all_goals first
   |exact fin h (by rw [e,if_pos AC])
   |exact fin h (by rw [e,if_neg AC])
 .have hlt:=(List.getElem?_eq_some_iff.1 hx).1
  have hm:=UA x (List.mem_of_getElem? hx)
  rw [iI hx] at U
  have hx':Fm[((i:Int)).toNat]? =some x:=hx
  repeat' ((conv=>whnf);first|(refine B7 ?_;intros)|(refine B8 ?_ ?_<;>intro _)|refine dv hx' AC ?_|refine Jk ?_)
  .rw [if_pos ⟨AC,AC⟩] at U
   conv=>whnf
   exact ⟨(i+1,i,x.length),⟨AC,i7,U⟩,AC,Yl,St.le_refl _⟩
  .have hp:x.isPrefixOf s=false:=FS
   rw [if_neg (λy=>by simp_all)] at U
   conv=>whnf
   exact ⟨(i+1,c,n),⟨AC,AC,U⟩,AC,Yl,St.le_refl _⟩
  .rw [if_neg (λy=>by omega)] at U
   conv=>whnf
   exact ⟨(i+1,c,n),⟨AC,AC,U⟩,AC,Yl,St.le_refl _⟩
theorem Y9 {b:Int} (hl:s.length<=100000000) (hb:b=8\/b=10\/b=16) (h:R (.ret (.Bp [.int .i64 (Jx b 0 s),.int .i64 (BP b s:Nat),.bool (decide (BP b s≠0/\Jx b 0 s<=1114111))])) st):PC 367 [.str s,.int .i64 b] st R:=by
 refine pB Tryz.func367 ?_
 repeat' ((conv=>whnf);first|(refine B7 ?_;intros)|(refine B8 ?_ ?_<;>intro _)|fail)
 refine bY (α:=Nat) (β:=Int) (λpos v=>[(4,.int .i64 v),(5,.int .i64 (pos:Int))]) (λpos _=>[(0,[.Ql s pos])]) [0,1,11] [] (λ_ _=>st)
  (λpos v=>pos<=s.length/\0<=v/\v<=1114112/\BP b s=pos+BP b (s.drop pos)/\Jx b 0 s=Jx b v (s.drop pos)) (λpos _=>s.length - pos) 0 0 ⟨Nat.zero_le _,Do,Do,GT,rfl⟩ Yl (St.le_refl _) ?_
 rintro pos v ⟨h1,h2,h3,h4,h5⟩
 rcases hb with rfl|rfl|rfl
 .skip
  have hdl:=λc=>Lk (c:=c) (b:=8)
  repeat' ((conv=>whnf);first|(refine B7 ?_;intros)|(refine B8 ?_ ?_<;>intro _)|refine Nj ?_|refine nP ?_|refine aX h2 h3 Do Do ‹_› ?_)
  all_goals first
   |(rename_i U c m hd hk _ _
     have e1:=Is U hd hk
     have e2:=LL (v:=v) U hd hk
     exact fin h (Gb AC (h5.trans e2) (by first|exact decide_eq_true ⟨AC,AC⟩|exact decide_eq_false AC)))
   |(rename_i U c m hd hk _
     have e1:=Is U hd hk
     have e2:=LL (v:=v) U hd hk
     exact fin h (Gb AC (h5.trans e2) (by first|exact decide_eq_true ⟨AC,AC⟩|exact decide_eq_false AC)))
   |(have e1:=LB (base:=8) (s:=s) (pos:=pos) AC
     have e2:=Py (base:=8) (v:=v) (s:=s) (pos:=pos) AC
     exact fin h (Gb AC (h5.trans e2) (by first|exact decide_eq_true ⟨AC,AC⟩|exact decide_eq_false AC)))
   |(rename_i U c m hd hk
     obtain ⟨e1,e2⟩:=N8 U hd hk
     have e3:=XH (v:=v) U hd hk
     have e4:=hdl (c:Int)
     subst e1
     conv=>whnf
     exact ⟨(pos+1,min (v*8+BS (c:Int) 8) 1114112),⟨So,So,So,So,h5.trans e3⟩,So,Yl,St.le_refl _⟩)
 .skip
  have hdl:=λc=>Lk (c:=c) (b:=10)
  repeat' ((conv=>whnf);first|(refine B7 ?_;intros)|(refine B8 ?_ ?_<;>intro _)|refine Nj ?_|refine nP ?_|refine aX h2 h3 Do Do ‹_› ?_)
  all_goals first
   |(rename_i U c m hd hk _ _
     have e1:=Is U hd hk
     have e2:=LL (v:=v) U hd hk
     exact fin h (Gb AC (h5.trans e2) (by first|exact decide_eq_true ⟨AC,AC⟩|exact decide_eq_false AC)))
   |(rename_i U c m hd hk _
     have e1:=Is U hd hk
     have e2:=LL (v:=v) U hd hk
     exact fin h (Gb AC (h5.trans e2) (by first|exact decide_eq_true ⟨AC,AC⟩|exact decide_eq_false AC)))
   |(have e1:=LB (base:=10) (s:=s) (pos:=pos) AC
     have e2:=Py (base:=10) (v:=v) (s:=s) (pos:=pos) AC
     exact fin h (Gb AC (h5.trans e2) (by first|exact decide_eq_true ⟨AC,AC⟩|exact decide_eq_false AC)))
   |(rename_i U c m hd hk
     obtain ⟨e1,e2⟩:=N8 U hd hk
     have e3:=XH (v:=v) U hd hk
     have e4:=hdl (c:Int)
     subst e1
     conv=>whnf
     exact ⟨(pos+1,min (v*10+BS (c:Int) 10) 1114112),⟨So,So,So,So,h5.trans e3⟩,So,Yl,St.le_refl _⟩)
 .skip
  have hdl:=λc=>Lk (c:=c) (b:=16)
  repeat' ((conv=>whnf);first|(refine B7 ?_;intros)|(refine B8 ?_ ?_<;>intro _)|refine Nj ?_|refine nP ?_|refine aX h2 h3 Do Do ‹_› ?_)
  all_goals first
   |(rename_i U c m hd hk _ _
     have e1:=Is U hd hk
     have e2:=LL (v:=v) U hd hk
     exact fin h (Gb AC (h5.trans e2) (by first|exact decide_eq_true ⟨AC,AC⟩|exact decide_eq_false AC)))
   |(rename_i U c m hd hk _
     have e1:=Is U hd hk
     have e2:=LL (v:=v) U hd hk
     exact fin h (Gb AC (h5.trans e2) (by first|exact decide_eq_true ⟨AC,AC⟩|exact decide_eq_false AC)))
   |(have e1:=LB (base:=16) (s:=s) (pos:=pos) AC
     have e2:=Py (base:=16) (v:=v) (s:=s) (pos:=pos) AC
     exact fin h (Gb AC (h5.trans e2) (by first|exact decide_eq_true ⟨AC,AC⟩|exact decide_eq_false AC)))
   |(rename_i U c m hd hk
     obtain ⟨e1,e2⟩:=N8 U hd hk
     have e3:=XH (v:=v) U hd hk
     have e4:=hdl (c:Int)
     subst e1
     conv=>whnf
     exact ⟨(pos+1,min (v*16+BS (c:Int) 16) 1114112),⟨So,So,So,So,h5.trans e3⟩,So,Yl,St.le_refl _⟩)
end
end Go.Proofs.Z
namespace Go.Aw
open Go
theorem iP {b:Int} (h:Kr b l=some (v,n)):Jx b 0 l=v/\BP b l=n/\n≠0/\v<=1114111:=by
 unfold Kr at h
 split at h
 .cases h
 .injection h with h;injection h with U h2
  exact ⟨U,h2,AC,AC⟩
theorem iO {b:Int} (h:Kr b l=none):decide (BP b l≠0/\Jx b 0 l<=1114111)=false:=by
 unfold Kr at h
 split at h
 .exact decide_eq_false AC
 .cases h
theorem ID {r:Au} {st:St} (es:st'=st) (h:R r st) (e:r=r'):∃r2 U,(r2=r'\/r2=r'.wk)/\St.le U st'/\R r2 U:=by subst es;exact ⟨r,st',.inl e,St.le_refl _,h⟩
theorem St.KY (st:St) (b:Nat) (cs cs':List V):(st.Aa b cs).Aa b cs'=st.Aa b cs':=by
 simp only [St.Aa,St.mk.injEq,and_true]
 funext x
 split<;>rfl
end Go.Aw
namespace Go.Proofs.Z
open Go Go.Aw
theorem UJ {q:Nat} (e:i=(q:Int)):[V.str s,.int .i64 i,.bool tx,.slice 1 (ints o) w1,.slice 2 (qA g) w2]=qC s q tx o w1 g w2:=by subst e;rfl
section
variable {st:St} {R:Au->St->Prop}
theorem oz {b:Int} (e:i.toNat=m) (hn:Kr b (s.drop m)=some (v,n)) (hl:s.length<=100000000) (hb:b=8\/b=10\/b=16) (h:R (.ret (.Bp [.int .i64 v,.int .i64 n,.bool true])) st):PC 367 [.str (s.drop i.toNat),.int .i64 b] st R:=by
 rw [e]
 obtain ⟨U,e2,e3,e4⟩:=iP hn
 exact Y9 IR hb (by rw [U,e2,decide_eq_true ⟨e3,e4⟩];exact h)
theorem oA {b:Int} (e:i.toNat=m) (hn:Kr b (s.drop m)=none) (U:s.length<=100000000) (hb:b=8\/b=10\/b=16) (h:R (.ret (.Bp [.int .i64 (Jx b 0 (s.drop m)),.int .i64 (BP b (s.drop m):Nat),.bool false])) st):PC 367 [.str (s.drop i.toNat),.int .i64 b] st R:=by
 rw [e]
 exact Y9 IR hb (by rw [iO hn];exact h)
theorem RD {k:Nat} {frm:Int} (hl:s.length<=100000000) (hp:p+k<=s.length) (U:base=8\/base=10\/base=16) (hb:st.box b=some (qC s p tx o w1 g w2))
 (h:∀v n,Kr base (s.drop (p+k))=some (v,n)->R (.ret (.int .i64 v)) (st.Aa b (qC s (p+k+n) tx o w1 g w2))) (h0:Kr base (s.drop (p+k))=none->R (.B1 (J1 frm 51)) st):
 PC 333 [.ptr b 0,.int .i64 frm,.int .i64 k,.int .i64 base] st R:=by
 refine pB Tryz.func333 ?_
 rcases hn:Kr base (s.drop (p+k)) with _|⟨v,n⟩
 .have h0:=h0 hn
  repeat' ((conv=>whnf);first|exact DA|(refine B7 ?_;intros)|(refine DB ?_ ?_ ?_;rotate_left)|(refine B8 ?_ ?_<;>intro _)|refine Al hb ?_|refine oA (m:=p+k) AC hn hl U ?_|refine GO ?_|with_reducible refine WF ?_)
  all_goals exact fin h0 rfl
 .have h:=h v n hn
  have hle:=QR hn
  rw [List.length_drop] at hle
  dsimp only at hle
  repeat' ((conv=>whnf);first|exact DA|(refine B7 ?_;intros)|(refine DB ?_ ?_ ?_;rotate_left)|(refine B8 ?_ ?_<;>intro _)|refine Al hb ?_|refine oz (m:=p+k) AC hn hl U ?_|refine GO ?_|with_reducible refine WF ?_)
  exact ID (congrArg (st.Aa b) (UJ AC)) h rfl
theorem ee:Fi (s.drop p)=if A1 (s.drop p)=92/\B3 (λc=>AP c==1) (s.drop (p+1))≠0/\A1 (s.drop (p+1+B3 (λc=>AP c==1) (s.drop (p+1))))=92 then B3 (λc=>AP c==1) (s.drop (p+1))+2 else 0:=by
 have U:(s.drop p).drop 1=s.drop (p+1):=List.drop_drop
 unfold Fi;rw [U,List.drop_drop,Nat.add_assoc]
theorem LD {q k:Nat} (hl:s.length<=100000000) (hq:q<=s.length) (U:B3 (λc=>AP c==1) (s.drop q)=k) (e:i=(q:Int)) (h:R (.ret (.int .i64 (q+k:Nat))) st):PC 72 [.str s,.int .i64 i,.int .i64 1] st R:=by
 subst e;exact vz AC (by rw [QX AC AC,show (q:Int).toNat=q by omega,U];exact h)
theorem wG (U:s.length<=100000000) (hp:p<=s.length) (hb:st.box b=some (qC s p tx o w1 g w2)) (hg:tx=false\/Fi (s.drop p)=0) (h:R (.ret (.bool false)) st):PC 296 [.ptr b 0] st R:=by
 refine pB Tryz.func296 ?_
 have hby:=Ky (s.drop p)
 cases tx with
 |false=>
  repeat' ((conv=>whnf);first|exact DA|(refine B7 ?_;intros)|(refine DB ?_ ?_ ?_;rotate_left)|(refine B8 ?_ ?_<;>intro _)|refine Al hb ?_|refine Fg (k:=0) U hp Do hb ?_|with_reducible refine WF ?_)
  all_goals exact fin h rfl
 |true=>
  have hg:Fi (s.drop p)=0:=hg.resolve_left Do
  by_cases h1:A1 (s.drop p)=92
  .have hp1:p<s.length:=Cb (k:=p) AC
   have hr:=Gc (λc=>AP c==1) (s.drop (p+1))
   have hgn:=ee (s:=s) (p:=p)
   rw [List.length_drop] at hr
   generalize hk:B3 (λc=>AP c==1) (s.drop (p+1))=k at hr hgn
   have hno:k≠0->¬A1 (s.drop (p+1+k))=92:=λe1 e2=>by rw [if_pos ⟨h1,e1,e2⟩] at hgn;omega
   have hb0:LP (s.drop p)=92:=AC
   by_cases hlt:p+1+k<s.length
   .obtain ⟨e,he⟩:∃e,s[p+1+k]? =some e:=⟨s[p+1+k],List.getElem?_eq_getElem hlt⟩
    have he':s[((p+1+k:Nat):Int).toNat]? =some e:=he
    have hv:=Eg he
    repeat' ((conv=>whnf);first|exact DA|(refine B7 ?_;intros)|(refine DB ?_ ?_ ?_;rotate_left)|(refine B8 ?_ ?_<;>intro _)|refine Al hb ?_|refine Fg (k:=0) U hp Do hb ?_|refine LD (q:=p+1) U AC hk AC ?_|with_reducible refine WF ?_)
    all_goals exact fin h rfl
   .skip
    repeat' ((conv=>whnf);first|exact DA|(refine B7 ?_;intros)|(refine DB ?_ ?_ ?_;rotate_left)|(refine B8 ?_ ?_<;>intro _)|refine Al hb ?_|refine Fg (k:=0) U hp Do hb ?_|refine LD (q:=p+1) U AC hk AC ?_|with_reducible refine WF ?_)
    all_goals exact fin h rfl
  .have hb0:¬LP (s.drop p)=92:=AC
   repeat' ((conv=>whnf);first|exact DA|(refine B7 ?_;intros)|(refine DB ?_ ?_ ?_;rotate_left)|(refine B8 ?_ ?_<;>intro _)|refine Al hb ?_|refine Fg (k:=0) U hp Do hb ?_|with_reducible refine WF ?_)
   all_goals exact fin h rfl
attribute [local irreducible] Go.Aw.Am
theorem se (hl:s.length<=100000000) (hb:st.box b=some (qC s p true o w1 g w2)) (hg:0<Fi (s.drop p)) (hr2:B6 st0 st w1 o.length w2 (2*g.length)) (hgl:g.length<=100000000)
 (h:∀w2' st',B6 st0 st' w1 o.length w2' (2*(g++[(p,p+Fi (s.drop p))]).length)->st'.box=st.box->R (.ret (.bool true)) (st'.Aa b (qC s (p+Fi (s.drop p)) true o w1 (g++[(p,p+Fi (s.drop p))]) w2'))):PC 296 [.ptr b 0] st R:=by
 have hby:=Ky (s.drop p)
 have U:=ee (s:=s) (p:=p)
 have hr:=Gc (λc=>AP c==1) (s.drop (p+1))
 rw [List.length_drop] at hr
 generalize hk:B3 (λc=>AP c==1) (s.drop (p+1))=k at hr U
 have hc:A1 (s.drop p)=92/\k≠0/\A1 (s.drop (p+1+k))=92:=by
  by_cases hc:A1 (s.drop p)=92/\k≠0/\A1 (s.drop (p+1+k))=92
  .exact hc
  .rw [if_neg hc] at U;omega
 rw [if_pos hc] at U
 obtain ⟨h1,h2,h3⟩:=hc
 have hp1:p<s.length:=Cb (k:=p) AC
 have hp2:p+1+k<s.length:=Cb (k:=p+1+k) AC
 obtain ⟨e,he⟩:∃e,s[p+1+k]? =some e:=⟨s[p+1+k],List.getElem?_eq_getElem hp2⟩
 have he':s[((p+1+k:Nat):Int).toNat]? =some e:=he
 have hv:=Eg he
 have hb0:LP (s.drop p)=92:=AC
 have hpk:((p+1+k:Nat):Int)+1=((p+(k+2):Nat):Int):=AC
 rw [U] at h
 refine pB Tryz.func296 ?_
 repeat' ((conv=>whnf);first|refine Ad [(0,true),(1,true),(2,true),(3,true),(4,true),(5,true),(6,true),(7,true),(8,true),(9,true),(10,true),(11,true),(12,true),(13,false),(14,true),(15,true),(16,false)] [] GE ?_|exact DA|(refine B7 ?_;intros)|(refine DB ?_ ?_ ?_;rotate_left)|(refine B8 ?_ ?_<;>intro _)|refine Al hb ?_|refine Fg (k:=0) hl AC Do hb ?_|refine LD (q:=p+1) hl AC hk AC ?_|refine jd (p:=(p,p+(k+2))) hr2 AC rfl hpk (λw2' st1 hr3 hb3=>?_)|refine Al ((congrFun hb3 b).trans hb) ?_|refine Al (St.AQ _ _ _) ?_|with_reducible refine WF ?_)
 exact ID ((St.KY _ _ _ _).trans (congrArg (st1.Aa b) (UJ AC))) (h w2' st1 hr3 hb3) rfl
end
end Go.Proofs.Z
namespace Go.Aw
open Go
theorem tN (l:List UInt8):H4 (LP l)=H4 (A1 l):=by
 rcases Ky l with ⟨U,h2⟩|⟨U,h2⟩
 .rw [U,h2];rfl
 grind
theorem tP {c:Int} (h:H4 c=none):c≠92/\c≠34/\c≠39:=by
 refine ⟨λe=>?_,λe=>?_,λe=>?_⟩<;>(subst e;cases h)
theorem u8_in {a:Int} (U:0<=a) (h2:a<=255):IntKind.u8.wrap a=a:=IntWalk.u8_in _ ⟨U,h2⟩
theorem mf (h:H4 (A1 (l.drop 1))=some v):IA tx l=some (v,2):=by unfold IA;rw [h]
theorem l8 (h:A1 (l.drop 1)=38):IA true l=some (-1,2):=by
 unfold IA;rw [show H4 (A1 (l.drop 1))=none by rw [h];rfl]
 simp_all
theorem l9 (h:A1 (l.drop 1)=94) (U:64<=A1 (l.drop 2)) (h2:A1 (l.drop 2)<=95):IA tx l=some (A1 (l.drop 2) - 64,3):=by
 unfold IA;rw [show H4 (A1 (l.drop 1))=none by rw [h];rfl]
 simp_all
theorem me (h:A1 (l.drop 1)=111):IA tx l=(Kr 8 (l.drop 2)).map λp=>(p.1,2+p.2):=by
 unfold IA;rw [show H4 (A1 (l.drop 1))=none by rw [h];rfl]
 simp_all
theorem mb (h:A1 (l.drop 1)=120):IA tx l=(Kr 16 (l.drop 2)).map λp=>(p.1,2+p.2):=by
 unfold IA;rw [show H4 (A1 (l.drop 1))=none by rw [h];rfl]
 simp_all
theorem ma (h:48<=A1 (l.drop 1)) (U:A1 (l.drop 1)<=57):IA tx l=(Kr 10 (l.drop 1)).map λp=>(p.1,1+p.2):=by
 have hs:H4 (A1 (l.drop 1))=none:=by
  unfold H4
  (repeat' split)<;>first|rfl|(exfalso;omega)
 unfold IA;grind
theorem mc (h:H4 (A1 (l.drop 1))=none) (U:¬(A1 (l.drop 1)=38/\tx=true)) (h2:¬(A1 (l.drop 1)=94/\64<=A1 (l.drop 2)/\A1 (l.drop 2)<=95)) (h3:A1 (l.drop 1)≠111) (h4:A1 (l.drop 1)≠120) (h5:¬(48<=A1 (l.drop 1)/\A1 (l.drop 1)<=57)):
 IA tx l=if 0<(Kq (l.drop 1)).2 then some ((Kq (l.drop 1)).1,1+(Kq (l.drop 1)).2) else none:=by
 unfold IA;grind
end Go.Aw
namespace Go.Proofs.Z
open Go Go.Aw
section
variable {st:St} {R:Au->St->Prop}
theorem td (e:i.toNat=n) (U:s.length<=100000000) (h:R (.ret (.Bp [.int .i64 (Kq (s.drop n)).1,.int .i64 (Kq (s.drop n)).2])) st):PC 334 [.str (s.drop i.toNat)] st R:=by
 rw [e];exact tc (by grind) h
theorem Yo (hl:s.length<=100000000) (hp:p<s.length) (hb:st.box b=some (qC s p tx o w1 g w2))
 (h:∀v n,IA tx (s.drop p)=some (v,n)->R (.ret (.int .i64 v)) (st.Aa b (qC s (p+n) tx o w1 g w2))) (h0:IA tx (s.drop p)=none->∀q,R (.B1 (J1 p 51)) (st.Aa b (qC s q tx o w1 g w2))):
 PC 297 [.ptr b 0] st R:=by
 have d1:(s.drop p).drop 1=s.drop (p+1):=List.drop_drop
 have d2:(s.drop p).drop 2=s.drop (p+1+1):=List.drop_drop
 refine AO Ab [] Tryz.func297 rfl Do rfl ?_
 refine Ag (Ai Ab ?_)
 repeat' ((conv=>whnf);first|exact DA|(refine B7 ?_;intros)|(refine DB ?_ ?_ ?_;rotate_left)|(refine B8 ?_ ?_<;>intro _)|with_reducible refine WF ?_)
 refine Ag (Ai Ab ?_)
 repeat' ((conv=>whnf);first|exact DA|(refine B7 ?_;intros)|(refine DB ?_ ?_ ?_;rotate_left)|(refine B8 ?_ ?_<;>intro _)|refine Al hb ?_|with_reducible refine WF ?_)
 refine Ag (Ai Ab ?_)
 repeat' ((conv=>whnf);first|exact DA|(refine B7 ?_;intros)|(refine DB ?_ ?_ ?_;rotate_left)|(refine B8 ?_ ?_<;>intro _)|refine Al hb ?_|with_reducible refine WF ?_)
 refine di (st':=st.Aa b (qC s (p+1) tx o w1 g w2)) rfl ?_
 have endq:∀{i:Int} {q:Nat},i=(q:Int)->(st.Aa b (qC s (p+1) tx o w1 g w2)).Aa b [V.str s,.int .i64 i,.bool tx,.slice 1 (ints o) w1,.slice 2 (qA g) w2]=st.Aa b (qC s q tx o w1 g w2):=λe=>by rw [St.KY,UJ e]
 have endp:∀{q:Nat},(st.Aa b (qC s (p+1) tx o w1 g w2)).Aa b (qC s q tx o w1 g w2)=st.Aa b (qC s q tx o w1 g w2):=St.KY _ _ _ _
 have U:(st.Aa b (qC s (p+1) tx o w1 g w2)).box b=some (qC s (p+1) tx o w1 g w2):=St.AQ _ _ _
 have h0':=λe=>h0 e (p+1)
 generalize hst:st.Aa b (qC s (p+1) tx o w1 g w2)=st1 at U endq endp h0'
 have hx1:=Ky (s.drop (p+1))
 have hx2:=Ky (s.drop (p+1+1))
 have hxl:=mH (s.drop (p+1))
 have hby0:∀{R:Au->St->Prop},R (.ret (.int .u8 (LP (s.drop (p+1))))) st1->PC 243 [.ptr b 0,.int .i64 0] st1 R:=λh=>Fg (k:=0) hl AC Do U h
 have hby1:∀{R:Au->St->Prop},R (.ret (.int .u8 (LP (s.drop (p+1+1))))) st1->PC 243 [.ptr b 0,.int .i64 1] st1 R:=λh=>Fg (k:=1) hl AC Do U h
 have l1:=λh=>Cb (l:=s) (k:=p+1) h
 have l2:=λh=>Cb (l:=s) (k:=p+1+1) h
 cases hsg:H4 (A1 (s.drop (p+1))) with
 |some v=>
  have hv:=ZD hsg
  have h1:=h v 2 (mf i7)
  have hsn:∀{R:Au->St->Prop},R (.ret (xI (some v))) st1->PC 332 [.int .u8 (LP (s.drop (p+1)))] st1 R:=λh=>pG AC AC (by grind)
  refine Ai Ab ?_
  repeat' ((conv=>whnf);first|exact DA|(refine B7 ?_;intros)|(refine DB ?_ ?_ ?_;rotate_left)|(refine B8 ?_ ?_<;>intro _)|refine hby0 ?_|refine hsn ?_|refine Al U ?_|with_reducible refine WF ?_)
  exact ID (endq AC) h1 rfl
 |none=>
  have hne:=tP hsg
  have hsn:∀{R:Au->St->Prop},R (.ret (xI none)) st1->PC 332 [.int .u8 (LP (s.drop (p+1)))] st1 R:=λh=>pG AC AC (by rw [tN,hsg];exact h)
  refine Ag (Ai Ab ?_)
  repeat' ((conv=>whnf);first|exact DA|(refine B7 ?_;intros)|(refine DB ?_ ?_ ?_;rotate_left)|(refine B8 ?_ ?_<;>intro _)|refine hby0 ?_|with_reducible refine WF ?_)
  refine Ag (Ai Ab ?_)
  repeat' ((conv=>whnf);first|exact DA|(refine B7 ?_;intros)|(refine DB ?_ ?_ ?_;rotate_left)|(refine B8 ?_ ?_<;>intro _)|refine hsn ?_|with_reducible refine WF ?_)
  by_cases c1:A1 (s.drop (p+1))=38/\tx=true
  .obtain ⟨c1,rfl⟩:=c1
   have h1:=h (-1) 2 (l8 i7)
   refine Ai Ab ?_
   repeat' ((conv=>whnf);first|exact DA|(refine B7 ?_;intros)|(refine DB ?_ ?_ ?_;rotate_left)|(refine B8 ?_ ?_<;>intro _)|refine Al U ?_|with_reducible refine WF ?_)
   exact ID (endq AC) h1 rfl
  by_cases c2:A1 (s.drop (p+1))=94/\64<=A1 (s.drop (p+1+1))/\A1 (s.drop (p+1+1))<=95
  .obtain ⟨c2,c3,c4⟩:=c2
   have h1:=h _ 3 (l9 i7 i7 i7)
   rw [d2] at h1
   have hp2:=l2 AC
   obtain ⟨e,he⟩:∃e,s[p+1+1]? =some e:=⟨s[p+1+1],List.getElem?_eq_getElem hp2⟩
   have he':s[(((p+1:Nat):Int)+2 - 1).toNat]? =some e:=by rw [show (((p+1:Nat):Int)+2 - 1).toNat=p+1+1 by omega];exact he
   have hv:=Eg he
   have hew:∀{K:Int->Prop},K (A1 (s.drop (p+1+1)) - 64)->∃r,r=IntKind.u8.wrap ((e.toNat:Nat) - 64:Int)/\K r:=λk=>⟨_,by rw [hv];exact (u8_in AC AC).symm,k⟩
   refine Ai Ab ?_
   repeat' ((conv=>whnf);first|exact DA|(refine B7 ?_;intros)|(refine DB ?_ ?_ ?_;rotate_left)|(refine B8 ?_ ?_<;>intro _)|refine hby1 ?_|refine Al U ?_|refine Al (St.AQ _ _ _) ?_|refine hew ?_|with_reducible refine WF ?_)
   exact ID (endq AC) h1 rfl
  by_cases c3:A1 (s.drop (p+1))=111
  .have he:=me (tx:=tx) (l:=s.drop p) i7
   rw [d2] at he
   have hp1:=l1 AC
   refine Ai Ab ?_
   repeat' ((conv=>whnf);first|exact DA|(refine B7 ?_;intros)|(refine DB ?_ ?_ ?_;rotate_left)|(refine B8 ?_ ?_<;>intro _)|refine Al U ?_|refine RD (k:=1) hl AC (.inl rfl) U (λv n hv=>?_) (λhv=>?_)|with_reducible refine WF ?_)
   all_goals try rw [hv] at he
   .have h1:=h v (2+n) he
    exact ID (endp.trans (by grind)) h1 rfl
   .exact fin (h0' he) rfl
  by_cases c4:A1 (s.drop (p+1))=120
  .have he:=mb (tx:=tx) (l:=s.drop p) i7
   rw [d2] at he
   have hp1:=l1 AC
   refine Ai Ab ?_
   repeat' ((conv=>whnf);first|exact DA|(refine B7 ?_;intros)|(refine DB ?_ ?_ ?_;rotate_left)|(refine B8 ?_ ?_<;>intro _)|refine Al U ?_|refine RD (k:=1) hl AC (.inr (.inr rfl)) U (λv n hv=>?_) (λhv=>?_)|with_reducible refine WF ?_)
   all_goals try rw [hv] at he
   .have h1:=h v (2+n) he
    exact ID (endp.trans (by grind)) h1 rfl
   .exact fin (h0' he) rfl
  by_cases c5:48<=A1 (s.drop (p+1))/\A1 (s.drop (p+1))<=57
  .have he:=ma (tx:=tx) (l:=s.drop p) i7 i7
   rw [d1] at he
   have hp1:=l1 AC
   refine Ai Ab ?_
   repeat' ((conv=>whnf);first|exact DA|(refine B7 ?_;intros)|(refine DB ?_ ?_ ?_;rotate_left)|(refine B8 ?_ ?_<;>intro _)|refine Al U ?_|refine RD (k:=0) hl AC (.inr (.inl rfl)) U (λv n hv=>?_) (λhv=>?_)|with_reducible refine WF ?_)
   all_goals try rw [show Kr 10 (s.drop (p+1))=_ from hv] at he
   .have h1:=h v (1+n) he
    exact ID (endp.trans (by grind)) h1 rfl
   .exact fin (h0' he) rfl
  .have he:=mc (tx:=tx) (l:=s.drop p) i7 i7 i7 i7 i7 i7
   rw [d1] at he
   have hc1:LP (s.drop (p+1))=38->tx=false:=λe=>by simp_all
   have hnl:=WQ (s.drop (p+1)) Fm 0 (0,0) (Nat.zero_le _)
   have hnn:(Kq (s.drop (p+1))).2<=s.length - (p+1):=by simp only [Kq];rw [List.length_drop] at hnl;omega
   have f2:¬(LP (s.drop (p+1))=94/\64<=LP (s.drop (p+1+1))/\LP (s.drop (p+1+1))<=95):=λe=>c2 ⟨AC,AC,AC⟩
   have f3:¬LP (s.drop (p+1))=111:=AC
   have f4:¬LP (s.drop (p+1))=120:=AC
   have f5:¬(48<=LP (s.drop (p+1))/\LP (s.drop (p+1))<=57):=AC
   have e1:=λ(n:Nat) (hn:(Kq (s.drop (p+1))).2=n) (h0:0<n)=>h _ (1+n) (by rw [he,hn,if_pos h0])
   have e2:=λ(h0:¬0<(Kq (s.drop (p+1))).2)=>h0' i7
   generalize LP (s.drop (p+1))=x1 at hby0 hc1 f2 f3 f4 f5 hx1 hsn
   generalize LP (s.drop (p+1+1))=x2 at hby1 f2 hx2
   generalize hN:Kq (s.drop (p+1))=N at e1 e2 hnn
   obtain ⟨v,n⟩:=N
   have e1:=e1 n rfl
   dsimp only at e1 e2 hnn
   have hnam:∀{i:Int} {R:Au->St->Prop},i.toNat=p+1->R (.ret (.Bp [.int .i64 v,.int .i64 (n:Int)])) st1->PC 334 [.str (s.drop i.toNat)] st1 R:=λe h=>td e hl i7
   clear he h h0 h0' hsg hne hsn c1 c2 c3 c4 c5 hx1 hx2 hxl l1 l2 d1 d2 hnl hby0 endp hb hN
   by_cases h38:x1=38
   .have e:=hc1 h38
    subst e
    refine Ai Ab ?_
    repeat' ((conv=>whnf);first|exact DA|(refine B7 ?_;intros)|(refine DB ?_ ?_ ?_;rotate_left)|(refine B8 ?_ ?_<;>intro _)|refine hby1 ?_|refine Al U ?_|refine hnam AC ?_|refine GO ?_|with_reducible refine WF ?_)
    all_goals first
     |exact ID (endq AC) (e1 AC) rfl
     |exact fin (e2 AC) rfl
   .clear hc1
    refine Ai Ab ?_
    repeat' ((conv=>whnf);first|exact DA|(refine B7 ?_;intros)|(refine DB ?_ ?_ ?_;rotate_left)|(refine B8 ?_ ?_<;>intro _)|refine hby1 ?_|refine Al U ?_|refine hnam AC ?_|refine GO ?_|with_reducible refine WF ?_)
    all_goals first
     |exact ID (endq AC) (e1 AC) rfl
     |exact fin (e2 AC) rfl
end
end Go.Proofs.Z
namespace Go.Aw
open Go
theorem oD (h:0<Fi l):JS true l=.inr (-1,Fi l):=by
 cases l with
 |nil=>exact absurd h Do
 |cons a r=>
  have U:A1 (a::r)=92:=by
   by_cases U:A1 (a::r)=92
   .exact U
   .unfold Fi at h;simp_all
  unfold JS
  simp_all
theorem oC (U:A1 l=92) (h:tx=false\/Fi l=0):JS tx l=match IA tx l with|none=>.inl 51|some p=>.inr p:=by
 cases l with
 |nil=>exact absurd U Do
 |cons a r=>
  unfold JS
  grind
theorem iQ (U:l≠[]) (h1:A1 l≠92):JS tx l=if MZ (AU l) then .inl 50 else .inr (((AU l).1:Nat),(AU l).2):=by
 cases l with
 |nil=>rfl
 |cons a r=>
  unfold JS
  simp_all
theorem aO {c:Int} (h:AP c≠0):c<=1114111:=by
 by_cases U:c<=1114111
 .exact U
 .refine absurd ?_ h
  unfold AP M5
  omega
theorem dw:MZ (c,m)=true↔AP (c:Int)=0\/(AP (c:Int)=1/\¬c=32)\/(c=65533/\m=1):=by
 simp only [MZ,Bool.or_eq_true,Bool.and_eq_true,Bool.not_eq_true',beq_iff_eq,beq_eq_false_iff_ne,ne_eq]
 omega
def W4 (o:List Int) (v:Int):List Int:=if v= -1 then o else o++[v]
end Go.Aw
namespace Go.Proofs.Z
open Go Go.Aw
def QB (st0 st:St) (b:Nat) (s:List UInt8) (tx:Bool):Prop:=∃q o w1 g w2,st.box b=some (qC s q tx o w1 g w2)/\B6 st0 st w1 o.length w2 (2*g.length)
section
variable {st:St} {R:Au->St->Prop}
attribute [local irreducible] Go.Aw.Am
theorem yB (hl:s.length<=100000000) (hp:p<=s.length) (hb:st.box b=some (qC s p tx o w1 g w2)) (hr:B6 st0 st w1 o.length w2 (2*g.length)) (hgl:g.length<=100000000)
 (h0:(tx=false\/Fi (s.drop p)=0)->R (.ret (.bool false)) st)
 (h:tx=true->0<Fi (s.drop p)->∀w2' st',B6 st0 st' w1 o.length w2' (2*(g++[(p,p+Fi (s.drop p))]).length)->st'.box=st.box->R (.ret (.bool true)) (st'.Aa b (qC s (p+Fi (s.drop p)) true o w1 (g++[(p,p+Fi (s.drop p))]) w2'))):PC 296 [.ptr b 0] st R:=by
 by_cases hg:tx=false\/Fi (s.drop p)=0
 .exact wG hl hp hb hg (h0 hg)
 .have ht:tx=true:=by cases tx;· simp_all
                      rfl
  subst ht
  have U:0<Fi (s.drop p):=by
   rcases Nat.eq_zero_or_pos (Fi (s.drop p)) with e|e
   .omega
   .exact e
  exact se hl hb U hr hgl (h rfl U)
theorem vi (hl:s.length<=100000000) (hp:p<=s.length) (hb0:st0.box b=none) (hb:st.box b=some (qC s p tx o w1 g w2)) (hr:B6 st0 st w1 o.length w2 (2*g.length))
 (ho:o.length<=100000000) (hgl:g.length<=100000000)
 (h0:∀e,JS tx (s.drop p)=.inl e->∀st',QB st0 st' b s tx->R (.B1 (J1 p e)) st')
 (h:∀v n,JS tx (s.drop p)=.inr (v,n)->∀w1' w2' st' g',B6 st0 st' w1' (W4 o v).length w2' (2*g'.length)->st'.box b=some (qC s (p+n) tx (W4 o v) w1' g' w2')->g'=(if tx=true/\0<Fi (s.drop p) then g++[(p,p+n)] else g)->R (.ret (.Bp [])) st'):
 PC 244 [.ptr b 0] st R:=by
 have hqb:QB st0 st b s tx:=⟨p,o,w1,g,w2,hb,hr⟩
 refine AO Ab [] Tryz.func244 rfl Do rfl ?_
 by_cases U:s.length<=p
 .have hd:s.drop p=[]:=List.drop_eq_nil_iff.2 AC
  have h0:=h0 50 (by rw [hd];rfl) st hqb
  refine Ai Ab ?_
  repeat' ((conv=>whnf);first|exact DA|(refine B7 ?_;intros)|(refine DB ?_ ?_ ?_;rotate_left)|(refine B8 ?_ ?_<;>intro _)|refine Al hb ?_|refine GO ?_|with_reducible refine WF ?_)
  exact fin h0 rfl
 have U:p<s.length:=AC
 obtain ⟨e,he⟩:∃e,s[p]? =some e:=⟨s[p],List.getElem?_eq_getElem U⟩
 have he':s[(p:Int).toNat]? =some e:=he
 have hv:=Eg he
 refine Ag (Ai Ab ?_)
 repeat' ((conv=>whnf);first|exact DA|(refine B7 ?_;intros)|(refine DB ?_ ?_ ?_;rotate_left)|(refine B8 ?_ ?_<;>intro _)|refine Al hb ?_|refine GO ?_|with_reducible refine WF ?_)
 refine Ag (Ai Ab ?_)
 repeat' ((conv=>whnf);first|exact DA|(refine B7 ?_;intros)|(refine DB ?_ ?_ ?_;rotate_left)|(refine B8 ?_ ?_<;>intro _)|refine yB hl hp hb hr hgl (λhg=>?_) (λht hg w2' st1 hr1 hb1=>?_)|with_reducible refine WF ?_)
 .by_cases h92:A1 (s.drop p)=92
  .have h1:=oC h92 hg
   have hng:¬(tx=true/\0<Fi (s.drop p)):=λx=>by simp_all
   rcases hesc:IA tx (s.drop p) with _|⟨v,n⟩
   .rw [hesc] at h1
    have h0:=h0 51 h1
    have hE:∀{R:Au->St->Prop},(∀q,R (.B1 (J1 p 51)) (st.Aa b (qC s q tx o w1 g w2)))->PC 297 [.ptr b 0] st R:=λh=>Yo hl U hb (λv n x=>by simp_all) (λ_=>h)
    refine Ai Ab ?_
    repeat' ((conv=>whnf);first|exact DA|(refine B7 ?_;intros)|(refine DB ?_ ?_ ?_;rotate_left)|(refine B8 ?_ ?_<;>intro _)|refine Al hb ?_|refine hE (λq=>?_)|with_reducible refine WF ?_)
    exact fin (h0 _ ⟨_,_,_,_,_,St.AQ _ _ _,hr.set hb0 _⟩) rfl
   .rw [hesc] at h1
    have hn:=dV hesc
    rw [List.length_drop] at hn
    dsimp only at hn
    have h:=h v n h1
    rw [if_neg hng] at h
    have hb2:=St.AQ st b (qC s (p+n) tx o w1 g w2)
    have hr2:=hr.set hb0 (qC s (p+n) tx o w1 g w2)
    have hE:∀{R:Au->St->Prop},R (.ret (.int .i64 v)) (st.Aa b (qC s (p+n) tx o w1 g w2))->PC 297 [.ptr b 0] st R:=λh=>Yo hl U hb (λv' n' x=>by simp_all) (λx=>by simp_all)
    generalize st.Aa b (qC s (p+n) tx o w1 g w2)=st2 at hb2 hr2 hE
    unfold W4 at h
    by_cases hv1:v= -1
    .rw [if_pos hv1] at h
     refine Ai Ab ?_
     repeat' ((conv=>whnf);first|exact DA|(refine B7 ?_;intros)|(refine DB ?_ ?_ ?_;rotate_left)|(refine B8 ?_ ?_<;>intro _)|refine Al hb ?_|refine hE ?_|with_reducible refine WF ?_)
     all_goals first
      |exact fin (h w1 w2 st2 g hr2 hb2 rfl) rfl
      |(exfalso;omega)
    .rw [if_neg hv1] at h
     refine Ai Ab ?_
     repeat' ((conv=>whnf);first|exact DA|(refine B7 ?_;intros)|(refine DB ?_ ?_ ?_;rotate_left)|(refine B8 ?_ ?_<;>intro _)|refine Al hb ?_|refine Al hb2 ?_|refine hE ?_|refine Zu hr2 AC (λw1' st3 hr3 hb3=>?_)|refine Al ((congrFun hb3 b).trans hb2) ?_|with_reducible refine WF ?_)
     exact fin (h w1' w2 _ g (hr3.set hb0 _) (St.AQ _ _ _) rfl) rfl
  .have h1:=iQ (tx:=tx) (Vx U) h92
   have hng:¬(tx=true/\0<Fi (s.drop p)):=λx=>by simp_all
   rcases hd:AU (s.drop p) with ⟨c,m⟩
   have hrn:=rune_le U hd.symm
   have hx:NS s p=((c:Int),(m:Int)):=by rw [NT AC AC,QC U hd.symm]
   rw [hd] at h1
   refine Ag (Ai Ab ?_)
   repeat' ((conv=>whnf);first|exact DA|(refine B7 ?_;intros)|(refine DB ?_ ?_ ?_;rotate_left)|(refine B8 ?_ ?_<;>intro _)|refine Al hb ?_|with_reducible refine WF ?_)
   refine Ag (Ai Ab ?_)
   repeat' ((conv=>whnf);first|exact DA|(refine B7 ?_;intros)|(refine DB ?_ ?_ ?_;rotate_left)|(refine B8 ?_ ?_<;>intro _)|refine Al hb ?_|refine eE AC hx ?_|with_reducible refine WF ?_)
   refine Ag (Ai Ab ?_)
   repeat' ((conv=>whnf);first|exact DA|(refine B7 ?_;intros)|(refine DB ?_ ?_ ?_;rotate_left)|(refine B8 ?_ ?_<;>intro _)|refine Ld ?_|with_reducible refine WF ?_)
   cases hbad:MZ (c,m) with
   |true=>
    rw [if_pos hbad] at h1
    have h0:=h0 50 h1 st hqb
    refine Ai Ab ?_
    have hbi:=dw.1 hbad
    repeat' ((conv=>whnf);first|exact DA|(refine B7 ?_;intros)|(refine DB ?_ ?_ ?_;rotate_left)|(refine B8 ?_ ?_<;>intro _)|refine Al hb ?_|refine GO ?_|with_reducible refine WF ?_)
    all_goals first|exact fin h0 rfl|(exfalso;omega)
   |false=>
    rw [if_neg i7] at h1
    have h:=h (c:Int) m h1
    rw [if_neg hng] at h
    unfold W4 at h
    rw [if_neg AC] at h
    have hbi:¬(AP (c:Int)=0\/(AP (c:Int)=1/\¬c=32)\/(c=65533/\m=1)):=λx=>by rw [dw.2 x] at hbad;grind
    have hcm:=aO (c:=(c:Int)) AC
    refine Ai Ab ?_
    repeat' ((conv=>whnf);first|exact DA|(refine B7 ?_;intros)|(refine DB ?_ ?_ ?_;rotate_left)|(refine B8 ?_ ?_<;>intro _)|refine Al hb ?_|refine GO ?_|refine Zu hr AC (λw1' st3 hr3 hb3=>?_)|refine Al ((congrFun hb3 b).trans hb) ?_|refine Al (St.AQ _ _ _) ?_|with_reducible refine WF ?_)
    all_goals exact fin (h w1' w2 _ g ((hr3.set hb0 _).set hb0 _) ((St.AQ _ _ _).trans (congrArg some (UJ AC))) rfl) rfl
 .subst ht
  have h1:=oD hg
  have h:=h _ _ h1 w1 w2' (st1.Aa b (qC s (p+Fi (s.drop p)) true o w1 (g++[(p,p+Fi (s.drop p))]) w2')) _ (hr1.set hb0 _) (St.AQ _ _ _) (if_pos ⟨rfl,hg⟩).symm
  repeat' ((conv=>whnf);first|exact DA|(refine B7 ?_;intros)|(refine DB ?_ ?_ ?_;rotate_left)|(refine B8 ?_ ?_<;>intro _)|with_reducible refine WF ?_)
  exact fin h rfl
end
end Go.Proofs.Z
namespace Go.Aw
open Go
theorem zF {b:Bool} {p q:Prop} (h:b=false) (k:q):Bn b p q:=by subst h;exact Wj k
theorem zG {b:Bool} {p q:Prop} (h:b=true) (k:p):Bn b p q:=by subst h;exact Wi k
theorem jF (h:A1 l=34):EC l=.inr 1:=by rw [EC,if_pos h]
theorem jE {e:Int} (h:A1 l≠34) (k:JS true l=.inl e):EC l=.inl (0,e):=by
 rw [EC,if_neg h]
 split
 .rename_i e' U;rw [k] at U;injection U with U;rw [U]
 .rename_i p hp;rw [k] at hp;cases hp
theorem pW (h:A1 l≠34) (k:JS true l=.inr (v,n)):EC l=match EC (l.drop n) with| .inl q=>.inl (q.1+n,q.2)| .inr m=>.inr (m+n):=by
 rw [EC,if_neg h]
 split
 .rename_i e' he;rw [k] at he;cases he
 .rename_i p U;rw [k] at U;injection U with U;subst U;rfl
theorem jG (h:A1 l=34):Ko l=[]:=by rw [Ko,if_pos h]
theorem pY (h:A1 l≠34) (k:JS true l=.inr (v,n)):Ko l=if v= -1 then Ko (l.drop n) else v::Ko (l.drop n):=by
 rw [Ko,if_neg h]
 split
 .rename_i e' he;rw [k] at he;cases he
 .rename_i p U;rw [k] at U;injection U with U;subst U;rfl
theorem jH {q:Nat} (h:A1 l=34):Jw q l=[]:=by rw [Jw,if_pos h]
theorem pZ {q:Nat} (h:A1 l≠34) (k:JS true l=.inr (v,n)):Jw q l=if 0<Fi l then (q,q+n)::Jw (q+n) (l.drop n) else Jw (q+n) (l.drop n):=by
 rw [Jw,if_neg h]
 split
 .rename_i e' he;rw [k] at he;cases he
 .rename_i p U;rw [k] at U;injection U with U;subst U;rfl
def fN (q:Nat):Sum (Nat×Int) Nat->Sum (Nat×Int) Nat
 | .inl k=>.inl (q+k.1,k.2)
 | .inr n=>.inr (q+n)
theorem qH {q:Nat} (h:A1 l≠34) (k:JS true l=.inr (v,n)):fN q (EC l)=fN (q+n) (EC (l.drop n)):=by
 rw [pW h k]
 cases EC (l.drop n) with
 |inl k=>simp only [fN];congr 2;omega
 |inr m=>simp only [fN];congr 1;omega
structure QLs where
 q:Nat
 o:List Int
 g:List (Nat×Nat)
 w1:AE
 w2:AE
 m:St
end Go.Aw
namespace Go.Proofs.Z
open Go Go.Aw
section
variable {st:St} {R:Au->St->Prop}
theorem iA (hl:s.length<=100000000) (hp:A1 (s.drop p)=34) (hb0:st0.box b=none) (hb:st.box b=some (qC s p tx [] w1 [] w2)) (hr:B6 st0 st w1 0 w2 0)
 (h0:∀k e,EC (s.drop (p+1))=.inl (k,e)->∀st',QB st0 st' b s true->R (.B1 (J1 (p+1+k:Nat) e)) st')
 (h:∀n,EC (s.drop (p+1))=.inr n->∀w1' w2' st',B6 st0 st' w1' (Ko (s.drop (p+1))).length w2' (2*(Jw (p+1) (s.drop (p+1))).length)->st'.box b=some (qC s (p+1+n) true (Ko (s.drop (p+1))) w1' (Jw (p+1) (s.drop (p+1))) w2')->R (.ret (.int .i64 14)) st'):
 PC 201 [.ptr b 0] st R:=by
 have hpl:p<s.length:=Cb (k:=p) AC
 obtain ⟨e,he⟩:∃e,s[p]? =some e:=⟨s[p],List.getElem?_eq_getElem hpl⟩
 have he':s[(p:Int).toNat]? =some e:=he
 have hv:=Eg he
 have hv34:((e.toNat:Nat):Int)=34:=AC
 refine AO Ab [] Tryz.func201 rfl Do rfl ?_
 refine Ag (Ai Ab ?_)
 repeat' ((conv=>whnf);first|exact DA|(refine B7 ?_;intros)|(refine DB ?_ ?_ ?_;rotate_left)|(refine B8 ?_ ?_<;>intro _)|with_reducible refine WF ?_)
 refine Ag (Ai Ab ?_)
 repeat' ((conv=>whnf);first|exact DA|(refine B7 ?_;intros)|(refine DB ?_ ?_ ?_;rotate_left)|(refine B8 ?_ ?_<;>intro _)|refine Al hb ?_|with_reducible refine WF ?_)
 refine Ag (Ai Ab ?_)
 repeat' ((conv=>whnf);first|exact DA|(refine B7 ?_;intros)|(refine DB ?_ ?_ ?_;rotate_left)|(refine B8 ?_ ?_<;>intro _)|refine Al hb ?_|with_reducible refine WF ?_)
 refine Ag (Ai Ab ?_)
 repeat' ((conv=>whnf);first|exact DA|(refine B7 ?_;intros)|(refine DB ?_ ?_ ?_;rotate_left)|(refine B8 ?_ ?_<;>intro _)|refine Al (St.AQ _ _ _) ?_|with_reducible refine WF ?_)
 refine di (st':=st.Aa b (qC s (p+1) true [] w1 [] w2)) (St.KY _ _ _ _).symm ?_
 have hb1:=St.AQ st b (qC s (p+1) true [] w1 [] w2)
 have hr1:=hr.set hb0 (qC s (p+1) true [] w1 [] w2)
 generalize st.Aa b (qC s (p+1) true [] w1 [] w2)=st1 at hb1 hr1
 refine Ai Ab ?_
 repeat' ((conv=>whnf);first|exact DA|(refine B7 ?_;intros)|(refine DB ?_ ?_ ?_;rotate_left)|(refine B8 ?_ ?_<;>intro _)|refine Al hb1 ?_|with_reducible refine WF ?_)
 refine V4 (α:=QLs) (λ_=>[]) [0,3] [] (λx=>x.m) (λx=>x.m.box b=some (qC s x.q true x.o x.w1 x.g x.w2)/\B6 st0 x.m x.w1 x.o.length x.w2 (2*x.g.length)/\x.q<=s.length/\p+1<=x.q/\x.o.length<=x.q/\x.g.length<=x.q/\
  fN (p+1) (EC (s.drop (p+1)))=fN x.q (EC (s.drop x.q))/\Ko (s.drop (p+1))=x.o++Ko (s.drop x.q)/\Jw (p+1) (s.drop (p+1))=x.g++Jw x.q (s.drop x.q))
  (λx=>s.length - x.q) ⟨p+1,[],[],w1,w2,st1⟩ ⟨hb1,hr1,by simp only [];omega,Nat.le_refl _,GT,GT,rfl,rfl,rfl⟩ Yl (St.le_refl _) ?_
 rintro ⟨q,o,g,v1,v2,m⟩ ⟨j1,j2,j3,j4,j5,j6,U,j8,j9⟩
 dsimp only at j1 j2 j3 j4 j5 j6 U j8 j9 |-
 have hx:=Ky (s.drop q)
 have hbt:∀{R:Au->St->Prop},R (.ret (.int .u8 (LP (s.drop q)))) m->PC 243 [.ptr b 0,.int .i64 0] m R:=λh=>Fg (k:=0) hl j3 Do j1 h
 by_cases hq:A1 (s.drop q)=34
 .have hql:q<s.length:=Cb (k:=q) AC
  rw [jF hq] at U
  rw [jG hq,List.append_nil] at j8
  rw [jH hq,List.append_nil] at j9
  clear h0
  have hcd:(!LP (s.drop q)==((e.toNat:Nat):Int))=false:=by rw [show LP (s.drop q)=((e.toNat:Nat):Int) by omega];simp
  repeat' ((conv=>whnf);first|refine zF hcd ?_|exact DA|(refine B7 ?_;intros)|(refine DB ?_ ?_ ?_;rotate_left)|(refine B8 ?_ ?_<;>intro _)|refine hbt ?_|refine Al j1 ?_|with_reducible refine WF ?_)
  rw [j8,j9] at h
  cases hT:EC (s.drop (p+1)) with
  |inl k=>rw [hT] at U;cases U
  |inr n=>
   rw [hT] at U
   have e7:p+1+n=q+1:=by injection U
   exact fin (h n hT v1 v2 _ (j2.set hb0 _) ((St.AQ _ _ _).trans (congrArg some (UJ AC)))) rfl
 .have hne:¬LP (s.drop q)=((e.toNat:Nat):Int):=AC
  have hcd:(!LP (s.drop q)==((e.toNat:Nat):Int))=true:=by rw [beq_eq_false_iff_ne.2 hne];rfl
  repeat' ((conv=>whnf);first|refine zG hcd ?_|exact DA|(refine B7 ?_;intros)|(refine DB ?_ ?_ ?_;rotate_left)|(refine B8 ?_ ?_<;>intro _)|refine hbt ?_|refine vi hl j3 hb0 j1 j2 AC AC (λe' hE st' hQ=>?_) (λv n hO u1 u2 st' g' hR hB hG=>?_)|with_reducible refine WF ?_)
  .rw [jE hq hE] at U
   cases hT:EC (s.drop (p+1)) with
   |inl k=>
    rw [hT] at U
    injection U with U
    injection U with e7 e8
    have:=h0 k.1 k.2 hT st' hQ
    rw [show p+1+k.1=q by simpa using e7,e8] at this
    exact fin this rfl
   |inr n=>rw [hT] at U;cases U
  .have hle:=JT hO
   rw [List.length_drop] at hle
   dsimp only at hle
   rw [qH hq hO,List.drop_drop] at U
   rw [pY hq hO,List.drop_drop] at j8
   rw [pZ hq hO,List.drop_drop] at j9
   have ho:(W4 o v).length<=o.length+1:=by unfold W4;split<;>simp
   have hg:g'.length<=g.length+1:=by rw [hG];split<;>simp
   conv=>whnf
   refine ⟨⟨q+n,W4 o v,g',u1,u2,st'⟩,⟨hB,hR,by simp only [];omega,by simp only [];omega,by simp only [];omega,by simp only [];omega,U,?_,?_⟩,by simp only [];omega,Yl,St.le_refl _⟩
   .rw [j8]
    unfold W4
    by_cases hv1:v= -1
    .rw [if_pos hv1,if_pos hv1]
    .rw [if_neg hv1,if_neg hv1];simp
   .rw [j9,hG]
    by_cases hg0:0<Fi (s.drop q)
    .rw [if_pos hg0,if_pos ⟨rfl,hg0⟩];simp
    .rw [if_neg hg0,if_neg (λx=>hg0 x.2)]
end
section
variable {st:St} {R:Au->St->Prop}
theorem iz (hl:s.length<=100000000) (hp:A1 (s.drop p)=39) (hb0:st0.box b=none) (hb:st.box b=some (qC s p tx [] w1 [] w2)) (hr:B6 st0 st w1 0 w2 0)
 (h0:∀k e,L3 (s.drop (p+1))=.inl (k,e)->∀st',QB st0 st' b s false->R (.B1 (J1 (p+1+k:Nat) e)) st')
 (h:∀n,L3 (s.drop (p+1))=.inr n->∀o' w1' w2' st',B6 st0 st' w1' (List.length o') w2' 0->st'.box b=some (qC s (p+1+n) false o' w1' [] w2')->R (.ret (.int .i64 13)) st'):
 PC 201 [.ptr b 0] st R:=by
 have hpl:p<s.length:=Cb (k:=p) AC
 obtain ⟨e,he⟩:∃e,s[p]? =some e:=⟨s[p],List.getElem?_eq_getElem hpl⟩
 have he':s[(p:Int).toNat]? =some e:=he
 have hv:=Eg he
 have hv34:((e.toNat:Nat):Int)=39:=AC
 refine AO Ab [] Tryz.func201 rfl Do rfl ?_
 refine Ag (Ai Ab ?_)
 repeat' ((conv=>whnf);first|exact DA|(refine B7 ?_;intros)|(refine DB ?_ ?_ ?_;rotate_left)|(refine B8 ?_ ?_<;>intro _)|with_reducible refine WF ?_)
 refine Ag (Ai Ab ?_)
 repeat' ((conv=>whnf);first|exact DA|(refine B7 ?_;intros)|(refine DB ?_ ?_ ?_;rotate_left)|(refine B8 ?_ ?_<;>intro _)|refine Al hb ?_|with_reducible refine WF ?_)
 refine Ag (Ai Ab ?_)
 repeat' ((conv=>whnf);first|exact DA|(refine B7 ?_;intros)|(refine DB ?_ ?_ ?_;rotate_left)|(refine B8 ?_ ?_<;>intro _)|refine Al hb ?_|with_reducible refine WF ?_)
 refine Ag (Ai Ab ?_)
 repeat' ((conv=>whnf);first|exact DA|(refine B7 ?_;intros)|(refine DB ?_ ?_ ?_;rotate_left)|(refine B8 ?_ ?_<;>intro _)|refine Al (St.AQ _ _ _) ?_|with_reducible refine WF ?_)
 refine di (st':=st.Aa b (qC s (p+1) false [] w1 [] w2)) (St.KY _ _ _ _).symm ?_
 have U:=St.AQ st b (qC s (p+1) false [] w1 [] w2)
 have hr1:=hr.set hb0 (qC s (p+1) false [] w1 [] w2)
 generalize st.Aa b (qC s (p+1) false [] w1 [] w2)=st1 at U hr1
 have hx:=Ky (s.drop (p+1))
 have hbt:∀{R:Au->St->Prop},R (.ret (.int .u8 (LP (s.drop (p+1))))) st1->PC 243 [.ptr b 0,.int .i64 0] st1 R:=λh=>Fg (k:=0) hl AC Do U h
 have hqb:QB st0 st1 b s false:=⟨_,[],w1,[],w2,U,hr1⟩
 by_cases hq:A1 (s.drop (p+1))=39
 .have h0:=h0 0 50 (if_pos hq) st1 hqb
  clear h
  refine Ai Ab ?_
  repeat' ((conv=>whnf);first|exact DA|(refine B7 ?_;intros)|(refine DB ?_ ?_ ?_;rotate_left)|(refine B8 ?_ ?_<;>intro _)|refine Al U ?_|refine hbt ?_|refine GO ?_|with_reducible refine WF ?_)
  exact fin h0 rfl
 refine Ag (Ai Ab ?_)
 repeat' ((conv=>whnf);first|exact DA|(refine B7 ?_;intros)|(refine DB ?_ ?_ ?_;rotate_left)|(refine B8 ?_ ?_<;>intro _)|refine Al U ?_|with_reducible refine WF ?_)
 refine Ag (Ai Ab ?_)
 repeat' ((conv=>whnf);first|exact DA|(refine B7 ?_;intros)|(refine DB ?_ ?_ ?_;rotate_left)|(refine B8 ?_ ?_<;>intro _)|refine hbt ?_|with_reducible refine WF ?_)
 refine Ag (Ai Ab ?_)
 repeat' ((conv=>whnf);first|exact DA|(refine B7 ?_;intros)|(refine DB ?_ ?_ ?_;rotate_left)|(refine B8 ?_ ?_<;>intro _)|refine vi (st0:=st0) hl AC hb0 U hr1 GT GT (λe' hE st' hQ=>?_) (λv n hO u1 u2 st' g' hR hB hG=>?_)|with_reducible refine WF ?_)
 .exact fin (h0 0 e' (by unfold L3;rw [if_neg hq,hE]) st' hQ) rfl
 .have hle:=JT hO
  rw [List.length_drop] at hle
  dsimp only at hle
  rw [if_neg (λx=>by cases x.1)] at hG
  subst hG
  have hc:L3 (s.drop (p+1))=if A1 (s.drop (p+1+n))=39 then .inr (n+1) else .inl (n,50):=by
   unfold L3
   rw [if_neg hq,hO]
   show (if A1 ((s.drop (p+1)).drop n)=39 then _ else _)=_
   rw [List.drop_drop]
  have hx2:=Ky (s.drop (p+1+n))
  have hbt2:∀{R:Au->St->Prop},R (.ret (.int .u8 (LP (s.drop (p+1+n))))) st'->PC 243 [.ptr b 0,.int .i64 0] st' R:=λh=>Fg (k:=0) hl AC Do hB h
  clear hbt U hr1 hqb hb hr
  by_cases hq2:A1 (s.drop (p+1+n))=39
  .rw [if_pos hq2] at hc
   have h:=λst'=>h _ hc (W4 [] v) u1 u2 st'
   refine Ai Ab ?_
   repeat' ((conv=>whnf);first|exact DA|(refine B7 ?_;intros)|(refine DB ?_ ?_ ?_;rotate_left)|(refine B8 ?_ ?_<;>intro _)|refine hbt2 ?_|refine Al hB ?_|with_reducible refine WF ?_)
   exact fin (h _ (hR.set hb0 _) ((St.AQ _ _ _).trans (congrArg some (UJ AC)))) rfl
  .rw [if_neg hq2] at hc
   have h0:=h0 _ _ hc st' ⟨_,_,_,_,_,hB,hR⟩
   refine Ai Ab ?_
   repeat' ((conv=>whnf);first|exact DA|(refine B7 ?_;intros)|(refine DB ?_ ?_ ?_;rotate_left)|(refine B8 ?_ ?_<;>intro _)|refine hbt2 ?_|refine Al hB ?_|refine GO ?_|with_reducible refine WF ?_)
   exact fin h0 rfl
end
end Go.Proofs.Z
namespace Go.Aw
open Go
section
variable {D:List Deferred} {P:Program} {T:List (Nat×Ty)} {I0 I:Mem} {st0 st:St} {w0 w:World} {β:Nat->Option Nat} {env:Env} {a:Act}
theorem TV (hP:T4 P T) (gl:List Nat) (hf:P.funcs[f]? =some fn) {c0 c1 c2 rest:Code} {rid:Nat} {mk df:Oper}
 (hb : fn.body = some (.seq c0 (.seq c1 (.seq c2 (.seq (.region rid #[mk, df] false) rest))))) (hn : (fn.name == "runtime.NumGoroutine") = false) {g : FuncId} {cap : Array Operand} {tf : Nat}
 (h1:mk.op=.makeFunc (.func g) #[] cap) (h2:mk.dst=some tf) (h3:mk.guard=none) (h4:df.op=.defer {callee:=.value (.tmp tf),args:=#[],argTypes:=#[]}) (h5:df.guard=none) (h6:df.dst=none)
 (hg:Plain P g) (hle:Nat.ble args.length fn.ntmps=true)
 (h:AW P c0 (BW (λenv st=>AW P c1 (BW (λenv st=>AW P c2 (λae env st=>match ae with
   | .normal=>XO env cap.toList λvs=>vs.all V.ek=true/\env.go (some tf) (.func g [] vs) λenv=>AW P rest (bS P T g vs fn R) env st
   | .ret=>Xg T fn R env st
   |_=>False) env st) qz) env st) qz) {tmps:=IP 0 args,boxes:=[],Bs:=0,sz:=fn.ntmps,gl} st):Ba P f args st R:=by
 refine ⟨?_,fn,hf,i7,hn⟩
 intro I w cargs hs hargs
 refine calls_of_wp_defers hf hb ?_
 refine wp_seq (wp_mono (h [] I st w I _ _ w (GA gl hs hargs hle)) ?_)
 rintro e a w1 ⟨I1,β1,env1,st1,ae,r1,x1,k1⟩
 cases ae with
 |exit _|goto _|ret|B1 _=>exact k1.elim
 |normal=>
 cases e with
 |exit _|goto _|ret|panic _|outgrown=>exact x1.elim
 |normal=>
 refine wp_seq (wp_mono (k1 [] I st w I1 _ _ w1 r1) ?_)
 rintro e a w2 ⟨I2,β2,env2,st2,ae,U,x2,k2⟩
 cases ae with
 |exit _|goto _|ret|B1 _=>exact k2.elim
 |normal=>
 cases e with
 |exit _|goto _|ret|panic _|outgrown=>exact x2.elim
 |normal=>
 refine wp_seq (wp_mono (k2 [] I st w I2 _ _ w2 U) ?_)
 clear k2 U x2
 rintro e a w2 ⟨I2,β2,env2,st2,ae,U,x2,k2⟩
 cases ae with
 |exit _|goto _|B1 _=>exact k2.elim
 |ret=>
  cases e with
  |normal|exit _|goto _|panic _|outgrown=>exact x2.elim
  |ret=>
   obtain ⟨v,c,g1,g2,g3⟩:=Cu (P:=P) hP.t U k2
   show Leaves P fn a.tmps _ a.defers _ w2
   rw [U.f.defers]
   exact ⟨c,g1,I2,st2,.ret v,U.fr,U.s,g2,g3⟩
 |normal=>
 cases e with
 |exit _|goto _|ret|panic _|outgrown=>exact x2.elim
 |normal=>
 refine wp_seq (wp_region_list ?_)
 show wpList P #[mk,df] _ [mk,df] a w2
 unfold wpList
 rw [if_pos (by simp [Region.wanted,h3])]
 left
 obtain ⟨vs,hv,kp,kg⟩:=Gr U.f (show XO env2 cap.toList _ from k2)
 have hcv:AM I2 (.func g [] vs) (.func (.func g) #[] (cap.map a.eval)):=by
  simp only [AM]
  exact ⟨[],cap.toList.map a.eval,by congr 1;grind,H1,hv⟩
 obtain ⟨env3,r3,k3⟩:=Cj U (A2.of hcv) kg
 have htf:tf<a.tmps.size:=by
  rw [U.f.size]
  exact (HN kg).1 tf rfl
 unfold Oper.wp
 rw [show (execOp a.eval mk).run P w2=.ok (.value (.func (.func g) #[] (cap.map a.eval))) w2 by simp only [execOp,h1,Array.map_empty];rfl]
 show wpList P #[mk,df] _ [df] (a.put mk.dst _) w2
 rw [h2]
 unfold wpList
 rw [if_pos (by simp [Region.wanted,h5])]
 left
 have hev:(a.put (some tf) (.func (.func g) #[] (cap.map a.eval))).eval (.tmp tf)=.func (.func g) #[] (cap.map a.eval):=by
  simp [Act.put,Act.eval,htf]
 unfold Oper.wp
 rw [show (execOp (a.put (some tf) (.func (.func g) #[] (cap.map a.eval))).eval df).run P w2=.ok (.defer {target:=.fn (.func g) (cap.map a.eval),args:=#[]}) w2 by
  simp only [execOp,h4,resolve,hev,Deferred.ofValue,Array.map_empty,Array.empty_append];rfl]
 rw [Oper.upon_defer]
 rw [h6]
 unfold wpList
 show rest.wp P _ _ _
 have r4:=r3.defer {target:=.fn (.func g) (cap.map a.eval),args:=#[]}
 refine wp_mono (k3 _ I st w I2 _ _ w2 r4) ?_
 rintro e a5 w5 ⟨I5,β5,env5,st5,ae,r5,x5,k5⟩
 have hd:=r5.f.defers
 obtain ⟨fn2,p1,p2,p3⟩:=hg
 have hinv:(invoke (.fn (.func g) (cap.map a.eval)) #[]).run P w5=.ok (.enter g (cap.toList.map a.eval).toArray) w5:=by
  have hb:fn2.body.isNone=false:=by cases hb:fn2.body<;>simp_all
  simp only [invoke,callFunc,Sem.run_bind,Sem.run_pure,Result.andThen_ok,run_program,p1]
  rw [p3]
  simp [hb]
  apply Array.ext';simp
 have last:∀{u:FrameMode} {x:Option V},u≠.run->(match x with|none=>u=.returning|some v=>∃c,u=.panicking [{v:=c,recovered:=false}]/\AM I5 v c)->HC P g vs x st5 (λst'=>Xg T fn R env5 st')->
  Leaves P fn a5.tmps (λe w'=>∃I' st' r,Fr I st w I' st' w'/\Cv I' st' w'/\Zo I' e r/\R r st') a5.defers u w5:=by
  intro u x hu hx k
  rw [hd]
  refine leaves_cons hu hinv ((k I5 w5 _ u r5.s (Ao.xt hv kp) hx).mono ?_)
  rintro e u' w6 ⟨⟨v,rfl⟩,hset,I6,st6,q1,q2,q3⟩
  show Leaves P fn a5.tmps _ [] (settle u') w6
  rw [hset]
  have r6:=r5.called q1 q2
  obtain ⟨v,c,g1,g2,g3⟩:=Cu (P:=P) hP.t r6 q3
  exact ⟨c,g1,I6,st6,.ret v,r6.fr,r6.s,g2,g3⟩
 cases ae with
 |normal=>
  cases e with
  |normal=>exact last (x:=none) GT rfl k5
  |_=>exact x5.elim
 |ret=>
  cases e with
  |ret=>exact last (x:=none) GT rfl k5
  |_=>exact x5.elim
 |B1 v=>
  cases e with
  |panic chain=>
   obtain ⟨c,rfl,hc⟩:=x5
   exact last (x:=some v) GT ⟨c,rfl,hc⟩ k5
  |_=>exact x5.elim
 |exit _=>exact k5.elim
 |goto _=>exact k5.elim
end
section
variable {D:List Deferred} {P:Program} {T:List (Nat×Ty)} {C:FuncId->List V->St->(Au->St->Prop)->Prop} {I0 I:Mem} {st0 st:St} {w0 w:World} {β:Nat->Option Nat} {env:Env} {a:Act}
def pP {X:Type} (T:List (Nat×Ty)) (C:FuncId->List V->St->(Au->St->Prop)->Prop) (all:List Oper) (Q:AG->Env->St->Prop) (E:X->List Bool->Env) (S:X->List Bool->St) (J:X->List Bool->Prop) (x:X) (p:List Bool×Nat):Prop:=
 match all[p.2]? with
 |some o=>Bi all o (E x p.1) (Gj T C o (E x p.1) (S x p.1) (λv env st=>env.go o.dst v λenv=>∃y,J y (p.1.set p.2 true)/\(E y (p.1.set p.2 true)).E4 env/\St.le (S y (p.1.set p.2 true)) st) Q)
   ((E x p.1).go o.dst (.Bp []) λenv=>∃y,J y (p.1.set p.2 true)/\(E y (p.1.set p.2 true)).E4 env/\St.le (S y (p.1.set p.2 true)) (S x p.1))
 |none=>True
theorem aC (hT:G4 P T) (hC:∀f args st R,C f args st R->CE P f args st R/\Plain P f) {all:List Oper} {E:X->List Bool->Env} {S:X->List Bool->St} {J:X->List Bool->Prop} {PL:List (List Bool×Nat)}
 (hc:H6 all PL=true) (step:∀p ∈ PL,∀x,J x p.1->pP T C all Q E S J x p) (fin:∀x,J x (List.replicate all.length true)->Q .normal (E x (List.replicate all.length true)) (S x (List.replicate all.length true))):
 ∀(fuel:Nat) (bs:List Bool) (listed:Array Bool) (I:Mem) (β:Nat->Option Nat) (a:Act) (w:World),bs.length=all.length->listed.toList=bs->bs.count false<=fuel->
  (∀j,j<all.length->BG all bs j=true->(bs,j) ∈ PL)->(bs=List.replicate all.length true\/∃j,j<all.length/\BG all bs j=true)->
  ∀x,J x bs->Rel D I0 st0 w0 I β (E x bs) (S x bs) a w->wpAny P .any all.toArray (Ca D I0 st0 w0 Q) fuel listed a w:=by
 have full:∀{bs:List Bool},bs.length=all.length->bs.count false=0->bs=List.replicate all.length true:=λ{bs} hb h0=>by
  rw [List.eq_replicate_iff]
  grind
 have noready:∀{j:Nat},BG all (List.replicate all.length true) j=true->j<all.length->False:=λ{j} h U=>by
  unfold BG at h
  simp_all
 simp only [H6,Bool.and_eq_true,List.all_eq_true] at hc
 intro fuel
 induction fuel with
 |zero=>
  intro bs listed I β a w hb hl hf hp hr x U h
  have:=full hb AC
  subst this
  refine ⟨?_,⟨I,β,_,_,.normal,h,trivial,fin x U⟩⟩
  rw [List.eq_nil_iff_forall_not_mem]
  intro j U
  obtain ⟨h1,h2⟩:=(EN hl hb).1 U
  grind
 |succ fuel ih=>
  intro bs listed I β a w hb hl hf hp hr x U h
  refine ⟨λh0=>?_,λi hi=>?_⟩
  .rcases hr with rfl|⟨j,h1,h2⟩
   .exact ⟨I,β,_,_,.normal,h,trivial,fin x U⟩
   .have:=(EN hl hb).2 ⟨h1,h2⟩
    simp_all
  .obtain ⟨h1,h2⟩:=(EN hl hb).1 hi
   have hm:=hp i h1 h2
   have hs:=step _ hm x U
   unfold pP at hs
   have ho:all[i]? =some all[i]:=List.getElem?_eq_getElem h1
   simp only [ho] at hs
   obtain ⟨⟨c1,c2⟩,c3⟩:=hc.2 _ hm
   refine MQ hT hC (Q:=Q) ho (λ{I β env st a w} h k=>?_) h hs (K:=λenv st=>∃y,J y (bs.set i true)/\(E y (bs.set i true)).E4 env/\St.le (S y (bs.set i true)) st)
   .obtain ⟨y,kj,k⟩:=k
    have hbi:i<bs.length:=AC
    refine ih (bs.set i true) _ I _ a w i7 (by simp [hl]) ?_ (λj U hr=>?_) ?_ y kj ((h.Hs k.2).Ig (Env.Ip k.1))
    .have:=List.count_set (a:=true) (i:=i) (l:=bs) (b:=false) hbi
     unfold BG at h2
     grind
    .grind
    grind
theorem qQ (hP:T4 P T) (hC:∀f args st R,C f args st R->CE P f args st R/\Plain P f) {id:Nat} {ops:Array Oper} (E:X->List Bool->Env) (S:X->List Bool->St) (J:X->List Bool->Prop) (x0:X) (PL:List (List Bool×Nat))
 (hc:H6 ops.toList PL=true) (j0:J x0 (List.replicate ops.toList.length false)) (h0:(E x0 (List.replicate ops.toList.length false)).E4 env) (s0:St.le (S x0 (List.replicate ops.toList.length false)) st) (step:∀p ∈ PL,∀x,J x p.1->pP T C ops.toList Q E S J x p)
 (fin:∀x,J x (List.replicate ops.toList.length true)->Q .normal (E x (List.replicate ops.toList.length true)) (S x (List.replicate ops.toList.length true))):AW P (.region id ops true) Q env st:=λD I0 st0 w0 I β a w h=>
 wp_region_any hP.m (by
  have U:=hc
  simp only [H6,Bool.and_eq_true,List.all_eq_true] at U
  have:=aC (D:=D) hP.t hC hc step fin ops.size (List.replicate ops.toList.length false) (Array.replicate ops.size false) I _ a _ GT GT GT (λj hj hr=>?_) ?_ x0 j0 (((h.HO (Et.drew w)).Hs s0).Ig (Env.Ip h0))
  .simp_all
  .grind
  simp_all)
end
def cJ (s:List UInt8) (pos:Nat):List (Nat×Nat):=if A1 (s.drop pos)=34 then Jw (pos+1) (s.drop (pos+1)) else []
theorem Bh {st:St} (h:b≠c):(st.Aa b cs).box c=st.box c:=by simp [St.Aa,Ne.symm h]
theorem EK {st:St} (h:(st.Aa b cs).fresh c):b≠c/\st.fresh c:=by
 by_cases e:b=c
 .subst e
  have:=h.1
  rw [St.AQ] at this
  cases this
 .refine ⟨e,?_,h.2⟩
  have:=h.1
  rw [Bh e] at this
  exact this
theorem Vi {st:St} {K:Nat->Prop} (h:∀b,st.fresh b->K b):∀b,st.fresh b->K b:=h
end Go.Aw
namespace Go.Proofs.Z
open Go Go.Aw
section
variable {st:St} {R:Au->St->Prop}
attribute [local irreducible] Go.Aw.Am
theorem Zi {b1 b2 b3:Nat} {U:St->Prop} (h:U st):HC Tryz.prog 200 [.ptr b1 0,.ptr b2 0,.ptr b3 0] none st U:=by
 refine FX Ab [] Tryz.func200 rfl rfl rfl rfl rfl rfl rfl rfl (λenv0 he=>?_)
 subst he
 conv=>whnf
 refine Ag (Ai Ab ?_)
 repeat' ((conv=>whnf);first|exact DA|(refine B7 ?_;intros)|(refine DB ?_ ?_ ?_;rotate_left)|(refine B8 ?_ ?_<;>intro _)|with_reducible refine WF ?_)
 all_goals exact h
theorem PZ {b1 b2 b3 b4 q:Nat} {e k0 e0:Int} {U:St->Prop} (h1:st.box b1=some [.ptr b4 0]) (h4:st.box b4=some (qC s q tx o w1 g w2)) (h2:st.box b2=some [.int .i64 k0]) (h3:st.box b3=some [.int .i64 e0])
 (d2:b4≠b2) (d3:b4≠b3) (d5:b2≠b3) (h:U (((st.Aa b4 (qC s p tx o w1 g w2)).Aa b2 [.int .i64 0]).Aa b3 [.int .i64 e])):HC Tryz.prog 200 [.ptr b1 0,.ptr b2 0,.ptr b3 0] (some (J1 p e)) st U:=by
 refine FX Ab [] Tryz.func200 rfl rfl rfl rfl rfl rfl rfl rfl (λenv0 he=>?_)
 subst he
 conv=>whnf
 refine Ag (Ai Ab ?_)
 repeat' ((conv=>whnf);first|exact DA|(refine B7 ?_;intros)|(refine DB ?_ ?_ ?_;rotate_left)|(refine B8 ?_ ?_<;>intro _)|with_reducible refine WF ?_)
 refine Ag (Ai Ab ?_)
 repeat' ((conv=>whnf);first|exact DA|(refine B7 ?_;intros)|(refine DB ?_ ?_ ?_;rotate_left)|(refine B8 ?_ ?_<;>intro _)|with_reducible refine WF ?_)
 refine Ag (Ai Ab ?_)
 repeat' ((conv=>whnf);first|exact DA|(refine B7 ?_;intros)|(refine DB ?_ ?_ ?_;rotate_left)|(refine B8 ?_ ?_<;>intro _)|with_reducible refine WF ?_)
 have k2:∀cs,(st.Aa b4 cs).box b2=some [.int .i64 k0]:=λcs=>(Bh d2).trans h2
 have k3:∀cs cs',((st.Aa b4 cs).Aa b2 cs').box b3=some [.int .i64 e0]:=λcs cs'=>(Bh d5).trans ((Bh d3).trans h3)
 refine Ai Ab ?_
 repeat' ((conv=>whnf);first|refine Ad [(0,true),(1,true),(2,true),(3,true),(4,true),(5,true),(6,true),(7,false),(8,false),(9,false)] [] GE ?_|exact DA|(refine B7 ?_;intros)|(refine DB ?_ ?_ ?_;rotate_left)|(refine B8 ?_ ?_<;>intro _)|refine Al h1 ?_|refine Al h4 ?_|refine Al (k2 _) ?_|refine Al (k3 _ _) ?_|with_reducible refine WF ?_)
 all_goals exact h
theorem vc (hl:s.length<=100000000) (U:A1 (s.drop p)=34\/A1 (s.drop p)=39) (hb0:st0.box b=none) (hb:st.box b=some (qC s p tx [] w1 [] w2)) (hr:B6 st0 st w1 0 w2 0)
 (h0:∀(q:Nat) e tx',Ci s p=(0,(q:Int),e)->∀st',QB st0 st' b s tx'->R (.B1 (J1 q e)) st')
 (h:∀k (q:Nat),Ci s p=(k,(q:Int),0)->∀tx' o u1 g u2 st',g=cJ s p->B6 st0 st' u1 (List.length o) u2 (2*List.length g)->st'.box b=some (qC s q tx' o u1 g u2)->R (.ret (.int .i64 k)) st'):PC 201 [.ptr b 0] st R:=by
 rcases U with U|U
 .refine iA hl U hb0 hb hr (λk e hT st' hQ=>h0 _ e true ?_ st' hQ) (λn hT u1 u2 st' hR hB=>h 14 _ ?_ _ _ _ _ _ st' (by unfold cJ;rw [if_pos U]) hR hB)
  .unfold Ci;rw [if_pos U,hT]
  .unfold Ci;rw [if_pos U,hT]
 .refine iz hl U hb0 hb hr (λk e hT st' hQ=>h0 _ e false ?_ st' hQ) (λn hT o' u1 u2 st' hR hB=>h 13 _ ?_ _ _ _ _ _ st' (by unfold cJ;rw [if_neg AC]) hR hB)
  .unfold Ci;rw [if_neg AC,if_pos U,hT]
  .unfold Ci;rw [if_neg AC,if_pos U,hT]
noncomputable def tG:List Oper:=match Tryz.f166.body with|some (.seq _ (.seq _ (.seq _ (.seq _ (.seq (.region _ ops _) _)))))=>ops.toList|_=>[]
noncomputable def vn (b1 b2 b3 b4:Nat) (K:Int) (bs:List Bool):Env:=
 {tmps:=GZ [(4,.ptr b1 0),(5,.ptr b2 0),(6,.ptr b3 0)] tG [.ptr b4 0,.ptr b4 0,.int .i64 K,.BE,.BE,.BE] bs,boxes:=[],Bs:=1,sz:=39,gl:=[4,5,6,10]}
def y7 (b1 b2 b3 b4:Nat) (K:Int) (m:St) (bs:List Bool):St:=
 match bs[3]?,bs[4]?,bs[5]? with
 |_,_,some true=>((m.Aa b1 [.ptr b4 0]).Aa b2 [.int .i64 K]).Aa b3 [.int .i64 0]
 |_,some true,_=>(m.Aa b1 [.ptr b4 0]).Aa b2 [.int .i64 K]
 |some true,_,_=>m.Aa b1 [.ptr b4 0]
 |_,_,_=>m
def vo (s0 A:St) (b4:Nat) (s:List UInt8) (Q U:Int) (G:List (Nat×Nat)) (x:QLs×Bool) (bs:List Bool):Prop:=match bs[2]? with
 |some true=>B6 s0 x.1.m x.1.w1 x.1.o.length x.1.w2 (2*x.1.g.length)/\x.1.m.box b4=some (qC s x.1.q x.2 x.1.o x.1.w1 x.1.g x.1.w2)/\(x.1.q:Int)=Q/\U=0/\x.1.g=G
 |_=>x.1.m=A
def oS:List (List Bool×Nat):=[([false,false,false,false,false,false],0),([false,false,false,false,false,false],1),([true,false,false,false,false,false],1),([false,true,false,false,false,false],0),([false,true,false,false,false,false],2),([true,true,false,false,false,false],2),([false,true,true,false,false,false],0),([true,true,true,false,false,false],3),([true,true,true,true,false,false],4),([true,true,true,true,true,false],5)]
noncomputable def oT:Code:=match Tryz.f166.body with|some (.seq _ (.seq _ (.seq _ (.seq _ r))))=>r|_=>.skip
theorem iV {s0:St} {b1 b2 b3 b4:Nat} (hl:s.length<=100000000) (hq:A1 (s.drop pos)=34\/A1 (s.drop pos)=39) (hs0:s0.box b4=none) (hsl:st.le s0) (n12:b1≠b2) (n13:b1≠b3) (n14:b1≠b4) (n23:b2≠b3) (n24:b2≠b4) (n34:b3≠b4) (k1:st.box b1=none) (k2:st.box b2=none) (k3:st.box b3=none) (k4:st.box b4=none)
 (m1:s0.box b1=some [.ptr b4 0]) (m2:s0.box b2=some [.int .i64 0]) (m3:s0.box b3=some [.int .i64 0])
 (h:∀b4 (q:Nat) tx o w1 g w2 st',st.le st'->st'.box b4=some (qC s q tx o w1 g w2)->(q:Int)=(Ci s pos).2.1->((Ci s pos).1≠0->g=cJ s pos)->R (.ret (.Bp [.ptr b4 0,.int .i64 (Ci s pos).1,.int .i64 (Ci s pos).2.2])) st'):
 AW Tryz.prog oT (bS Tryz.prog yb 200 [.ptr b1 0,.ptr b2 0,.ptr b3 0] Tryz.f166 (Go.Aw.Ends R)) (vn b1 b2 b3 b4 (Ci s pos).1 (List.replicate 6 false)) (s0.Aa b4 (qC s pos false [] .full [] .full)):=by
 have a1:∀C,(s0.Aa b4 C).box b1=some [.ptr b4 0]:=λC=>(Bh n14.symm).trans m1
 have hr0:B6 s0 (s0.Aa b4 (qC s pos false [] .full [] .full)) .full 0 .full 0:=⟨trivial,trivial,trivial,trivial,trivial,St.Af (St.le_refl _) hs0 _⟩
 refine Ag (qQ Ab (BF _) (λ_ bs=>vn b1 b2 b3 b4 (Ci s pos).1 bs) (λx bs=>y7 b1 b2 b3 b4 (Ci s pos).1 x.1.m bs) (λx bs=>vo s0 (s0.Aa b4 (qC s pos false [] .full [] .full)) b4 s (Ci s pos).2.1 (Ci s pos).2.2 (cJ s pos) x bs) (⟨pos,[],[],.full,.full,s0.Aa b4 (qC s pos false [] .full [] .full)⟩,false) oS GE rfl Yl (St.le_refl _) ?_ ?_)
 .unfold oS
  repeat' (first|refine List.forall_mem_cons.2 ⟨?_,?_⟩|exact List.forall_mem_nil _)
  all_goals rintro ⟨⟨q,o,g,w1,w2,m⟩,tx⟩ hj
  all_goals dsimp only [vo,List.getElem?_cons_zero,List.getElem?_cons_succ] at hj
  all_goals try subst hj
  .skip
   repeat' ((conv=>whnf);first|exact DA|(refine B7 ?_;intros)|(refine DB ?_ ?_ ?_;rotate_left)|(refine B8 ?_ ?_<;>intro _)|refine Al (a1 _) ?_|with_reducible refine WF ?_)
   all_goals conv=>whnf
   all_goals exact ⟨(⟨q,o,g,w1,w2,_⟩,tx),rfl,Yl,St.le_refl _⟩
  .skip
   repeat' ((conv=>whnf);first|exact DA|(refine B7 ?_;intros)|(refine DB ?_ ?_ ?_;rotate_left)|(refine B8 ?_ ?_<;>intro _)|refine Al (a1 _) ?_|with_reducible refine WF ?_)
   all_goals conv=>whnf
   all_goals exact ⟨(⟨q,o,g,w1,w2,_⟩,tx),rfl,Yl,St.le_refl _⟩
  .skip
   repeat' ((conv=>whnf);first|exact DA|(refine B7 ?_;intros)|(refine DB ?_ ?_ ?_;rotate_left)|(refine B8 ?_ ?_<;>intro _)|refine Al (a1 _) ?_|with_reducible refine WF ?_)
   all_goals conv=>whnf
   all_goals exact ⟨(⟨q,o,g,w1,w2,_⟩,tx),rfl,Yl,St.le_refl _⟩
  .skip
   repeat' ((conv=>whnf);first|exact DA|(refine B7 ?_;intros)|(refine DB ?_ ?_ ?_;rotate_left)|(refine B8 ?_ ?_<;>intro _)|refine Al (a1 _) ?_|with_reducible refine WF ?_)
   all_goals conv=>whnf
   all_goals exact ⟨(⟨q,o,g,w1,w2,_⟩,tx),rfl,Yl,St.le_refl _⟩
  .skip
   repeat' ((conv=>whnf);first|exact DA|(refine B7 ?_;intros)|(refine DB ?_ ?_ ?_;rotate_left)|(refine B8 ?_ ?_<;>intro _)|refine vc hl hq hs0 (St.AQ ..) hr0 (λq' e' U hz st' hQ=>?_) (λk q' hz U o' u1 g' u2 st' hg hR hB=>?_)|refine Al (a1 _) ?_|with_reducible refine WF ?_)
   .obtain ⟨q1,o1,u1,g1,u2,hB,hR⟩:=hQ
    conv=>whnf
    refine PZ (hR.le.1 _ _ m1) hB (hR.le.1 _ _ m2) (hR.le.1 _ _ m3) n24.symm n34.symm n23 ?_
    have c1:(((st'.Aa b4 (qC s q' U o1 u1 g1 u2)).Aa b2 [.int .i64 0]).Aa b3 [.int .i64 e']).box b1=some [.ptr b4 0]:=(Bh n13.symm).trans ((Bh n12.symm).trans ((Bh n14.symm).trans (hR.le.1 _ _ m1)))
    have c2:(((st'.Aa b4 (qC s q' U o1 u1 g1 u2)).Aa b2 [.int .i64 0]).Aa b3 [.int .i64 e']).box b2=some [.int .i64 0]:=(Bh n23.symm).trans (St.AQ _ _ _)
    have c3:(((st'.Aa b4 (qC s q' U o1 u1 g1 u2)).Aa b2 [.int .i64 0]).Aa b3 [.int .i64 e']).box b3=some [.int .i64 e']:=St.AQ _ _ _
    have c4:(((st'.Aa b4 (qC s q' U o1 u1 g1 u2)).Aa b2 [.int .i64 0]).Aa b3 [.int .i64 e']).box b4=some (qC s q' U o1 u1 g1 u2):=(Bh n34).trans ((Bh n24).trans (St.AQ _ _ _))
    have c5:(Ci s pos).1=0:=by rw [hz]
    have c6:(Ci s pos).2.1=q':=by rw [hz]
    have c7:(Ci s pos).2.2=e':=by rw [hz]
    have gg:=λle=>h b4 q' U o1 u1 g1 u2 _ le c4 c6.symm (λx=>absurd c5 x)
    rw [c5,c7] at gg
    clear h hz c4 c5 c6 c7
    repeat' ((conv=>whnf);first|exact DA|(refine B7 ?_;intros)|(refine DB ?_ ?_ ?_;rotate_left)|(refine B8 ?_ ?_<;>intro _)|refine Al c1 ?_|refine Al c2 ?_|refine Al c3 ?_|with_reducible refine WF ?_)
    exact fin (gg (St.Af (St.Af (St.Af (St.le_trans hsl hR.le) k4 _) k2 _) k3 _)) rfl
   .have hz1:(Ci s pos).1=k:=by rw [hz]
    have hz2:(Ci s pos).2.1=q':=by rw [hz]
    have hz3:(Ci s pos).2.2=0:=by rw [hz]
    conv=>whnf
    rw [hz1,hz2]
    exact ⟨(⟨q',o',g',u1,u2,st'⟩,U),⟨hR,hB,rfl,hz3,hg⟩,Yl,St.le_refl _⟩
  .skip
   repeat' ((conv=>whnf);first|exact DA|(refine B7 ?_;intros)|(refine DB ?_ ?_ ?_;rotate_left)|(refine B8 ?_ ?_<;>intro _)|refine vc hl hq hs0 (St.AQ ..) hr0 (λq' e' U hz st' hQ=>?_) (λk q' hz U o' u1 g' u2 st' hg hR hB=>?_)|refine Al (a1 _) ?_|with_reducible refine WF ?_)
   .obtain ⟨q1,o1,u1,g1,u2,hB,hR⟩:=hQ
    conv=>whnf
    refine PZ (hR.le.1 _ _ m1) hB (hR.le.1 _ _ m2) (hR.le.1 _ _ m3) n24.symm n34.symm n23 ?_
    have c1:(((st'.Aa b4 (qC s q' U o1 u1 g1 u2)).Aa b2 [.int .i64 0]).Aa b3 [.int .i64 e']).box b1=some [.ptr b4 0]:=(Bh n13.symm).trans ((Bh n12.symm).trans ((Bh n14.symm).trans (hR.le.1 _ _ m1)))
    have c2:(((st'.Aa b4 (qC s q' U o1 u1 g1 u2)).Aa b2 [.int .i64 0]).Aa b3 [.int .i64 e']).box b2=some [.int .i64 0]:=(Bh n23.symm).trans (St.AQ _ _ _)
    have c3:(((st'.Aa b4 (qC s q' U o1 u1 g1 u2)).Aa b2 [.int .i64 0]).Aa b3 [.int .i64 e']).box b3=some [.int .i64 e']:=St.AQ _ _ _
    have c4:(((st'.Aa b4 (qC s q' U o1 u1 g1 u2)).Aa b2 [.int .i64 0]).Aa b3 [.int .i64 e']).box b4=some (qC s q' U o1 u1 g1 u2):=(Bh n34).trans ((Bh n24).trans (St.AQ _ _ _))
    have c5:(Ci s pos).1=0:=by rw [hz]
    have c6:(Ci s pos).2.1=q':=by rw [hz]
    have c7:(Ci s pos).2.2=e':=by rw [hz]
    have gg:=λle=>h b4 q' U o1 u1 g1 u2 _ le c4 c6.symm (λx=>absurd c5 x)
    rw [c5,c7] at gg
    clear h hz c4 c5 c6 c7
    repeat' ((conv=>whnf);first|exact DA|(refine B7 ?_;intros)|(refine DB ?_ ?_ ?_;rotate_left)|(refine B8 ?_ ?_<;>intro _)|refine Al c1 ?_|refine Al c2 ?_|refine Al c3 ?_|with_reducible refine WF ?_)
    exact fin (gg (St.Af (St.Af (St.Af (St.le_trans hsl hR.le) k4 _) k2 _) k3 _)) rfl
   .have hz1:(Ci s pos).1=k:=by rw [hz]
    have hz2:(Ci s pos).2.1=q':=by rw [hz]
    have hz3:(Ci s pos).2.2=0:=by rw [hz]
    conv=>whnf
    rw [hz1,hz2]
    exact ⟨(⟨q',o',g',u1,u2,st'⟩,U),⟨hR,hB,rfl,hz3,hg⟩,Yl,St.le_refl _⟩
  .have b1':m.box b1=some [.ptr b4 0]:=hj.1.le.1 _ _ m1
   repeat' ((conv=>whnf);first|exact DA|(refine B7 ?_;intros)|(refine DB ?_ ?_ ?_;rotate_left)|(refine B8 ?_ ?_<;>intro _)|refine Al b1' ?_|with_reducible refine WF ?_)
   all_goals conv=>whnf
   all_goals exact ⟨(⟨q,o,g,w1,w2,m⟩,tx),hj,Yl,St.le_refl _⟩
  .have b1':m.box b1=some [.ptr b4 0]:=hj.1.le.1 _ _ m1
   repeat' ((conv=>whnf);first|exact DA|(refine B7 ?_;intros)|(refine DB ?_ ?_ ?_;rotate_left)|(refine B8 ?_ ?_<;>intro _)|refine Al b1' ?_|with_reducible refine WF ?_)
   all_goals conv=>whnf
   all_goals exact ⟨(⟨q,o,g,w1,w2,m⟩,tx),hj,Yl,St.le_refl _⟩
  .have b2':(m.Aa b1 [.ptr b4 0]).box b2=some [.int .i64 0]:=(Bh n12).trans (hj.1.le.1 _ _ m2)
   repeat' ((conv=>whnf);first|exact DA|(refine B7 ?_;intros)|(refine DB ?_ ?_ ?_;rotate_left)|(refine B8 ?_ ?_<;>intro _)|refine Al b2' ?_|with_reducible refine WF ?_)
   all_goals conv=>whnf
   all_goals exact ⟨(⟨q,o,g,w1,w2,m⟩,tx),hj,Yl,St.le_refl _⟩
  .have b3':((m.Aa b1 [.ptr b4 0]).Aa b2 [.int .i64 (Ci s pos).1]).box b3=some [.int .i64 0]:=(Bh n23).trans ((Bh n13).trans (hj.1.le.1 _ _ m3))
   repeat' ((conv=>whnf);first|exact DA|(refine B7 ?_;intros)|(refine DB ?_ ?_ ?_;rotate_left)|(refine B8 ?_ ?_<;>intro _)|refine Al b3' ?_|with_reducible refine WF ?_)
   all_goals conv=>whnf
   all_goals exact ⟨(⟨q,o,g,w1,w2,m⟩,tx),hj,Yl,St.le_refl _⟩
 .rintro ⟨⟨q,o,g,w1,w2,m⟩,tx⟩ ⟨j1,j2,j3,j0,jg⟩
  dsimp only at j1 j2 j3 j0
  have c1:(((m.Aa b1 [.ptr b4 0]).Aa b2 [.int .i64 (Ci s pos).1]).Aa b3 [.int .i64 0]).box b1=some [.ptr b4 0]:=(Bh n13.symm).trans ((Bh n12.symm).trans (St.AQ _ _ _))
  have c2:(((m.Aa b1 [.ptr b4 0]).Aa b2 [.int .i64 (Ci s pos).1]).Aa b3 [.int .i64 0]).box b2=some [.int .i64 (Ci s pos).1]:=(Bh n23.symm).trans (St.AQ _ _ _)
  have c3:(((m.Aa b1 [.ptr b4 0]).Aa b2 [.int .i64 (Ci s pos).1]).Aa b3 [.int .i64 0]).box b3=some [.int .i64 0]:=St.AQ _ _ _
  have c4:(((m.Aa b1 [.ptr b4 0]).Aa b2 [.int .i64 (Ci s pos).1]).Aa b3 [.int .i64 0]).box b4=some (qC s q tx o w1 g w2):=(Bh n34).trans ((Bh n24).trans ((Bh n14).trans j2))
  have gg:=λle=>h b4 q tx o w1 g w2 _ le c4 j3 (λ_=>jg)
  rw [j0] at gg
  clear h
  show AW _ _ _ _ _
  refine Ai Ab (Zi ?_)
  repeat' ((conv=>whnf);first|exact DA|(refine B7 ?_;intros)|(refine DB ?_ ?_ ?_;rotate_left)|(refine B8 ?_ ?_<;>intro _)|refine Al c1 ?_|refine Al c2 ?_|refine Al c3 ?_|with_reducible refine WF ?_)
  exact fin (gg (St.Af (St.Af (St.Af (St.le_trans hsl j1.le) k1 _) k2 _) k3 _)) rfl
theorem xx (hl:s.length<=100000000) (hp:pos<=s.length)
 (h:∀b4 (q:Nat) tx o w1 g w2 st',st.le st'->st'.box b4=some (qC s q tx o w1 g w2)->(q:Int)=(Ci s pos).2.1->((Ci s pos).1≠0->g=cJ s pos)->R (.ret (.Bp [.ptr b4 0,.int .i64 (Ci s pos).1,.int .i64 (Ci s pos).2.2])) st'):PC 166 [.str s,.int .i64 pos] st R:=by
 refine Ba.ends (TV Ab [4,5,6,10] Tryz.func166 rfl Do rfl rfl rfl rfl rfl rfl ⟨_,Tryz.func200,rfl,Do⟩ rfl ?_)
 refine Ai Ab ?_
 repeat' ((conv=>whnf);first|exact DA|(refine B7 ?_;intros)|(refine DB ?_ ?_ ?_;rotate_left)|(refine B8 ?_ ?_<;>intro _)|refine Vi (λb3 f3=>?_)|with_reducible refine WF ?_)
 rename_i b1 f1 b2 f2
 obtain ⟨n12,f2a⟩:=EK f2
 obtain ⟨n23,f3a⟩:=EK f3
 obtain ⟨n13,f3b⟩:=EK f3a
 refine Ai Ab ?_
 have kk:∀b4 cs,((((st.Aa b1 [V.Es]).Aa b2 [V.int .i64 0]).Aa b3 [V.int .i64 0]).fresh b4)->((((st.Aa b1 [V.Es]).Aa b2 [V.int .i64 0]).Aa b3 [V.int .i64 0]).Aa b4 cs).box b1=some [V.Es]:=λb4 cs f4=>by
  obtain ⟨m3,f4a⟩:=EK f4
  obtain ⟨m2,f4b⟩:=EK f4a
  obtain ⟨m1,f4c⟩:=EK f4b
  simp [St.Aa,m1,n12,n13]
 repeat' ((conv=>whnf);first|exact DA|(refine B7 ?_;intros)|(refine DB ?_ ?_ ?_;rotate_left)|(refine B8 ?_ ?_<;>intro _)|refine Vi (λb4 f4=>?_)|refine Al (kk _ _ f4) ?_|with_reducible refine WF ?_)
 obtain ⟨n34,f4a⟩:=EK f4
 obtain ⟨n24,f4b⟩:=EK f4a
 obtain ⟨n14,f4c⟩:=EK f4b
 obtain ⟨s0,hs0,hsl,m1,m2,m3,hst⟩:∃s0:St,s0.box b4=none/\st.le s0/\s0.box b1=some [.ptr b4 0]/\s0.box b2=some [.int .i64 0]/\s0.box b3=some [.int .i64 0]/\
  s0.Aa b4 (qC s pos false [] .full [] .full)=(((((st.Aa b1 [V.Es]).Aa b2 [V.int .i64 0]).Aa b3 [V.int .i64 0]).Aa b4 (qC s pos false [] .full [] .full)).Aa b1 [.ptr b4 0]):=by
  refine ⟨((st.Aa b1 [.ptr b4 0]).Aa b2 [.int .i64 0]).Aa b3 [.int .i64 0],?_,St.Af (St.Af (St.Af (St.le_refl _) f1.1 _) f2a.1 _) f3b.1 _,?_,?_,?_,?_⟩
  .simp [St.Aa,n14.symm,n24.symm,n34.symm];exact f4c.1
  .simp [St.Aa,n12,n13]
  .simp [St.Aa,n23]
  .simp [St.Aa]
  .simp only [St.Aa,St.mk.injEq,and_true]
   funext x
   by_cases x1:x=b1
   .subst x1;simp [n12,n13,n14]
   .by_cases x4:x=b4
    .subst x4;simp [x1]
    .simp [x1,x4]
 refine di (st':=s0.Aa b4 (qC s pos false [] .full [] .full)) hst ?_
 clear kk f4 f4a f4b f3 f3a f2 hst
 have a1:∀C,(s0.Aa b4 C).box b1=some [.ptr b4 0]:=λC=>(Bh n14.symm).trans m1
 by_cases hq:A1 (s.drop pos)=34\/A1 (s.drop pos)=39
 .have hlt:pos<s.length:=Cb (k:=pos) AC
  obtain ⟨e,he⟩:∃e,s[pos]? =some e:=⟨s[pos],List.getElem?_eq_getElem hlt⟩
  have he':s[(pos:Int).toNat]? =some e:=he
  have hv:=Eg he
  refine Ai Ab ?_
  repeat' ((conv=>whnf);first|exact DA|(refine B7 ?_;intros)|(refine DB ?_ ?_ ?_;rotate_left)|(refine B8 ?_ ?_<;>intro _)|with_reducible refine WF ?_)
  all_goals conv=>whnf
  all_goals refine ⟨rfl,AH rfl ?_⟩
  all_goals exact dj (iV hl hq hs0 (St.le_trans hsl (St.le_refl _)) n12 n13 n14 n23 n24 n34 f1.1 f2a.1 f3b.1 f4c.1 m1 m2 m3 h) Yl (St.le_refl _)
 .have hz:Ci s pos=(0,0,0):=by unfold Ci;rw [if_neg (λx=>hq (.inl x)),if_neg (λx=>hq (.inr x))]
  rw [hz] at h
  have a1':∀C U,((s0.Aa b4 C).Aa b4 U).box b1=some [.ptr b4 0]:=λC U=>(Bh n14.symm).trans (a1 C)
  have a2':∀C U D,(((s0.Aa b4 C).Aa b4 U).Aa b1 D).box b2=some [.int .i64 0]:=λC U D=>(Bh n12).trans ((Bh n24.symm).trans ((Bh n24.symm).trans m2))
  have a3':∀C U D F,((((s0.Aa b4 C).Aa b4 U).Aa b1 D).Aa b2 F).box b3=some [.int .i64 0]:=λC U D F=>(Bh n23).trans ((Bh n13).trans ((Bh n34.symm).trans ((Bh n34.symm).trans m3)))
  have e3:∀C U D F G,(((((s0.Aa b4 C).Aa b4 U).Aa b1 D).Aa b2 F).Aa b3 G).box b3=some G:=λC U D F G=>St.AQ _ _ _
  have e2:∀C U D F G,(((((s0.Aa b4 C).Aa b4 U).Aa b1 D).Aa b2 F).Aa b3 G).box b2=some F:=λC U D F G=>(Bh n23.symm).trans (St.AQ _ _ _)
  have e1:∀C U D F G,(((((s0.Aa b4 C).Aa b4 U).Aa b1 D).Aa b2 F).Aa b3 G).box b1=some D:=λC U D F G=>(Bh n13.symm).trans ((Bh n12.symm).trans (St.AQ _ _ _))
  have e4:∀C U D F G,(((((s0.Aa b4 C).Aa b4 U).Aa b1 D).Aa b2 F).Aa b3 G).box b4=some U:=λC U D F G=>(Bh n34).trans ((Bh n24).trans ((Bh n14).trans (St.AQ _ _ _)))
  by_cases hlt:pos<s.length
  .obtain ⟨e,he⟩:∃e,s[pos]? =some e:=⟨s[pos],List.getElem?_eq_getElem hlt⟩
   have he':s[(pos:Int).toNat]? =some e:=he
   have hv:=Eg he
   refine Ai Ab ?_
   repeat' ((conv=>whnf);first|exact DA|(refine B7 ?_;intros)|(refine DB ?_ ?_ ?_;rotate_left)|(refine B8 ?_ ?_<;>intro _)|refine Al (a1 _) ?_|refine Al (St.AQ _ _ _) ?_|refine Al (a1' _ _) ?_|refine Al (a2' _ _ _) ?_|refine Al (a3' _ _ _ _) ?_|refine Al (e1 _ _ _ _ _) ?_|refine Al (e2 _ _ _ _ _) ?_|refine Al (e3 _ _ _ _ _) ?_|with_reducible refine WF ?_)
   exact fin (h b4 0 false [] .full [] .full _ (St.Af (St.Af (St.Af (St.Af (St.Af hsl f4c.1 _) f4c.1 _) f1.1 _) f2a.1 _) f3b.1 _) (e4 _ _ _ _ _) rfl (λx=>absurd rfl x)) rfl
  .skip
   refine Ai Ab ?_
   repeat' ((conv=>whnf);first|exact DA|(refine B7 ?_;intros)|(refine DB ?_ ?_ ?_;rotate_left)|(refine B8 ?_ ?_<;>intro _)|refine Al (a1 _) ?_|refine Al (St.AQ _ _ _) ?_|refine Al (a1' _ _) ?_|refine Al (a2' _ _ _) ?_|refine Al (a3' _ _ _ _) ?_|refine Al (e1 _ _ _ _ _) ?_|refine Al (e2 _ _ _ _ _) ?_|refine Al (e3 _ _ _ _ _) ?_|with_reducible refine WF ?_)
   exact fin (h b4 0 false [] .full [] .full _ (St.Af (St.Af (St.Af (St.Af (St.Af hsl f4c.1 _) f4c.1 _) f1.1 _) f2a.1 _) f3b.1 _) (e4 _ _ _ _ _) rfl (λx=>absurd rfl x)) rfl
end
section
variable {st:St} {R:Au->St->Prop}
attribute [local irreducible] Go.Aw.Am
theorem tF (hl:s.length<=100000000) (hp:pos<s.length) (h:R (.ret (.Bp [.int .i64 (Ci s pos).1,.int .i64 (Ci s pos).2.1,.int .i64 (Ci s pos).2.2])) st):PC 123 [.str s,.int .i64 pos] st R:=by
 refine pB Tryz.func123 ?_
 repeat' ((conv=>whnf);first|exact DA|(refine B7 ?_;intros)|(refine DB ?_ ?_ ?_;rotate_left)|(refine B8 ?_ ?_<;>intro _)|refine xx hl (Nat.le_of_lt hp) (λb4 q tx o w1 g w2 st' U hb hq _=>?_)|refine Al hb ?_|with_reducible refine WF ?_)
 all_goals rw [<-hq] at h
 all_goals exact EJ U rfl h
end
end Go.Proofs.Z
namespace Go.Aw
open Go
theorem cu (h:(CB l).1≠10):E5 l=(11,2+BP (CB l).1 (l.drop 2)):=if_pos h
theorem ou (h:(CB l).1=10) (k:BP 10 l=0):E5 l=(0,0):=by unfold E5;rw [if_neg (λe=>e h),if_pos k]
theorem cv {f e:Nat} (h:(CB l).1=10) (hn:BP 10 l=n) (U:n≠0) (hf:IZ (l.drop n)=f) (he:Np (l.drop (n+f))=e):E5 l=(if 0<f\/0<e then 12 else 11,n+f+e):=by
 subst hn;subst hf;subst he
 unfold E5;rw [if_neg (λe=>e h),if_neg U]
theorem eV {b:Int} (h:CB l=(b,2)):A1 l=48/\2<=l.length:=by
 unfold CB at h
 split at h
 .rename_i U
  refine ⟨U.1,?_⟩
  have:=U.2.2
  have h1:=ET (EW l) (l.drop 2)
  rw [List.length_drop] at h1
  omega
 .injection h with _ h;cases h
def SU (s:List UInt8) (pos:Nat):Int×Int:=if (E5 (s.drop pos)).1=0 then (0,0) else ((E5 (s.drop pos)).1,(pos+(E5 (s.drop pos)).2:Nat))
end Go.Aw
namespace Go.Proofs.Z
open Go Go.Aw
section
variable {st:St} {R:Au->St->Prop}
theorem yu (e:i.toNat=n) (h:R (.ret (.bool (decide (A1 (s.drop n)=46)))) st):PC 73 [.str (s.drop i.toNat),.str [46]] st R:=by
 refine Jk ?_
 rw [Dd,e]
 exact h
theorem aZ (e:i.toNat=n) (U:s.length<=4611686018427387903) (h:R (.ret (.int .i64 (Np (s.drop n):Nat))) st):PC 199 [.str (s.drop i.toNat)] st R:=by
 rw [e];exact aY IR h
theorem pg {b:Int} (e:i.toNat=n) (U:s.length<=4611686018427387903) (h:R (.ret (.int .i64 (BP b (s.drop n):Nat))) st):PC 198 [.str (s.drop i.toNat),.int .i64 b] st R:=by
 rw [e];exact vu IR h
theorem vw {b:Int} {v:Nat} (e:i.toNat=n) (hv:BP b (s.drop n)=v) (U:s.length<=4611686018427387903) (h:R (.ret (.int .i64 v)) st):PC 198 [.str (s.drop i.toNat),.int .i64 b] st R:=
 pg e U (by rw [hv];exact h)
theorem RU {v:Nat} (e:i.toNat=n) (hv:Np (s.drop n)=v) (U:s.length<=4611686018427387903) (h:R (.ret (.int .i64 v)) st):PC 199 [.str (s.drop i.toNat)] st R:=
 aZ e U (by rw [hv];exact h)
theorem QS (U:E5 s=(k,n)) (e2:i.toNat=n):Au.ret (.Bp [.int .i64 (E5 s).1,.str (s.take (E5 s).2)])=Au.ret (.Bp [.int .i64 k,.str (s.take i.toNat)]):=by rw [U,e2]
theorem ov (U:E5 s=(0,0)):Au.ret (.Bp [.int .i64 (E5 s).1,.str (s.take (E5 s).2)])=Au.ret (.Bp [.int .i64 0,.str []]):=by rw [U];rfl
theorem JZ {b:Int} (hp:CB s=(b,n)) (U:s.length<=4611686018427387903) (h:R (.ret (.Bp [.int .i64 b,.int .i64 n])) st):PC 197 [.str s] st R:=
 cF U (by rw [hp];exact h)
theorem eJ (hl:s.length<=4611686018427387903) (h:R (.ret (.Bp [.int .i64 (E5 s).1,.str (s.take (E5 s).2)])) st):PC 165 [.str s] st R:=by
 have hle:=WV s
 refine pB Tryz.func165 ?_
 rcases N3 s with hp|⟨hp,_⟩|⟨hp,_⟩
 .have h1:=ET 10 s
  have h2:=Yx (s.drop (BP 10 s))
  have h3:=dW (s.drop (BP 10 s+IZ (s.drop (BP 10 s))))
  rw [List.length_drop] at h2 h3
  generalize hr:BP 10 s=r at h1 h2 h3
  have hr0:BP 10 (s.drop 0)=r:=hr
  generalize hf:IZ (s.drop r)=f at h2 h3
  generalize he:Np (s.drop (r+f))=e at h3
  have h4:=ET 10 (s.drop (r+1))
  have e0:(CB s).1=10:=by rw [hp]
  have hlt:=lG s r
  have hfd:(A1 (s.drop r)=46/\BP 10 (s.drop (r+1))≠0/\f=1+BP 10 (s.drop (r+1)))\/((A1 (s.drop r)≠46\/BP 10 (s.drop (r+1))=0)/\f=0):=by
   rw [<-hf]
   unfold IZ
   rw [List.drop_drop]
   split<;>omega
  rw [List.length_drop] at h4
  generalize hd:BP 10 (s.drop (r+1))=d at h4 hfd
  repeat' ((conv=>whnf);first|exact DA|(refine B7 ?_;intros)|(refine DB ?_ ?_ ?_;rotate_left)|(refine B8 ?_ ?_<;>intro _)|refine JZ hp hl ?_|refine vw AC hr0 hl ?_|refine vw AC hd hl ?_|refine yu (n:=r) AC ?_|refine RU AC he hl ?_|refine RU AC he' hl ?_|with_reducible refine WF ?_)
  all_goals first
   |(have U:=ou e0 AC;exact fin h (ov U))
   |(have U:=cv e0 hr AC hf he;rw [if_pos AC] at U;exact fin h (QS U AC))
   |(have U:=cv e0 hr AC hf he;rw [if_neg AC] at U;exact fin h (QS U AC))
 .have hr:=ET 8 (s.drop 2)
  have h2:=(eV hp).2
  rw [List.length_drop] at hr
  repeat' ((conv=>whnf);first|exact DA|(refine B7 ?_;intros)|(refine DB ?_ ?_ ?_;rotate_left)|(refine B8 ?_ ?_<;>intro _)|refine JZ hp hl ?_|refine pg (n:=2) AC hl ?_|with_reducible refine WF ?_)
  all_goals (have U:=cu (l:=s) (by rw [hp];decide);rw [hp] at U;dsimp only at U;exact fin h (QS U AC))
 .have hr:=ET 16 (s.drop 2)
  have h2:=(eV hp).2
  rw [List.length_drop] at hr
  repeat' ((conv=>whnf);first|exact DA|(refine B7 ?_;intros)|(refine DB ?_ ?_ ?_;rotate_left)|(refine B8 ?_ ?_<;>intro _)|refine JZ hp hl ?_|refine pg (n:=2) AC hl ?_|with_reducible refine WF ?_)
  all_goals (have U:=cu (l:=s) (by rw [hp];decide);rw [hp] at U;dsimp only at U;exact fin h (QS U AC))
theorem ot (hl:s.length<=4611686018427387903) (hp:pos<s.length) (h:R (.ret (.Bp [.int .i64 (SU s pos).1,.int .i64 (SU s pos).2])) st):PC 122 [.str s,.int .i64 pos] st R:=by
 have hw:=WV (s.drop pos)
 have ht:((s.drop pos).take (E5 (s.drop pos)).2).length=(E5 (s.drop pos)).2:=NE
 rw [List.length_drop] at hw
 have U:(s.drop pos).length<=4611686018427387903:=IR
 refine pB Tryz.func122 ?_
 repeat' ((conv=>whnf);first|(refine B7 ?_;intros)|(refine B8 ?_ ?_<;>intro _)|refine eJ U ?_)
 .exact fin h (by unfold SU;rw [if_pos ‹_›];simp_all)
 .exact fin h (by unfold SU;rw [if_neg ‹_›];simp only [];rw [show (pos:Int).toNat=pos by omega] at *;rw [ht];rfl)
end
end Go.Proofs.Z
namespace Go.Aw
open Go
def Cr (s:List UInt8) (p:Nat):Int×Int×Int:=
 if (SU s p).1≠0 then ((SU s p).1,(SU s p).2,0)
 else if (Ci s p).1=0/\(Ci s p).2.2=0 then
  if (H2 s p).1=0 then (0,p,70) else ((H2 s p).1,(H2 s p).2,0)
 else Ci s p
def QN (s:List UInt8) (p sp:Nat) (U Cg:Int) (Ay notes:List (List V)) (w1 w2:AE) (Ds ends:Int) (j:Bool):List V:=
 [.str s,.int .i64 p,.int .i64 sp,.int .i64 U,.int .i64 Cg,.slice 4 Ay w1,.slice 5 notes w2,.int .i64 Ds,.int .i64 ends,.bool j]
end Go.Aw
namespace Go.Proofs.Z
open Go Go.Aw
section
variable {st:St} {R:Au->St->Prop}
theorem wZ {sp:Nat} {Cg ends:Int} (hl:s.length<=100000000) (U:p<s.length) (hb:st.box b=some (QN s p sp ln Cg Ay notes w1 w2 Ds ends j))
 (h:R (.ret (.agg [.int .i64 (SU s p).1,.int .i64 (SU s p).2,.int .i64 0])) st):PC 77 [.ptr b 0] st R:=by
 refine pB Tryz.func77 ?_
 repeat' ((conv=>whnf);first|exact BH|(refine AA ?_;intros)|(refine BI ?_ ?_ ?_;rotate_left)|(refine AB ?_ ?_<;>intro _)|refine Al hb ?_|refine ot AC U ?_|refine Ad [(0,true),(1,true),(2,true),(3,true),(4,true),(5,true),(6,true),(7,true),(8,false),(9,true),(10,true),(11,true),(12,true),(13,true)] [] GE ?_|with_reducible refine WF ?_)
 all_goals exact fin h rfl
theorem w8 {sp:Nat} {Cg ends:Int} (U:s.length<=100000000) (hp:p<s.length) (hb:st.box b=some (QN s p sp ln Cg Ay notes w1 w2 Ds ends j))
 (h:R (.ret (.agg [.int .i64 (H2 s p).1,.int .i64 (H2 s p).2,.int .i64 0])) st):PC 79 [.ptr b 0] st R:=by
 refine pB Tryz.func79 ?_
 repeat' ((conv=>whnf);first|exact BH|(refine AA ?_;intros)|(refine BI ?_ ?_ ?_;rotate_left)|(refine AB ?_ ?_<;>intro _)|refine Al hb ?_|refine qs U hp ?_|refine Ad [(0,true),(1,true),(2,true),(3,true),(4,true),(5,true),(6,true),(7,true),(8,false),(9,true),(10,true),(11,true),(12,true),(13,true)] [] GE ?_|with_reducible refine WF ?_)
 all_goals exact fin h rfl
theorem wY {sp:Nat} {Cg ends:Int} (U:s.length<=100000000) (hp:p<s.length) (hb:st.box b=some (QN s p sp ln Cg Ay notes w1 w2 Ds ends j))
 (h:R (.ret (.agg [.int .i64 (Ci s p).1,.int .i64 (Ci s p).2.1,.int .i64 (Ci s p).2.2])) st):PC 78 [.ptr b 0] st R:=by
 refine pB Tryz.func78 ?_
 repeat' ((conv=>whnf);first|exact BH|(refine AA ?_;intros)|(refine BI ?_ ?_ ?_;rotate_left)|(refine AB ?_ ?_<;>intro _)|refine Al hb ?_|refine tF U hp ?_|refine Ad [(0,true),(1,true),(2,true),(3,true),(4,true),(5,true),(6,true),(7,true),(8,false),(9,true),(10,true),(11,true),(12,true),(13,true),(14,true),(15,true)] [] GE ?_|with_reducible refine WF ?_)
 all_goals exact fin h rfl
theorem nG {sp:Nat} {Cg ends:Int} (hl:s.length<=100000000) (hp:p<s.length) (hb:st.box b=some (QN s p sp ln Cg Ay notes w1 w2 Ds ends j))
 (h:R (.ret (.agg [.int .i64 (Cr s p).1,.int .i64 (Cr s p).2.1,.int .i64 (Cr s p).2.2])) st):PC 50 [.ptr b 0] st R:=by
 refine pB Tryz.func50 ?_
 have U:∀a b c,Cr s p=(a,b,c)->R (.ret (.agg [.int .i64 a,.int .i64 b,.int .i64 c])) st:=λa b c e=>by rw [e] at h;exact h
 clear h
 unfold Cr at U
 repeat' ((conv=>whnf);first|(refine AA ?_;intros)|(refine AB ?_ ?_<;>intro _)|refine wZ hl hp hb ?_|refine wY hl hp hb ?_|refine w8 hl hp hb ?_|refine Al hb ?_)
 .exact fin (U _ _ _ (by rw [if_neg AC,if_pos ⟨AC,AC⟩,if_pos AC])) rfl
 .exact fin (U _ _ _ (by rw [if_neg AC,if_pos ⟨AC,AC⟩,if_neg AC])) rfl
 .exact fin (U _ _ _ (by rw [if_neg AC,if_neg (λx=>by omega)])) rfl
 .exact fin (U _ _ _ (by rw [if_neg AC,if_neg (λx=>by omega)])) rfl
 .exact fin (U _ _ _ (by rw [if_pos AC])) rfl
end
section
variable {st:St} {R:Au->St->Prop}
theorem X9 {Cg:Int} (h:R (.ret (.bool (decide (¬k=15)|| !Lib.contains [123,125,59] t))) st):PC 80 [.agg [.int .i64 k,.str t,.int .i64 ln,.int .i64 Cg]] st R:=by
 refine pB Tryz.func80 ?_
 repeat' ((conv=>whnf);first|(refine AA ?_;intros)|(refine AB ?_ ?_<;>intro _)|refine aQ Do ?_)
 all_goals first
  |exact Av h (by simp [*])
  |(rename_i U _;exact Av h (by simp [U]))
theorem M6 {sp:Nat} {U Cg ends:Int} (hl:s.length<=100000000) (hp:p<=s.length) (hb:st.box b=some (QN s p sp U Cg Ay notes w1 w2 Ds ends j))
 (h:R (.ret (.Bp [])) (st.Aa b (QN s (p+B3 (λc=>AP c==1) (s.drop p)) sp U Cg Ay notes w1 w2 Ds ends j))):PC 47 [.ptr b 0] st R:=by
 refine pB Tryz.func47 ?_
 repeat' ((conv=>whnf);first|refine Ad [(0,true),(1,true),(2,true),(3,true),(4,true),(5,true),(6,true),(7,true),(8,true),(9,false),(10,true),(11,true),(12,false)] [] GE ?_|exact BH|(refine AA ?_;intros)|(refine BI ?_ ?_ ?_;rotate_left)|(refine AB ?_ ?_<;>intro _)|refine Al hb ?_|refine LD hl hp rfl rfl ?_|with_reducible refine WF ?_)
 all_goals exact fin h rfl
end
end Go.Proofs.Z
namespace Go.Aw
open Go
def A0 (s:List UInt8) (a b:Nat):List UInt8:=(s.take b).drop a
theorem Xb {a:Nat} {K:List UInt8->Prop} (U:a<=b) (h2:b<=s.length) (k:K (A0 s a b)):
 (0<=(a:Int)/\(a:Int)<=b/\(b:Int)<=s.length)/\∀s',s'=(s.take (b:Int).toNat).drop (a:Int).toNat->K s':=
 ⟨⟨AC,AC,AC⟩,λs' e=>by
   rw [show (b:Int).toNat=b by omega,show (a:Int).toNat=a by omega] at e
   subst e;exact k⟩
end Go.Aw
namespace Go.Proofs.Z
open Go Go.Aw
section
variable {st:St} {R:Au->St->Prop}
theorem zX {sp q:Nat} {Cg ends:Int} (hl:s.length<=100000000) (hsp:sp<=q) (hq:q<=s.length) (hln:1<=ln/\ln<=1000000000) (U:1<=Cg/\Cg<=2147483648)
 (hw:1<=(B0 (A0 s sp q) (A0 s sp q).length (1,1)).1/\(B0 (A0 s sp q) (A0 s sp q).length (1,1)).1<=1000000000)
 (hb:st.box b=some (QN s p sp ln Cg Ay notes w1 w2 Ds ends j))
 (h:R (.ret (.Bp [.int .i64 (ln+(B0 (A0 s sp q) (A0 s sp q).length (1,1)).1 - 1),.int .i64 (B0 (A0 s sp q) (A0 s sp q).length (1,Cg)).2]))
   (st.Aa b (QN s p q (ln+(B0 (A0 s sp q) (A0 s sp q).length (1,1)).1 - 1) (B0 (A0 s sp q) (A0 s sp q).length (1,Cg)).2 Ay notes w1 w2 Ds ends j))):PC 76 [.ptr b 0,.int .i64 q] st R:=by
 have hpl:(A0 s sp q).length<=100000000:=by unfold A0;rw [List.length_drop,List.length_take];omega
 have b2:∀cs,(st.Aa b cs).box b=some cs:=λcs=>St.AQ _ _ _
 refine pB Tryz.func76 ?_
 repeat' ((conv=>whnf);first|exact BH|(refine AA ?_;intros)|(refine BI ?_ ?_ ?_;rotate_left)|(refine AB ?_ ?_<;>intro _)|refine Xb hsp hq ?_|refine (λ(_:(A0 s sp q).length<DG)=>?_)|refine yW hpl (Nat.le_refl _) ?_|refine uK hpl U.1 U.2 ?_|refine Al hb ?_|refine Al (b2 _) ?_|with_reducible refine WF ?_)
 all_goals exact fin h rfl
end
end Go.Proofs.Z
namespace Go.Aw
open Go
def Cz (s:List UInt8) (a b:Nat) (p:Int×Int):Int×Int:=B0 (A0 s a b) (A0 s a b).length p
theorem Jj {a:Nat} (U:a<=b) (h2:b<=s.length):(A0 s a b).length=b - a:=by
 unfold A0;rw [List.length_drop,List.length_take];omega
theorem eS {a:Nat} {p:Int×Int} (U:a<=b) (h2:b<=s.length) (h:1<=p.2):p.1<=(Cz s a b p).1/\(Cz s a b p).1<=p.1+(b - a:Nat)/\1<=(Cz s a b p).2/\(Cz s a b p).2<=p.2+8*(b - a:Nat):=by
 have:=TC _ (A0 s a b) (A0 s a b).length p (Nat.le_refl _) h
 rw [Jj U h2] at this
 unfold Cz
 rw [Jj U h2]
 omega
end Go.Aw
namespace Go.Proofs.Z
open Go Go.Aw
section
variable {st:St} {R:Au->St->Prop}
theorem ui {sp q:Nat} {U Cg ends:Int} (hl:s.length<=100000000) (hsp:sp<=q) (hq:q<=s.length) (hln:1<=U/\U<=1000000000) (hcol:1<=Cg/\Cg<=2147483648)
 (hb:st.box b=some (QN s p sp U Cg Ay notes w1 w2 Ds ends j))
 (h:R (.ret (.Bp [.int .i64 (Cz s sp q (U,Cg)).1,.int .i64 (Cz s sp q (U,Cg)).2]))
   (st.Aa b (QN s p q (Cz s sp q (U,Cg)).1 (Cz s sp q (U,Cg)).2 Ay notes w1 w2 Ds ends j))):PC 76 [.ptr b 0,.int .i64 q] st R:=by
 have hlen:=Jj hsp hq
 have h1:=TC _ (A0 s sp q) (A0 s sp q).length (1,1) (Nat.le_refl _) Do
 have h2:=U3 _ (A0 s sp q) (A0 s sp q).length 1 1 Cg U (Nat.le_refl _)
 have h3:=Z8 _ (A0 s sp q) (A0 s sp q).length 1 Cg U (Nat.le_refl _)
 have e1:U+(B0 (A0 s sp q) (A0 s sp q).length (1,1)).1 - 1=(Cz s sp q (U,Cg)).1:=by unfold Cz;omega
 have e2:(B0 (A0 s sp q) (A0 s sp q).length (1,Cg)).2=(Cz s sp q (U,Cg)).2:=h3
 refine zX hl hsp hq hln hcol ⟨by dsimp only at h1;omega,by dsimp only at h1;omega⟩ hb ?_
 rw [e1,e2]
 exact h
end
end Go.Proofs.Z
namespace Go.Aw
open Go
theorem Z7 {a:Nat} (h:BQ l a) (k:Nat) (p:Int×Int):B0 l (a+k) p=B0 (l.drop a) k (B0 l a p):=by
 induction h generalizing p with
 |zero l=>rw [FF,Nat.zero_add,List.drop_zero]
 |@step l j U h ih=>
  rw [EF U AC,EF (k:=A3 l+j) U AC,show A3 l+j+k - A3 l=j+k by omega,show A3 l+j - A3 l=j by omega,ih,List.drop_drop]
theorem KI (h:0<m):A1 (l.take m)=A1 l:=by
 cases l with
 |nil=>rw [List.take_nil]
 |cons a r=>
  obtain ⟨m,rfl⟩:∃k,m=k+1:=⟨m - 1,AC⟩
  rfl
theorem Uq:A1 ((l.take m).drop 1)=if 1<m then A1 (l.drop 1) else -1:=by
 rw [List.drop_take]
 by_cases h:1<m
 .rw [if_pos h,KI AC]
 .rw [if_neg h,show m - 1=0 by omega,List.take_zero];rfl
theorem oi (h:0<m) (h2:H3 l<=m):H3 (l.take m)=H3 l:=by
 rcases FJ l with ⟨e,U⟩|⟨e,U,h3⟩|⟨e,U,h3⟩
 .rw [e];unfold H3;rw [KI h,if_neg (λx=>U (.inl x.1)),if_neg U]
 .rw [e];unfold H3;rw [KI h,Uq,if_neg,if_pos U]
  rintro ⟨x,y⟩
  split at y
  .exact h3 ⟨x,y⟩
  .exact absurd y Do
 .rw [e];unfold H3;rw [KI h,Uq,if_pos (show 1<m by omega),if_pos ⟨U,h3⟩]
theorem jU {k:Nat} (h:BQ l k) (hv:Vd l) (p:Int×Int):B0 (l.take k) k p=B0 l k p:=by
 induction h generalizing p with
 |zero l=>rw [FF,FF]
 |@step l j U h ih=>
  have h1:=Ge U
  have hn:H3 (l.take (A3 l+j))=H3 l:=oi AC (by
   by_cases hc:0<H3 l
   .have e:A3 l=H3 l:=if_pos hc
    omega
   .omega)
  have hr:=hv.rune U
  have es:A3 (l.take (A3 l+j))=A3 l:=by
   by_cases hc:0<H3 l
   .have e3:A3 (l.take (A3 l+j))=H3 (l.take (A3 l+j)):=if_pos (by rw [hn];exact hc)
    rw [e3,hn];exact (if_pos hc).symm
   .have e1:A3 l=(AU l).2:=if_neg hc
    have e2:AU (l.take (A3 l+j))=AU l:=by
     have:=RB U hr.1 ((l.take (A3 l+j)).drop (AU l).2)
     rwa [show l.take (AU l).2=(l.take (A3 l+j)).take (AU l).2 by rw [List.take_take,Nat.min_eq_left AC],List.take_append_drop] at this
    have e3:A3 (l.take (A3 l+j))=(AU (l.take (A3 l+j))).2:=if_neg (by rw [hn];exact hc)
    rw [e3,e2];exact e1.symm
  have hne':l.take (A3 l+j)≠[]:=λe=>by
   have:=congrArg List.length e
   rw [List.length_take,List.length_nil] at this;omega
  have hv':Vd (l.drop (A3 l)):=(BQ.step U (.zero (l.drop (A3 l)))).bd.vd hv
  rw [EF hne' AC,EF U AC,es,show A3 l+j - A3 l=j by omega,List.drop_take,show A3 l+j - A3 l=j by omega,ih hv']
  congr 1
  unfold E1 Gd
  rw [hn,KI AC]
def Cs (s:List UInt8) (p:Nat):Int×Int:=B0 s p (1,1)
theorem oK {a:Nat} (hv:Vd s) (U:BQ s a) (hb:BQ (s.drop a) (b - a)) (h:a<=b) (hl:b<=s.length):Cz s a b (Cs s a)=Cs s b:=by
 have e:A0 s a b=(s.drop a).take (b - a):=by unfold A0;rw [List.drop_take]
 have hp:=Jj h hl
 unfold Cz Cs
 rw [hp,e,jU hb (U.bd.vd hv),<-Z7 U,show a+(b - a)=b by omega]
def tr (l:List UInt8) (m:Nat) (r:List UInt8):List UInt8:=l.take m++r
def zo (r:List UInt8):Prop:=A1 r= -1\/A1 r=32\/A1 r=10
theorem sl (h:A1 r= -1):r=[]:=by
 cases r with
 |nil=>rfl
 |cons a r=>have h:((a.toNat:Nat):Int)= -1:=h;omega
theorem Q5:tr l 0 r=r:=H1
theorem Kd {j:Nat} (h:j<=m) (U:m<=l.length):(tr l m r).drop j=tr (l.drop j) (m - j) r:=by
 unfold tr;rw [List.drop_append_of_le_length i7,List.drop_take]
theorem Qd (h:0<m) (U:m<=l.length):A1 (tr l m r)=A1 l:=by
 cases l with
 |nil=>simp_all
 |cons a l=>
  obtain ⟨m,rfl⟩:∃k,m=k+1:=⟨m - 1,AC⟩
  rfl
theorem qg {j:Nat} (h:j<m) (U:m<=l.length):A1 ((tr l m r).drop j)=A1 (l.drop j):=by
 rw [Kd AC U,Qd AC (by grind)]
theorem uq (h:n<=m) (U:m<=l.length):(tr l m r).take n=l.take n:=by
 unfold tr
 grind
theorem da (U:m<=l.length):(tr l m r).length=m+r.length:=by
 unfold tr;simp_all
theorem lD (hv:Vd l) (h0:0<m) (hm:m<=l.length) (hb:Bd l m):AU (tr l m r)=AU l/\(AU l).2<=m:=by
 have U:l≠[]:=λe=>by simp_all
 have hd:(AU l).2<=m:=by
  cases hb with
  |zero=>omega
  |step _ _=>omega
 have:=RB U (hv.rune U).1 ((l.take m).drop (AU l).2++r)
 rw [<-List.append_assoc] at this
 rw [show l.take (AU l).2=(l.take m).take (AU l).2 by grind,List.take_append_drop] at this
 exact ⟨this,hd⟩
theorem tW {p:Nat×Nat->Bool} (hv:Vd l) (hb:Bd l m) (hm:m<=l.length) (hr:BB p r=0) (h:BB p l<=m):BB p (tr l m r)=BB p l:=by
 induction hb with
 |zero l=>rw [Q5,hr];omega
 |@step l k U hb ih=>
  have hp:=Ev l
  have hd:=lD (r:=r) hv AC hm (.step U hb)
  have hne':tr l ((AU l).2+k) r≠[]:=λe=>by
   have:=congrArg List.length e
   rw [da hm] at this;simp_all
  cases hc:p (AU l) with
  |false=>rw [Fq hc,Fq i7]
  |true=>
   rw [CC U hc] at h |-
   rw [CC hne' i7,hd.1,Kd AC hm,show (AU l).2+k - (AU l).2=k by omega,ih (hv.rune U).2 (by grind) AC]
theorem ri (U:zo r):r=[]\/(r≠[]/\(((AU r).1:Nat):Int)=32)\/(r≠[]/\(((AU r).1:Nat):Int)=10):=by
 rcases U with h|h|h
 .exact .inl (sl h)
 .exact .inr (.inl ⟨λe=>by rw [e] at h;exact absurd h Do,by rw [(Fu AC AC).2,h]⟩)
 .exact .inr (.inr ⟨λe=>by rw [e] at h;exact absurd h Do,by rw [(Fu AC AC).2,h]⟩)
theorem pK {p:Int->Bool} (U:zo r) (h1:p 32=false) (h2:p 10=false):B3 p r=0:=by
 rcases ri U with rfl|⟨_,h⟩|⟨_,h⟩
 .exact US p
 .exact Tm i7
 .exact Tm i7
theorem Bd.sub {i j:Nat} (h:Bd l i) (k:Bd l j) (hij:i<=j):Bd (l.drop i) (j - i):=by
 induction h generalizing j with
 |zero l=>exact k
 |@step l i hne h ih=>
  cases k with
  |zero=>simp_all
  |@step _ U _ k=>
   rw [show (AU l).2+U - ((AU l).2+i)=U - i by omega,<-List.drop_drop]
   simp_all
theorem pz (s:List UInt8) (n:Nat) (k:Int):n<=(It s n k).2:=by
 fun_induction It s n k with
 |case1 n k hn U ih=>omega
 |case2 n k hn U=>omega
 |case3 n k hn=>omega
theorem iT (h:(Bo l).1≠0):0<(Bo l).2:=by
 by_cases U:0<(Bo l).2
 .exact U
 .exfalso
  cases l with
  |nil=>exact h rfl
  |cons a r=>
   have hne:a::r≠[]:=GT
   have hp:=Ev (a::r)
   apply h
   unfold Bo at U |-
   split
   .simp_all
   .rename_i h6
    rw [if_neg h6] at U
    have key:∀p:Int->Bool,p (((AU (a::r)).1:Nat):Int)=true->0<B3 p (a::r):=λp hp'=>by
     rw [jq hne hp'];omega
    split
    .rename_i h5
     rw [if_pos h5] at U
     have:=key (λc=>AP c==5) (beq_iff_eq.2 h5)
     omega
    .rename_i h5
     rw [if_neg h5] at U
     split
     .rename_i h3
      rw [if_pos h3] at U
      have h3':AP (((AU (a::r)).1:Nat):Int)=3:=h3
      have:=key IF (by unfold IF;simp_all)
      unfold L8 at U;omega
     .rename_i h3
      rw [if_neg h3] at U
      split
      .rename_i h2
       rw [if_pos h2] at U
       have h2':AP (((AU (a::r)).1:Nat):Int)=2:=h2
       have:=key IF (by unfold IF;simp_all)
       unfold L8 at U;omega
      .rfl
def xT (k:Int) (t:List UInt8) (p:Int×Int):List V:=[.int .i64 k,.str t,.int .i64 p.1,.int .i64 p.2]
theorem pn {st:St} {o:List (List V)} {a b:Int} (h:B6 st0 st w1 (o.length*4) w2 n2) (hl:o.length<=1000000000)
 (kk:∀U st',B6 st0 st' U ((o.length+1)*4) w2 n2->st'.box=st.box->K (.slice 4 (o++[xT k t (a,b)]) U) st'):Am 4 40 o w1 [[.int .i64 k,.str t,.int .i64 a,.int .i64 b]] st K:=
 LC h rfl (by rw [List.length_singleton];omega) (by rw [List.length_singleton];unfold DG;omega) rfl GT (λU st' hr hb=>kk U st' hr hb)
end Go.Aw
namespace Go.Proofs.Z
open Go Go.Aw
section
variable {st:St} {R:Au->St->Prop}
attribute [local irreducible] Go.Aw.Am
theorem uj {sp q:Nat} {e0 Cg ends:Int} (hl:s.length<=100000000) (hsp:sp<=p) (hpq:p<=q) (hq:q<=s.length) (hln:1<=ln/\ln<=800000000) (hcol:1<=Cg/\Cg<=1000000000)
 (hg:0<=Ds/\Ds<=1000000000) (ht:Ay.length<=1000000000) (U:st0.box b=none) (hR:B6 st0 st w1 (Ay.length*4) w2 n2) (hb:st.box b=some (QN s p sp ln Cg Ay notes w1 w2 Ds ends j))
 (h:∀w1' st',B6 st0 st' w1' ((Ay.length+1)*4) w2 n2->st'.box b=some (QN s q q (Cz s p q (Cz s sp p (ln,Cg))).1 (Cz s p q (Cz s sp p (ln,Cg))).2 (Ay++[xT k (A0 s p q) (Cz s sp p (ln,Cg))]) notes w1' w2
   (if decide (¬k=15)|| !Lib.contains [123,125,59] (A0 s p q) then Ds+1 else Ds) (Cz s p q (Cz s sp p (ln,Cg))).1 true)->R (.ret (.Bp [])) st'):PC 51 [.ptr b 0,.agg [.int .i64 k,.int .i64 q,.int .i64 e0]] st R:=by
 have z1:=eS (s:=s) (p:=(ln,Cg)) hsp AC hcol.1
 refine AO Ab [] Tryz.func51 rfl Do rfl ?_
 refine Ag (Ai Ab ?_)
 repeat' ((conv=>whnf);first|exact BH|(refine AA ?_;intros)|(refine BI ?_ ?_ ?_;rotate_left)|(refine AB ?_ ?_<;>intro _)|with_reducible refine WF ?_)
 refine Ag (Ai Ab ?_)
 repeat' ((conv=>whnf);first|exact BH|(refine AA ?_;intros)|(refine BI ?_ ?_ ?_;rotate_left)|(refine AB ?_ ?_<;>intro _)|refine ui hl hsp AC AC AC hb ?_|refine Al hb ?_|with_reducible refine WF ?_)
 generalize Cz s sp p (ln,Cg)=pl1 at h z1 |-
 have z2:=eS (s:=s) (p:=pl1) hpq hq z1.2.2.1
 dsimp only at z1 z2
 refine Ag (Ai Ab ?_)
 repeat' ((conv=>whnf);first|exact BH|(refine AA ?_;intros)|(refine BI ?_ ?_ ?_;rotate_left)|(refine AB ?_ ?_<;>intro _)|refine Xb hpq hq ?_|refine Al (St.AQ _ _ _) ?_|with_reducible refine WF ?_)
 refine Ag (Ai Ab ?_)
 repeat' ((conv=>whnf);first|refine Ad [(0,true),(1,true),(2,true),(3,true),(4,true),(5,true),(6,true),(7,false),(8,true),(9,true),(10,false)] [] GE ?_|exact BH|(refine AA ?_;intros)|(refine BI ?_ ?_ ?_;rotate_left)|(refine AB ?_ ?_<;>intro _)|refine Al (St.AQ _ _ _) ?_|refine pn (hR.set U _) ht (λw1' st1 hr1 hb1=>?_)|refine Al ((congrFun hb1 b).trans (St.AQ _ _ _)) ?_|with_reducible refine WF ?_)
 clear hR hb
 rcases hc:(decide (¬k=15)|| !Lib.contains [123,125,59] (A0 s p q)) with _|_
 all_goals rw [hc] at h
 .have hcc:∀{st:St} {R:Au->St->Prop},R (.ret (.bool false)) st->PC 80 [.agg [.int .i64 k,.str (A0 s p q),.int .i64 pl1.1,.int .i64 pl1.2]] st R:=λh=>X9 (by rw [hc];exact h)
  refine Ag (Ai Ab ?_)
  repeat' ((conv=>whnf);first|exact BH|(refine AA ?_;intros)|(refine BI ?_ ?_ ?_;rotate_left)|(refine AB ?_ ?_<;>intro _)|refine hcc ?_|refine Al (St.AQ _ _ _) ?_|with_reducible refine WF ?_)
  refine Ai Ab ?_
  repeat' ((conv=>whnf);first|exact BH|(refine AA ?_;intros)|(refine BI ?_ ?_ ?_;rotate_left)|(refine AB ?_ ?_<;>intro _)|refine ui hl hpq hq AC AC (St.AQ _ _ _) ?_|refine Al (St.AQ _ _ _) ?_|with_reducible refine WF ?_)
  all_goals exact fin (h w1' _ ((((hr1.set U _).set U _).set U _).set U _) (St.AQ _ _ _)) rfl
 .have hcc:∀{st:St} {R:Au->St->Prop},R (.ret (.bool true)) st->PC 80 [.agg [.int .i64 k,.str (A0 s p q),.int .i64 pl1.1,.int .i64 pl1.2]] st R:=λh=>X9 (by rw [hc];exact h)
  refine Ag (Ai Ab ?_)
  repeat' ((conv=>whnf);first|exact BH|(refine AA ?_;intros)|(refine BI ?_ ?_ ?_;rotate_left)|(refine AB ?_ ?_<;>intro _)|refine hcc ?_|refine Al (St.AQ _ _ _) ?_|with_reducible refine WF ?_)
  refine Ai Ab ?_
  repeat' ((conv=>whnf);first|exact BH|(refine AA ?_;intros)|(refine BI ?_ ?_ ?_;rotate_left)|(refine AB ?_ ?_<;>intro _)|refine ui hl hpq hq AC AC (St.AQ _ _ _) ?_|refine Al (St.AQ _ _ _) ?_|with_reducible refine WF ?_)
  all_goals exact fin (h w1' _ (((((hr1.set U _).set U _).set U _).set U _).set U _) (St.AQ _ _ _)) rfl
end
structure Nt where
 text:List UInt8
 Ds:Int
 wh:Int
 line:Int
 Cg:Int
def Nt.cells (n:Nt):List V:=[.str n.text,.int .i64 n.Ds,.int .i64 n.wh,.int .i64 n.line,.int .i64 n.Cg]
def GR (l:List Nt):List (List V):=l.map Nt.cells
structure Lx where
 Ay:List Tk
 notes:List Nt
 Ds:Int
 ends:Int
 j:Bool
def yQ:Lx:=⟨[],[],0,0,false⟩
def cntF (k:Int) (t:List UInt8):Bool:=decide (¬k=15)|| !Lib.contains [123,125,59] t
def Kt (s:List UInt8) (p q:Nat) (k:Int) (x:Lx):Lx:=
 ⟨x.Ay++[⟨k,A0 s p q,(Cs s p).1,(Cs s p).2⟩],x.notes,if cntF k (A0 s p q) then x.Ds+1 else x.Ds,(Cs s q).1,true⟩
def DC (s:List UInt8) (p:Nat):Nat:=p+B3 (λc=>AP c==1) (s.drop p)
theorem JD (h:p<=s.length):p<=DC s p/\DC s p<=s.length:=by
 have:=Gc (λc=>AP c==1) (s.drop p)
 rw [List.length_drop] at this
 unfold DC;omega
def kT (s:List UInt8) (p q:Nat) (x:Lx):Bool:=x.j&&decide (x.ends=(Cs s p).1)&&decide ((Cs s q).1=(Cs s p).1)
def TT (s:List UInt8) (p q:Nat):Bool:=decide (DC s q<s.length)&&decide ((Cs s (DC s q)).1=(Cs s p).1)
def NW (s:List UInt8) (p q:Nat) (x:Lx):Lx:=
 ⟨x.Ay,x.notes++[⟨A0 s p q,x.Ds,if kT s p q x then (if TT s p q then 1 else 2) else 3,(Cs s p).1,(Cs s p).2⟩],x.Ds,(Cs s q).1,kT s p q x&&TT s p q⟩
def GY (s:List UInt8) (p:Nat) (x:Lx):Sum (Int×Int) Lx:=
 if hp:p<s.length then
  if (CJ s p).2≠0 then .inl ((p:Nat),(CJ s p).2)
  else if 0<(CJ s p).1 then
   (if U:p<(CJ s p).1.toNat then GY s (DC s (CJ s p).1.toNat) (NW s p (CJ s p).1.toNat x) else .inr x)
  else if (Cr s p).2.2≠0 then .inl ((Cr s p).2.1,(Cr s p).2.2)
  else (if U:p<(Cr s p).2.1.toNat then GY s (DC s (Cr s p).2.1.toNat) (Kt s p (Cr s p).2.1.toNat (Cr s p).1 x) else .inr x)
 else .inr x
termination_by s.length - p
decreasing_by
 all_goals unfold DC;omega
def GX (s:List UInt8):Sum (Int×Int) Lx:=
 if 16777216<s.length then .inl (0,3)
 else if (Nb s).2≠0 then .inl (Nb s)
 else if 0<=YE (λc=>AP (c:Nat)==0) s then .inl (YE (λc=>AP (c:Nat)==0) s,70)
 else GY s (DC s 0) yQ
theorem lv (h:(Nb s).2=0):Vd s:=by
 unfold Nb at h
 split at h
 .exact absurd h (show ¬(10:Int)=0 by decide)
 .have:=K2 Dk s
  unfold Vd;omega
end Go.Proofs.Z
namespace Go.Aw
open Go
theorem BQ.le {k:Nat} (h:BQ l k):k<=l.length:=by
 induction h with
 |zero l=>omega
 |step U h ih=>have:=Ge U;grind
theorem BQ.blank (hv:Vd l):BQ l (B3 (λc=>AP c==1) l):=by
 refine Bd.cut (Bd.span _ l) ?_
 rintro ⟨h0,_,U⟩
 have U:A1 (l.drop (B3 (λc=>AP c==1) l))=10:=U
 have hlt:=Cb (l:=l) (k:=B3 (λc=>AP c==1) l) AC
 have:=Tn (λc=>AP c==1) l hlt
 rw [(Fu AC AC).2,U] at this
 exact absurd this Do
theorem oq (e:(CJ s p).2=0) (U:0<(CJ s p).1):∃n:Nat,0<n/\DR (s.drop p)=(n:Nat)/\(CJ s p).1=(p+n:Nat):=by
 unfold CJ at e U |-
 split
 .simp_all
 .rename_i h
  rw [if_neg h] at e U
  split
  .simp_all
  .rename_i h1
   exact ⟨(DR (s.drop p)).toNat,AC,AC,AC⟩
theorem Y8 (hv:Vd s) (h:BQ s p) (e:(CJ s p).2=0) (h0:0<(CJ s p).1):∃q,(CJ s p).1=(q:Nat)/\p<q/\q<=s.length/\BQ s q:=by
 obtain ⟨n,h1,h2,h3⟩:=oq e h0
 have U:=BQ.add h (BQ.note (h.bd.vd hv) h2)
 exact ⟨p+n,h3,AC,U.le,U⟩
theorem tw (h:(E5 l).1≠0):0<(E5 l).2:=by
 unfold E5 at h |-
 grind
theorem qp (h:(BJ l).1≠0):0<(BJ l).2:=by
 have U:=pz l (Bo l).2 (Bo l).1
 by_cases hp:(Bo l).1=0
 .unfold BJ at h
  rw [ZA (λx=>by omega)] at h
  omega
 .have:=iT hp
  unfold BJ;omega
theorem YQ (hv:Vd s) (h:BQ s p) (e:(Cr s p).2.2=0):(Cr s p).1≠0/\∃q,(Cr s p).2.1=(q:Nat)/\p<q/\q<=s.length/\BQ s q:=by
 have hv':=h.bd.vd hv
 unfold Cr at e |-
 split
 .rename_i h1
  refine ⟨h1,p+(E5 (s.drop p)).2,?_⟩
  have hn:(E5 (s.drop p)).1≠0:=λx=>by
   unfold SU at h1;simp_all
  have U:=BQ.add h (BQ.num (s.drop p))
  have:=tw hn
  refine ⟨?_,AC,U.le,U⟩
  unfold SU;simp_all
 .rename_i h1
  rw [if_neg h1] at e
  split
  .rename_i h2
   rw [if_pos h2] at e
   split
   .simp_all
   .rename_i h3
    refine ⟨h3,p+(BJ (s.drop p)).2,?_⟩
    have hn:(BJ (s.drop p)).1≠0:=λx=>by
     unfold H2 at h3;simp_all
    have U:=BQ.add h (BQ.word (s.drop p))
    have:=qp hn
    refine ⟨?_,AC,U.le,U⟩
    unfold H2;simp_all
  .rename_i h2
   rw [if_neg h2] at e
   have hk:(Ci s p).1≠0:=λx=>h2 ⟨x,e⟩
   obtain ⟨n,e1,e2,e3⟩:=BQ.quote hv' hk
   have U:=BQ.add h e3
   exact ⟨hk,p+n,e1,AC,U.le,U⟩
theorem BQ.q6 (U:Vd s) (h:BQ s p):BQ s (Go.Proofs.Z.DC s p):=BQ.add h (BQ.blank (h.bd.vd U))
def iD (a b:Int×Int):Prop:=a.1<b.1\/(a.1=b.1/\a.2<b.2)
theorem iD.trans {a b c:Int×Int} (h:iD a b) (k:iD b c):iD a c:=by unfold iD at *;omega
theorem ub {p:Int×Int} (h:1<=p.2):iD p (E1 l p.1,Gd l p.2):=by
 unfold iD E1 Gd ZR
 omega
theorem uH {k:Nat} (h:BQ l k) (p:Int×Int) (hp:1<=p.2):(k=0/\B0 l k p=p)\/(0<k/\iD p (B0 l k p)):=by
 induction h generalizing p with
 |zero l=>exact .inl ⟨rfl,FF⟩
 |@step l j U h ih=>
  have h1:=Ge U
  have h2:=ub (l:=l) hp
  refine .inr ⟨AC,?_⟩
  rw [EF U AC,show A3 l+j - A3 l=j by omega]
  rcases ih (E1 l p.1,Gd l p.2) (Q3 l hp).1 with ⟨_,e⟩|⟨_,e⟩
  .simp_all
  .exact h2.trans e
theorem BQ.sub {i j:Nat} (h:BQ l i) (k:BQ l j) (hij:i<=j):BQ (l.drop i) (j - i):=by
 induction h generalizing j with
 |zero l=>exact k
 |@step l i hne h ih=>
  cases k with
  |zero=>simp_all
  |@step _ U _ k=>
   rw [show A3 l+U - (A3 l+i)=U - i by omega,<-List.drop_drop]
   simp_all
theorem Mj:1<=(Cs s p).1/\(Cs s p).1<=1+s.length/\1<=(Cs s p).2/\(Cs s p).2<=1+8*s.length:=by
 have:=TC _ s p (1,1) (Nat.le_refl _) Do
 unfold Cs
 omega
theorem kL {q:Nat} (h:BQ s p) (k:BQ s q) (U:p<q):iD (Cs s p) (Cs s q):=by
 have c:=h.sub k AC
 have e:Cs s q=B0 (s.drop p) (q - p) (Cs s p):=by
  unfold Cs
  rw [<-Z7 h,show p+(q - p)=q by omega]
 rw [e]
 rcases uH c (Cs s p) Mj.2.2.1 with ⟨x,_⟩|⟨_,x⟩
 .omega
 omega
theorem O2 {a:Nat} (hv:Vd s) (U:BQ s a) (hb:BQ s b) (h:a<=b):Cz s a b (Cs s a)=Cs s b:=oK hv U (U.sub hb h) h hb.le
def ntV (t:List UInt8) (Ds wh:Int) (p:Int×Int):List V:=[.str t,.int .i64 Ds,.int .i64 wh,.int .i64 p.1,.int .i64 p.2]
theorem O6 {st:St} {o:List (List V)} {g a b:Int} (h:B6 st0 st w1 n1 w2 (o.length*5)) (hl:o.length<=1000000000)
 (kk:∀U st',B6 st0 st' w1 n1 U ((o.length+1)*5)->st'.box=st.box->K (.slice 5 (o++[ntV t g k (a,b)]) U) st'):Am 5 48 o w2 [[.str t,.int .i64 g,.int .i64 k,.int .i64 a,.int .i64 b]] st K:=
 LC h.swap rfl (by rw [List.length_singleton];omega) (by rw [List.length_singleton];unfold DG;omega) rfl GT (λw1' st' hr hb=>kk w1' st' hr.swap hb)
end Go.Aw
namespace Go.Proofs.Z
open Go Go.Aw
section
variable {st:St} {R:Au->St->Prop}
attribute [local irreducible] Go.Aw.Am
theorem fC {sp q:Nat} {ends:Int} (hl:s.length<=100000000) (hv:Vd s) (c1:BQ s sp) (c2:BQ s q) (U:sp<=q)
 (hb:st.box b=some (QN s p sp (Cs s sp).1 (Cs s sp).2 Ay notes w1 w2 Ds ends j))
 (h:R (.ret (.Bp [.int .i64 (Cs s q).1,.int .i64 (Cs s q).2])) (st.Aa b (QN s p q (Cs s q).1 (Cs s q).2 Ay notes w1 w2 Ds ends j))):PC 76 [.ptr b 0,.int .i64 q] st R:=by
 have e:Cz s sp q ((Cs s sp).1,(Cs s sp).2)=Cs s q:=O2 hv c1 c2 U
 have hc:=Mj (s:=s) (p:=sp)
 refine ui hl U c2.le AC AC hb ?_
 rw [e];exact h
theorem qa {sp q:Nat} {e0 ends:Int} (hl:s.length<=50000000) (hv:Vd s) (c1:BQ s sp) (c2:BQ s p) (c3:BQ s q) (hsp:sp<=p) (hpq:p<=q)
 (hg:0<=Ds/\Ds<=1000000000) (ht:Ay.length<=1000000000) (hb0:st0.box b=none) (hR:B6 st0 st w1 (Ay.length*4) w2 n2) (hb:st.box b=some (QN s p sp (Cs s sp).1 (Cs s sp).2 Ay notes w1 w2 Ds ends j))
 (h:∀U st',B6 st0 st' U ((Ay.length+1)*4) w2 n2->st'.box b=some (QN s q q (Cs s q).1 (Cs s q).2 (Ay++[xT k (A0 s p q) (Cs s p)]) notes U w2
   (if cntF k (A0 s p q) then Ds+1 else Ds) (Cs s q).1 true)->R (.ret (.Bp [])) st'):PC 51 [.ptr b 0,.agg [.int .i64 k,.int .i64 q,.int .i64 e0]] st R:=by
 have e1:Cz s sp p ((Cs s sp).1,(Cs s sp).2)=Cs s p:=O2 hv c1 c2 hsp
 have e2:Cz s p q (Cs s p)=Cs s q:=O2 hv c2 c3 hpq
 have hc:=Mj (s:=s) (p:=sp)
 refine uj AC hsp hpq c3.le AC AC hg ht hb0 hR hb (λU st' hr hb'=>h U st' hr ?_)
 rw [e1,e2] at hb';exact hb'
theorem xi {sp q:Nat} {ends:Int} (hl:s.length<=50000000) (hv:Vd s) (c1:BQ s sp) (c2:BQ s p) (c3:BQ s q) (hsp:sp<=p) (hpq:p<=q)
 (hg:0<=Ds/\Ds<=1000000000) (ht:notes.length<=1000000000) (U:st0.box b=none) (hR:B6 st0 st w1 n1 w2 (notes.length*5)) (hb:st.box b=some (QN s p sp (Cs s sp).1 (Cs s sp).2 Ay notes w1 w2 Ds ends j))
 (h:∀w2' st' sp',BQ s sp'->sp'<=DC s q->B6 st0 st' w1 n1 w2' ((notes.length+1)*5)->
   st'.box b=some (QN s (DC s q) sp' (Cs s sp').1 (Cs s sp').2 Ay (notes++[ntV (A0 s p q) Ds (if j&&decide (ends=(Cs s p).1)&&decide ((Cs s q).1=(Cs s p).1) then (if TT s p q then 1 else 2) else 3) (Cs s p)]) w1 w2' Ds (Cs s q).1
    (j&&decide (ends=(Cs s p).1)&&decide ((Cs s q).1=(Cs s p).1)&&TT s p q))->R (.ret (.Bp [])) st'):PC 49 [.ptr b 0,.int .i64 q] st R:=by
 have c4:=c3.q6 hv
 have hq:=c3.le
 have hr:=JD hq
 have z1:=Mj (s:=s) (p:=p)
 have z2:=Mj (s:=s) (p:=q)
 have z3:=Mj (s:=s) (p:=DC s q)
 refine AO Ab [] Tryz.func49 rfl Do rfl ?_
 refine Ag (Ai Ab ?_)
 repeat' ((conv=>whnf);first|exact BH|(refine AA ?_;intros)|(refine BI ?_ ?_ ?_;rotate_left)|(refine AB ?_ ?_<;>intro _)|refine fC AC hv c1 c2 hsp hb ?_|refine Al hb ?_|with_reducible refine WF ?_)
 refine Ag (Ai Ab ?_)
 repeat' ((conv=>whnf);first|exact BH|(refine AA ?_;intros)|(refine BI ?_ ?_ ?_;rotate_left)|(refine AB ?_ ?_<;>intro _)|refine Xb hpq hq ?_|refine Al (St.AQ _ _ _) ?_|with_reducible refine WF ?_)
 refine Ag (Ai Ab ?_)
 repeat' ((conv=>whnf);first|exact BH|(refine AA ?_;intros)|(refine BI ?_ ?_ ?_;rotate_left)|(refine AB ?_ ?_<;>intro _)|refine fC AC hv c2 c3 hpq (St.AQ _ _ _) ?_|refine Al (St.AQ _ _ _) ?_|with_reducible refine WF ?_)
 have hbl:∀{st:St} {R:Au->St->Prop} {sp:Nat} {Ds ends:Int} {j:Bool} {notes:List (List V)} {w2:AE},st.box b=some (QN s q sp (Cs s sp).1 (Cs s sp).2 Ay notes w1 w2 Ds ends j)->
  R (.ret (.Bp [])) (st.Aa b (QN s (DC s q) sp (Cs s sp).1 (Cs s sp).2 Ay notes w1 w2 Ds ends j))->PC 47 [.ptr b 0] st R:=λhb h=>M6 AC hq hb h
 have hcase:(j=false\/(j=true/\¬ends=(Cs s p).1)\/(j=true/\ends=(Cs s p).1/\¬(Cs s q).1=(Cs s p).1))\/(j=true/\ends=(Cs s p).1/\(Cs s q).1=(Cs s p).1):=by
  cases j
  .exact .inl (.inl rfl)
  .by_cases e1:ends=(Cs s p).1
   .by_cases e2:(Cs s q).1=(Cs s p).1
    .exact .inr ⟨rfl,e1,e2⟩
    .exact .inl (.inr (.inr ⟨rfl,e1,e2⟩))
   .exact .inl (.inr (.inl ⟨rfl,e1⟩))
 rcases hcase with hc|⟨rfl,he1,he2⟩
 .have e:(j&&decide (ends=(Cs s p).1)&&decide ((Cs s q).1=(Cs s p).1))=false:=by
   rcases hc with rfl|⟨rfl,e1⟩|⟨rfl,e1,e2⟩<;>simp [*]
  rw [e] at h
  rcases hc with rfl|⟨rfl,e1⟩|⟨rfl,e1,e2⟩
  all_goals refine Ag (Ai Ab ?_)
  repeat' ((conv=>whnf);first|exact BH|(refine AA ?_;intros)|(refine BI ?_ ?_ ?_;rotate_left)|(refine AB ?_ ?_<;>intro _)|refine Al (St.AQ _ _ _) ?_|with_reducible refine WF ?_)
  all_goals refine Ag (Ai Ab ?_)
  repeat' ((conv=>whnf);first|exact BH|(refine AA ?_;intros)|(refine BI ?_ ?_ ?_;rotate_left)|(refine AB ?_ ?_<;>intro _)|refine Al (St.AQ _ _ _) ?_|with_reducible refine WF ?_)
  all_goals refine Ag (Ai Ab ?_)
  repeat' ((conv=>whnf);first|exact BH|(refine AA ?_;intros)|(refine BI ?_ ?_ ?_;rotate_left)|(refine AB ?_ ?_<;>intro _)|refine hbl (St.AQ _ _ _) ?_|with_reducible refine WF ?_)
  all_goals refine Ag (Ai Ab ?_)
  repeat' ((conv=>whnf);first|exact BH|(refine AA ?_;intros)|(refine BI ?_ ?_ ?_;rotate_left)|(refine AB ?_ ?_<;>intro _)|refine Al (St.AQ _ _ _) ?_|with_reducible refine WF ?_)
  all_goals refine Ag (Ai Ab ?_)
  repeat' ((conv=>whnf);first|exact BH|(refine AA ?_;intros)|(refine BI ?_ ?_ ?_;rotate_left)|(refine AB ?_ ?_<;>intro _)|with_reducible refine WF ?_)
  all_goals refine Ai Ab ?_
  repeat' ((conv=>whnf);first|refine Ad [(0,true),(1,true),(2,true),(3,true),(4,true),(5,true),(6,true),(7,false),(8,true),(9,true),(10,false)] [] GE ?_|exact BH|(refine AA ?_;intros)|(refine BI ?_ ?_ ?_;rotate_left)|(refine AB ?_ ?_<;>intro _)|refine Al (St.AQ _ _ _) ?_|refine O6 (((((hR.set U _).set U _).set U _).set U _).set U _) ht (λw1' st1 hr1 hb1=>?_)|refine Al ((congrFun hb1 b).trans (St.AQ _ _ _)) ?_|with_reducible refine WF ?_)
  all_goals exact fin (h w1' _ q c3 hr.1 (hr1.set U _) (St.AQ _ _ _)) rfl
 .have e:(true&&decide (ends=(Cs s p).1)&&decide ((Cs s q).1=(Cs s p).1))=true:=by simp [*]
  rw [e] at h
  refine Ag (Ai Ab ?_)
  repeat' ((conv=>whnf);first|exact BH|(refine AA ?_;intros)|(refine BI ?_ ?_ ?_;rotate_left)|(refine AB ?_ ?_<;>intro _)|refine Al (St.AQ _ _ _) ?_|with_reducible refine WF ?_)
  refine Ag (Ai Ab ?_)
  repeat' ((conv=>whnf);first|exact BH|(refine AA ?_;intros)|(refine BI ?_ ?_ ?_;rotate_left)|(refine AB ?_ ?_<;>intro _)|refine Al (St.AQ _ _ _) ?_|with_reducible refine WF ?_)
  refine Ag (Ai Ab ?_)
  repeat' ((conv=>whnf);first|exact BH|(refine AA ?_;intros)|(refine BI ?_ ?_ ?_;rotate_left)|(refine AB ?_ ?_<;>intro _)|refine hbl (St.AQ _ _ _) ?_|with_reducible refine WF ?_)
  refine Ag (Ai Ab ?_)
  repeat' ((conv=>whnf);first|exact BH|(refine AA ?_;intros)|(refine BI ?_ ?_ ?_;rotate_left)|(refine AB ?_ ?_<;>intro _)|refine Al (St.AQ _ _ _) ?_|with_reducible refine WF ?_)
  rcases hin:TT s p q with _|_
  all_goals rw [hin] at h
  .have hno:¬DC s q<s.length\/(DC s q<s.length/\¬(Cs s (DC s q)).1=(Cs s p).1):=by
    by_cases h1:DC s q<s.length
    .exact .inr ⟨h1,λx=>by unfold TT at hin;simp [h1,x] at hin⟩
    .exact .inl h1
   rcases hno with hno|⟨hy,hno⟩
   all_goals refine Ag (Ai Ab ?_)
   repeat' ((conv=>whnf);first|exact BH|(refine AA ?_;intros)|(refine BI ?_ ?_ ?_;rotate_left)|(refine AB ?_ ?_<;>intro _)|refine fC AC hv c3 c4 hr.1 (St.AQ _ _ _) ?_|refine Al (St.AQ _ _ _) ?_|refine WJ (λ_=>?_)|with_reducible refine WF ?_)
   all_goals refine Ai Ab ?_
   repeat' ((conv=>whnf);first|refine Ad [(0,true),(1,true),(2,true),(3,true),(4,true),(5,true),(6,true),(7,false),(8,true),(9,true),(10,false)] [] GE ?_|exact BH|(refine AA ?_;intros)|(refine BI ?_ ?_ ?_;rotate_left)|(refine AB ?_ ?_<;>intro _)|refine Al (St.AQ _ _ _) ?_|refine O6 ((((((hR.set U _).set U _).set U _).set U _).set U _).set U _) ht (λw1' st1 hr1 hb1=>?_)|refine Al ((congrFun hb1 b).trans (St.AQ _ _ _)) ?_|with_reducible refine WF ?_)
   all_goals exact fin (h w1' _ (DC s q) c4 (Nat.le_refl _) (hr1.set U _) (St.AQ _ _ _)) rfl
  .have hy:DC s q<s.length/\(Cs s (DC s q)).1=(Cs s p).1:=by unfold TT at hin;simpa using hin
   obtain ⟨hy1,hy2⟩:=hy
   refine Ag (Ai Ab ?_)
   repeat' ((conv=>whnf);first|exact BH|(refine AA ?_;intros)|(refine BI ?_ ?_ ?_;rotate_left)|(refine AB ?_ ?_<;>intro _)|refine fC AC hv c3 c4 hr.1 (St.AQ _ _ _) ?_|refine Al (St.AQ _ _ _) ?_|refine WJ (λ_=>?_)|with_reducible refine WF ?_)
   refine Ai Ab ?_
   repeat' ((conv=>whnf);first|refine Ad [(0,true),(1,true),(2,true),(3,true),(4,true),(5,true),(6,true),(7,false),(8,true),(9,true),(10,false)] [] GE ?_|exact BH|(refine AA ?_;intros)|(refine BI ?_ ?_ ?_;rotate_left)|(refine AB ?_ ?_<;>intro _)|refine Al (St.AQ _ _ _) ?_|refine O6 (((((((hR.set U _).set U _).set U _).set U _).set U _).set U _).set U _) ht (λw1' st1 hr1 hb1=>?_)|refine Al ((congrFun hb1 b).trans (St.AQ _ _ _)) ?_|with_reducible refine WF ?_)
   all_goals exact fin (h w1' _ (DC s q) c4 (Nat.le_refl _) (hr1.set U _) (St.AQ _ _ _)) rfl
end
end Go.Proofs.Z
namespace Go.Aw
open Go
theorem Bd.word {w:List UInt8} (h:∀b ∈ w,b.toNat<128):Bd (w++t) w.length:=by
 induction w with
 |nil=>exact .zero _
 |cons a w U=>
  have e:(AU (a::(w++t))).2=1:=by rw [FY (h a List.mem_cons_self)]
  have:=Bd.step (l:=a::(w++t)) (k:=w.length) GT i7
  grind
end Go.Aw
