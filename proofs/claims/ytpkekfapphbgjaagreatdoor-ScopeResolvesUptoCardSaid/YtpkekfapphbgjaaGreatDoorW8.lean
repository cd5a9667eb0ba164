/-
  Parts of a proof: lemmas that the last text uses.
-/
import Derived.Test.YtpkekfapphbgjaaGreatDoorW7
set_option linter.unusedVariables false
set_option linter.unusedSimpArgs false
set_option maxHeartbeats 16000000
variable {cs:List Go.Aw.V} {k b U bo:Nat} {env:List Go.Proofs.Z.Fx} {s:List UInt8} {f g:Go.FuncId} {l r:List Go.Aw.Nd} {item:Go.Proofs.Z.Rd Go.Aw.Nd} {c deep:Int} {st':Go.Aw.St} {n x:Go.Aw.Nd} {ks:List Int} {o:Bool} {w:Go.Aw.AH}
namespace Go.Aw
theorem RM {fs:List V} {k:List V->Prop} (h:k (fs++cs)):Gm (fs++([]++cs)) k:=Bl.2 h
end Go.Aw
namespace Go.Proofs.Z
open Go Go.Aw
theorem Dv.vT {A:Rd Nd} (h:Dv A):Rd.Bn A:=λs n s' e=>by
 have h1:=h.size e
 have h2:=size_pos n
 omega
def Ij (starts:Tk->Bool) (item:List Nd->Rd Nd) (f:Bool) (l:List Nd):Rd (Sum (List Nd) (List Nd)):=.seq SS λ_=>.look λs=>.seq (JU f (!starts (Ae s).1)) λe=>
 if e=true then .ret (.inr l) else .seq (item l) λn=>.look λs=>.seq (JU f (!Mb (Ae s).1)) λe=>if e=true then .ret (.inr (l++[n])) else .ret (.inl (l++[n]))
def JN (starts:Tk->Bool) (item:List Nd->Rd Nd):Rd Nd:=.look λs=>if ((Ae s).1.kind==18)=true then .seq K7 λ_=>.seq (.loop (Ij starts item false) []) λl=>.ret (Dr false l)
 else .seq (BG 15 [123]) λ_=>.seq (.loop (Ij starts item true) []) λl=>.ret (Dr true l)
theorem YU {σ β:Type} {ih:(AP->Env->St->Prop)->Env->St->Prop} {Q0:AP->Env->St->Prop} {env:Env} {st:St} {s:An} {Q:β->An->Prop} {E:Er->An->Prop} {body:σ->Rd (Sum σ β)} {x0:σ} (base:σ->St)
 (f:σ->AH->List (Nat×V)) (g:σ->AH->List (Nat×List V)) (keep kb:List Nat) (rw:σ->AH->List (AH×List Nd)) (wt:σ->Nat) (U:AH) (hc:Cx (base x0) b s st (rw x0 U)) (h:Rd.wp (Rd.loop body x0) s Q E) (hl:wt x0+4*mu s<=500000000)
 (he:(env.Mm (f x0 U) (g x0 U) keep kb).E3 env)
 (hb:∀x s1 st1 own1,Cx (base x) b s1 st1 (rw x own1)->Rd.wp (body x) s1 (Rd.again body s1 Q E) E->wt x+4*mu s1<=500000000->mu s1<=mu s->
   ih (B2 (λenv' st'=>∃y:LS σ,(Cx (base y.x) b y.s y.m (rw y.x y.o)/\Rd.wp (Rd.loop body y.x) y.s Q E/\wt y.x+4*mu y.s<=500000000/\mu y.s<=mu s)/\mu y.s<mu s1/\(env.Mm (f y.x y.o) (g y.x y.o) keep kb).E3 env'/\St.le y.m st') Q0)
    (env.Mm (f x own1) (g x own1) keep kb) st1):
 ∃(α:Type) (E:α->Env) (S:α->St) (J:α->Prop) (μ:α->Nat) (x0:α),J x0/\(E x0).E3 env/\St.le (S x0) st/\
  ∀x,J x->ih (B2 (λenv' st'=>∃y,J y/\μ y<μ x/\(E y).E3 env'/\St.le (S y) st') Q0) (E x) (S x):=
 ⟨LS σ,λy=>env.Mm (f y.x y.o) (g y.x y.o) keep kb,λy=>y.m,
   λy=>Cx (base y.x) b y.s y.m (rw y.x y.o)/\Rd.wp (Rd.loop body y.x) y.s Q E/\wt y.x+4*mu y.s<=500000000/\mu y.s<=mu s,λy=>mu y.s,⟨x0,s,st,U⟩,⟨hc,h,hl,Nat.le_refl _⟩,he,St.le_refl _,
   λy ⟨j1,j2,j3,j4⟩=>hb y.x y.s y.m y.o j1 (by rw [<-Rd.wp_loop];exact j2) j3 j4⟩
section
variable {st0 st:St} {b d:Nat} {s:An} {rows:List (AH×List Nd)} {K:As->St->Prop} {L:FC}
attribute [local irreducible] Go.Aw.Aj
theorem ek (hb:s.Ev.length<=500000000) (h:K (.ret (.Bc [D9 (DX s).1,.bool (DX s).2])) st):PC 269 [D9 s] st K:=by
 refine pB Tryz.func269 ?_
 have h0:¬Kj s=0->s.Ev≠[]:=λe e2=>e (by unfold Kj;rw [e2];rfl)
 unfold DX at h
 by_cases U:PZ s=true
 .by_cases hw:s.wait=1
  .rw [if_neg AC] at h
   repeat' ((conv=>whnf);(first|refine BS ?_|refine Dk ?_ ?_|refine YY ?_|refine PQ ?_)<;>intros)
   all_goals first|exact AF rfl h|(rw [U] at *;simp at *)
  .by_cases ht:Kj s=0
   .rw [if_neg AC] at h
    repeat' ((conv=>whnf);(first|refine BS ?_|refine Dk ?_ ?_|refine YY ?_|refine PQ ?_)<;>intros)
    all_goals first|exact AF rfl h|(rw [U] at *;simp at *)
   .rw [if_pos ⟨U,hw,ht⟩] at h
    repeat' ((conv=>whnf);(first|refine BS ?_|refine Dk ?_ ?_|refine YY ?_|refine PQ ?_|refine M9 (h0 ht) hb ?_)<;>intros)
    all_goals first|exact AF rfl h|(rw [U] at *;simp at *)
 .rw [if_neg (by simp [U])] at h
  repeat' ((conv=>whnf);(first|refine BS ?_|refine Dk ?_ ?_|refine YY ?_|refine PQ ?_)<;>intros)
  all_goals first|exact AF rfl h|exact absurd ‹_› U
def bv (x:Bool):V:=.bool x
theorem mV {f m:Bool}:A9 bv 223 (λb=>[.ptr b 0,.bool f,.bool m]) (JU f m):=by
 refine ⟨λ{st0 b s st rows K} U h=>?_⟩
 simp only [JU,Rd.Ah,Rd.Aq,Rd.wp_seq,Rd.wp_ret] at h
 have hc1:=U.look
 refine pB Tryz.func223 ?_
 have hcl:Rd.wp On s (λ_ s'=>∀st',Cx st0 b s' st' rows->K (.ret (.bool true)) st') (λe s'=>∀st',Cy st0 b s' st' rows->K (.B7 (fault e.1)) st')->if (DX s).2=true then mu (DX s).1<=mu s/\∀st',Cx st0 b (DX s).1 st' rows->K (.ret (.bool true)) st'
  else Rd.wp (Q2:Rd Unit) s (λ_ s'=>∀st',Cx st0 b s' st' rows->K (.ret (.bool true)) st') (λe s'=>∀st',Cy st0 b s' st' rows->K (.B7 (fault e.1)) st'):=λh=>by
  unfold On Rd.wp at h
  dsimp only at h
  split
  .rename_i e;rw [if_pos e] at h;exact ⟨Oo e,h⟩
  .rename_i e;rw [if_neg e] at h;exact h
 have hmu:=U.mu
 cases f
 .simp only [Bool.false_eq_true,if_false] at h
  cases m
  .simp only [Bool.false_eq_true,if_false] at h
   repeat' ((conv=>whnf);(first|refine BS ?_|refine Gg ?_ ?_|refine Dk ?_ ?_|refine Hd U.has U.hb ?_|refine LG hc1 ‹_› AC ?_|exact De hc1 ‹_› rfl|exact FO)<;>intros)
  .simp only [if_true] at h
   repeat' ((conv=>whnf);first|refine XW (hcl h) (λe h=>?_) (λe h=>?_)|(refine BS ?_;intros)|(refine Gg ?_ ?_<;>intro e h)|(refine Dk ?_ ?_<;>intro _)|refine Hd U.has U.hb ?_|refine LG hc1 h AC (λs1 st1 hz hm U h=>?_)|refine Am (St.Ai ..) ?_|refine ek U.hb ?_|refine zI hc1 AC (λst1 U=>?_)|exact De U h.2 rfl|refine T0 hc1 h (λe s1 st1 U h=>?_)|exact FO)
 .simp only [if_true] at h
  by_cases hi:BB s 15 [125]=true
  .rw [if_pos hi] at h
   obtain ⟨h1,h2⟩:(Ae s).1.kind=15/\(Ae s).1.text=[125]:=by
    unfold BB at hi
    simp only [Bool.and_eq_true,beq_iff_eq] at hi
    exact hi
   repeat' ((conv=>whnf);(first|refine BS ?_|refine Gg ?_ ?_|refine Dk ?_ ?_|refine Hd U.has U.hb ?_|refine LG hc1 ‹_› AC ?_|exact FO)<;>intros)
  .rw [if_neg hi] at h
   have hx:(Ae s).1.kind=15->¬(Ae s).1.text=[125]:=λh1 h2=>hi (by unfold BB;rw [h1,h2];rfl)
   cases m
   .simp only [Bool.false_eq_true,if_false] at h
    repeat' ((conv=>whnf);(first|refine lY (beq_eq_false_iff_ne.2 (hx ‹_›)) ?_|refine BS ?_|refine Gg ?_ ?_|refine Dk ?_ ?_|refine Hd U.has U.hb ?_|exact De hc1 ‹_› rfl|exact FO)<;>intros)
   .simp only [if_true] at h
    repeat' ((conv=>whnf);(first|refine lY (beq_eq_false_iff_ne.2 (hx ‹_›)) ?_|refine BS ?_|refine Gg ?_ ?_|refine Dk ?_ ?_|refine Hd U.has U.hb ?_|refine Am (St.Ai ..) ?_|refine ek U.hb ?_|refine T0 hc1 ‹_› ?_|exact FO)<;>intros)
theorem Qh {f m U:Bool} (e:U=m):A9 bv 223 (λb=>[.ptr b 0,.bool f,.bool m]) (JU f U):=by rw [e];exact mV
theorem wi {b:Bool} (h:b=true):(!b)=false:=by rw [h];rfl
theorem wg {b:Bool} (h:b=false):(!b)=true:=by rw [h];rfl
theorem RB {own:AH}:As.ret (enc (Dr false l))=(As.ret (.agg [.int .i64 2,.int .i64 0,.str [],.int .i64 0,.int .i64 0,.slice 6 (l.map AK) own])).wk:=by unfold Dr;rw [mS];rfl
theorem RC {own:AH}:As.ret (enc (Dr true l))=(As.ret (.agg [.int .i64 2,.int .i64 1,.str [],.int .i64 0,.int .i64 0,.slice 6 (l.map AK) own])).wk:=by unfold Dr;rw [mS];rfl
def zn (base:List Nd->St) (st0:St) (b:Nat) (i:FuncId) (cs:List V) (item:List Nd->Rd Nd):Prop:=∀(l:List Nd) (s:An) (st:St) (rows:List (AH×List Nd)) (K:As->St->Prop) (Q:Nd->An->Prop) (E:Er->An->Prop),Cx (base l) b s st rows->Rd.wp (item l) s Q E->
 (∀n s1 U,mu s1<mu s->Cx (base (l++[n])) b s1 U rows->Q n s1->K (.ret (enc n)) U)->(∀e s1 U,Cy st0 b s1 U rows->E e s1->K (.B7 (fault e.1)) U)->PC i cs st K
theorem T4 {i:FuncId} {fs:List V} {starts:Tk->Bool} {base:List Nd->St} {item:List Nd->Rd Nd} (hg:∀{t:Tk} {st:St} {K:As->St->Prop},K (.ret (.bool (starts t))) st->PC g [FX t] st K)
 (hi:zn base st0 b i (fs++cs) item) (hx:∀{l s st rows},Cy (base l) b s st rows->Cy st0 b s st rows) (hc:Cx (base []) b s st rows)
 (h:Rd.wp (JN starts item) s (λn s'=>∀l st',Cx (base l) b s' st' rows->K (.ret (enc n)) st') (λe s'=>∀st',Cy st0 b s' st' rows->K (.B7 (fault e.1)) st')):
 PC 189 [.ptr b 0,.func g [] [],.func i fs cs] st K:=by
 simp only [JN,Rd.Ah,Rd.Aq,Rd.wp_seq,Rd.wp_ret] at h
 have hmu:=hc.mu
 refine pB Tryz.func189 ?_
 repeat' ((conv=>whnf);first|exact DF|(refine BS ?_;intros)|(refine DG ?_ ?_ ?_;rotate_left)|(refine Gg ?_ ?_<;>intro e h)|(refine Dk ?_ ?_<;>intro _)|(refine U1 ?_;intro U hc)|(refine LV ?_ ?_<;>(first|intro n s1 U hr hm hc h|intro e s1 U hc h))|exact FO|(refine L4 ?_;intro own1 U hc)|refine Av (λe1=>?_)|refine LG hc h AC (λs1 U hz hm hc h=>?_)|exact B1 (hx hc) h|refine Ab [(0,true),(1,true),(2,true),(3,true),(4,true),(5,true),(6,false),(7,false),(8,true),(9,false)] [] GE ?_|refine Ab [(0,true),(1,true),(2,true),(3,false),(4,true),(5,false),(6,true),(7,false)] [1] GE ?_|refine Ab [(0,true),(1,true),(2,true),(3,true),(4,true),(5,false),(6,false),(7,true),(8,false)] [] GE ?_|fail)
 .refine YU base (λl own=>[]) (λl own=>[(1,[.int .i64 2,.int .i64 0,.str [],.int .i64 0,.int .i64 0,.slice 6 (l.map AK) own])]) [0,1,2,6,7] [0] (λl own=>(own,l)::rows) (λl=>l.length) .full (hc.push []) h f8 Yl ?_
  intro l s1 U own1 hc h hl hm1
  simp only [Ij,Rd.Ah,Rd.Aq,Rd.wp_seq,Rd.wp_ret,Rd.BI] at h
  repeat' ((conv=>whnf);(first|exact DF|refine BS ?_|(refine DG ?_ ?_ ?_;rotate_left)|refine Gg ?_ ?_|refine Dk ?_ ?_|fail)<;>intros)
  unfold SS at h
  refine CJ (λ_ _=>[]) (λ_ _=>[]) [0,1,2,6,7] [0,1] (λ_ _=>(own1,l)::rows) (λ_=>l.length) .full ‹_› ‹_› hl Yl ?_
  intro u s2 st2 own2 hc h hl hm2
  simp only [Xj,Rd.Ah,Rd.Aq,Rd.wp_seq,Rd.wp_ret,Rd.BI] at h
  repeat' ((conv=>whnf);first|exact DF|(refine BS ?_;intros)|(refine DG ?_ ?_ ?_;rotate_left)|(refine Gg ?_ ?_<;>intro e h)|(refine Dk ?_ ?_<;>intro _)|(refine U1 ?_;intro U hc)|(refine LV ?_ ?_<;>(first|intro n s1 U hr hm hc h|intro e s1 U hc h))|exact FO|(refine L4 ?_;intro own1 U hc)|refine Av (λe1=>?_)|refine Xi ?_|refine hg ?_|refine LG hc h (QE ‹_›) (λs1 U hz hm hc h=>?_)|refine A9.go (Qh (wi ‹_›)) hc h (λv s1 U hr hm hc h=>?_) (λe s1 U hc h=>?_)|refine A9.go (Qh (wg ‹_›)) hc h (λv s1 U hr hm hc h=>?_) (λe s1 U hc h=>?_)|refine RM ?_|refine hi _ _ _ _ _ _ _ hc h (λn s1 U hm hc h=>?_) (λe s1 U hc h=>?_)|exact B1 (hx hc).drop h|exact B1 (Cy.drop hc) h|exact De hc.drop (h l) RB|exact De hc.drop (h (l++[_])) RB|refine Ab [(0,true),(1,true),(2,true),(3,true),(4,true),(5,true),(6,false),(7,false),(8,true),(9,false)] [] GE ?_|refine Ab [(0,true),(1,true),(2,true),(3,false),(4,true),(5,false),(6,true),(7,false)] [1] GE ?_|refine Ab [(0,true),(1,true),(2,true),(3,true),(4,true),(5,false),(6,false),(7,true),(8,false)] [] GE ?_|fail)
  all_goals conv=>whnf
  all_goals exact ⟨⟨(),_,_,.full⟩,⟨hc,Rd.E6 h AC,RL,RL⟩,RL,Yl,St.le_refl _⟩
 .refine YU base (λl own=>[]) (λl own=>[(1,[.int .i64 2,.int .i64 1,.str [],.int .i64 0,.int .i64 0,.slice 6 (l.map AK) own])]) [0,1,2,6,7] [0] (λl own=>(own,l)::rows) (λl=>l.length) .full (hc.push []) h f8 Yl ?_
  intro l s1 U own1 hc h hl hm1
  simp only [Ij,Rd.Ah,Rd.Aq,Rd.wp_seq,Rd.wp_ret,Rd.BI] at h
  repeat' ((conv=>whnf);(first|exact DF|refine BS ?_|(refine DG ?_ ?_ ?_;rotate_left)|refine Gg ?_ ?_|refine Dk ?_ ?_|fail)<;>intros)
  unfold SS at h
  refine CJ (λ_ _=>[]) (λ_ _=>[]) [0,1,2,6,7] [0,1] (λ_ _=>(own1,l)::rows) (λ_=>l.length) .full ‹_› ‹_› hl Yl ?_
  intro u s2 st2 own2 hc h hl hm2
  simp only [Xj,Rd.Ah,Rd.Aq,Rd.wp_seq,Rd.wp_ret,Rd.BI] at h
  repeat' ((conv=>whnf);first|exact DF|(refine BS ?_;intros)|(refine DG ?_ ?_ ?_;rotate_left)|(refine Gg ?_ ?_<;>intro e h)|(refine Dk ?_ ?_<;>intro _)|(refine U1 ?_;intro U hc)|(refine LV ?_ ?_<;>(first|intro n s1 U hr hm hc h|intro e s1 U hc h))|exact FO|(refine L4 ?_;intro own1 U hc)|refine Av (λe1=>?_)|refine Xi ?_|refine hg ?_|refine LG hc h (QE ‹_›) (λs1 U hz hm hc h=>?_)|refine A9.go (Qh (wi ‹_›)) hc h (λv s1 U hr hm hc h=>?_) (λe s1 U hc h=>?_)|refine A9.go (Qh (wg ‹_›)) hc h (λv s1 U hr hm hc h=>?_) (λe s1 U hc h=>?_)|refine RM ?_|refine hi _ _ _ _ _ _ _ hc h (λn s1 U hm hc h=>?_) (λe s1 U hc h=>?_)|exact B1 (hx hc).drop h|exact B1 (Cy.drop hc) h|exact De hc.drop (h l) RC|exact De hc.drop (h (l++[_])) RC|refine Ab [(0,true),(1,true),(2,true),(3,true),(4,true),(5,true),(6,false),(7,false),(8,true),(9,false)] [] GE ?_|refine Ab [(0,true),(1,true),(2,true),(3,false),(4,true),(5,false),(6,true),(7,false)] [1] GE ?_|refine Ab [(0,true),(1,true),(2,true),(3,true),(4,true),(5,false),(6,false),(7,true),(8,false)] [] GE ?_|fail)
  all_goals conv=>whnf
  all_goals exact ⟨⟨(),_,_,.full⟩,⟨hc,Rd.E6 h AC,RL,RL⟩,RL,Yl,St.le_refl _⟩
theorem Q4 {i:FuncId} {starts:Tk->Bool} (hg:∀{t:Tk} {st:St} {K:As->St->Prop},K (.ret (.bool (starts t))) st->PC g [FX t] st K) (hi:A9 enc i (λb=>[pv b d]) item) (hF:Dv item):
 A9 enc 189 (λb=>[.ptr b 0,.func g [] [],.func i [pv b d] []]) (FT starts item):=
 ⟨λ{st0 b s st rows K} U h=>T4 (fs:=[pv b d]) (cs:=[]) (base:=λ_=>st0) (item:=λ_=>item) hg (λl s st rows K Q E U h k kb=>hi.vX hF.vT U h (λn s1 st1 _ hm U q=>k n s1 st1 hm U q) kb) (λh=>h) U
   (Rd.wp_mono (show Rd.wp (JN starts λ_=>item) s _ _ from h) (λ_ _ _ h _=>h) (λ_ _ _ h=>h))⟩
end
section
variable {st:St} {R:As->St->Prop}
attribute [local irreducible] Go.Aw.Aj
theorem eh {c:Nat} {s:An} {q:Rs} (hq:¬deep<1->∀(b:Nat) (st5:St) (R:As->St->Prop),st.le st5->Has st5 b s->E5 st5 b R q->PC f [.ptr b 0,.int .i64 (if 100<deep then 100 else deep),.ptr c 0] st5 R) (h:R (.ret (Ko (B9 s deep q))) st):PC 64 [D9 s,.int .i64 deep,.func f [] [.ptr c 0]] st R:=by
 refine Bo.ends (J7 Ac [6,7,8,9,12] Tryz.func64 rfl Do rfl rfl rfl rfl rfl rfl ⟨_,Tryz.func107,rfl,Do⟩ rfl ?_)
 repeat' ((conv=>whnf);first|  (refine Dk ?_ ?_<;>intro _)|refine D5 (λb5 f5=>?_)|refine Am (St.Ai ..) ?_|fail)
 rename_i b1 f1 b2 f2 b3 f3 b4 f4
 obtain ⟨n12,f2a⟩:=A5 f2
 obtain ⟨n23,f3a⟩:=A5 f3
 obtain ⟨n13,f3b⟩:=A5 f3a
 obtain ⟨n34,f4a⟩:=A5 f4
 obtain ⟨n24,f4b⟩:=A5 f4a
 obtain ⟨n14,f4c⟩:=A5 f4b
 obtain ⟨n45,f5a⟩:=A5 f5
 obtain ⟨n35,f5b⟩:=A5 f5a
 obtain ⟨n25,f5c⟩:=A5 f5b
 obtain ⟨n15,f5d⟩:=A5 f5c
 conv=>whnf
 refine ⟨rfl,AY rfl ?_⟩
 generalize hst5:St.Aa _ b5 [V.ptr b4 0]=st5
 have k1:st5.box b1=some CX:=by subst hst5;rw [St.Ak n15.symm,St.Ak n15.symm,St.Ak n14.symm,St.Ak n13.symm,St.Ak n12.symm,St.Ai];rfl
 have k2:st5.box b2=some [.slice 4 (AU Fk.AL) .full,.int .i64 Fk.pos,.slice 1 (ints Fk.Ev) .full,.int .i64 Fk.wait]:=by subst hst5;rw [St.Ak n25.symm,St.Ak n25.symm,St.Ak n24.symm,St.Ak n23.symm,St.Ai];rfl
 have k3:st5.box b3=some [.int .i64 0]:=by subst hst5;rw [St.Ak n35.symm,St.Ak n35.symm,St.Ak n34.symm,St.Ai]
 have k4:Has st5 b4 s:=by subst hst5;refine .inr ⟨TR,Fk,.full,.full,0,?_⟩;rw [St.Ak n45.symm,St.Ak n45.symm,St.Ai];rfl
 have k5:st5.box b5=some [.ptr b4 0]:=by subst hst5;rw [St.Ai]
 have kle:st.le st5:=by
  subst hst5
  exact St.Ag (St.Ag (St.Ag (St.Ag (St.Ag (St.Ag (St.le_refl _) f1.1 _) f2a.1 _) f3b.1 _) f4c.1 _) f5d.1 _) f5d.1 _
 have kpan:∀(U:St) (e:Int) (s':An),Ii st5 U b4 s'->U.box b5=some [.ptr b4 0]/\U.box b1=some CX/\U.box b2=some [.slice 4 (AU Fk.AL) .full,.int .i64 Fk.pos,.slice 1 (ints Fk.Ev) .full,.int .i64 Fk.wait]/\U.box b3=some [.int .i64 0]/\st.le U:=by
  rintro U e s' ⟨_,cs,rfl⟩
  exact ⟨by rw [St.Ak n45];exact k5,by rw [St.Ak n14.symm];exact k1,by rw [St.Ak n24.symm];exact k2,by rw [St.Ak n34.symm];exact k3,St.Ag kle f4c.1 _⟩
 clear hst5 f2 f3 f4 f5 f3a f4a f4b f5a f5b f5c
 refine Ad (Af Ac ?_)
 repeat' ((conv=>whnf);(first|  refine Dk ?_ ?_|refine Am k5 ?_|refine Ct ?_|fail)<;>intros)
 .refine JO (n0:=Hv) (s0:=Fk) k5 k4 k1 k2 k3 n15 n14 n12 n13 n25 n24 n23 ?_
  have g1:(((st5.Aa b1 CX).Aa b2 s.cells).Aa b3 [.int .i64 2]).box b1=some CX:=by rw [St.Ak n13.symm,St.Ak n12.symm,St.Ai]
  have g2:(((st5.Aa b1 CX).Aa b2 s.cells).Aa b3 [.int .i64 2]).box b2=some s.cells:=by rw [St.Ak n23.symm,St.Ai]
  have gl:st.le (((st5.Aa b1 CX).Aa b2 s.cells).Aa b3 [.int .i64 2]):=St.Ag (St.Ag (St.Ag kle f1.1 _) f2a.1 _) f3b.1 _
  unfold B9 at h
  rw [if_pos ‹_›] at h
  repeat' ((conv=>whnf);(first|  refine Dk ?_ ?_|refine Am g1 ?_|refine Am g2 ?_|refine Am (St.Ai ..) ?_|fail)<;>intros)
  all_goals exact EK gl rfl h
 .rename_i hd
  unfold B9 at h
  rw [if_neg hd] at h
  have hq:=λst5 R h=>hq hd b4 st5 R h
  refine Ad (Af Ac ?_)
  cases q with
  |inl q=>
   obtain ⟨e,s'⟩:=q
   repeat' ((conv=>whnf);first|  (refine Dk ?_ ?_<;>intro _)|refine Am k5 ?_|refine ⟨_,rfl,?_⟩|refine hq _ _ kle k4 (λU hu=>?_)|fail)
   obtain ⟨j5,j1,j2,j3,jle⟩:=kpan U e s' hu
   refine JO (n0:=Hv) (s0:=Fk) j5 hu.1 j1 j2 j3 n15 n14 n12 n13 n25 n24 n23 ?_
   have g1:(((U.Aa b1 CX).Aa b2 s'.cells).Aa b3 [.int .i64 e]).box b1=some CX:=by rw [St.Ak n13.symm,St.Ak n12.symm,St.Ai]
   have g2:(((U.Aa b1 CX).Aa b2 s'.cells).Aa b3 [.int .i64 e]).box b2=some s'.cells:=by rw [St.Ak n23.symm,St.Ai]
   have gl:st.le (((U.Aa b1 CX).Aa b2 s'.cells).Aa b3 [.int .i64 e]):=St.Ag (St.Ag (St.Ag jle f1.1 _) f2a.1 _) f3b.1 _
   repeat' ((conv=>whnf);(first|  refine Dk ?_ ?_|refine Am g1 ?_|refine Am g2 ?_|refine Am (St.Ai ..) ?_|fail)<;>intros)
   all_goals exact EK gl rfl h
  |inr q=>
   obtain ⟨n,s'⟩:=q
   have kret:=λU hu=>kpan U 0 s' hu
   repeat' ((conv=>whnf);first|  (refine Dk ?_ ?_<;>intro _)|refine Am k5 ?_|refine ⟨_,rfl,?_⟩|refine hq _ _ kle k4 (λU hu=>?_)|refine Am (kret U hu).2.1 ?_|fail)
   obtain ⟨j5,j1,j2,j3,jle⟩:=kret U hu
   generalize hst7:U.Aa b1 (AK n)=st7
   have i1:st7.box b1=some (AK n):=by subst hst7;rw [St.Ai]
   have i5:st7.box b5=some [.ptr b4 0]:=by subst hst7;rw [St.Ak n15];exact j5
   have i2:st7.box b2=some [.slice 4 (AU Fk.AL) .full,.int .i64 Fk.pos,.slice 1 (ints Fk.Ev) .full,.int .i64 Fk.wait]:=by subst hst7;rw [St.Ak n12];exact j2
   have i3:(st7.Aa b2 s'.cells).box b3=some [.int .i64 0]:=by subst hst7;rw [St.Ak n23,St.Ak n13];exact j3
   have i4:Has st7 b4 s':=by
    subst hst7
    rcases hu.1 with e|⟨t,u,o1,o2,e',e⟩
    .exact .inl (by rw [St.Ak n14];exact e)
    .exact .inr ⟨t,u,o1,o2,e',by rw [St.Ak n14];exact e⟩
   have ile:st.le st7:=by subst hst7;exact St.Ag jle f1.1 _
   refine Ad (Mn Ac (Bq _) (λbs=>mf bs b1 b2 b3 b4 b5 (AK n) s'.cells) (mh st7 b2 b3 s'.cells) Qe GE Yl (by rw [<-hst7];exact St.le_refl _) ?_ ?_)
   .skip
    unfold Qe
    rcases i4 with i4|⟨t,u,q1,q2,q3,i4⟩
    all_goals repeat' (first|refine List.forall_mem_cons.2 ⟨?_,?_⟩|exact λ_ h=>nomatch h)
    repeat' ((conv=>whnf);(first|  refine Dk ?_ ?_|refine Am i5 ?_|refine Am i1 ?_|refine Am i4 ?_|refine Am i2 ?_|refine Am i3 ?_|fail)<;>intros)
    all_goals conv=>whnf
    all_goals (refine ⟨Yl,?_⟩)
    all_goals first|exact St.le_refl _|exact EO i1
   .refine Af Ac (Q7 (bp:=b5) ?_)
    have g1:((st7.Aa b2 s'.cells).Aa b3 [.int .i64 0]).box b1=some (AK n):=by rw [St.Ak n13.symm,St.Ak n12.symm];exact i1
    have g2:((st7.Aa b2 s'.cells).Aa b3 [.int .i64 0]).box b2=some s'.cells:=by rw [St.Ak n23.symm,St.Ai]
    have gl:st.le ((st7.Aa b2 s'.cells).Aa b3 [.int .i64 0]):=St.Ag (St.Ag ile f2a.1 _) f3b.1 _
    repeat' ((conv=>whnf);(first|  refine Dk ?_ ?_|refine Am g1 ?_|refine Am g2 ?_|refine Am (St.Ai ..) ?_|fail)<;>intros)
    all_goals exact EK gl rfl h
end
def Dc (A:Rd Nd) (s:An):Rs:=match A.run s with
 | .inl p=>.inl (p.1.1,p.2)
 | .inr p=>.inr p
section
variable {st0 st:St} {b c d:Nat} {s:An} {K R:As->St->Prop}
theorem Cx.Xah {s':An} (h:Has st' b s') (hr:∃cs,Rx (st.Aa b cs) st' []):∃U,Ii st U b s'/\St.le U st':=by
 obtain ⟨cs,hr⟩:=hr
 have hb:=hr.le.1 b cs (St.Ai ..)
 refine ⟨st.Aa b cs,⟨?_,cs,rfl⟩,hr.le⟩
 rcases h with e|⟨t,u,o1,o2,e0,e⟩
 .rw [hb] at e;injection e with e;subst e;exact .inl (St.Ai ..)
 .rw [hb] at e;injection e with e;subst e;exact .inr ⟨t,u,o1,o2,e0,St.Ai ..⟩
theorem Ta {mk:Nat->List V} {A:Rd Nd} (hf:A9 enc f mk A) (hs:Has st b s) (hm:mu s<=100000000) (ht:E5 st b K (Dc A s)):PC f (mk b) st K:=by
 refine Bo.ends (hf.ap (Cx.start hs hm) (Rd.aE (λv s' e st' hc=>?_) (λe s' he st' hc=>?_)))
 .unfold Dc at ht
  rw [e] at ht
  obtain ⟨U,hu,hl⟩:=Cx.Xah hc.has hc.rx
  exact ⟨_,U,.inl rfl,hl,ht U hu⟩
 .unfold Dc at ht
  rw [he] at ht
  obtain ⟨U,hu,hl⟩:=Cx.Xah hc.has hc.rx
  exact ⟨_,U,.inl rfl,hl,ht U hu⟩
theorem yN {A:Rd Nd} (hA:A9 enc g (λb=>[pv b d]) A) (hx:st.box c=some [.func g [] []]) (hs:Has st b s) (hm:mu s<=100000000) (ht:E5 st b K (Dc A s)):PC 308 [.ptr b 0,.int .i64 (d:Int),.ptr c 0] st K:=by
 have U:∀{K:As->St->Prop},E5 st b K (Dc A s)->PC g [pv b d] st K:=λh=>Ta hA hs hm h
 refine pB Tryz.func308 ?_
 unfold Dc at *
 cases hr:A.run s with
 |inl p=>
  rw [hr] at ht U
  repeat' ((conv=>whnf);first|  refine Am hx ?_|refine U (λst1 hu=>?_))
  all_goals exact ⟨_,_,.inl rfl,St.le_refl _,ht _ hu⟩
 |inr p=>
  rw [hr] at ht U
  repeat' ((conv=>whnf);first|  refine Am hx ?_|refine U (λst1 hu=>?_))
  all_goals exact AF rfl (ht _ hu)
theorem mX {A:Nat->Rd Nd} (hA:∀d:Nat,1<=d->d<=100->A9 enc g (λb=>[pv b d]) (A d)) (hm:mu s<=100000000) (h:K (.ret (Ko (B9 s deep (Dc (A (DZ deep)) s)))) st):
 PC 271 [D9 s,.int .i64 deep,.func g [] []] st K:=by
 refine AM Ac [] Tryz.func271 rfl Do rfl ?_
 refine Ad (Af Ac ?_)
 repeat' ((conv=>whnf);(first|  fail)<;>intros)
 refine Mg 5 1 rfl rfl rfl (λc fc=>?_)
 refine Af Ac ?_
 have hq:¬deep<1->∀(b:Nat) (U:St) (R:As->St->Prop),(st.Aa c [.func g [] []]).le U->Has U b s->E5 U b R (Dc (A (DZ deep)) s)->PC 308 [.ptr b 0,.int .i64 (if 100<deep then 100 else deep),.ptr c 0] U R:=λhd b U R hle hs ht=>by
  have e:(if 100<deep then 100 else deep)=((DZ deep:Nat):Int):=by unfold DZ;split<;>omega
  rw [e]
  exact yN (hA _ (by unfold DZ;split<;>omega) (by unfold DZ;split<;>omega)) (hle.1 _ _ (St.Ai ..)) hs hm ht
 obtain ⟨n,s',e,hq3⟩:∃n s' e,B9 s deep (Dc (A (DZ deep)) s)=(n,s',e):=⟨_,_,_,rfl⟩
 rw [hq3] at h
 have hcat:∀{K:As->St->Prop},K (.ret (Rl n s' e)) (st.Aa c [.func g [] []])->PC 64 [D9 s,.int .i64 deep,.func 308 [] [.ptr c 0]] (st.Aa c [.func g [] []]) K:=λk=>eh (s:=s) (q:=Dc (A (DZ deep)) s) hq (by rw [hq3];exact k)
 repeat' ((conv=>whnf);(first|  refine hcat ?_)<;>intros)
 all_goals exact EK (St.Ag (St.le_refl _) fc.1 _) rfl h
end
section
variable {d:Nat}
theorem mz {t:Tk} {st:St} {K:As->St->Prop} (h:K (.ret (.bool (Ot t))) st):PC 389 [FX t] st K:=by
 refine pB Tryz.func389 ?_
 repeat' ((conv=>whnf);(first|  refine Dk ?_ ?_|refine M1 ?_|refine VH ?_)<;>intros)
 all_goals conv=>whnf
 all_goals (refine AB h ?_;clear h;simp_all [Ot])
theorem iq (hi:A9 enc 272 (λb=>[pv b d]) item) (U:Dv item):A9 enc 356 (λb=>[pv b d]) (FT Ot item):=by
 refine ⟨λ{st0 b s st rows K} hc h=>?_⟩
 refine pB Tryz.func356 ?_
 repeat' ((conv=>whnf);(first|  exact FO|refine Gc.go (by first|  exact (Q4 (λh=>mz ‹_›) hi U).a) ?_ ?_)<;>intros)
theorem ir (hi:A9 enc 388 (λb=>[pv b d]) item) (U:Dv item):A9 enc 415 (λb=>[pv b d]) (FT GK item):=by
 refine ⟨λ{st0 b s st rows K} hc h=>?_⟩
 refine pB Tryz.func415 ?_
 repeat' ((conv=>whnf);(first|  exact FO|refine Gc.go (by first|  exact (Q4 (λh=>M1 ‹_›) hi U).a) ?_ ?_)<;>intros)
theorem l7 (hi:A9 enc 414 (λb=>[pv b d]) item) (U:Dv item):A9 enc 397 (λb=>[pv b d]) (FT GK item):=by
 refine ⟨λ{st0 b s st rows K} hc h=>?_⟩
 refine pB Tryz.func397 ?_
 repeat' ((conv=>whnf);(first|  exact FO|refine Gc.go (by first|  exact (Q4 (λh=>M1 ‹_›) hi U).a) ?_ ?_)<;>intros)
structure Lev (D:Nat) (full:Rd Nd) (L:FC):Prop where
 atom:A9 enc 349 (λb=>[pv b D]) (vO L)
 exp:A9 enc 353 (λb=>[pv b D]) (Rt full L)
 ops:A9 enc 310 (λb=>[pv b D]) (opsL L)
 stmt:A9 enc 388 (λb=>[pv b D]) (N7 full L)
 alt:A9 enc 414 (λb=>[pv b D]) (rL full L)
 decl:A9 enc 272 (λb=>[pv b D]) (T9 full L)
 decls:A9 enc 356 (λb=>[pv b D]) (FT Ot (T9 full L))
 stmts:A9 enc 415 (λb=>[pv b D]) (FT GK (N7 full L))
 alts:A9 enc 397 (λb=>[pv b D]) (FT GK (rL full L))
 HP:∀o,A9 enc 418 (λb=>[pv b D,enc o]) (Fw (pf L) full (Rt full L) o)
 list:∀o,A9 enc 420 (λb=>[pv b D,enc o]) (Sg (Rt full L) (N7 full L) o)
theorem lev {full:Rd Nd} {L:FC} (hL:Mh d L) (hD:MQ L) (hf:A9 enc 350 (λb=>[pv b d]) full) (hF:Dv full):Lev d full L:=by
 have atom:=rS hL
 have dat:=Ni hD
 have U:=cS hL atom Yd
 have ops:=ph U
 have exp:=xy U hf
 have stmt:=va hL exp
 have alt:=wZ hL ops exp stmt
 have decl:=sv hL atom dat ops (Ri (Ow hD)) exp stmt hf
 exact ⟨atom,exp,ops,stmt,alt,decl,iq decl (HS hF hD),ir stmt (KI hF hD),l7 alt (eu hF hD),λo=>Vg U hf exp,λo=>tZ exp stmt⟩
theorem zT:∀d,d<=100->Mh (d+1) (jB d)
 |0,_=>⟨Ea AC (λ_=>rfl) (λh=>absurd rfl h),Ea AC (λ_=>rfl) (λh=>absurd rfl h),Ea AC (λ_=>rfl) (λh=>absurd rfl h),Ea AC (λ_=>rfl) (λh=>absurd rfl h),
   Ea AC (λ_=>rfl) (λh=>absurd rfl h),Ea AC (λ_=>rfl) (λh=>absurd rfl h),λhx U h=>Qi AC (λ_=>rfl) U h (λh=>absurd rfl h),λhx U h=>Qi AC (λ_=>rfl) U h (λh=>absurd rfl h)⟩
 |d+1,h=>by
  have l:=lev (zT d AC) (KH d) (eL (d:=d) AC) (E8 _)
  have no:∀{p:Prop},d+1=0->p:=λe=>by cases e
  exact ⟨Ea AC no λ_=>l.atom,Ea AC no λ_=>l.exp,Ea AC no λ_=>l.ops,Ea AC no λ_=>l.decls,Ea AC no λ_=>l.stmts,Ea AC no λ_=>l.alts,
   λhx U h=>Qi AC no U h λ_ K h=>pQ (l.HP _) hx U h,λhx U h=>Qi AC no U h λ_ K h=>kH (l.list _) hx U h⟩
theorem zP (U:1<=d) (h:d<=100):Lev d (KO d) (jB (d - 1)):=by
 obtain ⟨d,rfl⟩:∃e,d=e+1:=⟨d - 1,AC⟩
 exact lev (zT d AC) (KH d) (eL (d:=d) AC) (E8 _)
def T8 (d:Nat):Rd Nd:=T9 (KO d) (jB (d - 1))
def bq (d:Nat):Rd Nd:=FT Ot (T8 d)
end
section
variable {st:St} {K:As->St->Prop} {s:An} {deep:Int}
theorem vG (hm:mu s<=100000000) (h:K (.ret (Ko (B9 s deep (Dc (T8 (DZ deep)) s)))) st):PC 226 [D9 s,.int .i64 deep] st K:=by
 refine pB Tryz.func226 ?_
 repeat' ((conv=>whnf);(first|  refine mX (s:=s) (A:=T8) (λd U h1=>(zP U h1).decl) hm ?_)<;>intros)
 all_goals exact AF rfl h
theorem rn (hm:mu s<=100000000) (h:K (.ret (Ko (B9 s deep (Dc (bq (DZ deep)) s)))) st):PC 326 [D9 s,.int .i64 deep] st K:=by
 refine pB Tryz.func326 ?_
 repeat' ((conv=>whnf);(first|  refine mX (s:=s) (A:=bq) (λd U h1=>(zP U h1).decls) hm ?_)<;>intros)
 all_goals exact AF rfl h
end
end Go.Proofs.Z
namespace Go.Proofs.Z
open Go Go.Aw
open Rd (ret seq fail Ha look loop)
def Vl (item:Rd Nd) (l:List Nd):Rd (Sum (List Nd) (List Nd)):=.seq item λn=>.look λs=>if BB s 15 [44]=true then .seq A4 λc=>.ret (.inl (l++[n]++[c])) else .ret (.inr (l++[n]))
def Vk (item:Rd Nd) (shut:List UInt8) (p:Bool×List Nd):Rd (Sum (Bool×List Nd) (List Nd)):=
 if p.1=true then .look λs=>if BB s 15 shut=true then .ret (.inr p.2) else .seq item λn=>.look λs=>if BB s 15 [44]=true then .seq A4 λc=>.ret (.inl (false,p.2++[n]++[c])) else .ret (.inr (p.2++[n]))
 else .seq item λn=>.look λs=>if BB s 15 [44]=true then .seq A4 λc=>.ret (.inl (false,p.2++[n]++[c])) else .ret (.inr (p.2++[n]))
def Fo (item:Rd Nd) (shut:List UInt8) (l:List Nd):Rd (List Nd):=.seq (.loop (Vk item shut) (true,l)) λl=>.seq (BG 15 shut) λc=>.ret (l++[c])
def EV (ks:List Int):Rd Nd:=.seq (BG 15 [40]) λo=>.seq (C8 ks) λn=>.seq (BG 15 [41]) λc=>.ret (At 3 [o,n,c])
def zF (n:Nd):Int:=match n.kids[1]? with
 |some x=>x.form
 |none=>0
def Kg:Rd Nd:=.look λs=>if BB s 15 [40]=true then .look λs0=>.seq (EV [5,6]) λn=>if (zF n==5)=true then .ret n else .Ha s0 Iq else C8 [1]
def J0:Rd Nd:=.look λs=>if BB s 15 [40]=true then EV [5,6] else C8 [1,2]
def SX (own:Bool):List Int:=if own then [1] else [1,3]
def Mx (own:Bool):List Int:=if own then [2] else [2,4]
def qA (own:Bool):List Int:=if own then [5,6] else [5,6,7,8]
abbrev XF:List UInt8:=[109,111,100,117,108,101]
abbrev dM:List UInt8:=[113,117,97,108,105,102,105,101,100]
abbrev wAs:List UInt8:=[97,115]
abbrev vz:List UInt8:=[104,105,100,105,110,103]
abbrev XE:List UInt8:=[105,109,112,111,114,116]
abbrev vw:List UInt8:=[101,120,112,111,114,116]
abbrev Xaj:List UInt8:=[115,97,102,101]
abbrev vB:List UInt8:=[117,110,115,97,102,101]
abbrev wO:List UInt8:=[116,121,112,101]
abbrev wN:List UInt8:=[100,97,116,97]
abbrev aw:List UInt8:=[110,101,119,116,121,112,101]
abbrev rh:List UInt8:=[99,108,97,115,115]
abbrev UX:List UInt8:=[105,110,115,116,97,110,99,101]
abbrev au:List UInt8:=[100,101,102,97,117,108,116]
abbrev av:List UInt8:=[102,111,114,101,105,103,110]
abbrev lv:List UInt8:=[100,101,114,105,118,105,110,103]
def Sm (l:List Nd):Rd Nd:=.look λs=>if BB s 15 [40]=true then .seq A4 λo=>.look λs=>if BB s 10 [46,46]=true then .seq A4 λd=>.seq (BG 15 [41]) λc=>.ret (At 52 (l++[o]++[d,c]))
 else .seq (Fo J0 [41] (l++[o])) λl=>.ret (At 52 l)
 else .ret (At 52 l)
def Y2 (own:Bool):Rd Nd:=.look λs=>if BB s 15 [40]=true then .seq (EV (qA own)) λn=>.ret (At 52 [n])
 else if ((Ae s).1.kind==2)=true then .seq (C8 (Mx own)) λn=>Sm [n]
 else if ((Ae s).1.kind==4)=true then .seq (C8 (Mx own)) λn=>Sm [n]
 else .seq (C8 (SX own)) λn=>.ret (At 52 [n])
def Sn (own:Bool):Rd Nd:=if own=true then Y2 own else .look λs=>if BB s 9 XF=true then .seq A4 λm=>.seq (C8 (Mx own)) λn=>.ret (At 52 [m,n]) else Y2 own
def V7 (own:Bool) (l:List Nd):Rd (Sum (List Nd) (List Nd)):=.look λs=>if BB s 15 [41]=true then .ret (.inr l) else Vl (Sn own) l
def EZ (own:Bool):Rd Nd:=.seq (BG 15 [40]) λo=>.seq (.loop (V7 own) [o]) λl=>.seq (BG 15 [41]) λc=>.ret (At 51 (l++[c]))
def Nx (l:List Nd):Rd Nd:=.seq (EZ true) λn=>.ret (At 50 (l++[n]))
def Nw (l:List Nd):Rd Nd:=.look λs=>if BB s 1 vz=true then .seq A4 λh=>Nx (l++[h])
 else if BB s 15 [40]=true then Nx l else .ret (At 50 l)
def Nv (l:List Nd):Rd Nd:=.seq (C8 [2,4]) λn=>.look λs=>if BB s 1 wAs=true then .seq A4 λa=>.seq (C8 [2,4]) λm=>Nw (l++[n]++[a]++[m]) else Nw (l++[n])
def G1:Rd Nd:=.seq A4 λi=>.look λs=>if BB s 1 dM=true then .seq A4 λq=>Nv ([i]++[q]) else Nv [i]
def KN (full:Rd Nd) (l:List Nd):Rd Nd:=.seq Kg λn=>.seq (BG 10 [58,58]) λc=>.seq full λt=>.ret (At 47 (l++[n]++[c]++[t]))
def Jj (full:Rd Nd) (l:List Nd):Rd Nd:=.look λs=>if ((Ae s).1.kind==14)=true then .seq A4 λt=>KN full (l++[t]) else KN full l
def Nu (full:Rd Nd) (l:List Nd):Rd Nd:=.look λs=>if (if BB s 1 Xaj=true then true else BB s 1 vB)=true then
 (if BB (Ae s).2.1 10 [58,58]=true then Jj full l else .seq A4 λt=>Jj full (l++[t]))
 else Jj full l
def KM (full:Rd Nd) (l:List Nd):Rd Nd:=.seq A4 λw=>.seq (C8 [1]) λn=>Nu full (l++[w]++[n])
def G0 (full:Rd Nd):Rd Nd:=.seq A4 λf=>.look λs=>if BB s 9 XE=true then KM full [f] else if BB s 1 vw=true then KM full [f] else Q2
def FF (whole:Rd Nd):Rd Nd:=.seq A4 λd=>.seq (BG 15 [40]) λo=>.seq (Fo whole [41] [d,o]) λl=>.ret (At 46 l)
def EU (n:Nd):Bool:=if n.kind==39 then n.kids.head?.all (Eb · [2])&&n.kids.tail.all (Eb · [1]) else Eb n [2]
def It (row:Rd Nd) (l:List Nd):Rd (List Nd×Nd):=.seq row λr=>.look λs=>if BB s 10 [61,62]=true then .seq A4 λa=>.seq row λq=>.ret (l++[r]++[a],q) else .ret (l,r)
def Hl (b:Bool):Rd Unit:=if b=true then .ret () else .fail Iq
def G8 (row whole:Rd Nd):Rd Nd:=.seq A4 λt=>.seq row λr=>.seq (Hl (EU r)) λ_=>.seq (BG 10 [61]) λe=>.seq whole λw=>.ret (At 41 ([t,r]++[e]++[w]))
def Hw (atom:Rd Nd):Rd Nd:=.seq A4 λb=>.seq atom λa=>.ret (At 40 [b,a])
def Hh (atom:Rd Nd):Rd Nd:=.look λs=>if BB s 5 [33]=true then Hw atom
 else if BB s 15 [40]=true then (if ((Ae (Ae s).2.1).1.kind==6)=true then EV [6] else atom)
 else atom
def Xz (t:Tk):Bool:=if t.kind==5 then t.text==[33] else if t.kind==15 then t.text==[40]||t.text==[91] else t.kind==2||t.kind==4||t.kind==1
def SD (atom:Rd Nd) (l:List Nd):Rd (Sum (List Nd) (List Nd)):=.look λs=>if Xz (Ae s).1=true then .seq (Hh atom) λn=>.ret (.inl (l++[n])) else .ret (.inr l)
def IX (atom:Rd Nd):Rd (List Nd):=.seq (Hh atom) λn=>.loop (SD atom) [n]
def F7 (n:Nd):Bool:=n.kind==40
def PG (l:List Nd):Rd Nd:=if l.length=1 then .ret (l.headD Hv) else .seq (Hl (!l.any F7)) λ_=>.ret (At 39 l)
def HZ (n:Nd):Bool:=Eb n [2]||(n.kind==3&&n.kids.length==3&&n.kids[1]?.any (Eb · [6]))
def VD (l:List Nd):Rd (Sum (List Nd) (List Nd)):=.look λs=>if BB s 15 [44]=true then .seq A4 λc=>.seq Kg λn=>.ret (.inl (l++[c]++[n])) else .ret (.inr l)
def HA (atom whole:Rd Nd):Rd Nd:=.seq Kg λn=>.seq (.loop VD [n]) λl=>.seq (BG 10 [58,58]) λc=>.look λs=>
 if BB s 5 [33]=true then .seq (Hw atom) λt=>.ret (At 13 (l++[c]++[t])) else .seq whole λt=>.ret (At 13 (l++[c]++[t]))
def MM:Rd Nd:=.look λs=>if ((Ae s).1.kind==6)=true then .seq A4 λt=>.ret (At 18 [t])
 else .look λs0=>.seq A4 λo=>.seq (C8 [1,2,3,4]) λn=>.seq (BG 15 [96]) λc=>if (n.form==2)=true then .ret (At 18 [o,n,c]) else .Ha s0 Iq
def GL (atom:Rd Nd) (l:List Nd):Rd Nd:=.seq (PG l) λa=>.seq MM λo=>.seq (IX atom) λr=>.seq (PG r) λb=>.ret (At 48 [a,o,b])
def Hs (atom:Rd Nd) (l:List Nd):Rd Nd:=.look λs=>if ((Ae s).1.kind==6)=true then GL atom l else if BB s 15 [96]=true then GL atom l
 else .seq (Hl (HZ (l.headD Hv))) λ_=>.ret (At 48 l)
def FV (atom whole:Rd Nd):Rd Nd:=.seq (IX atom) λl=>if (l.length==1&&HZ (l.headD Hv))=true then
 .look λs=>if BB s 15 [123]=true then .seq A4 λo=>.seq (Fo (HA atom whole) [125] (l++[o])) λl=>.ret (At 48 l) else Hs atom l
 else Hs atom l
def FG:Rd Nd:=.seq A4 λd=>.look λs=>if BB s 15 [40]=true then .seq A4 λo=>.seq (Fo (C8 [2,4]) [41] ([d]++[o])) λl=>.ret (At 49 l) else .seq (C8 [2,4]) λc=>.ret (At 49 ([d]++[c]))
def GY (k:Int) (l:List Nd):Rd Nd:=.look λs=>if BB s 9 lv=true then .seq FG λd=>.ret (At k (l++[d])) else .ret (At k l)
def eo (atom whole:Rd Nd) (p:List UInt8×List Nd):Rd (Sum (List UInt8×List Nd) (List Nd)):=.look λs=>if BB s 10 p.1=true then .seq A4 λe=>.seq (FV atom whole) λc=>.ret (.inl ([124],p.2++[e]++[c])) else .ret (.inr p.2)
def Ph (atom row whole:Rd Nd):Rd Nd:=.seq A4 λd=>.seq (It row [d]) λp=>.seq (Hl (EU p.2)) λ_=>.seq (.loop (eo atom whole) ([61],p.1++[p.2])) λl=>GY 42 l
def V8 (n:Nd):Bool:=if HZ (n.kids.headD Hv) then
 (if n.kids.length=2 then !F7 (n.kids[1]?.getD Hv)
 else if n.kids.length=4/\(n.kids[2]?.getD Hv).kind=13 then decide ((n.kids[2]?.getD Hv).kids.length=3)&& !F7 ((n.kids[2]?.getD Hv).kids[2]?.getD Hv) else false)
 else false
def G3 (atom row whole:Rd Nd):Rd Nd:=.seq A4 λd=>.seq (It row [d]) λp=>.seq (Hl (EU p.2)) λ_=>.seq (BG 10 [61]) λe=>.seq (FV atom whole) λc=>.seq (Hl (V8 c)) λ_=>GY 43 (p.1++[p.2]++[e]++[c])
def Pf (decls:Rd Nd) (k:Int) (l:List Nd) (U:Nd->Bool):Rd Nd:=.look λs=>if BB s 9 Kk=true then .seq A4 λw=>.seq decls λb=>.seq (Hl (b.kids.all U)) λ_=>.ret (At k (l++[At 31 [w,b]])) else .ret (At k l)
def IF (n:Nd):Bool:=n.kind==39&&n.kids.length==2&&Eb (n.kids[0]?.getD Hv) [2]&&Eb (n.kids[1]?.getD Hv) [1]
def Ny (n:Nd):Bool:=n.kind==39&&n.kids.length==2&&Eb (n.kids[0]?.getD Hv) [2,4]
def KE (row decls:Rd Nd):Rd Nd:=.seq A4 λc=>.seq (It row [c]) λp=>.seq (Hl (IF p.2)) λ_=>Pf decls 44 (p.1++[p.2]) λ_=>true
def FI (row decls:Rd Nd):Rd Nd:=.seq A4 λc=>.seq (It row [c]) λp=>.seq (Hl (Ny p.2)) λ_=>Pf decls 45 (p.1++[p.2]) λn=>n.kind==36
def XA (atom row whole full decl decls:Rd Nd):Rd Nd:=.look λs=>if ((Ae s).1.kind==9)=true then
 (if ((Ae s).1.text==XE)=true then G1
 else if ((Ae s).1.text==wO)=true then G8 row whole
 else if ((Ae s).1.text==wN)=true then Ph atom row whole
 else if ((Ae s).1.text==aw)=true then G3 atom row whole
 else if ((Ae s).1.text==rh)=true then KE row decls
 else if ((Ae s).1.text==UX)=true then FI row decls
 else if ((Ae s).1.text==au)=true then FF whole
 else if ((Ae s).1.text==av)=true then G0 full
 else decl)
 else decl
def UR (t:Tk):Bool:=(t.kind==9&&(t.text==XE||t.text==wO||t.text==wN||t.text==aw||t.text==rh||t.text==UX||t.text==au||t.text==av))||(GK t||Mv t)
def Xv (d:Nat):Rd Nd:=H0 (DS (DV (d - 1))) λs v s' h=>Nat.le_of_lt (BQ (BJ _) _ _ _ h)
def q6 (d:Nat):Rd Nd:=H0 (Hg (DS (DV (d - 1)))) λs v s' h=>Nat.le_of_lt (FH (BQ (BJ _)) _ _ _ h)
def XB (d:Nat):Rd Nd:=H0 (EF (DS (DV (d - 1)))) λs v s' h=>Nat.le_of_lt (GZ (BQ (BJ _)) _ _ _ h)
end Go.Proofs.Z
namespace Go.Proofs.Z
open Go Go.Aw
def gP (t:Tk):Bool:= !(t.kind==16)&&(!(t.kind==17)&&Zp t.kind t.text)
def BH (l:List Tk):List Tk:=l.filter gP
def PY (l:List Tk) (a b:Int):List Tk:=(l.take b.toNat).drop a.toNat
theorem Na {l:List Tk} {a:Int}:PY l a a=[]:=by
 unfold PY
 exact List.drop_eq_nil_iff.2 Nm
theorem ss {l:List Tk} {a:Int} {t:Tk} (U:0<=a) (h:l[a.toNat]? =some t):PY l a (a+1)=[t]:=by
 unfold PY
 rw [show (a+1).toNat=a.toNat+1 by omega,List.take_add_one,h]
 have hl:=(List.getElem?_eq_some_iff.1 h).1
 rw [List.drop_append,List.drop_eq_nil_iff.2 Nm,List.length_take,Nat.min_eq_left AC,Nat.sub_self]
 rfl
theorem sr {l:List Tk} {a b:Int} (h0:0<=a) (h1:a<=b) (h2:b<=c):PY l a b++PY l b c=PY l a c:=by
 unfold PY
 obtain ⟨x,rfl⟩:∃x:Nat,a=x:=⟨a.toNat,AC⟩
 obtain ⟨y,rfl⟩:∃y:Nat,b=y:=⟨b.toNat,AC⟩
 obtain ⟨z,rfl⟩:∃z:Nat,c=z:=⟨c.toNat,AC⟩
 simp only [Int.toNat_natCast]
 have e:l.take y=(l.take z).take y:=by rw [List.take_take,Nat.min_eq_left AC]
 rw [e]
 generalize l.take z=m
 have U:m.drop x=(m.take y).drop x++m.drop y:=by
  have h3:m=m.take y++m.drop y:=(List.take_append_drop y m).symm
  by_cases hy:y<=m.length
  .conv=>lhs;rw [h3]
   rw [List.drop_append,List.length_take,Nat.min_eq_left hy,show x - y=0 by omega,List.drop_zero]
  .rw [List.drop_eq_nil_iff.2 (show m.length<=y by omega),List.append_nil,List.take_of_length_le AC]
 exact U.symm
structure Ps (s s':An) (m:List Tk):Prop where
 tk:s'.AL=s.AL
 le:s.pos<=s'.pos
 ok:s'=s\/(0<=s.pos/\s'.pos<=s.AL.length)
 eq:BH m=BH (PY s.AL s.pos s'.pos)
theorem Ps.nil (s:An):Ps s s []:=⟨rfl,Int.le_refl _,.inl rfl,by rw [Na]⟩
theorem Ps.trans {s s1 s2:An} {m n:List Tk} (h:Ps s s1 m) (k:Ps s1 s2 n):Ps s s2 (m++n):=by
 have ht:=k.tk.trans h.tk
 have hw:BH (m++n)=BH m++BH n:=by unfold BH;rw [List.filter_append]
 rcases h.ok with rfl|⟨U,a2⟩
 .refine ⟨ht,k.le,k.ok,?_⟩
  rw [hw,h.eq,Na,k.eq];rfl
 .have hle:=h.le
  rcases k.ok with rfl|⟨b1,b2⟩
  .refine ⟨ht,hle,.inr ⟨U,a2⟩,?_⟩
   rw [hw,h.eq,k.eq,Na];exact List.append_nil _
  .have kle:=k.le
   refine ⟨ht,AC,.inr ⟨U,by rw [<-h.tk];exact b2⟩,?_⟩
   rw [hw,h.eq,k.eq,h.tk,<-sr U hle kle]
   unfold BH;rw [List.filter_append]
theorem Ps.still {s s':An} {m:List Tk} (U:0<=s.pos) (h1:s.pos<=s.AL.length) (ht:s'.AL=s.AL) (hp:s'.pos=s.pos) (hm:BH m=[]):Ps s s' m:=⟨ht,AC,.inr ⟨U,AC⟩,by rw [hm,hp,Na];rfl⟩
theorem Ps.step {s s':An} {m:List Tk} {t:Tk} (U:0<=s.pos) (h:s.AL[s.pos.toNat]? =some t) (ht:s'.AL=s.AL) (hp:s'.pos=s.pos+1) (hm:BH m=BH [t]):Ps s s' m:=by
 have hl:=(List.getElem?_eq_some_iff.1 h).1
 exact ⟨ht,AC,.inr ⟨U,AC⟩,by rw [hm,hp,ss U h]⟩
theorem LP {t:Tk} (h:t.kind=16\/t.kind=17):BH [t]=[]:=by
 unfold BH gP
 rcases h with h|h<;>simp [h]
def ry (t:Tk):List Tk:=if t.kind<18 then [t] else []
theorem Y7:∀(n:Nat) (s:An),(∀t ∈ s.AL,t.kind<18)->0<=s.pos->s.pos<=s.AL.length->(Di n s).2.2=0->Ps s (Di n s).2.1 (ry (Di n s).1)
 |n,s,hN,U,h1,h=>by
  have hend:∀{x:Tk×An×Int},x=EX s->x.2.2=0->Ps s x.2.1 (ry x.1):=λ{x} e hx=>by
   subst e
   unfold EX at hx |-
   split
   .exact .still U h1 rfl rfl rfl
   .rename_i e1
    rw [if_neg e1] at hx
    split
    .exact .still U h1 rfl rfl rfl
    .rename_i e2;rw [if_neg e2] at hx;cases hx
  cases n with
  |zero=>exact hend rfl h
  |succ n=>
   cases ht:s.AL[s.pos.toNat]? with
   |none=>exact hend (by rw [Di,ht]) h
   |some t=>
    have e:Di (n+1) s=if t.kind=16/\s.wait<2 then ((FR t s).1,(FR t s).2,0)
     else if t.kind=16\/t.kind=17 then if (DU t s).1.kind=0 then Di n (DU t s).2 else ((DU t s).1,(DU t s).2,0) else Fv t s:=by rw [Di,ht]
    have hl:=(List.getElem?_eq_some_iff.1 ht).1
    rw [e] at h |-
    clear e
    split
    .rename_i hk
     unfold FR
     split
     .exact .still U h1 rfl rfl rfl
     .split
      .exact .step U ht rfl rfl (by rw [LP (.inl hk.1)];rfl)
      .exact .still U h1 rfl rfl rfl
    .rename_i hk
     rw [if_neg hk] at h
     split
     .rename_i hk2
      rw [if_pos hk2] at h
      split
      .rename_i hz
       rw [if_pos hz] at h
       rw [D3 hz] at h |-
       have h3:Ps s {s with pos:=s.pos+1,wait:=0} []:=.step U ht rfl rfl (by rw [LP hk2];rfl)
       exact h3.trans (Y7 n {s with pos:=s.pos+1,wait:=0} hN (by show 0<=s.pos+1;omega) (by show s.pos+1<=(s.AL.length:Int);omega) h)
      .rename_i hz
       unfold DU at hz |-
       split
       .exact .still U h1 rfl rfl rfl
       .rename_i e1
        rw [if_neg e1] at hz
        split
        .exact .step U ht rfl rfl (by rw [LP hk2];rfl)
        .rename_i e2;rw [if_neg e2] at hz;exact absurd rfl hz
     .rename_i hk2
      rw [if_neg hk2] at h
      have ha:BH (ry t)=BH [t]:=by unfold ry;rw [if_pos (hN t (List.mem_of_getElem? ht))]
      unfold Fv at h |-
      split
      .exact .step U ht rfl rfl ha
      .rename_i e1
       rw [if_neg e1] at h
       split
       .rename_i e2
        rw [if_pos e2] at h
        split
        .rename_i e3;rw [if_pos e3] at h;cases h
        .exact .step U ht rfl rfl ha
       .exact .step U ht rfl rfl ha
theorem V2 {s:An} (h:PZ s=true):0<=s.pos/\s.pos<=s.AL.length:=by
 unfold PZ at h
 simp only [Bool.and_eq_true,decide_eq_true_eq] at h
 omega
theorem Qp {s:An} (hN:∀t ∈ s.AL,t.kind<18) (h:(Ae s).2.2=0):Ps s (Ae s).2.1 (ry (Ae s).1):=by
 unfold Ae at h |-
 cases U:PZ s with
 |false=>rw [U] at h;cases h
 |true=>
  rw [U,if_pos rfl] at h
  rw [if_pos rfl]
  obtain ⟨h0,h1⟩:=V2 U
  exact Y7 _ s hN h0 h1 h
theorem Un {t:Tk} (h:DT t=true):BH (ry t)=[]:=by
 unfold ry
 split
 .rename_i U
  unfold DT at h
  have h:t.kind=15/\(t.text=[123]\/t.text=[125]\/t.text=[59]):=by
   simp only [Bool.or_eq_true,Bool.and_eq_true,beq_iff_eq] at h
   rcases h with h|h
   .omega
   .exact ⟨h.1,by rcases h.2 with (h|h)|h<;>simp [h]⟩
  unfold BH gP Zp
  rcases h with ⟨h1,h2|h2|h2⟩<;>simp [h1,h2]
 .rfl
theorem Fe {f:Bool}:A0 (Dr f l)=AG l:=by unfold Dr;rw [A0,if_neg Do]
theorem Ps.words {s s':An} {m n:List Tk} (h:Ps s s' m) (e:BH n=BH m):Ps s s' n:=⟨h.tk,h.le,h.ok,e.trans h.eq⟩
theorem Bh.ps {s s':An} (h:Bh l s s'):(∀t ∈ s.AL,t.kind<18)->Ps s s' (AG l):=by
 induction h with
 |nil s=>intro _;exact Ps.nil s
 |app _ _ h1 h2=>
   intro U
   have k1:=h1 U
   rw [Cq]
   exact k1.trans (h2 (by rw [k1.tk];exact U))
 |tok h1 h2 h3=>
   intro U
   rw [BC,JY]
   exact (Qp U h1).words (by unfold ry;rw [if_pos h2])
 |skip h1 h2=>intro U;exact (Qp U h1).words (by rw [Un h2];rfl)
 |close h1=>
   intro U
   rename_i s
   unfold DX at h1 |-
   split
   .rename_i hc
    obtain ⟨h0,h1⟩:=V2 hc.1
    exact .still h0 h1 rfl rfl rfl
   .rename_i hc;rw [if_neg hc] at h1;cases h1
 |node h1 h2 h3 ih=>
   intro U
   rw [BC,D2 h2]
   exact ih U
 |block h1 h2 h3 ih=>
   intro U
   rename_i f l s s'
   have k1:=Qp U h1
   rw [BC,Fe]
   have:=k1.trans (ih (by rw [k1.tk];exact U))
   refine this.words ?_
   unfold BH
   rw [List.filter_append]
   have e:=Un h2
   unfold BH at e
   rw [e];rfl
mutual
theorem F1:∀n:Nd,(A0 n).length<=n.size
 | .mk k f t l c ks=>by
   have:=IP ks
   rw [A0,Nd.size]
   split
   .rw [List.length_singleton];omega
   .omega
theorem IP:∀l:List Nd,(AG l).length<=AD l
 |[]=>Nat.le_refl _
 |n::r=>by
  have:=F1 n
  have:=IP r
  rw [AG,AD,List.length_append];omega
end
theorem rA {a:Int} (k:Int) (h:a=k) (h2:k≠16/\k≠17):a≠16/\a≠17:=h ▸ h2
theorem uv (s:An):(Ae s).1.kind≠16/\(Ae s).1.kind≠17:=by
 have U:∀s:An,(EX s).1.kind≠16/\(EX s).1.kind≠17:=λs=>by unfold EX;split;exact rA 21 rfl Do;split;exact rA 20 rfl Do;exact rA 0 rfl Do
 have hg:∀n (s:An),(Di n s).1.kind≠16/\(Di n s).1.kind≠17:=by
  intro n
  induction n with
  |zero=>exact U
  |succ n ih=>
   intro s
   rw [Di]
   split
   .exact U s
   .split
    .unfold FR Tj;split;exact rA 20 rfl Do;split<;>exact rA 18 rfl Do
    .split
     .split
      .exact ih _
      .unfold DU Tj;split;exact rA 20 rfl Do;split;exact rA 19 rfl Do;exact rA 0 rfl Do
     .rename_i h;unfold Fv;split;exact not_or.1 h;split;split;exact rA 0 rfl Do;exact not_or.1 h;exact not_or.1 h
 unfold Ae
 split
 .exact hg _ s
 .exact rA 0 rfl Do
theorem Bh.nk {s s':An} (h:Bh l s s'):∀t ∈ AG l,t.kind≠16/\t.kind≠17:=by
 induction h with
 |nil s=>intro t h;cases h
 |app _ _ h1 h2=>rw [Cq];intro t U;exact (List.mem_append.1 U).elim (h1 t) (h2 t)
 |tok h1 h2 h3=>rw [BC,JY];intro t U;rw [List.mem_singleton.1 U];exact uv _
 |skip h1 h2=>intro t h;cases h
 |close h1=>intro t h;cases h
 |node h1 h2 h3 ih=>rw [BC,D2 h2];exact ih
 |block h1 h2 h3 ih=>rw [BC,Fe];exact ih
def rH (l:List Nd) (s s':An):Prop:=(AG l).length+4*mu s'<=4*mu s/\((∀t ∈ s.AL,t.kind<18)->Ps s s' (AG l))/\∀t ∈ AG l,t.kind≠16/\t.kind≠17
inductive Lf:List Nd->An->An->Prop where
 |app {l m:List Nd} {s s1 s2:An}:Lf l s s1->Lf m s1 s2->Lf (l++m) s s2
 |node {k:Int} {l:List Nd} {s s':An}:k≠1->Lf l s s'->Lf [At k l] s s'
 |of {l:List Nd} {s s':An}:Bh l s s'->Lf l s s'
 |block {f:Bool} {l:List Nd} {s s1 s':An}:Lf [] s s1->Lf l s1 s'->Lf [Dr f l] s s'
def Ga (A:Rd Nd):Prop:=∀s,Rd.wp A s (λn s'=>Lf [n] s s') Cu
section
variable {A B C D E F:Rd Nd} {s s0 s1 s2 s':An} {Q:Nd->An->Prop} {l m:List Nd}
theorem Lf.nil (s:An):Lf [] s s:=.of (.nil s)
theorem Lf.CI {m:Nd} (h:Lf [n] s s1) (k:Lf (m::l) s1 s2):Lf (n::m::l) s s2:=.app h k
theorem rH.app (h:rH l s s1) (k:rH m s1 s2):rH (l++m) s s2:=by
 unfold rH
 rw [Cq]
 refine ⟨by have:=h.1;have:=k.1;rw [List.length_append];omega,λU=>?_,λt ht=>(List.mem_append.1 ht).elim (h.2.2 t) (k.2.2 t)⟩
 have h1:=h.2.1 U
 exact h1.trans (k.2.1 (by rw [h1.tk];exact U))
theorem Lf.Ie (h:Lf l s s'):rH l s s':=by
 induction h with
 |app _ _ h1 h2=>exact h1.app h2
 |node U _ h=>unfold rH;rw [BC,D2 U];exact h
 |of h=>
  rename_i l s s'
  exact ⟨by have:=h.size;have:=IP l;omega,h.ps,h.nk⟩
 |block _ _ h1 h2=>unfold rH;rw [BC,Fe];exact rH.app h1 h2
theorem Ga.of (h:Dv A):Ga A:=λs=>Rd.wp_mono (h s) (λn s' _ h=>.of h) (λ_ _ _ _=>trivial)
theorem OD (U:Ga A) (k:∀n s1,Lf [n] s s1->Q n s1):Rd.wp A s Q Cu:=Rd.wp_mono (U s) (λn s1 _ h=>k n s1 h) (λ_ _ _ _=>trivial)
theorem Ff (U:Real s) (k:Lf [BP (Ae s).1] s (Ae s).2.1->Q (BP (Ae s).1) (Ae s).2.1):Rd.wp A4 s Q Cu:=CO U λh=>k (.of h)
theorem TI {k:Int} {x:List UInt8} (U:k≠0) (h1:k<18) (kk:∀n s1,Lf [n] s s1->Q n s1):Rd.wp (BG k x) s Q Cu:=Tv U h1 λn s1 h=>kk n s1 (.of h)
theorem Sc (U:(ks.all λk=>decide (k≠0)&&decide (k<18))=true) (kk:∀n s1,Lf [n] s s1->Q n s1):Rd.wp (C8 ks) s Q Cu:=et U λn s1 h=>kk n s1 (.of h)
theorem GR {b:Bool} {Q:Unit->An->Prop} (k:Q () s):Rd.wp (Hl b) s Q Cu:=by
 unfold Hl
 rw [Rd.Aq]
 exact AQ (λ_=>k) λ_=>trivial
theorem Lt {x:List UInt8} {Q:List Nd->An->Prop} (hi:Ga item) (U:Lf l s0 s) (k:∀l s1,Lf l s0 s1->Q l s1):Rd.wp (Fo item x l) s Q Cu:=by
 simp only [Fo,Rd.wp_seq,Rd.wp_ret]
 refine CE (P:=λp s1=>Lf p.2 s0 s1) (λp s1 U=>?_) U
 simp only [Vk,Rd.Ah,Rd.Aq,Rd.wp_seq,Rd.wp_ret]
 repeat' (first
  |exact trivial
  |assumption
  |refine AQ (λe=>?_) (λe=>?_)
  |refine Ff (Au ‹_› Do Do) (λhn=>?_)
  |refine Ff (A1 ‹_› Do Do) (λhn=>?_)
  |refine Ff ‹_› (λhn=>?_)
  |refine TI Do Do (λn s1 hn=>?_)
  |refine Sc Do (λn s1 hn=>?_)
  |refine GR ?_
  |refine OD ‹_› (λn s1 hn=>?_)
  |exact k _ _ (.app ‹_› ‹_›)
  |exact k _ _ (.app (.app ‹_› ‹_›) ‹_›)
  |refine Lf.node Do ?_
  |apply Lf.app
  |apply Lf.CI)
theorem Lu (U:(ks.all λk=>decide (k≠0)&&decide (k<18))=true):Ga (EV ks):=λs=>by
 simp only [EV,Rd.wp_seq,Rd.wp_ret]
 repeat' (first
  |exact trivial
  |assumption
  |refine AQ (λe=>?_) (λe=>?_)
  |refine Ff (Au ‹_› Do Do) (λhn=>?_)
  |refine Ff (A1 ‹_› Do Do) (λhn=>?_)
  |refine Ff ‹_› (λhn=>?_)
  |refine TI Do Do (λn s1 hn=>?_)
  |refine Sc Do (λn s1 hn=>?_)
  |refine GR ?_
  |refine OD ‹_› (λn s1 hn=>?_)
  |refine Sc U (λn s1 hn=>?_)
  |refine Lf.node Do ?_
  |apply Lf.app
  |apply Lf.CI)
theorem YP:Ga Kg:=λs=>by
 have U:=Lu (ks:=[5,6]) Do
 simp only [Kg,Rd.Ah,Rd.Aq,Rd.wp_seq,Rd.wp_ret,Rd.Du]
 repeat' (first
  |exact trivial
  |assumption
  |refine AQ (λe=>?_) (λe=>?_)
  |refine Ff (Au ‹_› Do Do) (λhn=>?_)
  |refine Ff (A1 ‹_› Do Do) (λhn=>?_)
  |refine Ff ‹_› (λhn=>?_)
  |refine TI Do Do (λn s1 hn=>?_)
  |refine Sc Do (λn s1 hn=>?_)
  |refine GR ?_
  |refine OD ‹_› (λn s1 hn=>?_)
  |refine Lf.node Do ?_
  |apply Lf.app
  |apply Lf.CI)
theorem jt:Ga J0:=λs=>by
 have U:=Lu (ks:=[5,6]) Do
 simp only [J0,Rd.Ah,Rd.Aq]
 repeat' (first
  |exact trivial
  |assumption
  |refine AQ (λe=>?_) (λe=>?_)
  |refine Ff (Au ‹_› Do Do) (λhn=>?_)
  |refine Ff (A1 ‹_› Do Do) (λhn=>?_)
  |refine Ff ‹_› (λhn=>?_)
  |refine TI Do Do (λn s1 hn=>?_)
  |refine Sc Do (λn s1 hn=>?_)
  |refine GR ?_
  |refine OD ‹_› (λn s1 hn=>?_)
  |refine Lf.node Do ?_
  |apply Lf.app
  |apply Lf.CI)
theorem oo (U:Lf l s0 s) (k:∀n s1,Lf [n] s0 s1->Q n s1):Rd.wp (Sm l) s Q Cu:=by
 have hm:=jt
 simp only [Sm,Rd.Ah,Rd.Aq,Rd.wp_seq,Rd.wp_ret]
 repeat' (first
  |exact trivial
  |assumption
  |refine AQ (λe=>?_) (λe=>?_)
  |refine Ff (Au ‹_› Do Do) (λhn=>?_)
  |refine Ff (A1 ‹_› Do Do) (λhn=>?_)
  |refine Ff ‹_› (λhn=>?_)
  |refine TI Do Do (λn s1 hn=>?_)
  |refine Sc Do (λn s1 hn=>?_)
  |refine GR ?_
  |refine OD ‹_› (λn s1 hn=>?_)
  |refine Lt hm (.app U ‹_›) (λl s1 h=>k _ _ (.node Do h))
  |refine k _ _ ?_
  |refine Lf.node Do ?_
  |apply Lf.app
  |apply Lf.CI)
theorem tU:Ga (Sn o):=λs=>by
 have U:=Lu (ks:=qA o) (by cases o<;>decide)
 have h1:((Mx o).all λk=>decide (k≠0)&&decide (k<18))=true:=by cases o<;>decide
 have h2:((SX o).all λk=>decide (k≠0)&&decide (k<18))=true:=by cases o<;>decide
 simp only [Sn,Y2,Rd.Ah,Rd.Aq,Rd.wp_seq,Rd.wp_ret]
 repeat' (first
  |exact trivial
  |assumption
  |refine AQ (λe=>?_) (λe=>?_)
  |refine Ff (Au ‹_› Do Do) (λhn=>?_)
  |refine Ff (A1 ‹_› Do Do) (λhn=>?_)
  |refine Ff ‹_› (λhn=>?_)
  |refine TI Do Do (λn s1 hn=>?_)
  |refine Sc Do (λn s1 hn=>?_)
  |refine GR ?_
  |refine OD ‹_› (λn s1 hn=>?_)
  |refine Sc h1 (λn s1 hn=>?_)
  |refine Sc h2 (λn s1 hn=>?_)
  |exact oo ‹_› (λn s1 h=>h)
  |refine Lf.node Do ?_
  |apply Lf.app
  |apply Lf.CI)
theorem YN:Ga (EZ o):=λs=>by
 have hi:=tU (o:=o)
 simp only [EZ,Rd.wp_seq,Rd.wp_ret]
 refine TI Do Do λn s1 U=>?_
 refine CE (P:=λl s1=>Lf l s s1) (λl s1 U=>?_) U
 simp only [V7,Vl,Rd.Ah,Rd.Aq,Rd.wp_seq,Rd.wp_ret]
 repeat' (first
  |exact trivial
  |assumption
  |refine AQ (λe=>?_) (λe=>?_)
  |refine Ff (Au ‹_› Do Do) (λhn=>?_)
  |refine Ff (A1 ‹_› Do Do) (λhn=>?_)
  |refine Ff ‹_› (λhn=>?_)
  |refine TI Do Do (λn s1 hn=>?_)
  |refine Sc Do (λn s1 hn=>?_)
  |refine GR ?_
  |refine OD ‹_› (λn s1 hn=>?_)
  |refine Lf.node Do ?_
  |apply Lf.app
  |apply Lf.CI)
theorem cr (U:Real s) (k:∀n s1,Lf [n] s s1->Q n s1):Rd.wp G1 s Q Cu:=by
 have hi:=YN (o:=true)
 simp only [G1,Nv,Nw,Nx,Rd.Ah,Rd.Aq,Rd.wp_seq,Rd.wp_ret]
 repeat' (first
  |exact trivial
  |assumption
  |refine AQ (λe=>?_) (λe=>?_)
  |refine Ff (Au ‹_› Do Do) (λhn=>?_)
  |refine Ff (A1 ‹_› Do Do) (λhn=>?_)
  |refine Ff ‹_› (λhn=>?_)
  |refine TI Do Do (λn s1 hn=>?_)
  |refine Sc Do (λn s1 hn=>?_)
  |refine GR ?_
  |refine OD ‹_› (λn s1 hn=>?_)
  |refine k _ _ ?_
  |refine Lf.node Do ?_
  |apply Lf.app
  |apply Lf.CI)
theorem fR {a b:List UInt8} (h:(if BB s 1 a=true then true else BB s 1 b)=true):Real s:=by
 split at h
 .exact Au ‹_› Do Do
 .exact Au h Do Do
theorem cq (U:Ga D) (hr:Real s) (k:∀n s1,Lf [n] s s1->Q n s1):Rd.wp (G0 D) s Q Cu:=by
 have hi:=YP
 simp only [G0,KM,Nu,Jj,KN,Rd.Ah,Rd.Aq,Rd.wp_seq,Rd.wp_ret]
 repeat' (first
  |exact trivial
  |assumption
  |refine AQ (λe=>?_) (λe=>?_)
  |refine Ff (Au ‹_› Do Do) (λhn=>?_)
  |refine Ff (A1 ‹_› Do Do) (λhn=>?_)
  |refine Ff ‹_› (λhn=>?_)
  |refine TI Do Do (λn s1 hn=>?_)
  |refine Sc Do (λn s1 hn=>?_)
  |refine GR ?_
  |refine OD ‹_› (λn s1 hn=>?_)
  |refine Ff (fR ‹_›) (λhn=>?_)
  |refine k _ _ ?_
  |refine Lf.node Do ?_
  |apply Lf.app
  |apply Lf.CI)
theorem YK (U:Ga A) (hr:Real s) (k:∀n s1,Lf [n] s s1->Q n s1):Rd.wp (FF A) s Q Cu:=by
 simp only [FF,Rd.wp_seq,Rd.wp_ret]
 repeat' (first
  |exact trivial
  |assumption
  |refine AQ (λe=>?_) (λe=>?_)
  |refine Ff (Au ‹_› Do Do) (λhn=>?_)
  |refine Ff (A1 ‹_› Do Do) (λhn=>?_)
  |refine Ff ‹_› (λhn=>?_)
  |refine TI Do Do (λn s1 hn=>?_)
  |refine Sc Do (λn s1 hn=>?_)
  |refine GR ?_
  |refine OD ‹_› (λn s1 hn=>?_)
  |refine Lt U ?_ (λl s1 h=>k _ _ (.node Do h))
  |refine Lf.node Do ?_
  |apply Lf.app
  |apply Lf.CI)
theorem Ql {Q:List Nd×Nd->An->Prop} (hA:Ga A) (U:Lf l s0 s) (k:∀l n s1,Lf (l++[n]) s0 s1->Q (l,n) s1):Rd.wp (It A l) s Q Cu:=by
 simp only [It,Rd.Ah,Rd.Aq,Rd.wp_seq,Rd.wp_ret]
 repeat' (first
  |exact trivial
  |assumption
  |refine AQ (λe=>?_) (λe=>?_)
  |refine Ff (Au ‹_› Do Do) (λhn=>?_)
  |refine Ff (A1 ‹_› Do Do) (λhn=>?_)
  |refine Ff ‹_› (λhn=>?_)
  |refine TI Do Do (λn s1 hn=>?_)
  |refine Sc Do (λn s1 hn=>?_)
  |refine GR ?_
  |refine OD ‹_› (λn s1 hn=>?_)
  |refine k _ _ _ ?_
  |refine Lf.node Do ?_
  |apply Lf.app
  |apply Lf.CI)
theorem cu (U:Ga A) (hB:Ga B) (hr:Real s) (k:∀n s1,Lf [n] s s1->Q n s1):Rd.wp (G8 A B) s Q Cu:=by
 simp only [G8,Rd.wp_seq,Rd.wp_ret]
 repeat' (first
  |exact trivial
  |assumption
  |refine AQ (λe=>?_) (λe=>?_)
  |refine Ff (Au ‹_› Do Do) (λhn=>?_)
  |refine Ff (A1 ‹_› Do Do) (λhn=>?_)
  |refine Ff ‹_› (λhn=>?_)
  |refine TI Do Do (λn s1 hn=>?_)
  |refine Sc Do (λn s1 hn=>?_)
  |refine GR ?_
  |refine OD ‹_› (λn s1 hn=>?_)
  |refine k _ _ ?_
  |refine Lf.node Do ?_
  |apply Lf.app
  |apply Lf.CI)
theorem Uq (U:Ga A) (hr:Real s) (k:∀n s1,Lf [n] s s1->Q n s1):Rd.wp (Hw A) s Q Cu:=by
 simp only [Hw,Rd.wp_seq,Rd.wp_ret]
 repeat' (first
  |exact trivial
  |assumption
  |refine AQ (λe=>?_) (λe=>?_)
  |refine Ff (Au ‹_› Do Do) (λhn=>?_)
  |refine Ff (A1 ‹_› Do Do) (λhn=>?_)
  |refine Ff ‹_› (λhn=>?_)
  |refine TI Do Do (λn s1 hn=>?_)
  |refine Sc Do (λn s1 hn=>?_)
  |refine GR ?_
  |refine OD ‹_› (λn s1 hn=>?_)
  |refine k _ _ ?_
  |refine Lf.node Do ?_
  |apply Lf.app
  |apply Lf.CI)
theorem tV (U:Ga A):Ga (Hh A):=λs=>by
 have hs:=Lu (ks:=[6]) Do
 simp only [Hh,Rd.Ah,Rd.Aq]
 repeat' (first
  |exact trivial
  |assumption
  |refine AQ (λe=>?_) (λe=>?_)
  |refine Ff (Au ‹_› Do Do) (λhn=>?_)
  |refine Ff (A1 ‹_› Do Do) (λhn=>?_)
  |refine Ff ‹_› (λhn=>?_)
  |refine TI Do Do (λn s1 hn=>?_)
  |refine Sc Do (λn s1 hn=>?_)
  |refine GR ?_
  |refine OD ‹_› (λn s1 hn=>?_)
  |exact Uq U (Au ‹_› Do Do) (λn s1 h=>h)
  |refine Lf.node Do ?_
  |apply Lf.app
  |apply Lf.CI)
theorem YO {Q:List Nd->An->Prop} (hA:Ga A) (k:∀l s1,Lf l s s1->Q l s1):Rd.wp (IX A) s Q Cu:=by
 have hp:=tV hA
 simp only [IX,Rd.wp_seq]
 refine OD hp λn s1 U=>CE (P:=λl s1=>Lf l s s1) (λl s1 U=>?_) U
 simp only [SD,Rd.Ah,Rd.Aq,Rd.wp_seq,Rd.wp_ret]
 repeat' (first
  |exact trivial
  |assumption
  |refine AQ (λe=>?_) (λe=>?_)
  |refine Ff (Au ‹_› Do Do) (λhn=>?_)
  |refine Ff (A1 ‹_› Do Do) (λhn=>?_)
  |refine Ff ‹_› (λhn=>?_)
  |refine TI Do Do (λn s1 hn=>?_)
  |refine Sc Do (λn s1 hn=>?_)
  |refine GR ?_
  |refine OD ‹_› (λn s1 hn=>?_)
  |refine k _ _ ?_
  |refine Lf.node Do ?_
  |apply Lf.app
  |apply Lf.CI)
theorem fk (U:Lf l s0 s) (k:∀n,Lf [n] s0 s->Q n s):Rd.wp (PG l) s Q Cu:=by
 unfold PG
 rw [Rd.Aq]
 refine AQ (λe=>?_) λ_=>?_
 .match l,e with
  |[x],_=>exact k _ U
 .rw [Rd.wp_seq]
  exact GR (k _ (.node Do U))
theorem om (hA:Ga A) (hB:Ga B):Ga (HA A B):=λs=>by
 have hs:=YP
 simp only [HA,Rd.wp_seq]
 refine OD hs λn s1 U=>CE (P:=λl s1=>Lf l s s1) (λl s1 U=>?_) U
 simp only [VD,Rd.Ah,Rd.Aq,Rd.wp_seq,Rd.wp_ret]
 repeat' (first
  |exact trivial
  |assumption
  |refine AQ (λe=>?_) (λe=>?_)
  |refine Ff (Au ‹_› Do Do) (λhn=>?_)
  |refine Ff (A1 ‹_› Do Do) (λhn=>?_)
  |refine Ff ‹_› (λhn=>?_)
  |refine TI Do Do (λn s1 hn=>?_)
  |refine Sc Do (λn s1 hn=>?_)
  |refine GR ?_
  |refine OD ‹_› (λn s1 hn=>?_)
  |refine Uq hA (Au ‹_› Do Do) (λn s1 hn=>?_)
  |refine Lf.node Do ?_
  |apply Lf.app
  |apply Lf.CI)
theorem oq (U:Real s) (k:∀n s1,Lf [n] s s1->Q n s1):Rd.wp MM s Q Cu:=by
 simp only [MM,Rd.Ah,Rd.Aq,Rd.wp_seq,Rd.wp_ret,Rd.Du]
 repeat' (first
  |exact trivial
  |assumption
  |refine AQ (λe=>?_) (λe=>?_)
  |refine Ff (Au ‹_› Do Do) (λhn=>?_)
  |refine Ff (A1 ‹_› Do Do) (λhn=>?_)
  |refine Ff ‹_› (λhn=>?_)
  |refine TI Do Do (λn s1 hn=>?_)
  |refine Sc Do (λn s1 hn=>?_)
  |refine GR ?_
  |refine OD ‹_› (λn s1 hn=>?_)
  |refine k _ _ ?_
  |refine Lf.node Do ?_
  |apply Lf.app
  |apply Lf.CI)
theorem Sd (hA:Ga A) (hr:Real s) (U:Lf l s0 s) (k:∀n s1,Lf [n] s0 s1->Q n s1):Rd.wp (GL A l) s Q Cu:=by
 simp only [GL,Rd.wp_seq,Rd.wp_ret]
 exact fk U λa h1=>oq hr λo s1 h2=>YO hA λr s2 h3=>fk h3 λb h4=>k _ _ (.node Do (.CI h1 (.CI h2 h4)))
theorem Up (hA:Ga A) (hB:Ga B):Ga (FV A B):=λs=>by
 have hf:=om hA hB
 have hb:∀{l:List Nd} {s1:An},Lf l s s1->Rd.wp (Hs A l) s1 (λn s'=>Lf [n] s s') Cu:=λU=>by
  simp only [Hs,Rd.Ah,Rd.Aq,Rd.wp_seq,Rd.wp_ret]
  exact AQ (λe=>Sd hA (A1 e Do Do) U λ_ _ h=>h) λ_=>AQ (λe=>Sd hA (Au e Do Do) U λ_ _ h=>h) λ_=>GR (.node Do U)
 simp only [FV,Rd.Ah,Rd.Aq,Rd.wp_seq,Rd.wp_ret]
 refine YO hA λl s1 U=>AQ (λ_=>AQ (λe=>?_) λ_=>hb U) λ_=>hb U
 exact Ff (Au e Do Do) λh1=>Lt hf (.app U h1) λl s2 h=>.node Do h
theorem YL (U:Real s) (k:∀n s1,Lf [n] s s1->Q n s1):Rd.wp FG s Q Cu:=by
 have hi:Ga (C8 [2,4]):=λs=>Sc Do λn s1 h=>h
 simp only [FG,Rd.Ah,Rd.Aq,Rd.wp_seq,Rd.wp_ret]
 repeat' (first
  |exact trivial
  |assumption
  |refine AQ (λe=>?_) (λe=>?_)
  |refine Ff (Au ‹_› Do Do) (λhn=>?_)
  |refine Ff (A1 ‹_› Do Do) (λhn=>?_)
  |refine Ff ‹_› (λhn=>?_)
  |refine TI Do Do (λn s1 hn=>?_)
  |refine Sc Do (λn s1 hn=>?_)
  |refine GR ?_
  |refine OD ‹_› (λn s1 hn=>?_)
  |refine Lt hi ?_ (λl s1 h=>k _ _ (.node Do h))
  |refine k _ _ ?_
  |refine Lf.node Do ?_
  |apply Lf.app
  |apply Lf.CI)
theorem Se (hc:c≠1) (U:Lf l s0 s) (k:∀n s1,Lf [n] s0 s1->Q n s1):Rd.wp (GY c l) s Q Cu:=by
 simp only [GY,Rd.Ah,Rd.Aq,Rd.wp_seq,Rd.wp_ret]
 exact AQ (λe=>YL (Au e Do Do) λn s1 h=>k _ _ (.node hc (.app U h))) λ_=>k _ _ (.node hc U)
theorem tS (hA:Ga A) (hB:Ga B) (hC:Ga C) (hr:Real s) (k:∀n s1,Lf [n] s s1->Q n s1):Rd.wp (Ph A B C) s Q Cu:=by
 have hn:=Up hA hC
 simp only [Ph,Rd.wp_seq]
 refine Ff hr λU=>Ql hB U λl n s1 h1=>GR (CE (P:=λp s1=>Lf p.2 s s1) (λp s1 U=>?_) h1)
 simp only [eo,Rd.Ah,Rd.Aq,Rd.wp_seq,Rd.wp_ret]
 exact AQ (λe=>Ff (Au e Do Do) λh2=>OD hn λc s2 h3=>.app (.app U h2) h3) λ_=>Se Do U k
theorem ct (hA:Ga A) (hB:Ga B) (hC:Ga C) (hr:Real s) (k:∀n s1,Lf [n] s s1->Q n s1):Rd.wp (G3 A B C) s Q Cu:=by
 have hn:=Up hA hC
 simp only [G3,Rd.wp_seq]
 exact Ff hr λU=>Ql hB U λl n s1 h1=>GR (TI Do Do λe s2 h2=>OD hn λc s3 h3=>GR (Se Do (.app (.app h1 h2) h3) k))
theorem fj {U:Nd->Bool} (hA:Ga A) (hc:c≠1) (h0:Lf l s0 s) (k:∀n s1,Lf [n] s0 s1->Q n s1):Rd.wp (Pf A c l U) s Q Cu:=by
 simp only [Pf,Rd.Ah,Rd.Aq,Rd.wp_seq,Rd.wp_ret]
 exact AQ (λe=>Ff (Au e Do Do) λh1=>OD hA λb s1 h2=>GR (k _ _ (.node hc (.app h0 (.node Do (.CI h1 h2)))))) λ_=>k _ _ (.node hc h0)
theorem oj (hA:Ga A) (hB:Ga B) (hr:Real s) (k:∀n s1,Lf [n] s s1->Q n s1):Rd.wp (KE A B) s Q Cu:=by
 simp only [KE,Rd.wp_seq]
 exact Ff hr λU=>Ql hA U λl n s1 h1=>GR (fj hB Do h1 k)
theorem YM (hA:Ga A) (hB:Ga B) (hr:Real s) (k:∀n s1,Lf [n] s s1->Q n s1):Rd.wp (FI A B) s Q Cu:=by
 simp only [FI,Rd.wp_seq]
 exact Ff hr λU=>Ql hA U λl n s1 h1=>GR (fj hB Do h1 k)
theorem xX (hA:Ga A) (hB:Ga B) (hC:Ga C) (hD:Ga D) (hE:Ga E) (hF:Ga F):Ga (XA A B C D E F):=λs=>by
 simp only [XA,Rd.Ah,Rd.Aq]
 refine AQ (λe=>?_) λ_=>hE s
 have U:=A1 e Do Do
 exact AQ (λ_=>cr U λ_ _ h=>h) λ_=>AQ (λ_=>cu hB hC U λ_ _ h=>h) λ_=>AQ (λ_=>tS hA hB hC U λ_ _ h=>h) λ_=>AQ (λ_=>ct hA hB hC U λ_ _ h=>h) λ_=>
  AQ (λ_=>oj hB hF U λ_ _ h=>h) λ_=>AQ (λ_=>YM hB hF U λ_ _ h=>h) λ_=>AQ (λ_=>YK hC U λ_ _ h=>h) λ_=>AQ (λ_=>cq hD U λ_ _ h=>h) λ_=>hE s
end
def Ou:Nat->Rd Nd
 |0=>.fail Kn
 |d+1=>bq (d+1)
def lh (d:Nat):Rd Nd:=XA (Xv d) (q6 d) (XB d) (KO d) (T8 d) (Ou (d - 1))
def IZ (top:Rd Nd) (l:List Nd):Rd Nd:=.look λs0=>.seq top λn=>if ((n.kind==50)&&l.any λx=> !(x.kind==50))=true then .Ha s0 Iq else .ret n
def Ki (top:Rd Nd):Rd Nd:=JN UR (IZ top)
def IA (d:Nat):Rd Nd:=Ki (lh d)
theorem VX {X:An->Rs} {h:∀s v s',X s=.inr (v,s')->mu s'<=mu s} (k:Dj X):Ga (H0 X h):=Ga.of (Dv.of λs n s' e=>k s n s' (by
 unfold H0 at e
 dsimp only at e
 split at e
 .split at e<;>cases e
 .rename_i U;rw [U];injection e with e;rw [e]))
theorem jr:∀d,Ga (Ou d)
 |0=>λs=>trivial
 |d+1=>Ga.of (KG (HS (E8 _) (KH _)))
theorem tW (d:Nat):Ga (lh d):=
 xX (VX (Io (Ip _))) (VX (Rf (Io (Ip _)))) (VX (Nh (Io (Ip _)))) (Ga.of (E8 d)) (Ga.of (HS (E8 _) (KH _))) (jr _)
section
variable {s s0 s1:An} {A:Rd Nd} {l:List Nd}
theorem Lf.pass (h:Lf l s0 s) (k:Lf [] s s1):Lf l s0 s1:=by
 have:=Lf.app h k
 rwa [List.append_nil] at this
theorem tT (U:Ga A) (l:List Nd):Ga (IZ A l):=λs=>by
 simp only [IZ,Rd.Ah,Rd.Aq,Rd.wp_seq,Rd.wp_ret,Rd.Du]
 exact OD U λn s1 h=>AQ (λ_=>trivial) λ_=>h
theorem ju (hA:Ga A):Ga (Ki A):=λs=>by
 simp only [Ki,JN,Rd.Ah,Rd.Aq,Rd.wp_seq,Rd.wp_ret]
 have hb:∀{f:Bool} {s1:An},(Ae s).2.2=0->DT (Ae s).1=true->(Ae s).2.1=s1->Rd.wp (Rd.loop (Ij UR (IZ A) f) []) s1 (λl s'=>Lf [Dr f l] s s') Cu:=λ{f s1} e1 e2 e3=>by
  subst e3
  have hz:Lf [] s (Ae s).2.1:=.of (.skip e1 e2)
  refine CE (P:=λl s1=>Lf l (Ae s).2.1 s1) (λl s1 U=>?_) (.nil _)
  simp only [Ij,Rd.Ah,Rd.Aq,Rd.wp_seq,Rd.wp_ret]
  refine Rj λs2 g2=>Je λb s3 g3=>AQ (λ_=>.block hz ((U.pass (.of g2)).pass (.of g3))) λ_=>OD (tT hA l) λn s4 g4=>Je λb s5 g5=>?_
  have h1:Lf (l++[n]) (Ae s).2.1 s5:=(Lf.app ((U.pass (.of g2)).pass (.of g3)) g4).pass (.of g5)
  exact AQ (λ_=>.block hz h1) λ_=>h1
 refine AQ (λe=>?_) λ_=>?_
 .have hi:DT (Ae s).1=true:=by rw [beq_iff_eq] at e;simp [DT,e]
  exact zf hi λ_=>hb (Fq (Hu hi).1) hi rfl
 .unfold BG
  rw [Rd.Ah,Rd.Aq]
  refine AQ (λe=>?_) λ_=>trivial
  have hi:DT (Ae s).1=true:=by
   unfold BB at e
   simp only [Bool.and_eq_true,beq_iff_eq] at e
   simp [DT,e.1,e.2]
  exact CO (Au e Do Do) λ_=>hb (Fq (Hu hi).1) hi rfl
theorem cv (d:Nat):Ga (IA d):=ju (tW d)
theorem bK {A B C D E F:Rd Nd} (U:Rd.Bn E):Rd.Bn (XA A B C D E F):=Rd.Bn.look λs v s' h=>by
 split at h
 .rename_i hk
  rw [beq_iff_eq] at hk
  have ht:∀{v:Nd} {s':An},A4.run s=.inr (v,s')->mu s'<mu s:=λe=>H7 e AC
  (repeat' split at h)<;>first|exact Rd.Bn.at (λ_ _ e=>ht e) h|exact U _ _ _ h
 .exact U _ _ _ h
theorem bJ (d:Nat):Rd.Bn (lh d):=bK (HS (E8 _) (KH _)).vT
end
mutual
def BX:Nd->Nat
 | .mk _ _ t _ _ ks=>t.length+Bf ks
def Bf:List Nd->Nat
 |[]=>0
 |n::r=>BX n+Bf r
end
theorem Cp:∀{l:List Nd} {n:Nd},n ∈ l->BX n<=Bf l
 |m::r,n,h=>by
  rw [Bf]
  rcases List.mem_cons.1 h with rfl|h
  .omega
  .have:=Cp h;omega
theorem gw (h:s.take (AO s).2=s) (k:(AO s).1=3\/(AO s).1=4\/(AO s).1=7\/(AO s).1=8):FA s=some (s.drop (Ml s).toNat):=by
 unfold FA
 rw [if_pos h,if_pos AC]
theorem gx (h:s.take (AO s).2=s) (k:(AO s).1=1\/(AO s).1=2\/(AO s).1=5\/(AO s).1=6):FA s=some s:=by
 unfold FA
 rw [if_pos h,if_neg AC,if_pos AC]
theorem gy (h:¬s.take (AO s).2=s):FA s=none:=if_neg h
theorem gv (h:s.take (AO s).2=s) (k:¬((AO s).1=3\/(AO s).1=4\/(AO s).1=7\/(AO s).1=8)) (l:¬((AO s).1=1\/(AO s).1=2\/(AO s).1=5\/(AO s).1=6)):FA s=none:=by
 unfold FA
 rw [if_pos h,if_neg AC,if_neg AC]
section
variable {st:St} {R:As->St->Prop}
theorem gu (U:s.length<=100000000) (h1:∀t,FA s=some t->∀q,R (.ret (.Bc [.str q,.str t,.int .i64 0])) st) (h2:FA s=none->R (.ret (.Bc [.str [],.str [],.int .i64 30])) st):PC 178 [.str s] st R:=by
 have hw:=Le s
 refine pB Tryz.func178 ?_
 repeat' ((conv=>whnf);first|exact Bi|(refine AE ?_;intros)|(refine Bj ?_ ?_ ?_;rotate_left)|(refine Bb ?_ ?_<;>intro _)|refine aG U (λa h3 h4 h5 h6=>?_)|refine WO AC AC ?_|refine WN AC AC ?_|refine Ao GE ?_|fail)
 all_goals first
  |exact fin (h2 (gy ‹_›)) rfl
  |exact fin (h2 (gv f9 AC AC)) rfl
  |exact fin (h1 _ (gx f9 AC) []) rfl
  |(subst h3;exact fin (h1 _ (gw f9 AC) _) rfl)
theorem UO (n:Nd):n.text.length<=BX n:=by
 cases n
 rw [BX]
 exact Nat.le_add_right _ _
theorem Ce (n:Nd):Bf n.kids<=BX n:=by
 cases n
 rw [BX]
 exact Nat.le_add_left _ _
theorem ML:∀(l:List Nd) (k:Nat),Bf (l.drop k)<=Bf l
 |[],k=>by rw [List.drop_nil];exact Nat.le_refl _
 |n::r,0=>Nat.le_refl _
 |n::r,k+1=>by
  have:=ML r k
  rw [List.drop_succ_cons,Bf];omega
theorem Y3 (U:n.kind=18/\(n.kids.length=1\/n.kids.length=3)) (hx:n.kids[n.kids.length / 2]? =some x):Hp n=if x.kind=1 then (match FA x.text with|some t=>some t|none=>if x.form=10/\x.text=[58] then some x.text else none) else none:=by
 unfold Hp
 rw [if_pos U,hx]
 rfl
theorem V6 (ht:BX n<=100000000) (h1:∀t,Hp n=some t->R (.ret (.Bc [.str t,.bool true])) st) (h2:Hp n=none->R (.ret (.Bc [.str [],.bool false])) st):PC 137 [enc n] st R:=by
 refine pB Tryz.func137 ?_
 by_cases hk:n.kind=18/\(n.kids.length=1\/n.kids.length=3)
 .obtain ⟨x,hx⟩:∃x,n.kids[((n.kids.length:Int) / 2).toNat]? =some x:=⟨_,List.getElem?_eq_getElem AC⟩
  have hn:=Y3 hk (x:=x) (by rw [<-hx];rfl)
  have hxt:x.text.length<=100000000:=by
   have:=Cp (List.mem_of_getElem? hx)
   have:=UO x
   have:=Ce n
   omega
  by_cases h3:x.kind=1
  .rw [if_pos h3] at hn
   cases hs:FA x.text with
   |some t=>
    rw [hs] at hn
    have U:∀{st:St} {R:As->St->Prop},(∀q,R (.ret (.Bc [.str q,.str t,.int .i64 0])) st)->PC 178 [.str x.text] st R:=λh=>gu hxt (λt' e=>by rw [hs] at e;cases e;exact h) (λe=>by rw [hs] at e;cases e)
    repeat' ((conv=>whnf);first|(refine AE ?_;intros)|(refine Bb ?_ ?_<;>intro _)|refine Wm hx AC ?_|refine U (λq=>?_))
    all_goals exact fin (h1 _ hn) rfl
   |none=>
    rw [hs] at hn
    have U:∀{st:St} {R:As->St->Prop},R (.ret (.Bc [.str [],.str [],.int .i64 30])) st->PC 178 [.str x.text] st R:=λh=>gu hxt (λt' e=>by rw [hs] at e;cases e) (λ_=>h)
    repeat' ((conv=>whnf);first|(refine AE ?_;intros)|(refine Bb ?_ ?_<;>intro _)|refine Wm hx AC ?_|refine U ?_)
    all_goals first
     |exact fin (h1 _ (hn.trans (if_pos ⟨FS,FS⟩))) rfl
     |exact fin (h2 (hn.trans (if_neg (λe=>by simp_all)))) rfl
  .rw [if_neg h3] at hn
   repeat' ((conv=>whnf);first|(refine AE ?_;intros)|(refine Bb ?_ ?_<;>intro _)|refine Wm hx AC ?_)
   all_goals exact fin (h2 hn) rfl
 .have hn:Hp n=none:=if_neg hk
  repeat' ((conv=>whnf);first|(refine AE ?_;intros)|(refine Bb ?_ ?_<;>intro _)|fail)
  all_goals first|exact fin (h2 hn) rfl|(exfalso;omega)
theorem OP (op:Bool):CB op []= !op:=by cases op<;>rfl
theorem wE (ht:Bf l<=100000000) (h:R (.ret (.bool (CB true l))) st):PC 135 [.slice 6 (Bg l) w] st R:=by
 refine pB Tryz.func135 ?_
 repeat' ((conv=>whnf);first|(refine AE ?_;intros)|(refine Bb ?_ ?_<;>intro _)|fail)
 refine B5 (α:=Nat×Bool) (λy=>[(3,.bool y.2),(10,.int .i64 (y.1:Nat))]) [8,9] (λ_=>[]) [] (λ_=>st) (λy=>y.1<=l.length/\CB true l=CB y.2 (l.drop y.1)) (λy=>l.length - y.1) (0,true) ⟨Nat.zero_le _,rfl⟩ Yl (St.le_refl _) ?_
 rintro ⟨i,op⟩ ⟨hi,hr⟩
 dsimp only at hi hr
 by_cases U:i<l.length
 .obtain ⟨x,hx⟩:∃x,l[(i:Int).toNat]? =some x:=⟨_,List.getElem?_eq_getElem U⟩
  have hxt:BX x<=100000000:=Nat.le_trans (Cp (List.mem_of_getElem? hx)) ht
  rw [drop_at (show l[i]? =some x from hx)] at hr
  have hli:(i:Int)<(l.length:Int):=AC
  cases op with
  |true=>
   rw [CB] at hr
   repeat' ((conv=>whnf);first|refine Wv hli ?_|(refine AE ?_;intros)|(refine Bb ?_ ?_<;>intro _)|refine Wm hx AC ?_|refine Wq (a:=(i:Int)+1) AC AC ?_)
   all_goals conv=>whnf
   all_goals first
    |exact ⟨(i+1,true),⟨U,by rw [hr,if_pos ‹_›]⟩,Nat.sub_lt_sub_left U (Nat.lt_succ_self i),Yl,St.le_refl _⟩
    |exact ⟨(i+1,false),⟨U,by rw [hr,if_neg ‹_›,if_neg ‹_›]⟩,Nat.sub_lt_sub_left U (Nat.lt_succ_self i),Yl,St.le_refl _⟩
    |(rw [hr,if_neg ‹_›,if_pos ‹_›] at h;exact fin h rfl)
  |false=>
   rw [CB] at hr
   repeat' ((conv=>whnf);first|refine Wv hli ?_|(refine AE ?_;intros)|(refine Bb ?_ ?_<;>intro _)|refine Wm hx AC ?_|refine V6 hxt (λt e=>?_) (λe=>?_)|refine Wq (a:=(i:Int)+1) AC AC ?_)
   all_goals conv=>whnf
   all_goals first
    |exact ⟨(i+1,true),⟨U,by rw [hr,e]⟩,Nat.sub_lt_sub_left U (Nat.lt_succ_self i),Yl,St.le_refl _⟩
    |(rw [hr,e] at h;exact fin h rfl)
 .rw [List.drop_of_length_le AC,OP] at hr
  rw [hr] at h
  cases op
  all_goals (repeat' ((conv=>whnf);first|(refine AE ?_;intros)|(refine Bb ?_ ?_<;>intro _)|fail))
  all_goals exact fin h rfl
end
def St.YD (b:Nat) (s t:St):Prop:=(∀x cs,x≠b->s.box x=some cs->t.box x=some cs)/\∀x h,s.hw x=some h->t.hw x=some h
theorem GQ {s:St}:St.YD b s (s.Aa b cs):=⟨λx c U h=>by rw [St.Ak U.symm];exact h,λ_ _ h=>h⟩
theorem Ei {a c d:St} (h:St.YD b a c) (k:St.YD b c d):St.YD b a d:=⟨λx cs U e=>k.1 x cs U (h.1 x cs U e),λx n e=>k.2 x n (h.2 x n e)⟩
theorem nW {a c:St} (h:a.le c):St.YD b a c:=⟨λx cs _ e=>h.1 x cs e,h.2⟩
def kx (U b:Nat) (l:List Nd) (w:Bool):List V:=[.func 136 [] [.ptr U 0],.slice 6 (Bg l) .any,.bool w,.func 139 [.ptr b 0] [],.func 140 [.ptr b 0] []]
structure P8 (env:List Fx) (b2 b:Nat) (st:St) (l:List Nd) (w:Bool):Prop where
 ne:b2≠b
 k:st.box b=some (kx b2 b l w)
 e:∃o,st.box b2=some [.slice 3 (Az env) o]
 n:env.length<=1000000000
theorem P8.set {st:St} {l':List Nd} {w w':Bool} (h:P8 env U b st l w) (hl:St.YD b st st') (k:st'.box b=some (kx U b l' w')):P8 env U b st' l' w':=⟨h.ne,k,h.e.imp λo e=>hl.1 _ _ h.ne e,h.n⟩
section
variable {st:St} {R:As->St->Prop}
theorem tail_cons {K:List (List V)->Prop} (k:K (Bg r)):((0:Int)<=1/\(1:Int)<=((Bg (x::r)).length:Int)/\((Bg (x::r)).length:Int)<=(Bg (x::r)).length)/\∀U,U=(((Bg (x::r)).take (((Bg (x::r)).length:Int)).toNat).drop (1:Int).toNat)->K U:=
 Wo (ks:=x::r) Do (by rw [List.length_cons];omega) k
theorem OY {w:Bool} (hb:st.box b=some (kx U b (x::r) w)) (h:R (.ret (enc x)) (st.Aa b (kx U b r w))):PC 181 [.ptr b 0] st R:=by
 refine pB Tryz.func181 ?_
 repeat' ((conv=>whnf);first|refine Wm (ks:=x::r) rfl Do ?_|refine tail_cons ?_|refine Al hb ?_)
 all_goals exact AF rfl h
theorem xB {b2:Nat} {o:AH} (hn:env.length<=1000000000) (ht:BX n<=100000000) (hb:st.box b2=some [.slice 3 (Az env) o]) (h:∀st',st.le st'->R (.ret (.agg (RJ env n).cells)) st'):PC 136 [enc n,.ptr b2 0] st R:=by
 refine pB Tryz.func136 ?_
 have hnm:∀{st:St} {R:As->St->Prop},(∀v,R (.ret (.Bc [.str ((Hp n).getD []),.bool v])) st)->PC 137 [enc n] st R:=λh=>V6 ht (λt e=>by have:=h true;rw [e] at this;exact this) (λe=>by have:=h false;rw [e] at this;exact this)
 unfold RJ at h
 repeat' ((conv=>whnf);first|  (refine Bb ?_ ?_<;>intro _)|refine hnm (λv=>?_)|refine Al hb ?_|refine sP ny hn (λst1 U=>?_))
 all_goals exact AF rfl (h _ U)
def L2 (env:List Fx) (U b:Nat) (st:St) (z:Option (Nd×List Nd)) (n:Nd) (st':St):Prop:=St.YD b st st'/\match z with
 |some q=>n=q.1/\P8 env U b st' q.2 false
 |none=>∃l,P8 env U b st' l true
theorem L2.mono {b2:Nat} {st U:St} {z:Option (Nd×List Nd)} (h:L2 env b2 b U z n st') (k:St.YD b st U):L2 env b2 b st z n st':=⟨Ei k h.1,h.2⟩
end
mutual
theorem Ji {env:List Fx}:∀(k:Nat) {o:Fx} {l:List Nd} {q:Nd×List Nd},Df env k o l=some q->CB true l=true->CB false q.2=true/\q.2.length<l.length/\Bf q.2<=Bf l
 |0,o,l,q,h,_=>by cases h
 |k+1,o,[],q,h,_=>by cases h
 |k+1,o,n::r,q,h,U=>by
  rw [Df] at h
  rw [CB] at U
  rw [Bf,List.length_cons]
  by_cases h1:n.kind=19
  .rw [if_pos h1] at h U
   by_cases h2:6<=o.prec
   .rw [if_pos h2] at h;cases h
   .rw [if_neg h2] at h
    split at h
    .rename_i p hp
     have h3:=Ji k hp U
     have h4:=then_ok k h h3.1
     exact ⟨h4.1,AC,AC⟩
    .cases h
  .rw [if_neg h1] at h U
   by_cases h2:n.kind=18
   .rw [if_pos h2] at U;cases U
   .rw [if_neg h2] at U
    have h4:=then_ok k h U
    exact ⟨h4.1,AC,AC⟩
theorem then_ok {env:List Fx}:∀(k:Nat) {o:Fx} {n:Nd} {l:List Nd} {q:Nd×List Nd},Eg env k o n l=some q->CB false l=true->CB false q.2=true/\q.2.length<=l.length/\Bf q.2<=Bf l
 |0,o,n,l,q,h,_=>by cases h
 |k+1,o,n,[],q,h,U=>by cases h;exact ⟨U,Nat.le_refl _,Nat.le_refl _⟩
 |k+1,o,n,p::r,q,h,U=>by
  rw [Eg] at h
  split at h
  .cases h
  .split at h
   .cases h;exact ⟨U,Nat.le_refl _,Nat.le_refl _⟩
   .rw [CB] at U
    rw [Bf,List.length_cons]
    split at U
    .split at h
     .rename_i q' hq
      have h3:=Ji k hq U
      have h4:=then_ok k h h3.1
      exact ⟨h4.1,AC,AC⟩
     .cases h
    .cases U
end
def QM (env:List Fx) (k:Nat):Prop:=∀{U b:Nat} {o:Fx} {l:List Nd} {st:St} {R:As->St->Prop},l.length<k->CB true l=true->Bf l<=100000000->P8 env U b st l false->(∀n st',L2 env U b st (Df env k o l) n st'->R (.ret (enc n)) st')->PC 139 [.ptr b 0,.agg o.cells] st R
def aI (env:List Fx) (k:Nat):Prop:=∀{U b:Nat} {o:Fx} {n:Nd} {l:List Nd} {st:St} {R:As->St->Prop},l.length<k->CB false l=true->Bf l<=100000000->P8 env U b st l false->(∀n' st',L2 env U b st (Eg env k o n l) n' st'->R (.ret (enc n')) st')->PC 140 [.ptr b 0,.agg o.cells,enc n] st R
section
variable {st:St} {R:As->St->Prop}
def sk (n:Nd) (w:AH):List V:=[.int .i64 n.kind,.int .i64 n.form,.str n.text,.int .i64 n.line,.int .i64 n.BT,.slice 6 (Bg n.kids) w]
theorem zC (a b c:Nd):Bg [a,b,c]=[AK a,AK b,AK c]:=by rw [BF];rfl
theorem zB (a b:Nd):Bg [a,b]=[AK a,AK b]:=by rw [BF];rfl
theorem te {o:Fx} (hb:st.box b=some (kx U b l true)) (h:R (.ret (enc n)) st):PC 140 [.ptr b 0,.agg o.cells,.agg (sk n w)] st R:=by
 refine pB Tryz.func140 ?_
 repeat' ((conv=>whnf);first|  fail)
 refine B5 (α:=Unit) (λ_=>[]) [0,4,5,6] (λ_=>[]) [0,1,2] (λ_=>st) (λ_=>True) (λ_=>0) () trivial Yl (St.le_refl _) ?_
 rintro _ _
 repeat' ((conv=>whnf);first|  refine Al hb ?_|fail)
 all_goals exact AF rfl h
theorem xj (k:Int) (a b:Nd) (w:AH):sk (At k [a,b]) w=[.int .i64 k,.int .i64 0,.str [],.int .i64 0,.int .i64 0,.slice 6 [AK a,AK b] w]:=by
 unfold sk
 rw [show (At k [a,b]).kids=[a,b] from rfl,zB];rfl
theorem xk (k:Int) (a b c:Nd) (w:AH):sk (At k [a,b,c]) w=[.int .i64 k,.int .i64 0,.str [],.int .i64 0,.int .i64 0,.slice 6 [AK a,AK b,AK c] w]:=by
 unfold sk
 rw [show (At k [a,b,c]).kids=[a,b,c] from rfl,zC];rfl
theorem nC {o:Fx} {m:Nd} (hb:st.box b=some (kx U b l true)) (h:R (.ret (enc (At 21 [n,m]))) st):PC 140 [.ptr b 0,.agg o.cells,.agg [.int .i64 21,.int .i64 0,.str [],.int .i64 0,.int .i64 0,.slice 6 [AK n,AK m] .full]] st R:=by
 rw [<-xj]
 exact te hb h
theorem rY (hB:QM env k) (hG:aI env k):QM env (k+1):=by
 intro b2 b o l st R hl hr ht hx h
 cases l with
 |nil=>cases hr
 |cons n r=>
  rw [Df] at h
  rw [CB] at hr
  rw [Bf] at ht
  rw [List.length_cons] at hl
  refine pB Tryz.func139 ?_
  have x1:P8 env b2 b (st.Aa b (kx b2 b r false)) r false:=hx.set GQ (St.Ai ..)
  have l1:St.YD b st (st.Aa b (kx b2 b r false)):=GQ
  by_cases h1:n.kind=19
  .rw [if_pos h1] at h hr
   by_cases h2:6<=o.prec
   .rw [if_pos h2] at h
    repeat' ((conv=>whnf);first|exact Bi|(refine AE ?_;intros)|(refine Bj ?_ ?_ ?_;rotate_left)|refine OY hx.k ?_|refine Al x1.k ?_|fail)
    all_goals exact AF rfl (h n _ ⟨Ei GQ GQ,r,x1.set GQ (St.Ai ..)⟩)
   .rw [if_neg h2] at h
    have hb:∀{U:St} {R:As->St->Prop},P8 env b2 b U r false->(∀n st',L2 env b2 b U (Df env k ⟨[],1,6⟩ r) n st'->R (.ret (enc n)) st')->PC 139 [.ptr b 0,.agg [.str [],.int .i64 1,.int .i64 6]] U R:=λhx h=>hB (o:=⟨[],1,6⟩) AC hr AC hx h
    cases hz:Df env k ⟨[],1,6⟩ r with
    |none=>
     rw [hz] at h hb
     have hb2:∀{U:St} {R:As->St->Prop},P8 env b2 b U r false->(∀n l st',St.YD b U st'->P8 env b2 b st' l true->st'.box b=some (kx b2 b l true)->R (.ret (enc n)) st')->PC 139 [.ptr b 0,.agg [.str [],.int .i64 1,.int .i64 6]] U R:=λhx h=>hb hx λn st' ha=>ha.2.elim λl hl=>h n l st' ha.1 hl hl.k
     repeat' ((conv=>whnf);first|exact Bi|(refine AE ?_;intros)|(refine Bj ?_ ?_ ?_;rotate_left)|refine OY hx.k ?_|refine Al x1.k ?_|refine hb2 x1 (λm l2 st2 hl2 x2 x3=>?_)|refine Al ‹_› ?_|refine nC ‹_› ?_|refine Ab [(0,true),(1,true),(2,true),(3,true),(4,true),(5,true),(6,false),(7,true),(8,true),(9,false)] [2] GE ?_|refine Ab [(0,true),(1,true),(2,true),(3,true),(4,true),(5,true),(6,false),(7,false)] [1] GE ?_|fail)
     all_goals exact AF rfl (h _ _ ⟨Ei l1 hl2,l2,x2⟩)
    |some q=>
     rw [hz] at h hb
     obtain ⟨ok1,ok2,ok3⟩:=Ji k hz hr
     have hb2:∀{U:St} {R:As->St->Prop},P8 env b2 b U r false->(∀st',St.YD b U st'->P8 env b2 b st' q.2 false->st'.box b=some (kx b2 b q.2 false)->R (.ret (enc q.1)) st')->PC 139 [.ptr b 0,.agg [.str [],.int .i64 1,.int .i64 6]] U R:=λhx h=>hb hx λn st' ha=>by
      obtain ⟨h1,rfl,h3⟩:=ha
      exact h st' h1 h3 h3.k
     have hg:∀{U:St} {R:As->St->Prop},P8 env b2 b U q.2 false->(∀n' st',L2 env b2 b U (Eg env k o (At 21 [n,q.1]) q.2) n' st'->R (.ret (enc n')) st')->PC 140 [.ptr b 0,.agg o.cells,.agg [.int .i64 21,.int .i64 0,.str [],.int .i64 0,.int .i64 0,.slice 6 [AK n,AK q.1] .full]] U R:=λhx h=>DQ (args':=[.ptr b 0,.agg o.cells,.agg [.int .i64 21,.int .i64 0,.str [],.int .i64 0,.int .i64 0,.slice 6 [AK n,AK q.1] .any]]) rfl (by
      rw [<-xj]
      exact hG (n:=At 21 [n,q.1]) AC ok1 AC hx h)
     repeat' ((conv=>whnf);first|exact Bi|(refine AE ?_;intros)|(refine Bj ?_ ?_ ?_;rotate_left)|refine OY hx.k ?_|refine Al x1.k ?_|refine hb2 x1 (λst2 hl2 x2 x3=>?_)|refine Al ‹_› ?_|refine hg ‹_› (λm st3 ha=>?_)|refine Ab [(0,true),(1,true),(2,true),(3,true),(4,true),(5,true),(6,false),(7,true),(8,true),(9,false)] [2] GE ?_|refine Ab [(0,true),(1,true),(2,true),(3,true),(4,true),(5,true),(6,false),(7,false)] [1] GE ?_|fail)
     all_goals exact AF rfl (h _ _ (ha.mono (Ei l1 hl2)))
  .rw [if_neg h1] at h hr
   have h2:¬n.kind=18:=λe=>by rw [if_pos e] at hr;cases hr
   rw [if_neg h2] at hr
   have hg:∀{U:St} {R:As->St->Prop},P8 env b2 b U r false->(∀n' st',L2 env b2 b U (Eg env k o n r) n' st'->R (.ret (enc n')) st')->PC 140 [.ptr b 0,.agg o.cells,enc n] U R:=λhx h=>hG AC hr AC hx h
   repeat' ((conv=>whnf);first|exact Bi|(refine AE ?_;intros)|(refine Bj ?_ ?_ ?_;rotate_left)|refine OY hx.k ?_|refine Al x1.k ?_|refine hg x1 (λm st2 ha=>?_)|refine Ab [(0,true),(1,true),(2,true),(3,true),(4,true),(5,true),(6,false),(7,true),(8,true),(9,false)] [2] GE ?_|refine Ab [(0,true),(1,true),(2,true),(3,true),(4,true),(5,true),(6,false),(7,false)] [1] GE ?_|fail)
   all_goals exact AF rfl (h _ _ (ha.mono l1))
def GoJ (env:List Fx) (b2 b:Nat) (o:Fx) (k:Nat) (z:Option (Nd×List Nd)) (st:St) (n:Nd) (l:List Nd) (w:Bool) (m:St) (U:Nat):Prop:=St.YD b st m/\P8 env b2 b m l w/\
 ((w=false/\U<=k+1/\z=Eg env U o n l/\l.length<U/\CB false l=true/\Bf l<=100000000)\/(w=true/\z=none))
theorem td (hB:∀j,j<=k->QM env j):aI env (k+1):=by
 intro b2 b o n l st R hl hr ht hx h
 generalize hz:Eg env (k+1) o n l=z at h
 refine AM Ac [] Tryz.func140 rfl Do rfl ?_
 refine Ad (Af Ac ?_)
 repeat' ((conv=>whnf);first|exact Bi|(refine AE ?_;intros)|(refine Bj ?_ ?_ ?_;rotate_left)|(refine Bb ?_ ?_<;>intro _)|fail)
 have e0:AK n=sk n .any:=rfl
 refine Ad (FP (Kx (α:=Nat×Nd×AH×List Nd×Bool×St) (λ_=>[]) (λy=>[(1,sk y.2.1 y.2.2.1)]) [0,4,5,6] [0,2] (λy=>y.2.2.2.2.2) (λy=>GoJ env b2 b o k z st y.2.1 y.2.2.2.1 y.2.2.2.2.1 y.2.2.2.2.2 y.1) (λy=>bif y.2.2.2.2.1 then 0 else y.2.2.2.1.length+1) (k+1,n,.any,l,false,st) ⟨⟨λ_ _ _ h=>h,λ_ _ h=>h⟩,hx,.inl ⟨rfl,Nat.le_refl _,hz.symm,hl,hr,ht⟩⟩ Yl (St.le_refl _) ?_))
 rintro ⟨k',n,wn,l,w,m⟩ ⟨j1,j2,j3⟩
 clear hz hr hx hl ht
 dsimp only at j1 j2 j3 |-
 have out:∀w',w=w'->(w'=false->l=[])->L2 env b2 b st z n m:=λw' e1 e2=>by
  refine ⟨j1,?_⟩
  rcases j3 with ⟨rfl,_,g2,g3,_⟩|⟨rfl,rfl⟩
  .obtain rfl:=e2 e1.symm
   obtain ⟨k3,rfl⟩:∃k3,k'=k3+1:=⟨k' - 1,AC⟩
   rw [g2]
   exact ⟨rfl,j2⟩
  .exact ⟨l,j2⟩
 cases w with
 |true=>
  have hout:=out true rfl (λe=>by cases e)
  refine Ad (Af Ac ?_)
  repeat' ((conv=>whnf);first|exact Bi|(refine AE ?_;intros)|(refine Bj ?_ ?_ ?_;rotate_left)|(refine Bb ?_ ?_<;>intro _)|refine Al j2.k ?_|fail)
  refine Af Ac ?_
  repeat' ((conv=>whnf);first|exact Bi|(refine AE ?_;intros)|(refine Bj ?_ ?_ ?_;rotate_left)|(refine Bb ?_ ?_<;>intro _)|fail)
  all_goals exact AF rfl (h _ _ hout)
 |false=>
  obtain ⟨_,g1,g2,g3,g4,g5⟩|⟨e,_⟩:=j3
  rotate_left
  .cases e
  cases l with
  |nil=>
   have hout:=out false rfl (λ_=>rfl)
   refine Ad (Af Ac ?_)
   repeat' ((conv=>whnf);first|refine IU (n:=0) rfl ?_|exact Bi|(refine AE ?_;intros)|(refine Bj ?_ ?_ ?_;rotate_left)|(refine Bb ?_ ?_<;>intro _)|refine Al j2.k ?_|fail)
   refine Af Ac ?_
   repeat' ((conv=>whnf);first|exact Bi|(refine AE ?_;intros)|(refine Bj ?_ ?_ ?_;rotate_left)|(refine Bb ?_ ?_<;>intro _)|fail)
   all_goals exact AF rfl (h _ _ hout)
  |cons p r=>
   clear out
   obtain ⟨k3,rfl⟩:∃k3,k'=k3+1:=⟨k' - 1,AC⟩
   rw [List.length_cons] at g3
   rw [Bf] at g5
   rw [Eg] at g2
   rw [CB] at g4
   have hpos:(0:Int)<((r.length+1:Nat):Int):=AC
   refine Ad (Af Ac ?_)
   repeat' ((conv=>whnf);first|refine IU (n:=r.length+1) (List.length_map ..) ?_|refine Wv hpos ?_|exact Bi|(refine AE ?_;intros)|(refine Bj ?_ ?_ ?_;rotate_left)|(refine Bb ?_ ?_<;>intro _)|refine Al j2.k ?_|fail)
   obtain ⟨ow,hbe⟩:=j2.e
   refine FP (Ad (HF Ac (Bq _) (λ_ _ _ _ _ h k=>k.mono h) 11 7 [(0,true),(1,true),(2,true),(3,true),(4,true),(5,true),(6,true),(7,true),(8,true),(9,true),(10,false)] [] rfl rfl rfl EQ EQ rfl rfl rfl (Nat.le_of_ble_eq_true rfl) rfl ?_))
   repeat' ((conv=>whnf);first|refine Wm (ks:=p::r) rfl Do ?_|exact Bi|(refine AE ?_;intros)|(refine Bj ?_ ?_ ?_;rotate_left)|(refine Bb ?_ ?_<;>intro _)|refine Al j2.k ?_|refine xB j2.n AC hbe (λU hle1=>?_)|fail)
   have x1:=j2.set (nW hle1) (hle1.1 _ _ j2.k)
   have l1:=Ei j1 (nW hle1)
   generalize RJ env p=f at g2 |-
   have x2:=x1.set (l':=r) (w':=false) GQ (St.Ai ..)
   have hrw:CB true r=true:=by
    split at g4
    .exact g4
    .cases g4
   by_cases c1:o.prec=f.prec/\(o.side≠f.side\/o.side=3)
   .rw [if_pos c1] at g2
    subst g2
    have x2:=x1.set (l':=p::r) (w':=true) GQ (St.Ai ..)
    refine Ad (Af Ac ?_)
    repeat' ((conv=>whnf);first|exact Bi|(refine AE ?_;intros)|(refine Bj ?_ ?_ ?_;rotate_left)|(refine Bb ?_ ?_<;>intro _)|refine Al x1.k ?_|refine Al (hle1.1 _ _ j2.k) ?_|fail)
    all_goals try (exfalso;omega)
    all_goals refine Af Ac ?_
    all_goals (repeat' ((conv=>whnf);first|exact Bi|(refine AE ?_;intros)|(refine Bj ?_ ?_ ?_;rotate_left)|(refine Bb ?_ ?_<;>intro _)|fail))
    all_goals exact AF rfl (h _ _ ⟨Ei l1 GQ,_,x2⟩)
   .rw [if_neg c1] at g2
    refine Ad (Af Ac ?_)
    repeat' ((conv=>whnf);first|exact Bi|(refine AE ?_;intros)|(refine Bj ?_ ?_ ?_;rotate_left)|(refine Bb ?_ ?_<;>intro _)|fail)
    all_goals try (exfalso;omega)
    all_goals by_cases c2:f.prec<o.prec\/o.prec=f.prec/\o.side=1
    all_goals refine Ad (Af Ac ?_)
    all_goals (repeat' ((conv=>whnf);first|exact Bi|(refine AE ?_;intros)|(refine Bj ?_ ?_ ?_;rotate_left)|(refine Bb ?_ ?_<;>intro _)|fail))
    all_goals try (exfalso;omega)
    all_goals first
     |(rw [if_pos AC] at g2
       subst g2
       refine Af Ac ?_
       repeat' ((conv=>whnf);first|exact Bi|(refine AE ?_;intros)|(refine Bj ?_ ?_ ?_;rotate_left)|(refine Bb ?_ ?_<;>intro _)|fail)
       all_goals exact AF rfl (h _ _ ⟨l1,rfl,x1⟩))
     |(rw [if_neg AC] at g2
       refine Af Ac ?_
       cases hq:Df env k3 f r with
       |none=>
        rw [hq] at g2
        have hb2:∀{U:St} {R:As->St->Prop},P8 env b2 b U r false->(∀n l st',St.YD b U st'->P8 env b2 b st' l true->R (.ret (enc n)) st')->PC 139 [.ptr b 0,.agg f.cells] U R:=λhx h=>hB k3 AC AC hrw AC hx λn st' ha=>by
         rw [hq] at ha
         obtain ⟨h1,l,h3⟩:=ha
         exact h n l st' h1 h3
        repeat' ((conv=>whnf);first|exact Bi|(refine AE ?_;intros)|(refine Bj ?_ ?_ ?_;rotate_left)|(refine Bb ?_ ?_<;>intro _)|refine OY x1.k ?_|refine Al x2.k ?_|refine hb2 x2 (λn2 l2 st2 hl2 x3=>?_)|refine Ab [(0,true),(1,true),(2,true),(3,true),(4,true),(5,true),(6,true),(7,true),(8,true),(9,true),(10,false),(11,false),(12,false)] [3] GE ?_|refine Ab [(0,true),(1,true),(2,true),(3,true),(4,true),(5,true),(6,true),(7,false),(8,true),(9,true),(10,false)] [1] GE ?_|fail)
        all_goals conv=>whnf
        all_goals exact ⟨(k3,At 20 [n,p,n2],.full,l2,true,st2),⟨Ei l1 (Ei GQ hl2),x3,.inr ⟨rfl,g2⟩⟩,Nat.succ_pos _,by dsimp only;rw [xk];exact Yl,St.le_refl _⟩
       |some q=>
        rw [hq] at g2
        obtain ⟨ok1,ok2,ok3⟩:=Ji k3 hq hrw
        have hb2:∀{U:St} {R:As->St->Prop},P8 env b2 b U r false->(∀st',St.YD b U st'->P8 env b2 b st' q.2 false->R (.ret (enc q.1)) st')->PC 139 [.ptr b 0,.agg f.cells] U R:=λhx h=>hB k3 AC AC hrw AC hx λn st' ha=>by
         rw [hq] at ha
         obtain ⟨h1,rfl,h3⟩:=ha
         exact h st' h1 h3
        repeat' ((conv=>whnf);first|exact Bi|(refine AE ?_;intros)|(refine Bj ?_ ?_ ?_;rotate_left)|(refine Bb ?_ ?_<;>intro _)|refine OY x1.k ?_|refine Al x2.k ?_|refine hb2 x2 (λst2 hl2 x3=>?_)|refine Ab [(0,true),(1,true),(2,true),(3,true),(4,true),(5,true),(6,true),(7,true),(8,true),(9,true),(10,false),(11,false),(12,false)] [3] GE ?_|refine Ab [(0,true),(1,true),(2,true),(3,true),(4,true),(5,true),(6,true),(7,false),(8,true),(9,true),(10,false)] [1] GE ?_|fail)
        all_goals conv=>whnf
        all_goals exact ⟨(k3,At 20 [n,p,q.1],.full,q.2,false,st2),⟨Ei l1 (Ei GQ hl2),x3,.inl ⟨rfl,RL,g2,RL,ok1,RL⟩⟩,by show q.2.length+1<(p::r).length+1;rw [List.length_cons];omega,by dsimp only;rw [xk];exact Yl,St.le_refl _⟩)
theorem ma (env:List Fx):∀k,(∀j,j<=k->QM env j)/\aI env k
 |0=>⟨λj U=>by
   obtain rfl:j=0:=AC
   exact λh=>absurd h (Nat.not_lt_zero _),λh=>absurd h (Nat.not_lt_zero _)⟩
 |k+1=>by
  obtain ⟨h1,h2⟩:=ma env k
  have h3:QM env (k+1):=rY (h1 k (Nat.le_refl _)) h2
  exact ⟨λj U=>by
   rcases Nat.lt_or_ge j (k+1) with h|h
   .exact h1 j AC
   .obtain rfl:j=k+1:=AC
    exact h3,td h1⟩
theorem fh {a c d:St} (h:a.le c) (hb:a.box b=none) (k:St.YD b c d):a.le d:=⟨λx cs e=>k.1 x cs (λe'=>by subst e';rw [hb] at e;cases e) (h.1 x cs e),λx n e=>k.2 x n (h.2 x n e)⟩
theorem wq (hn:env.length<=1000000000) (ht:BX n<=100000000) (h1:∀t,OL env n=.inr t->∀m,st.le m->R (.ret (.Bc [enc t,.int .i64 0])) m) (h2:∀e,OL env n=.inl e->∀m,st.le m->R (.ret (.Bc [enc Hv,.int .i64 e])) m):PC 91 [.slice 3 (Az env) w,enc n] st R:=by
 have htk:=Ce n
 refine DP Ac [2,22] Tryz.func91 rfl Do ?_
 unfold OL at h1 h2
 by_cases hk:n.kind=17
 .rw [if_pos hk] at h1 h2
  cases hr:CB true n.kids with
  |false=>
   rw [hr,if_neg Do] at h2
   have hrow:∀{st:St} {R:As->St->Prop},R (.ret (.bool false)) st->PC 135 [.slice 6 (Bg n.kids) .any] st R:=λh=>wE AC (by rw [hr];exact h)
   repeat' ((conv=>whnf);first|(refine AE ?_;intros)|refine D5 (λb2 f2=>?_)|refine hrow ?_)
   all_goals exact AF rfl (h2 _ rfl _ (St.Ag (St.le_refl _) f2.1 _))
  |true=>
   rw [hr,if_pos rfl] at h1 h2
   have hrow:∀{st:St} {R:As->St->Prop},R (.ret (.bool true)) st->PC 135 [.slice 6 (Bg n.kids) .any] st R:=λh=>wE AC (by rw [hr];exact h)
   repeat' ((conv=>whnf);first|(refine AE ?_;intros)|refine D5 (λb f=>?_)|refine hrow ?_|refine Al (St.Ai ..) ?_)
   rename_i b2 f2
   obtain ⟨hne,fb⟩:=A5 f
   have hx:∀C0 C1 C2,P8 env b2 b (((((st.Aa b2 [.slice 3 (Az env) w]).Aa b C0).Aa b C1).Aa b C2).Aa b (kx b2 b n.kids false)) n.kids false:=λC0 C1 C2=>⟨hne,St.Ai ..,⟨w,by rw [St.Ak hne.symm,St.Ak hne.symm,St.Ak hne.symm,St.Ak hne.symm,St.Ai]⟩,hn⟩
   have hle:∀C0 C1 C2 C3,st.le (((((st.Aa b2 [.slice 3 (Az env) w]).Aa b C0).Aa b C1).Aa b C2).Aa b C3):=λ_ _ _ _=>St.Ag (St.Ag (St.Ag (St.Ag (St.Ag (St.le_refl _) f2.1 _) fb.1 _) fb.1 _) fb.1 _) fb.1 _
   have hb:∀{U:St} {R:As->St->Prop},P8 env b2 b U n.kids false->(∀n' st',L2 env b2 b U (Df env (2*n.kids.length+2) ⟨[],3, -1⟩ n.kids) n' st'->R (.ret (enc n')) st')->PC 139 [.ptr b 0,.agg [.str [],.int .i64 3,.int .i64 (-1)]] U R:=λhx h=>(ma env (2*n.kids.length+2)).1 _ (Nat.le_refl _) (o:=⟨[],3, -1⟩) AC hr AC hx h
   cases hz:Df env (2*n.kids.length+2) ⟨[],3, -1⟩ n.kids with
   |none=>
    rw [hz] at h2 hb
    have hb2:∀{U:St} {R:As->St->Prop},P8 env b2 b U n.kids false->(∀n' l st',St.YD b U st'->st'.box b=some (kx b2 b l true)->R (.ret (enc n')) st')->PC 139 [.ptr b 0,.agg [.str [],.int .i64 3,.int .i64 (-1)]] U R:=λhx h=>hb hx λn' st' ha=>ha.2.elim λl hl=>h n' l st' ha.1 hl.k
    repeat' ((conv=>whnf);first|(refine AE ?_;intros)|refine hb2 (hx _ _ _) (λm l2 st2 hl2 hb2=>?_)|refine Al ‹_› ?_)
    all_goals exact AF rfl (h2 _ rfl _ (fh (hle _ _ _ _) fb.1 hl2))
   |some q=>
    rw [hz] at h1 hb
    have hb2:∀{U:St} {R:As->St->Prop},P8 env b2 b U n.kids false->(∀st',St.YD b U st'->st'.box b=some (kx b2 b q.2 false)->R (.ret (enc q.1)) st')->PC 139 [.ptr b 0,.agg [.str [],.int .i64 3,.int .i64 (-1)]] U R:=λhx h=>hb hx λn' st' ha=>by
     obtain ⟨h1,rfl,h3⟩:=ha
     exact h st' h1 h3.k
    repeat' ((conv=>whnf);first|(refine AE ?_;intros)|refine hb2 (hx _ _ _) (λst2 hl2 hb2=>?_)|refine Al ‹_› ?_)
    all_goals exact AF rfl (h1 _ rfl _ (fh (hle _ _ _ _) fb.1 hl2))
 .rw [if_neg hk] at h1 h2
  repeat' ((conv=>whnf);first|(refine AE ?_;intros)|refine D5 (λb2 f2=>?_))
  all_goals exact AF rfl (h1 _ rfl _ (St.Ag (St.le_refl _) f2.1 _))
end
end Go.Proofs.Z
namespace Go.Aw
open Go
theorem cZ (s:List UInt8):(Ar s).1=15\/(Ar s).1=10\/(Ar s).1=6\/(Ar s).1=5\/(Ar s).1=2\/(Ar s).1=9\/(Ar s).1=1\/(Ar s).1=0:=by
 have h:=LJ (s.take (BD (λc=>AA c==5) s))
 unfold Ar
 (repeat' split)<;>first|omega|(dsimp only;omega)
theorem jZ (k:Int):BZ k=3\/BZ k=4\/BZ k=7\/BZ k=8\/BZ k=0:=by
 unfold BZ
 (repeat' split)<;>omega
theorem kz {n:Nat} {k:Int} (h:k=15\/k=10\/k=6\/k=5\/k=2\/k=9\/k=1\/k=0\/k=3\/k=4\/k=7\/k=8):(Co s n k).1=15\/(Co s n k).1=10\/(Co s n k).1=6\/(Co s n k).1=5\/(Co s n k).1=2\/(Co s n k).1=9\/(Co s n k).1=1\/(Co s n k).1=0\/(Co s n k).1=3\/(Co s n k).1=4\/(Co s n k).1=7\/(Co s n k).1=8:=by
 fun_induction Co s n k with
 |case1 n k hn U ih=>exact ih (by have:=jZ (Ar (s.drop (n+1))).1;omega)
 |case2 n k hn U=>exact h
 |case3 n k hn=>exact h
theorem jT (h:(Ar s).1=2):(Ar s).2=Cr s/\B3 s≠5:=by
 have h5:=LJ (s.take (BD (λc=>AA c==5) s))
 unfold Ar at h |-
 (repeat' split at h)<;>first|(exfalso;dsimp only at h;omega)|skip
 .rename_i h1 h2 h3
  rw [if_neg h1,if_neg h2,if_pos h3]
  exact ⟨rfl,h2⟩
theorem c8 (h:BZ (Ar s).1≠0) (h5:B3 s≠5):(Ar s).2=Cr s/\((Ar s).1=1\/(Ar s).1=2):=by
 by_cases U:B3 s=6
 .have e:Ar s=(15,1):=by unfold Ar;rw [if_pos U]
  rw [e] at h;exact absurd rfl h
 by_cases h3:B3 s=3
 .have e:Ar s=(2,Cr s):=by unfold Ar;rw [if_neg U,if_neg h5,if_pos h3]
  rw [e];exact ⟨rfl,.inr rfl⟩
 by_cases h2:B3 s=2
 .have e:Ar s=(if TM (s.take (Cr s)) then 9 else 1,Cr s):=by unfold Ar;rw [if_neg U,if_neg h5,if_neg h3,if_pos h2]
  rw [e] at h |-
  by_cases hr:TM (s.take (Cr s))=true
  .rw [if_pos hr] at h;exact absurd rfl h
  .rw [if_neg hr];exact ⟨rfl,.inl rfl⟩
 .have e:Ar s=(0,0):=by unfold Ar;rw [if_neg U,if_neg h5,if_neg h3,if_neg h2]
  rw [e] at h;exact absurd rfl h
theorem jV (h5:B3 s=5):(Ar s).1=H6 (s.take (BD (λc=>AA c==5) s)):=by
 unfold Ar
 rw [if_neg AC,if_pos h5]
end Go.Aw
namespace Go.Proofs.Z
open Go Go.Aw
theorem aa {n:Nat} (h:n<=s.length):s.take n=s↔n=s.length:=by
 refine ⟨λe=>?_,λe=>by rw [e,List.take_length]⟩
 have:=congrArg List.length e
 rw [List.length_take] at this;omega
section
variable {st:St} {R:As->St->Prop}
theorem uR (h:R (.ret (.Bc [.int .i64 0,.int .i64 0])) st):PC 304 [.str [],.int .i64 0] st R:=by
 refine pB Tryz.func304 ?_
 repeat' ((conv=>whnf);first|  (refine AE ?_;intros)|refine fQ (pos:=0) (Nat.le_refl _) Do Do ?_|fail)
 all_goals exact fin h rfl
theorem fX (hl:s.length<=100000000) (h:R (.ret (.int .i64 (if s.take (AO s).2=s then (AO s).1 else 0))) st):PC 262 [.str s] st R:=by
 refine pB Tryz.func262 ?_
 have hw:=Le s
 by_cases h0:s=[]
 .subst h0
  rw [show AO []=(0,0) by unfold AO;rw [show Ar []=(0,0) from rfl,EB GT]] at h
  repeat' ((conv=>whnf);first|(refine AE ?_;intros)|(refine Bb ?_ ?_<;>intro _)|refine uR ?_|refine WJ (λ_=>?_))
  all_goals exact fin h rfl
 .have hpos:0<s.length:=List.length_pos_iff.2 h0
  have hta:=aa hw
  by_cases hk:(AO s).1=0
  .have hs:CT s 0=(0,0):=by unfold CT;rw [List.drop_zero,if_pos hk]
   rw [hk,ite_self] at h
   have U:∀{st:St} {R:As->St->Prop},R (.ret (.Bc [.int .i64 0,.int .i64 0])) st->PC 304 [.str s,.int .i64 0] st R:=λh=>ZI (pos:=0) hl hpos (by rw [hs];exact h)
   repeat' ((conv=>whnf);first|(refine AE ?_;intros)|(refine Bb ?_ ?_<;>intro _)|refine U ?_|refine WJ (λ_=>?_))
   all_goals first|exact fin h rfl|(exfalso;omega)
  .have hs:CT s 0=((AO s).1,(((AO s).2:Nat):Int)):=by unfold CT;rw [List.drop_zero,if_neg hk,Nat.zero_add]
   have U:∀{st:St} {R:As->St->Prop},R (.ret (.Bc [.int .i64 (AO s).1,.int .i64 ((AO s).2:Nat)])) st->PC 304 [.str s,.int .i64 0] st R:=λh=>ZI (pos:=0) hl hpos (by rw [hs];exact h)
   by_cases he:(AO s).2=s.length
   .rw [if_pos (hta.2 he)] at h
    repeat' ((conv=>whnf);first|(refine AE ?_;intros)|(refine Bb ?_ ?_<;>intro _)|refine U ?_|refine WJ (λ_=>?_))
    all_goals first|exact fin h rfl|(exfalso;omega)
   .rw [if_neg (λe=>he (hta.1 e))] at h
    repeat' ((conv=>whnf);first|(refine AE ?_;intros)|(refine Bb ?_ ?_<;>intro _)|refine U ?_|refine WJ (λ_=>?_))
    all_goals first|exact fin h rfl|(exfalso;omega)
structure SpJ (s:List UInt8) (n:Nat) (q a k:Int):Prop where
 h1:n<=s.length
 h2:AO s=Co s n k
 h3:Ml s=JM s n k a
 h4:n<s.length\/(a=q+1/\q<n)
 h5:0<=q
theorem ky {n:Nat} {k:Int} (h:(Co s n k).2=s.length) (hn:n<s.length):(k=2\/k=4)/\AV (s.drop n)=46/\BZ (Ar (s.drop (n+1))).1≠0:=by
 by_cases U:(k=2\/k=4)/\AV (s.drop n)=46/\BZ (Ar (s.drop (n+1))).1≠0
 .exact U
 .rw [EB (λe=>U e.2)] at h
  exact absurd h (Nat.ne_of_lt hn)
theorem Zz (hl:s.length<=100000000) (h1:∀t,FA s=some t->∀q,R (.ret (.Bc [.str q,.str t,.int .i64 0])) st) (h2:FA s=none->R (.ret (.Bc [.str [],.str [],.int .i64 30])) st):PC 218 [.str s] st R:=by
 have hw:=Le s
 have hset:(AO s).1=15\/(AO s).1=10\/(AO s).1=6\/(AO s).1=5\/(AO s).1=2\/(AO s).1=9\/(AO s).1=1\/(AO s).1=0\/(AO s).1=3\/(AO s).1=4\/(AO s).1=7\/(AO s).1=8:=kz (by have:=cZ s;omega)
 refine pB Tryz.func218 ?_
 by_cases ht:s.take (AO s).2=s
 .have hk:∀{st:St} {R:As->St->Prop},R (.ret (.int .i64 (AO s).1)) st->PC 262 [.str s] st R:=λh=>fX hl (by rw [if_pos ht];exact h)
  have hall:=(aa hw).1 ht
  by_cases hq:(AO s).1=3\/(AO s).1=4\/(AO s).1=7\/(AO s).1=8
  .have hs:=gw ht hq
   have hp2:(Ar s).1=2:=by
    by_cases e:(Ar s).1=2
    .exact e
    .have hkd:=Pv s
     have:AO s=((Ar s).1,(Ar s).2):=EB (λx=>by omega)
     rw [this] at hq
     dsimp only at hq;omega
   have hnm:=(jT hp2).1
   have hwe:AO s=Co s (Ar s).2 (Ar s).1:=rfl
   have hlt:(Ar s).2<s.length:=by
    rcases Nat.lt_or_ge (Ar s).2 s.length with e|e
    .exact e
    .rw [hwe,EB (λx=>by omega)] at hq
     dsimp only at hq;omega
   have hnl:(0:Nat)+Cr (s.drop 0)=(Ar s).2:=by rw [List.drop_zero,Nat.zero_add,hnm]
   have hn0:∀{st:St} {R:As->St->Prop},R (.ret (.int .i64 ((Ar s).2:Nat))) st->PC 263 [.str s,.int .i64 0] st R:=λh=>Qz (i:=0) hl (Nat.zero_le _) (by rw [hnl];exact h)
   repeat' ((conv=>whnf);first|exact Bi|(refine AE ?_;intros)|(refine Bj ?_ ?_ ?_;rotate_left)|(refine Bb ?_ ?_<;>intro _)|refine hk ?_|refine hn0 ?_|refine Ao GE ?_|fail)
   all_goals refine B5 (α:=Nat×Int×Int×Int) (λy=>[(5,.int .i64 y.2.1),(6,.int .i64 (y.1:Nat))]) [0] (λ_=>[]) [] (λ_=>st) (λy=>SpJ s y.1 y.2.1 y.2.2.1 y.2.2.2) (λy=>s.length - y.1) ((Ar s).2,0,0,(Ar s).1) ⟨HK s,rfl,rfl,.inl hlt,Int.le_refl _⟩ Yl (St.le_refl _) ?_
   all_goals (
    rintro ⟨n,q,a,k⟩ ⟨j1,j2,j3,j4,j5⟩
    dsimp only at j1 j2 j3 j4 j5
    by_cases hn:n<s.length
    .skip
     have hc:=ky (by rw [<-j2];exact hall) hn
     obtain ⟨c1,c2,c3⟩:=hc
     have hg1:=SP hn ⟨c1,c2,c3⟩
     have hg2:=TV (a:=a) hn ⟨c1,c2,c3⟩
     obtain ⟨e,he,hee⟩:∃e,s[(n:Int).toNat]? =some e/\(e.toNat:Int)=46:=by
      rw [drop_at (show s[n]? =some s[n] from List.getElem?_eq_getElem hn)] at c2
      exact ⟨s[n],List.getElem?_eq_getElem hn,c2⟩
     have U:(n:Int)<(s.length:Int):=AC
     have hpl:=HK (s.drop (n+1))
     rw [List.length_drop] at hpl
     by_cases h5:B3 (s.drop (n+1))=5
     .have hsy:=jV h5
      have hsk:=LJ ((s.drop (n+1)).take (BD (λc=>AA c==5) (s.drop (n+1))))
      have hqk:BZ (Ar (s.drop (n+1))).1=7\/BZ (Ar (s.drop (n+1))).1=8:=by
       rw [hsy] at c3 |-
       rcases hsk with e|e|e<;>rw [e] at c3 |-
       .exact absurd rfl c3
       .exact .inr rfl
       .exact .inl rfl
      have ha:Ml s=(n:Int)+1:=by rw [j3,hg2,Og (λx=>by omega)]
      rw [ha] at hs
      repeat' ((conv=>whnf);first|refine Wv U ?_|exact Bi|(refine AE ?_;intros)|(refine Bj ?_ ?_ ?_;rotate_left)|(refine Bb ?_ ?_<;>intro _)|refine WJ (λ_=>?_)|refine WL he AC ?_|refine pF (n:=n+1) AC hl AC (λm=>?_)|refine WO AC AC ?_|refine WN AC AC ?_|refine Wq (a:=(n:Int)+1) AC AC ?_|refine Ao GE ?_|refine Ao GE ?_|fail)
      all_goals exact fin (h1 _ hs _) rfl
     .obtain ⟨hn1,hn2⟩:=c8 c3 h5
      rw [hn1] at hg1 hg2 hpl
      repeat' ((conv=>whnf);first|refine Wv U ?_|exact Bi|(refine AE ?_;intros)|(refine Bj ?_ ?_ ?_;rotate_left)|(refine Bb ?_ ?_<;>intro _)|refine WJ (λ_=>?_)|refine WL he AC ?_|refine pF (n:=n+1) AC hl AC (λm=>?_)|refine fY (n:=n+1) AC hl AC ?_|refine Wq (a:=(n:Int)+1) AC AC ?_|refine Ao GE ?_|fail)
      all_goals conv=>whnf
      all_goals exact ⟨(n+1+Cr (s.drop (n+1)),(n:Int),(n:Int)+1,BZ (Ar (s.drop (n+1))).1),⟨RL,j2.trans hg1,j3.trans hg2,.inr ⟨rfl,RL⟩,RL⟩,RL,Yl,St.le_refl _⟩
    .skip
     obtain ⟨j4,j6⟩:a=q+1/\q<n:=j4.elim (λe=>absurd e hn) id
     have ha:Ml s=q+1:=by rw [j3,Og (λx=>hn x.1),j4]
     rw [ha] at hs
     have U:¬(n:Int)<(s.length:Int):=AC
     repeat' ((conv=>whnf);first|refine Ww U ?_|exact Bi|(refine AE ?_;intros)|(refine Bj ?_ ?_ ?_;rotate_left)|(refine Bb ?_ ?_<;>intro _)|refine WJ (λ_=>?_)|refine WO (b:=q) AC AC ?_|refine WN (a:=q+1) AC AC ?_|refine Wq (a:=q+1) AC AC ?_|refine Ao GE ?_|refine Ao GE ?_|fail)
     all_goals exact fin (h1 _ hs _) rfl)
  .by_cases hu:(AO s).1=1\/(AO s).1=2\/(AO s).1=5\/(AO s).1=6
   .have hs:=gx ht hu
    repeat' ((conv=>whnf);first|exact Bi|(refine AE ?_;intros)|(refine Bj ?_ ?_ ?_;rotate_left)|(refine Bb ?_ ?_<;>intro _)|refine hk ?_|refine Ao GE ?_|fail)
    all_goals first|exact fin (h1 _ hs []) rfl|(exfalso;omega)
   .have hs:=gv ht hq hu
    repeat' ((conv=>whnf);first|exact Bi|(refine AE ?_;intros)|(refine Bj ?_ ?_ ?_;rotate_left)|(refine Bb ?_ ?_<;>intro _)|refine hk ?_|refine Ao GE ?_|fail)
    all_goals first|exact fin (h2 hs) rfl|(exfalso;omega)
 .have hk:∀{st:St} {R:As->St->Prop},R (.ret (.int .i64 0)) st->PC 262 [.str s] st R:=λh=>fX hl (by rw [if_neg ht];exact h)
  repeat' ((conv=>whnf);first|exact Bi|(refine AE ?_;intros)|(refine Bj ?_ ?_ ?_;rotate_left)|(refine Bb ?_ ?_<;>intro _)|refine hk ?_|refine Ao GE ?_|fail)
  all_goals exact fin (h2 (gy ht)) rfl
end
theorem fB {a b:Nd} (U:n.kids=a::b::r) (h:n.kind=35) (hs:EC a≠0):Hc n=if b.kind=1/\b.form=11 then (if (CH b.text).2=0/\(CH b.text).1<=9 then L0 (EC a) (CH b.text).1 r else .inl 120) else L0 (EC a) 9 (b::r):=by
 unfold Hc
 rw [U]
 exact if_pos ⟨h,hs⟩
theorem WT {a b:Nd} (U:n.kids=a::b::r) (h:¬(n.kind=35/\EC a≠0)):Hc n=.inl 120:=by
 unfold Hc
 rw [U]
 exact if_neg h
theorem SB (h:n.kids.length<2):Hc n=.inl 120:=by
 unfold Hc
 match n.kids,h with
 |[],_=>rfl
 |[_],_=>rfl
 |_::_::r,h=>exact absurd h GT
theorem SA {s p:Int} (b:Bool) (U:List Fx):K0 s p b [] U=some U:=by cases b<;>rfl
theorem Jw {s p:Int} (h:l.length % 2=0\/K0 s p false l []=none):L0 s p l=.inl 120:=by
 unfold L0
 rcases h with h|h
 .exact if_pos h
 .split
  .rfl
  .rw [h]
theorem Zh {s p:Int} {m:List Fx} (h:¬l.length % 2=0) (k:K0 s p false l []=some m):L0 s p l=.inr m:=by
 unfold L0
 rw [if_neg h,k]
section
variable {st:St} {R:As->St->Prop}
attribute [local irreducible] Go.Aw.Aj
theorem wu (ht:BX n<=100000000) (h1:∀l,Hc n=.inr l->∀st',st.le st'->R (.ret (.Bc [.slice 3 (Az l) .any,.int .i64 0])) st') (h2:Hc n=.inl 120->∀st',st.le st'->R (.ret (.Bc [.slice 3 [] .any,.int .i64 120])) st') (hz:n.kids.length<=900000000):PC 175 [enc n] st R:=by
 have htk:=Ce n
 refine AM Ac [] Tryz.func175 rfl Do rfl ?_
 refine Ad (Af Ac ?_)
 repeat' ((conv=>whnf);first|exact Bi|(refine AE ?_;intros)|(refine Bj ?_ ?_ ?_;rotate_left)|(refine Bb ?_ ?_<;>intro _)|fail)
 by_cases hlen:n.kids.length<2
 .have U:=SB hlen
  refine Ad (Af Ac ?_)
  repeat' ((conv=>whnf);first|exact Bi|(refine AE ?_;intros)|(refine Bj ?_ ?_ ?_;rotate_left)|(refine Bb ?_ ?_<;>intro _)|fail)
  all_goals exact AF rfl (h2 U _ (St.le_refl _))
 .obtain ⟨a,ha⟩:∃x,n.kids[(0:Int).toNat]? =some x:=⟨_,List.getElem?_eq_getElem (by show 0<n.kids.length;omega)⟩
  obtain ⟨b,hb⟩:∃x,n.kids[1]? =some x:=⟨_,List.getElem?_eq_getElem AC⟩
  have hks:n.kids=a::b::n.kids.drop 2:=by
   have e1:=drop_at (show n.kids[0]? =some a from ha)
   rw [List.drop_zero] at e1
   rw [<-drop_at hb]
   exact e1
  by_cases hk:n.kind=35/\EC a≠0
  .have U:=fB hks hk.1 hk.2
   obtain ⟨hk1,hk2⟩:=hk
   refine Ad (Af Ac ?_)
   repeat' ((conv=>whnf);first|refine Wm ha Do ?_|exact Bi|(refine AE ?_;intros)|(refine Bj ?_ ?_ ?_;rotate_left)|(refine Bb ?_ ?_<;>intro _)|refine VM ?_|fail)
   refine Ad (Af Ac ?_)
   repeat' ((conv=>whnf);first|refine Wm ha Do ?_|exact Bi|(refine AE ?_;intros)|(refine Bj ?_ ?_ ?_;rotate_left)|(refine Bb ?_ ?_<;>intro _)|refine VM ?_|fail)
   refine Ad (Af Ac ?_)
   repeat' ((conv=>whnf);first|exact Bi|(refine AE ?_;intros)|(refine Bj ?_ ?_ ?_;rotate_left)|(refine Bb ?_ ?_<;>intro _)|fail)
   refine DL (α:=List Nd×Int) (λy=>[(5,.slice 6 (Bg y.1) .any)]) (λy=>[(1,[.str [],.int .i64 (EC a),.int .i64 y.2])]) [4] [] (λ_=>st) (λy=>Hc n=L0 (EC a) y.2 y.1/\y.1.length<=900000000/\Bf y.1<=Bf n.kids) ?_ ?_
   .refine Af Ac ?_
    have hd1:(n.kids.drop (Int.toNat 1)).length=n.kids.length - 1:=List.length_drop ..
    have hb':(n.kids.drop (Int.toNat 1))[(0:Int).toNat]? =some b:=by rw [List.getElem?_drop];exact hb
    by_cases hi:b.kind=1/\b.form=11
    .rw [if_pos hi] at U
     obtain ⟨hi1,hi2⟩:=hi
     by_cases hw:(CH b.text).2=0/\(CH b.text).1<=9
     .rw [if_pos hw] at U
      obtain ⟨hw1,hw2⟩:=hw
      repeat' ((conv=>whnf);first|refine Wm hb' Do ?_|exact Bi|(refine AE ?_;intros)|(refine Bj ?_ ?_ ?_;rotate_left)|(refine Bb ?_ ?_<;>intro _)|refine XH ?_|refine Ab [(0,true),(1,true),(2,true),(3,true),(4,false),(5,true)] [1] GE ?_|fail)
      all_goals conv=>whnf
      all_goals exact ⟨((n.kids.drop (Int.toNat 1)).drop (Int.toNat 1),(CH b.text).1),⟨by rw [List.drop_drop];exact U,by rw [List.length_drop,List.length_drop];omega,by rw [List.drop_drop];exact ML _ _⟩,Yl,St.le_refl _⟩
     .rw [if_neg hw] at U
      repeat' ((conv=>whnf);first|refine Wm hb' Do ?_|exact Bi|(refine AE ?_;intros)|(refine Bj ?_ ?_ ?_;rotate_left)|(refine Bb ?_ ?_<;>intro _)|refine XH ?_|fail)
      all_goals first|exact AF rfl (h2 U _ (St.le_refl _))|(exfalso;omega)
    .rw [if_neg hi,<-drop_at hb] at U
     repeat' ((conv=>whnf);first|refine Wm hb' Do ?_|exact Bi|(refine AE ?_;intros)|(refine Bj ?_ ?_ ?_;rotate_left)|(refine Bb ?_ ?_<;>intro _)|fail)
     all_goals conv=>whnf
     all_goals exact ⟨(n.kids.drop (Int.toNat 1),9),⟨U,IR,ML _ _⟩,Yl,St.le_refl _⟩
   .rintro ⟨l,p⟩ ⟨U,hl,htd⟩
    dsimp only at U hl htd |-
    by_cases hm:l.length % 2=0
    .have U:=U.trans (Jw (.inl hm))
     refine Ad (Af Ac ?_)
     have hm':=GD.2 hm
     repeat' ((conv=>whnf);first|exact Bi|(refine AE ?_;intros)|(refine Bj ?_ ?_ ?_;rotate_left)|(refine Bb ?_ ?_<;>intro _)|refine Ws Do ?_|fail)
     all_goals exact AF rfl (h2 U _ (St.le_refl _))
    .have hm':=λe=>hm (GD.1 e)
     refine Ad (Af Ac ?_)
     repeat' ((conv=>whnf);first|exact Bi|(refine AE ?_;intros)|(refine Bj ?_ ?_ ?_;rotate_left)|(refine Bb ?_ ?_<;>intro _)|refine Ws Do ?_|fail)
     refine Af Ac ?_
     repeat' ((conv=>whnf);first|exact Bi|(refine AE ?_;intros)|(refine Bj ?_ ?_ ?_;rotate_left)|(refine Bb ?_ ?_<;>intro _)|fail)
     refine B5 (α:=Nat×AH×List UInt8×List Fx) (λy=>[(8,.slice 3 (Az y.2.2.2) y.2.1),(76,.int .i64 (y.1:Nat))]) [4,74,75] (λy=>[(1,[.str y.2.2.1,.int .i64 (EC a),.int .i64 p])]) [] (λy=>y.2.1.st st (y.2.2.2.length*3)) (λy=>y.1<=l.length/\y.2.1.BM st/\y.2.2.2.length<=y.1/\K0 (EC a) p false l []=K0 (EC a) p (y.1 % 2==1) (l.drop y.1) y.2.2.2) (λy=>l.length - y.1) (0,.full,[],[]) ⟨Nat.zero_le _,trivial,Nat.zero_le _,rfl⟩ Yl (St.le_refl _) ?_
     rintro ⟨i,w,op,acc⟩ ⟨j1,j2,j3,j4⟩
     dsimp only at j1 j2 j3 j4 |-
     by_cases hlt:i<l.length
     .obtain ⟨x,hx⟩:∃x,l[(i:Int).toNat]? =some x:=⟨_,List.getElem?_eq_getElem hlt⟩
      rw [drop_at (show l[i]? =some x from hx)] at j4
      have hxt:=Cp (List.mem_of_getElem? hx)
      have hli:(i:Int)<(l.length:Int):=AC
      by_cases hodd:i % 2=1
      .have hod':=JI.2 hodd
       rw [show (i % 2==1)=true by simp [hodd],K0] at j4
       by_cases hc:x.kind=1/\x.form=15/\x.text=[44]
       .rw [if_pos hc] at j4
        obtain ⟨hc1,hc2,hc3⟩:=hc
        repeat' ((conv=>whnf);first|refine Wv hli ?_|exact Bi|(refine AE ?_;intros)|(refine Bj ?_ ?_ ?_;rotate_left)|(refine Bb ?_ ?_<;>intro _)|refine Wm hx AC ?_|refine Ws Do ?_|refine Wq (a:=(i:Int)+1) AC AC ?_|fail)
        all_goals conv=>whnf
        all_goals exact ⟨(i+1,w,op,acc),⟨hlt,j2,RL,by rw [j4];dsimp only;rw [show ((i+1) % 2==1)=false by simp;omega]⟩,Nat.sub_lt_sub_left hlt (Nat.lt_succ_self i),Yl,St.le_refl _⟩
       .rw [if_neg hc] at j4
        have U:=U.trans (Jw (.inr j4))
        repeat' ((conv=>whnf);first|refine Wv hli ?_|exact Bi|(refine AE ?_;intros)|(refine Bj ?_ ?_ ?_;rotate_left)|(refine Bb ?_ ?_<;>intro _)|refine Wm hx AC ?_|refine Ws Do ?_|fail)
        all_goals first|exact AF rfl (h2 U _ (AH.Bz j2))|exact absurd ⟨FS,FS,FS⟩ hc
      .have hev':=λe=>hodd (JI.1 e)
       rw [show (i % 2==1)=false by simp;omega,K0] at j4
       cases hn:Hp x with
       |some t=>
        rw [hn] at j4
        have hnm:∀{st:St} {R:As->St->Prop},R (.ret (.Bc [.str t,.bool true])) st->PC 137 [enc x] st R:=λh=>V6 AC (λt' e=>by rw [hn] at e;cases e;exact h) (λe=>by rw [hn] at e;cases e)
        repeat' ((conv=>whnf);first|refine Wv hli ?_|exact Bi|(refine AE ?_;intros)|(refine Bj ?_ ?_ ?_;rotate_left)|(refine Bb ?_ ?_<;>intro _)|refine Wm hx AC ?_|refine Ws Do ?_|refine hnm ?_|refine aO (x:=⟨t,EC a,p⟩) j2 AC (λown1 ho1=>?_)|refine Wq (a:=(i:Int)+1) AC AC ?_|fail)
        all_goals conv=>whnf
        all_goals exact ⟨(i+1,own1,t,acc++[⟨t,EC a,p⟩]),⟨hlt,ho1,by dsimp only;rw [List.length_append,List.length_singleton];omega,by rw [j4];dsimp only;rw [show ((i+1) % 2==1)=true by simp;omega]⟩,Nat.sub_lt_sub_left hlt (Nat.lt_succ_self i),Yl,St.le_refl _⟩
       |none=>
        rw [hn] at j4
        have U:=U.trans (Jw (.inr j4))
        have hnm:∀{st:St} {R:As->St->Prop},R (.ret (.Bc [.str [],.bool false])) st->PC 137 [enc x] st R:=λh=>V6 AC (λt' e=>by rw [hn] at e;cases e) (λ_=>h)
        repeat' ((conv=>whnf);first|refine Wv hli ?_|exact Bi|(refine AE ?_;intros)|(refine Bj ?_ ?_ ?_;rotate_left)|(refine Bb ?_ ?_<;>intro _)|refine Wm hx AC ?_|refine Ws Do ?_|refine hnm ?_|fail)
        all_goals exact AF rfl (h2 U _ (AH.Bz j2))
     .rw [List.drop_of_length_le AC,SA] at j4
      have U:=U.trans (Zh hm j4)
      have hli:¬(i:Int)<(l.length:Int):=AC
      repeat' ((conv=>whnf);first|refine Ww hli ?_|exact Bi|(refine AE ?_;intros)|(refine Bj ?_ ?_ ?_;rotate_left)|(refine Bb ?_ ?_<;>intro _)|fail)
      all_goals exact AF rfl (h1 _ U _ (AH.Bz j2))
  .have U:=WT hks hk
   refine Ad (Af Ac ?_)
   repeat' ((conv=>whnf);first|refine Wm ha Do ?_|exact Bi|(refine AE ?_;intros)|(refine Bj ?_ ?_ ?_;rotate_left)|(refine Bb ?_ ?_<;>intro _)|refine VM ?_|fail)
   all_goals first|exact AF rfl (h2 U _ (St.le_refl _))|(exfalso;omega)
end
theorem Cn (l:List Tk):(AU l).length=l.length:=by unfold AU;rw [List.length_map]
theorem w8 {l:List Tk} {x:Tk} {own:AH} {st:St} {K:V->St->Prop} (h:own.BM st) (hb:l.length+1<=1000000000)
 (k:∀U:AH,U.BM st->K (.slice 4 (AU (l++[x])) U) (U.st st ((l++[x]).length*4))):Aj 4 40 (AU l) own [x.cells] (own.st st (l.length*4)) K:=by
 have:=EI (sz:=4) (bytes:=40) (es:=AU l) (new:=[x.cells]) (K:=K) h (by rw [Cn];show (l.length+1)*40<=_;omega) (by rw [Cn];show l.length+1<DR;simp only [DR];omega) rfl (λU ho=>by
  have:=k U ho
  rw [Cn]
  have e:AU l++[x.cells].map (·.map V.JK)=AU (l++[x]):=by unfold AU;rw [List.map_append];rfl
  rw [e]
  rw [List.length_append] at this
  exact this)
 rw [Cn] at this
 exact this
def jC (st:St) (bo:Nat) (l:List Tk) (own:AH):St:=own.st (st.Aa bo [.slice 4 (AU l) own]) (l.length*4)
theorem WU {own:AH} {st:St} {n:Nat}:(own.st st n).box b=st.box b:=by cases own<;>rfl
theorem eO {own:AH} {st:St} (hb:st.box b≠none) (h:own.BM st):own.BM (st.Aa b cs):=by
 cases own with
 |any=>exact h
 |full=>trivial
 |tok t=>
  have:b≠t:=λe=>by subst e;exact hb h.1
  exact ⟨by rw [St.Ak this];exact h.1,h.2⟩
theorem nD {own:AH} {st:St} (h:own.BM (st.Aa b cs)):own.BM st:=by
 cases own with
 |any=>exact h
 |full=>trivial
 |tok t=>exact (A5 h).2
theorem oC {st:St} {l:List Tk} {own:AH}:(jC st bo l own).box bo=some [.slice 4 (AU l) own]:=by unfold jC;rw [WU,St.Ai]
theorem ua {st:St} {l:List Tk} {own:AH} (h:bo≠b):(jC st bo l own).box b=st.box b:=by unfold jC;rw [WU,St.Ak h]
theorem ub {st:St} {l l':List Tk} {own U:AH}:(U.st (st.Aa bo [.slice 4 (AU l) own]) (l'.length*4)).Aa bo [.slice 4 (AU l') U]=jC st bo l' U:=by
 rw [WX,St.set_set];rfl
theorem R9 (h:¬n.kind=1):A0 n=AG n.kids:=by
 cases n with
 |mk a b c d e ks=>rw [A0,if_neg (show ¬a=1 from h)];rfl
theorem Sa (h:n.kind=1):A0 n=[⟨n.form,n.text,n.line,n.BT⟩]:=by
 cases n with
 |mk a b c d e ks=>rw [A0,if_pos (show a=1 from h)];rfl
theorem IQ (h:l[k]? =some x):AG (l.take (k+1))=AG (l.take k)++A0 x:=by
 rw [List.take_add_one,h,Cq]
 show _++AG [x]=_
 rw [BC]
theorem KS (h:l[k]? =some x):(AG (l.take k)).length+(A0 x).length<=(AG l).length:=by
 have e:l=l.take (k+1)++l.drop (k+1):=(List.take_append_drop _ _).symm
 have:AG l=AG (l.take k)++A0 x++AG (l.drop (k+1)):=by
  conv=>lhs;rw [e]
  rw [Cq,IQ h]
 grind
section
variable {R:As->St->Prop}
attribute [local irreducible] Go.Aw.Aj
theorem jl:∀(m:Nat) {n:Nd} {st:St} {bo bw:Nat} {l:List Tk} {own:AH} {R:As->St->Prop},n.size<=m->bo≠bw->st.box bo≠none->st.box bw=some [.func 52 [] [.ptr bo 0,.ptr bw 0]]->own.BM st->l.length+(A0 n).length<=100000000->
 (∀own':AH,own'.BM st->R (.ret (.Bc [])) (jC st bo (l++A0 n) own'))->PC 52 [enc n,.ptr bo 0,.ptr bw 0] (jC st bo l own) R:=by
 intro m
 induction m with
 |zero=>intro n st bo bw l own R hm;cases n;rw [Nd.size] at hm;omega
 |succ m ih=>
  intro n st bo bw l own R hm hne hb hw hg hl h
  refine pB Tryz.func52 ?_
  by_cases hk:n.kind=1
  .rw [Sa hk] at h hl
   have hn:l.length+1<=1000000000:=by simp only [List.length_singleton] at hl;omega
   repeat' ((conv=>whnf);first|(refine AE ?_;intros)|refine Am oC ?_|refine w8 (st:=st.Aa bo [.slice 4 (AU l) own]) (l:=l) (x:=⟨n.form,n.text,n.line,n.BT⟩) (eO hb hg) hn (λU ho1=>?_)|refine Am (by rw [WU,St.Ai]) ?_)
   all_goals exact bP rfl ub (h U (nD ho1))
  .rw [R9 hk] at h hl
   repeat' ((conv=>whnf);first|(refine AE ?_;intros)|fail)
   refine B5 (α:=Nat×AH) (λx=>[(24,.int .i64 (x.1:Nat))]) [22,23,1,2] (λx=>[]) [] (λx=>jC st bo (l++AG (n.kids.take x.1)) x.2) (λx=>x.2.BM st/\x.1<=n.kids.length) (λx=>n.kids.length - x.1) (0,own) ⟨hg,Nat.zero_le _⟩ Yl
    (by show St.le (jC st bo (l++AG (n.kids.take 0)) own) _;rw [List.take_zero,AG,List.append_nil];exact St.le_refl _) ?_
   rintro ⟨k,U⟩ ⟨j1,j2⟩
   dsimp only at j1 j2
   by_cases hlt:k<n.kids.length
   .obtain ⟨x,hx⟩:∃x,n.kids[(k:Int).toNat]? =some x:=⟨_,List.getElem?_eq_getElem hlt⟩
    have hx':n.kids[k]? =some x:=hx
    have hxs:=CC (List.mem_of_getElem? hx')
    have hle:=KS hx'
    have hll:∀k x,n.kids[k]? =some x->(l++AG (n.kids.take k)).length+(A0 x).length<=100000000:=λk x e=>by have:=KS e;grind
    have hW:(jC st bo (l++AG (n.kids.take k)) U).box bw=some [.func 52 [] [.ptr bo 0,.ptr bw 0]]:=by rw [ua hne];exact hw
    repeat' ((conv=>whnf);first|(refine AE ?_;intros)|refine Am hW ?_|refine ih (n:=x) (l:=l++AG (n.kids.take k)) AC hne hb hw j1 (hll k x hx') (λown2 ho2=>?_)|refine Wq (a:=(k:Int)+1) AC AC ?_)
    all_goals conv=>whnf
    all_goals exact ⟨(k+1,own2),⟨ho2,hlt⟩,Nat.sub_lt_sub_left hlt (Nat.lt_succ_self k),Yl,by
     show St.le (jC st bo (l++AG (n.kids.take (k+1))) own2) _
     rw [IQ hx',<-List.append_assoc]
     exact St.le_refl _⟩
   .have hk2:k=n.kids.length:=AC
    repeat' ((conv=>whnf);first|(refine AE ?_;intros)|fail)
    all_goals exact bP rfl (by rw [hk2,List.take_length]) (h U j1)
theorem nv {l:List Tk} {own:AH}:As.ret (.slice 4 (AU l) .any)=(As.ret (.slice 4 (AU l) own)).wk:=rfl
theorem jm {st:St} {bw:Nat} {R:As->St->Prop} (hne:bo≠bw) (hb:st.box bo=some [.slice 4 [] .full]) (hw:st.box bw=some [.func 52 [] [.ptr bo 0,.ptr bw 0]]) (hl:(A0 n).length<=100000000)
 (h:∀U:AH,U.BM st->R (.ret (.Bc [])) (jC st bo (A0 n) U)):PC 52 [enc n,.ptr bo 0,.ptr bw 0] st R:=by
 have:=jl n.size (n:=n) (st:=st) (bo:=bo) (bw:=bw) (l:=[]) (own:=.full) (R:=R) (Nat.le_refl _) hne f9 hw trivial f9 h
 rw [show jC st bo [] .full=st from St.K4 hb] at this
 omega
theorem YE {st:St} (hl:(A0 n).length<=100000000) (h:R (.ret (.slice 4 (AU (A0 n)) .any)) st):PC 19 [enc n] st R:=by
 refine DP Ac [3,4] Tryz.func19 rfl Do ?_
 repeat' ((conv=>whnf);first|  refine D5 (λb f=>?_)|refine Am (St.Ai ..) ?_)
 rename_i b1 f1
 have U:b1≠b:=(A5 f).1
 have hfb:st.fresh b:=(A5 (A5 f).2).2
 repeat' ((conv=>whnf);first|  refine jm U (by rw [St.Ak U.symm,St.Ak U.symm,St.Ai]) (St.Ai ..) hl (λown1 ho1=>?_)|refine Am oC ?_)
 all_goals refine EK ?_ nv h
 all_goals exact St.le_trans (St.Ag (St.Ag (St.Ag (St.Ag (St.Ag (St.le_refl st) f1.1 _) f1.1 _) hfb.1 _) hfb.1 _) f1.1 _) (AH.Bz (eO (by rw [St.Ak U.symm,St.Ak U.symm,St.Ai];exact λe=>by cases e) ho1))
end
end Go.Proofs.Z
