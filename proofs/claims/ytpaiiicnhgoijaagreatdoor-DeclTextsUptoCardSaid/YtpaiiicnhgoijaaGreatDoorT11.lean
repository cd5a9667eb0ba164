/-
  Parts of a proof: lemmas that the last text uses.
-/
import Derived.Test.YtpaiiicnhgoijaaGreatDoorT10
set_option linter.unusedVariables false
set_option linter.unusedSimpArgs false
set_option maxHeartbeats 16000000
variable {l:List Go.Aw.Nd} {s:Go.Proofs.Z.Af} {n:Go.Aw.Nd} {f m b:Bool} {P R:Prop} {D e:Int} {Q:List Go.Aw.Nd->Go.Proofs.Z.Af->Prop}
namespace Go.Proofs.Z
open Go Go.Aw
def Rc (n:Nd):Prop:=(n.kind=1->n.kids=[])/\∀y ∈ n.kids,y.kind=1->y.kids=[]
theorem Bt.ud {s':Af} (h:Bt l s s'):∀x ∈ l,Rc x:=by
 induction h with
 |nil s=>intro x U;cases U
 |app _ _ h1 h2=>intro x U;exact (List.mem_append.1 U).elim (h1 x) (h2 x)
 |tok _ _ _=>intro x U;rw [List.mem_singleton.1 U];exact ⟨λ_=>rfl,λy hy=>by cases hy⟩
 |skip _ _=>intro x U;cases U
 |close _=>intro x U;cases U
 |node _ hk _ ih=>intro x U;rw [List.mem_singleton.1 U];exact ⟨λe=>absurd e hk,λy hy e=>(ih y hy).1 e⟩
 |block _ _ _ ih=>intro x U;rw [List.mem_singleton.1 U];exact ⟨λe=>(by cases e),λy hy e=>(ih y hy).1 e⟩
theorem Vu {y:Nd} {o s:List UInt8} (h:BO n o s=some l) (hy:y ∈ n.kids):Cv y 15 o=true\/Cv y 15 s=true\/y ∈ l:=by
 unfold BO at h
 split at h
 .rename_i hc
  obtain ⟨h1,U,h3⟩:=hc
  cases h
  obtain ⟨i,hi,rfl⟩:=List.getElem_of_mem hy
  by_cases e0:i=0
  .subst e0;rw [List.getElem?_eq_getElem hi] at U;exact .inl U
  .by_cases e1:i=n.kids.length - 1
   .rw [<-e1,List.getElem?_eq_getElem hi] at h3;exact .inr (.inl h3)
   .refine .inr (.inr ?_)
    rw [List.mem_iff_getElem]
    refine ⟨i - 1,by rw [List.length_drop,List.length_take];omega,?_⟩
    rw [List.getElem_drop,List.getElem_take]
    congr 1
    omega
 .cases h
theorem Q1 {y:Nd} {k:Int} {t:List UInt8} (h:Cv y k t=true):y.kind=1/\y.form=k:=by
 unfold Cv BR at h
 simp only [Bool.and_eq_true,beq_iff_eq,List.contains_cons,List.contains_nil,Bool.or_false] at h
 exact h.1
theorem ek {q:Nd->List (List UInt8)} {f:Bool}:∀{l:List Nd} {i:Nat},(∀y ∈ l,q y=[])->Fq q f i l=[]
 |[],_,_=>rfl
 |x::r,i,h=>by
  rw [Fq,ek λy hy=>h y (List.mem_cons_of_mem _ hy),h x List.mem_cons_self]
  split<;>rfl
theorem pk {y:Nd} (h:y.kind=1) (U:y.form≠1):BM y=none:=by
 unfold BM EX BR
 rw [if_neg (by simp [U]),if_neg (by rw [h];decide)]
theorem bR {y:Nd} {k:Nat} (h:y.kind=1) (U:y.form≠1) (h2:y.kids=[]):FY k y=[]:=by
 cases k with
 |zero=>rfl
 |succ k=>rw [FY,CT,pk h U,h2];dsimp only;split<;>rfl
theorem gQ {y:Nd} (hk:n.kind=3) (hv:BM n=none) (hh:N0 n=true) (hy:y ∈ n.kids):y.kind=1/\y.form≠1:=by
 have key:∀{k:Int} {t:List UInt8},Cv y k t=true->k≠1->y.kind=1/\y.form≠1:=λh h1=>⟨(Q1 h).1,by rw [(Q1 h).2];exact h1⟩
 unfold N0 at hh
 rw [hv] at hh
 simp only [Option.isSome_none,Bool.false_or,Bool.or_eq_true] at hh
 rcases hh with h|h
 .unfold Gs at h
  have e1:BR n [2,4]=false:=by unfold BR;rw [hk];rfl
  rw [e1] at h
  simp only [Bool.false_or] at h
  cases hn:EX n with
  |none=>rw [hn] at h;simp at h
  |some x=>
   rw [hn] at h
   have U:Hh x=true:=by simpa using h
   unfold EX at hn
   rw [if_pos hk] at hn
   split at hn
   .rename_i l hl
    split at hn
    .rcases Vu hl hy with e|e|e
     .exact key e IR
     .exact key e IR
     .match l,‹l.length=1› with
      |[z],_=>
       injection hn with hn
       rw [List.mem_singleton.1 e,hn]
       unfold Hh at U
       simp only [Bool.or_eq_true] at U
       rcases U with U|U
       .unfold BR at U
        simp only [Bool.and_eq_true,beq_iff_eq,List.contains_cons,List.contains_nil,Bool.or_false,Bool.or_eq_true] at U
        exact ⟨U.1,H1⟩
       .exact ⟨(Q1 U).1,by rw [(Q1 U).2];decide⟩
    .cases hn
   .cases hn
 .split at h
  .rename_i l hl
   rcases Vu hl hy with e|e|e
   .exact key e IR
   .exact key e IR
   .cases l with
    |nil=>cases e
    |cons=>cases h
  .split at h
   .rename_i l hl
    rcases Vu hl hy with e|e|e
    .exact key e IR
    .exact key e IR
    .refine key (k:=15) (t:=[44]) ?_ IR
     simp only [Bool.not_eq_true',List.any_eq_false] at h
     simpa using h y e
   .cases h
theorem tk (hw:Rc n):Nx n=(BM n).isSome:=by
 obtain ⟨k,hk⟩:∃k,n.size=k+1:=⟨n.size - 1,by have:=size_pos n;omega⟩
 unfold Nx GX Hr
 rw [hk,FY,CT,Yt,D4]
 cases hv:BM n with
 |some t=>
  have:n.kind=1/\BR n [1]=true\/n.kind=3/\N0 n=true:=by
   unfold BM at hv
   split at hv
   .rename_i e
    exact .inl ⟨by unfold BR at e;simp only [Bool.and_eq_true,beq_iff_eq] at e;exact e.1,e⟩
   .have h3:n.kind=3:=by
     apply Classical.byContradiction
     intro h
     unfold EX at hv
     rw [if_neg h] at hv
     cases hv
    refine .inr ⟨h3,?_⟩
    unfold N0
    rw [show BM n=some t by unfold BM;rw [if_neg ‹_›];exact hv]
    rfl
  rcases this with ⟨U,h2⟩|⟨U,h2⟩
  .have h3:BR n [1,2,4,11,12,13,14]=true:=by
    unfold BR at h2 |-
    simp only [Bool.and_eq_true,List.contains_cons,List.contains_nil,Bool.or_false,beq_iff_eq,Bool.or_eq_true] at h2 |-
    exact ⟨h2.1,.inl h2.2⟩
   simp [U,h3]
  .simp [U,h2]
 |none=>
  dsimp only [Option.isSome_none]
  have key:∀c:Bool,((if c=true then (([]:List (List UInt8)),(0:Int)) else ([],120)).2==0&&(if c=true then (([]:List (List UInt8)),(0:Int)) else ([],120)).1.length==1)=false:=λc=>by cases c<;>rfl
  have e0:∀{l:List Nd},(∀y ∈ l,FY k y=[])->(if n.kind=18\/n.kind=19 then ([]:List (List UInt8)) else Fq (FY k) (n.kind==13) 0 l)=[]:=λh=>by
   split
   .rfl
   .exact ek h
  by_cases U:n.kind=1
  .rw [hw.1 U,e0 (λy hy=>by cases hy),key,Bool.and_false]
  .by_cases h3:n.kind=3
   .cases hh:N0 n with
    |false=>rw [if_neg U,if_neg (show ¬n.kind=14 by omega),if_pos h3];simp
    |true=>
     rw [e0 (λy hy=>by
      obtain ⟨g1,g2⟩:=gQ h3 hv hh hy
      exact bR g1 g2 (hw.2 y hy g1)),key,Bool.and_false]
   .have:(n.kind==1||n.kind==3)=false:=by simp [U,h3]
    rw [this];rfl
section
variable {st0 st:St} {s:Af} {rows:List (Ay×List Nd)} {K:AD->St->Prop}
theorem wK (hw:Rc n) (h:K (.ret (.bool (Nx n))) st):PC 243 [enc n] st K:=by
 rw [tk hw] at h
 refine pB Tryz.func243 ?_
 repeat' ((conv=>whnf);first|(refine AV ?_;intros)|refine LI (λt e=>?_) (λe=>?_))
 all_goals (rw [e] at h;exact AU rfl h)
theorem wL (hw:Rc n) (h:K (.ret (.bool (Nx n))) st):PC 187 [enc n] st K:=by
 refine pB Tryz.func187 ?_
 repeat' ((conv=>whnf);(first|  refine BU ?_ ?_|refine wK hw ?_)<;>intros)
 all_goals exact An h ‹_›
theorem oo (hw:Rc n) (h:if Nx n=true then P else R) (U:Nx n=true->P->K (.ret (.bool true)) st) (k2:Nx n=false->R->K (.ret (.bool false)) st):PC 187 [enc n] st K:=
 wL hw (by
  cases e:Nx n with
  |true=>exact U e (by rw [if_pos e] at h;exact h)
  |false=>exact k2 e (by rw [if_neg (by rw [e];decide)] at h;exact h))
end
theorem Tc {s':Af} {t:Nd} (h:AB.run s=.inr (t,s')):t=AJ (Aa s).1/\s'=(Aa s).2.1:=by
 by_cases e:(Aa s).2.2=0
 .rw [C8 e] at h;cases h;exact ⟨rfl,rfl⟩
 .rw [J8 e] at h;cases h
theorem iu {s':Af} (h:EB.run s=.inr (n,s')):(∃t,n=Al 18 [AJ t]/\HD t=true)\/∃o t c,n=Al 18 [o,AJ t,c]/\([1,2,3,4]:List Int).contains t.kind=true:=by
 unfold EB at h
 replace h:(if HD (Aa s).1=true then Rd.seq AB λt=>.ret (Al 18 [t]) else Rd.seq (Bo 15 [96]) λo=>.seq (Cm [1,2,3,4]) λn=>.seq (Bo 15 [96]) λc=>.ret (Al 18 [o,n,c]):Rd Nd).run s=.inr (n,s'):=h
 split at h
 .obtain ⟨t,s1,h1,h⟩:=Bn h
  cases h
  exact .inl ⟨_,by rw [(Tc h1).1],Nm⟩
 .obtain ⟨o,s1,_,h⟩:=Bn h
  obtain ⟨x,s2,U,h⟩:=Bn h
  obtain ⟨c,s3,_,h⟩:=Bn h
  cases h
  replace U:(if ([1,2,3,4]:List Int).contains (Aa s1).1.kind=true then AB else MX:Rd Nd).run s1=.inr (x,s2):=U
  split at U
  .exact .inr ⟨o,_,c,by rw [(Tc U).1],Nm⟩
  .cases U
theorem lV {t:Tk} (h:Fo t=true):t.kind≠0/\t.kind≠21:=by
 unfold Fo at h
 simp only [Bool.and_eq_true,beq_iff_eq] at h
 omega
section
variable {st0 st:St} {s:Af} {rows:List (Ay×List Nd)} {K:AD->St->Prop} {Q:Nd->Af->Prop} {E:Er->Af->Prop} {d:Nat}
theorem iN {s':Af} (hr:EB.run s=.inr (n,s')) (h:K (.ret (.bool (EH n))) st):PC 185 [enc n] st K:=by
 rcases iu hr with ⟨t,hn,U⟩|⟨o,t,c,hn,U⟩
 .have e:EH n= !(t.kind==7||t.kind==8):=by
   have:(t.kind==3)=false/\(t.kind==4)=false:=by
    unfold HD at U
    simp only [Bool.or_eq_true,Bool.and_eq_true,beq_iff_eq] at U
    simp only [beq_eq_false_iff_ne,ne_eq]
    omega
   subst hn
   simp [EH,Al,Nd.kids,AJ,Nd.form,this.1,this.2]
  have hl:((n.kids.length:Nat):Int)=1:=by subst hn;rfl
  have hk:n.kids[(0:Int).toNat]? =some (AJ t):=by subst hn;rfl
  rw [e] at h
  refine pB Tryz.func185 ?_
  clear e hr U
  repeat' ((conv=>whnf);(first|refine AV ?_|refine BU ?_ ?_|fail)<;>intros)
  all_goals conv=>whnf
  all_goals (refine An h ?_;clear h;simp_all [AJ,Nd.form])
 .have e:EH n=(t.kind==1||t.kind==2):=by
   subst hn
   simp only [List.contains_cons,List.contains_nil,Bool.or_eq_true,beq_iff_eq,Bool.or_false] at U
   rcases U with e|e|e|e<;>simp [EH,Al,Nd.kids,AJ,Nd.form,e]
  have hl:¬((n.kids.length:Nat):Int)=1:=by subst hn;show ¬(3:Int)=1;decide
  have hk:n.kids[(1:Int).toNat]? =some (AJ t):=by subst hn;rfl
  rw [e] at h
  refine pB Tryz.func185 ?_
  clear e hr U
  repeat' ((conv=>whnf);(first|refine AV ?_|refine BU ?_ ?_|fail)<;>intros)
  all_goals conv=>whnf
  all_goals (refine An h ?_;clear h;simp_all [AJ,Nd.form])
theorem Uu {s':Af} (U:EB.run s=.inr (n,s')) (h:if EH n=true then P else R) (k1:EH n=true->P->K (.ret (.bool true)) st) (k2:EH n=false->R->K (.ret (.bool false)) st):PC 185 [enc n] st K:=
 iN U (by
  cases e:EH n with
  |true=>exact k1 e (by rw [if_pos e] at h;exact h)
  |false=>exact k2 e (by rw [if_neg (by rw [e];decide)] at h;exact h))
theorem ot {t:Tk} (h:if OY (AJ t)=true then P else R) (k1:∀v,¬9<v->P->K (.ret (.Bl [.int .i64 v,.int .i64 0])) st) (k2:∀v,9<v->R->K (.ret (.Bl [.int .i64 v,.int .i64 0])) st) (k3:∀v e,¬e=0->R->K (.ret (.Bl [.int .i64 v,.int .i64 e])) st):PC 184 [.str t.text] st K:=by
 have U:OY (AJ t)=((Fs t.text).2==0&&decide ((Fs t.text).1<=9)):=rfl
 refine oq ?_
 by_cases e:(Fs t.text).2=0
 .by_cases e9:(Fs t.text).1<=9
  .rw [e];exact k1 _ H1 (by rw [if_pos (by rw [U];simp [e,e9])] at h;exact h)
  .rw [e];exact k2 _ H1 (by rw [if_neg (by rw [U];simp [e9])] at h;exact h)
 .exact k3 _ _ e (by rw [if_neg (by rw [U];simp [e])] at h;exact h)
theorem tW (h:Rd.wp (Gl l) s Q E):Rd.wp EB s (λo s1=>if EH o=true then (if AP s1 15 [44]=true then Rd.wp AB s1 (λc s2=>mu s2<mu s1->Rd.wp (Gl (l++[o]++[c])) s2 Q E) E else Q (Al 35 (l++[o])) s1) else E Fj s) E:=by
 unfold Gl at h
 simp only [CY,Rd.Ag,Rd.wp_seq,Rd.Ao,Rd.wp_ret,Rd.Df] at h
 refine Rd.wp_mono h (λo s1 _ h=>?_) λ_ _ _ h=>h
 split at h
 .rename_i hp
  rw [if_pos hp]
  rw [Rd.wp_loop] at h
  replace h:Rd.wp (L3 (l++[o])) s1 (Rd.again L3 s1 (λv s'=>Q (Al 35 v) s') E) E:=h
  unfold L3 at h
  rw [Rd.Ag,Rd.Ao] at h
  split at h
  .rename_i hi
   rw [if_pos hi]
   rw [Rd.wp_seq] at h
   refine Rd.wp_mono h (λc s2 hr h U=>?_) λ_ _ _ h=>h
   unfold Gl
   rw [Rd.wp_seq] at h |-
   refine Rd.wp_mono h (λo2 s3 hr3 h=>?_) λ_ _ _ h=>h
   rw [Rd.wp_seq]
   exact Rd.Bh h (Nat.lt_of_le_of_lt ((CY EB EH).le _ _ _ hr3) U)
  .rename_i hi
   rw [if_neg hi]
   rw [Rd.wp_ret,Rd.AO] at h
   exact h
 .rename_i hp
  rw [if_neg hp]
  exact h
attribute [local irreducible] Go.Aw.Ai
theorem iG (hm:mu s<=100000000) (hc:Rx st0 st rows) (hf:Fo (Aa s).1=true) (h:Rd.wp HM s (λv s'=>∀st',Rx st0 st' rows->K (.ret (Ax v s' 0)) st') (λe s'=>∀n st',Rx st0 st' rows->K (.ret (Ax n s' e.1)) st')):
 PC 109 [Am s] st K:=by
 have hk:=lV hf
 simp only [HM,CY,Rd.Ag,Rd.wp_seq,Rd.Ao,Rd.wp_ret,Rd.Df] at h
 refine pB Tryz.func109 ?_
 repeat' ((conv=>whnf);first|(refine AV ?_;intros)|(refine Ej ?_ ?_<;>intro e h)|refine Cn ‹_› h (by first|exact hk|omega) (λs1 hz hl hm h=>?_)|refine ot h (λv e1 h=>?_) (λv e1 h=>?_) (λv e e1 h=>?_)|refine Rx.BE (l:=[_]) (hc.push [_]) (Nat.le_of_ble_eq_true rfl) (λown1 U hc=>?_)|refine CJ ?_|(refine IE ?_ ?_<;>intro e h)|(refine Jx ?_;intro s1 hz hl hm h)|(refine El ?_;intro own1 U hc)|exact CV|fail)
 .rename_i s2 z1 z2 z3 z4 z5 z6
  repeat' ((conv=>whnf);first|(refine AV ?_;intros)|(refine Ej ?_ ?_<;>intro e h)|fail)
  refine Hg (λp=>Gl p.1) (x0:=(_,AJ (Aa s2).1)) (λp s own=>[(4,.slice 6 (p.1.map Ap) own)]) (λp s own=>[(2,Dq p.2 s 0)]) [2,3] [1] (λp own=>(own,p.1)::rows) (λp=>p.1.length) _ hm hc h (by show 2+_<=_;omega) Yl ?_
  rintro ⟨l,x⟩ s1 U own1 hm1 hm2 hc h hl
  dsimp only at hc h hl
  have h:=tW h
  repeat' ((conv=>whnf);first|(refine AV ?_;intros)|(refine Ej ?_ ?_<;>intro e h)|refine Ba.go Gx ‹_› hc h (λn s1 U hr hl hm hc h=>?_) (λe n s1 U he hc h=>?_)|refine Uu hr h (λe h=>?_) (λe h=>?_)|exact ⟨⟨(_,_),_,_,_⟩,⟨‹_›,GE,hc,h ‹_›,f8⟩,GE,Yl,St.le_refl _⟩|refine CJ ?_|(refine IE ?_ ?_<;>intro e h)|(refine Jx ?_;intro s1 hz hl hm h)|(refine El ?_;intro own1 U hc)|exact CV|fail)
 .skip
  repeat' ((conv=>whnf);first|(refine AV ?_;intros)|(refine Ej ?_ ?_<;>intro e h)|fail)
  refine Hg (λp=>Gl p.1) (x0:=([_],AJ (Aa s).1)) (λp s own=>[(4,.slice 6 (p.1.map Ap) own)]) (λp s own=>[(2,Dq p.2 s 0)]) [2,3] [1] (λp own=>(own,p.1)::rows) (λp=>p.1.length) .full hm (hc.push _) h (by show 1+_<=_;omega) Yl ?_
  rintro ⟨l,x⟩ s1 U own1 hm1 hm2 hc h hl
  dsimp only at hc h hl
  have h:=tW h
  repeat' ((conv=>whnf);first|(refine AV ?_;intros)|(refine Ej ?_ ?_<;>intro e h)|refine Ba.go Gx ‹_› hc h (λn s1 U hr hl hm hc h=>?_) (λe n s1 U he hc h=>?_)|refine Uu hr h (λe h=>?_) (λe h=>?_)|exact ⟨⟨(_,_),_,_,_⟩,⟨‹_›,GE,hc,h ‹_›,f8⟩,GE,Yl,St.le_refl _⟩|refine CJ ?_|(refine IE ?_ ?_<;>intro e h)|(refine Jx ?_;intro s1 hz hl hm h)|(refine El ?_;intro own1 U hc)|exact CV|fail)
end
def sM (atom full:Rd Nd) (l:List Nd):Rd Nd:=.seq (.loop (oC atom) l) λl=>.seq (Bo 10 [58,58]) λc=>.seq full λt=>.ret (Al 34 (l++[c]++[t]))
section
variable {st0 st:St} {s:Af} {rows:List (Ay×List Nd)} {K:AD->St->Prop} {Q:Nd->Af->Prop} {E:Er->Af->Prop} {d:Nat} {L:DL} {atom stm opd full opd0 full0 exp stmt:Rd Nd}
theorem cv (U:mu s<=100000000) (hc:Rx st0 st rows) (hf:Fo (Aa s).1=true) (h:Rd.wp HM s Q E)
 (k:∀n s' st',mu s'<=100000000->Rx st0 st' rows->Q n s'->K (.ret (Ax n s' 0)) st')
 (kb:∀e n s' st',¬e.1=0->Rx st0 st' rows->E e s'->K (.ret (Ax n s' e.1)) st'):PC 109 [Am s] st K:=
 iG U hc hf (Rd.wp_mono h (λv s' r q st' c=>k v s' st' (Nat.le_trans (HM.le _ _ _ r) U) c q) (λe s' _ q n st' c=>kb e n s' st' e.2 c q))
attribute [local irreducible] Go.Aw.Ai
theorem sE (hn:Rc n) (ha:Ba 188 (λs=>[Am s,.int .i64 D]) atom) (hD:Dv atom) (hf:Ba 108 (λs=>[Am s,.int .i64 D]) full):
 Ba 113 (λs=>[Ax n s 0,.int .i64 D]) (Zs atom full n):=by
 refine ⟨λ{st0 s st rows K} hm hc h=>?_⟩
 have e:Zs atom full n=if Nx n=true then sM atom full [n] else .fail Fj:=rfl
 rw [e,Rd.Ao,Rd.BD] at h
 refine pB Tryz.func113 ?_
 repeat' ((conv=>whnf);first|(refine AV ?_;intros)|refine oo hn h (λe h=>?_) (λe h=>?_)|refine CJ ?_|(refine IE ?_ ?_<;>intro e h)|(refine Jx ?_;intro s1 hz hl hm h)|(refine jS ?_ ?_<;>(first|intro n s1 U hr hl hm hc h|intro e n s1 U he hc h))|(refine El ?_;intro own1 U hc)|exact CV|fail)
 refine Hg (λp=>sM atom full p.1) (x0:=([n],n)) (λp s own=>[(5,.slice 6 (p.1.map Ap) own)]) (λp s own=>[(0,Dq p.2 s 0)]) [1,2,4] [1] (λp own=>(own,p.1)::rows) (λp=>p.1.length) .full hm (hc.push [n]) h (by show 1+_<=_;omega) Yl ?_
 rintro ⟨l,x⟩ s1 U own1 hm1 hm2 hc h hl
 dsimp only at hc h hl
 simp only [sM,oC,CY,Rd.wp_seq,Rd.wp_loop,Rd.Ag,Rd.Ao,Rd.wp_ret,Rd.Df,Rd.AO] at h
 repeat' ((conv=>whnf);first|(refine AV ?_;intros)|refine Ba.go ha ‹_› hc h (λn s1 U hr hl hm hc h=>?_) (λe n s1 U he hc h=>?_)|refine Ba.go hf ‹_› hc h (λn s1 U hr hl hm hc h=>?_) (λe n s1 U he hc h=>?_)|refine oo ((hD.at hr).ud _ List.mem_cons_self) h (λe h=>?_) (λe h=>?_)|exact ⟨⟨(_,_),_,_,_⟩,⟨hm,GE,hc,(by simp only [sM,Rd.wp_seq]<;>exact Rd.Bh h H1),f8⟩,GE,Yl,St.le_refl _⟩|refine CJ ?_|(refine IE ?_ ?_<;>intro e h)|(refine Jx ?_;intro s1 hz hl hm h)|(refine jS ?_ ?_<;>(first|intro n s1 U hr hl hm hc h|intro e n s1 U he hc h))|(refine El ?_;intro own1 U hc)|exact CV|fail)
theorem nA (hD:pW D d) (hL:Kg d L stm opd0 full0) (hV:Ms L) (ho:Ba 241 (λs=>[Am s,.int .i64 ((d+1:Nat):Int)]) opd) (hO:Dv opd) (ha:Ba 188 (λs=>[Am s,.int .i64 ((d+1:Nat):Int)]) atom) (hA:Dv atom) (hf:Ba 108 (λs=>[Am s,.int .i64 ((d+1:Nat):Int)]) full)
 (he:Ba 258 (λs=>[Am s,.int .i64 ((d+1:Nat):Int)]) exp) (hs:Ba 259 (λs=>[Am s,.int .i64 ((d+1:Nat):Int)]) stmt):K5 47 (λs=>[Am s,.int .i64 D]) (RH L atom (Pg opd) exp stmt full):=by
 obtain ⟨hd,hge,hlim⟩:=hD
 refine ⟨λ{st0 s st rows K} hm hc h=>?_⟩
 simp only [RH,Rd.Ag,Rd.Ao,Rd.wp_seq,Rd.wp_ret,Rd.BD] at h
 have hm0:=hm
 have hE:=M5 hO
 refine pB Tryz.func47 ?_
 by_cases hx:Fo (Aa s).1=true
 .rw [if_pos hx] at h
  have hy:=hx
  unfold Fo at hy
  simp only [Bool.and_eq_true,Bool.or_eq_true,beq_iff_eq] at hy
  obtain ⟨h9,hy⟩:=hy
  rcases hy with (hy|hy)|hy
  all_goals (repeat' ((conv=>whnf);(first|refine AV ?_|refine Ej ?_ ?_|refine BU ?_ ?_|refine hlim ?_|refine cv ‹_› ‹_› hx ‹_› ?_ ?_|refine CJ ?_|refine IE ?_ ?_|exact CV|fail)<;>intros))
 .rw [if_neg hx] at h
  have hy:((Aa s).1.kind=9/\¬(Aa s).1.text=[105,110,102,105,120,108]/\¬(Aa s).1.text=[105,110,102,105,120,114]/\¬(Aa s).1.text=[105,110,102,105,120])\/¬(Aa s).1.kind=9:=by
   by_cases h9:(Aa s).1.kind=9
   .refine .inl ⟨h9,λe=>hx ?_,λe=>hx ?_,λe=>hx ?_⟩<;>(unfold Fo;rw [h9,e];decide)
   .exact .inr h9
  have U:∀{n:Nd} {s':Af},(Pg opd).run s=.inr (n,s')->n.size<=1000000000:=λhr=>hE.yL hr hm0
  have hleaf:∀{n:Nd} {s':Af},(Pg opd).run s=.inr (n,s')->Rc n:=λhr=>(hE.at hr).ud _ List.mem_cons_self
  rcases hy with ⟨h9,g1,g2,g3⟩|h9
  all_goals (repeat' ((conv=>whnf);(first|refine AV ?_|refine Ej ?_ ?_|refine BU ?_ ?_|refine hlim ?_|refine LP.go (by first|  exact (QV ho).a|exact (sE (hleaf ‹_›) ha hA hf).a|exact (fj hd hL he hs).a) ?_ ?_|refine wB (U ‹_›) ?_|refine Rx.BE (l:=[_]) (Rx.push ‹_› [_]) (Nat.le_of_ble_eq_true rfl) ?_|refine CJ ?_|refine IE ?_ ?_|exact CV|fail)<;>intros))
theorem sf (hD:pW D d) (hL:Kg d L stm opd0 full0) (ho:Ba 241 (λs=>[Am s,.int .i64 ((d+1:Nat):Int)]) opd) (hO:Dv opd)
 (he:Ba 258 (λs=>[Am s,.int .i64 ((d+1:Nat):Int)]) exp) (hs:Ba 259 (λs=>[Am s,.int .i64 ((d+1:Nat):Int)]) stmt):K5 308 (λs=>[Am s,.int .i64 D]) (aE L (Pg opd) exp stmt):=by
 obtain ⟨hd,hge,hlim⟩:=hD
 refine ⟨λ{st0 s st rows K} hm hc h=>?_⟩
 simp only [aE,Rd.Ag,Rd.Ao,Rd.wp_seq,Rd.wp_ret,Rd.BD] at h
 have hm0:=hm
 have hE:=M5 hO
 have U:∀{n:Nd} {s':Af},(Pg opd).run s=.inr (n,s')->n.size<=1000000000:=λhr=>hE.yL hr hm0
 refine pB Tryz.func308 ?_
 repeat' ((conv=>whnf);(first|refine AV ?_|refine hlim ?_|refine LP.go (by first|  exact (QV ho).a|exact (fj hd hL he hs).a) ?_ ?_|refine OG (U ‹_›) ‹_› ?_ ?_|refine Rx.BE (l:=[_]) (Rx.push ‹_› [_]) (Nat.le_of_ble_eq_true rfl) ?_|refine CJ ?_|exact CV|fail)<;>intros)
end
def MZ (starts:Tk->Bool) (item:Rd Nd) (f:Bool) (l:List Nd):Rd Nd:=.seq (.loop (Le starts item f) l) λl=>.ret (Dn f l)
theorem Kw {own:Ay}:AD.ret (Ax (Dn f l) s e)=(AD.ret (.agg [.int .i64 2,.int .i64 (if f then 1 else 0),.str [],.int .i64 0,.int .i64 0,.slice 6 (l.map Ap) own,.slice 4 (Bb s.AR) .any,.int .i64 s.pos,.slice 1 (ints s.Cf) .any,.int .i64 s.wait,.int .i64 e])).wk:=by
 have:Ax (Dn f l) s e=Ax (Al 2 l) s e\/True:=.inr trivial
 unfold Dn Ax
 rw [show Co (Nd.mk 2 (if f then 1 else 0) [] 0 0 l).kids=Co l from rfl,BV]
 rfl
section
variable {st0 st:St} {s:Af} {rows:List (Ay×List Nd)} {K:AD->St->Prop} {E:Er->Af->Prop} {d:Nat}
attribute [local irreducible] Go.Aw.Ai
theorem YV (hb:s.Cf.length<=500000000) (h:K (.ret (.Bl [Am (DX s).1,.bool (DX s).2])) st):PC 78 [Am s] st K:=by
 refine pB Tryz.func78 ?_
 have h0:¬Hy s=0->s.Cf≠[]:=λe e2=>e (by unfold Hy;rw [e2];rfl)
 unfold DX at h
 by_cases U:Mx s=true
 .by_cases hw:s.wait=1
  .rw [if_neg H1] at h
   repeat' ((conv=>whnf);(first|refine AV ?_|refine BU ?_ ?_|refine Oo ?_|refine SV ?_)<;>intros)
   all_goals first|exact AU rfl h|(rw [U] at *;simp at *)
  .by_cases ht:Hy s=0
   .rw [if_neg H1] at h
    repeat' ((conv=>whnf);(first|refine AV ?_|refine BU ?_ ?_|refine Oo ?_|refine SV ?_)<;>intros)
    all_goals first|exact AU rfl h|(rw [U] at *;simp at *)
   .rw [if_pos ⟨U,hw,ht⟩] at h
    repeat' ((conv=>whnf);(first|refine AV ?_|refine BU ?_ ?_|refine Oo ?_|refine SV ?_|refine ns (h0 ht) hb ?_)<;>intros)
    all_goals first|exact AU rfl h|(rw [U] at *;simp at *)
 .rw [if_neg (by simp [U])] at h
  repeat' ((conv=>whnf);(first|refine AV ?_|refine BU ?_ ?_|refine Oo ?_|refine SV ?_)<;>intros)
  all_goals first|exact AU rfl h|exact absurd ‹_› U
theorem fp {t:Tk} (h:FG t=true):t.kind=19\/t.kind=15/\t.text=[59]:=by
 unfold FG at h
 simp only [Bool.or_eq_true,Bool.and_eq_true,beq_iff_eq] at h
 exact h
theorem Zq {t:Tk} (h:¬FG t=true):¬t.kind=19/\(¬t.kind=15\/t.kind=15/\¬t.text=[59]):=by
 unfold FG at h
 simp only [Bool.or_eq_true,Bool.and_eq_true,beq_iff_eq] at h
 by_cases e:t.kind=15
 .exact ⟨H1,.inr ⟨e,λU=>h (.inr ⟨e,U⟩)⟩⟩
 .exact ⟨λe=>h (.inl e),.inl e⟩
theorem Pj (hm:mu s<=100000000) (h:K (.ret (.bool (FG (Aa s).1))) st):PC 38 [Am s] st K:=by
 refine pB Tryz.func38 ?_
 by_cases U:FG (Aa s).1=true
 .have hz:=En (Ja U).1
  rw [U] at h
  rcases fp U with e|⟨e,e2⟩
  all_goals (repeat' ((conv=>whnf);(first|refine AV ?_|refine BU ?_ ?_|refine CJ ?_|fail)<;>intros))
  all_goals exact AU rfl h
 .rw [Bool.eq_false_iff.2 U] at h
  obtain ⟨e1,e|⟨e,e2⟩⟩:=Zq U
  all_goals (repeat' ((conv=>whnf);(first|refine AV ?_|refine BU ?_ ?_|refine CJ ?_|fail)<;>intros))
  all_goals exact AU rfl h
theorem SU {Q:Unit->Af->Prop} (hm:mu s<=100000000) (hc:Rx st0 st rows) (h:Rd.wp LK s Q E) (k:∀s' st',mu s'<=mu s->mu s'<=100000000->Rx st0 st' rows->Q () s'->K (.ret (Am s')) st'):PC 32 [Am s] st K:=by
 refine pB Tryz.func32 ?_
 repeat' ((conv=>whnf);(first|refine AV ?_|refine BU ?_ ?_|fail)<;>intros)
 refine Hg (λ_:Unit=>LK) (x0:=()) (λ_ s own=>[]) (λ_ s own=>[(0,s.cells)]) [1,2] [1] (λ_ own=>rows) (λ_=>0) .full hm hc h H1 Yl ?_
 intro u s1 st1 own1 hm1 hm2 hc h hl
 unfold LK at h
 rw [Rd.wp_loop] at h
 replace h:Rd.wp (Np ()) s1 (Rd.again Np s1 Q E) E:=h
 simp only [Np,Rd.Ag,Rd.Ao,Rd.wp_seq,Rd.wp_ret,Rd.AO] at h
 by_cases U:FG (Aa s1).1=true
 .have hz:=En (Ja U).1
  have hlt:=(De hz).2 (Ja U).2
  rw [if_pos U,GN,Rd.wp_seq,OE hz,Rd.wp_ret] at h
  rcases fp U with e|⟨e,e2⟩
  all_goals (repeat' ((conv=>whnf);(first|refine AV ?_|refine BU ?_ ?_|refine CJ ?_|fail)<;>intros))
  all_goals exact ⟨⟨(),(Aa s1).2.1,_,.full⟩,⟨f9,f9,hc,Rd.Bh h hlt,f9⟩,hlt,Yl,St.le_refl _⟩
 .rw [if_neg U] at h
  have hk:=k s1 st1 hm2 hm1 hc h
  obtain ⟨e1,e|⟨e,e2⟩⟩:=Zq U
  all_goals (repeat' ((conv=>whnf);(first|refine AV ?_|refine BU ?_ ?_|refine CJ ?_|fail)<;>intros))
  all_goals exact AU rfl hk
theorem SM {P R:Af->Prop} (hm:mu s<=100000000) (h:Rd.wp (Gi f m) s (λe s'=>if e=true then P s' else R s') E)
 (k1:∀s',mu s'<=mu s->mu s'<=100000000->P s'->K (.ret (.Bl [.bool true,Ax BC s' 0])) st) (k2:R s->K (.ret (.Bl [.bool false,Ax BC s 0])) st) (kb:∀e:Er,¬e.1=0->E e s->K (.ret (.Bl [.bool true,Ax BC s e.1])) st):
 PC 33 [Am s,.int .i64 (if f then 1 else 0),.bool m] st K:=by
 have hgo:∀{Q:Unit->Af->Prop},(Aa s).2.2=0->Rd.wp GN s Q E->Q () (Aa s).2.1:=λhz h=>by rw [GN,Rd.wp_seq,OE hz,Rd.wp_ret] at h;exact h
 have hfin:∀{s':Af},mu s'<=mu s->P s'->K (.ret (.Bl [.bool true,Ax BC s' 0])) st:=λhl hp=>k1 _ hl H1 hp
 have hbad:Rd.wp (MX:Rd Bool) s (λe s'=>if e=true then P s' else R s') E->∀{K2:AD->St->Prop},(∀e:Er,¬e.1=0->E e s->K2 (.ret (Ax BC s e.1)) st)->PC 77 [Am s] st K2:=λh _ k=>uI hm h k
 unfold Gi at h
 rw [Rd.Ag,Rd.Ao] at h
 cases f with
 |true=>
  simp only [if_true] at h |-
  by_cases hi:AP s 15 [125]=true
  .rw [if_pos hi,Rd.wp_seq] at h
   have hz:=Fp hi IR
   replace h:=hgo hz h
   rw [Rd.wp_ret,if_pos rfl] at h
   have hk:=hfin (De hz).1 h
   obtain ⟨c1,c2⟩:(Aa s).1.kind=15/\(Aa s).1.text=[125]:=by unfold AP at hi;simpa using hi
   refine pB Tryz.func33 ?_
   repeat' ((conv=>whnf);first|exact C1|(refine AV ?_;intros)|(refine C2 ?_ ?_ ?_;rotate_left)|(refine BU ?_ ?_<;>intro _)|refine CJ ?_|refine Ad 4 [3] [1] ?_|refine Ad 4 [3] [1] ?_|refine Ad 4 [3] [1] ?_|refine Ad 4 [3] [1] ?_|refine Ad 4 [3] [1] ?_|fail)
   all_goals exact AU rfl hk
  .rw [if_neg hi] at h
   have hx:¬(Aa s).1.kind=15\/(Aa s).1.kind=15/\¬(Aa s).1.text=[125]:=by
    by_cases e:(Aa s).1.kind=15
    .exact .inr ⟨e,λe2=>hi (by unfold AP;rw [e,e2];rfl)⟩
    .exact .inl e
   cases m with
   |true=>
    simp only [if_true] at h
    refine pB Tryz.func33 ?_
    rcases hx with e|⟨e,e2⟩
    all_goals (repeat' ((conv=>whnf);first|exact C1|(refine AV ?_;intros)|(refine C2 ?_ ?_ ?_;rotate_left)|(refine BU ?_ ?_<;>intro _)|refine hbad h (λe he h=>?_)|exact AU rfl (kb e he h)|refine CJ ?_|refine Ad 4 [3] [1] ?_|refine Ad 4 [3] [1] ?_|refine Ad 4 [3] [1] ?_|refine Ad 4 [3] [1] ?_|refine Ad 4 [3] [1] ?_|fail))
   |false=>
    simp only [Bool.false_eq_true,if_false] at h
    rw [Rd.wp_ret,if_neg IR] at h
    have hk:=k2 h
    refine pB Tryz.func33 ?_
    rcases hx with e|⟨e,e2⟩
    all_goals (repeat' ((conv=>whnf);first|exact C1|(refine AV ?_;intros)|(refine C2 ?_ ?_ ?_;rotate_left)|(refine BU ?_ ?_<;>intro _)|refine CJ ?_|refine Ad 4 [3] [1] ?_|refine Ad 4 [3] [1] ?_|refine Ad 4 [3] [1] ?_|refine Ad 4 [3] [1] ?_|refine Ad 4 [3] [1] ?_|fail))
    all_goals exact AU rfl hk
 |false=>
  simp only [Bool.false_eq_true,if_false] at h |-
  by_cases hi:(Aa s).1.kind=20
  .rw [if_pos (beq_iff_eq.2 hi),Rd.wp_seq] at h
   have hz:=En (s:=s) H1
   replace h:=hgo hz h
   rw [Rd.wp_ret,if_pos rfl] at h
   have hk:=hfin (De hz).1 h
   refine pB Tryz.func33 ?_
   repeat' ((conv=>whnf);first|exact C1|(refine AV ?_;intros)|(refine C2 ?_ ?_ ?_;rotate_left)|(refine BU ?_ ?_<;>intro _)|refine CJ ?_|refine Ad 4 [3] [1] ?_|refine Ad 4 [3] [1] ?_|refine Ad 4 [3] [1] ?_|refine Ad 4 [3] [1] ?_|refine Ad 4 [3] [1] ?_|fail)
   all_goals exact AU rfl hk
  .rw [if_neg (λe=>hi (beq_iff_eq.1 e))] at h
   cases m with
   |true=>
    simp only [if_true] at h
    rw [Rd.wp_seq] at h
    have hb:=BT hm
    by_cases hcl:(DX s).2=true
    .unfold OW Rd.wp at h
     dsimp only at h
     rw [if_pos hcl] at h
     replace h:P (DX s).1:=h
     have hk:=hfin (LY hcl) h
     have U:∀{K2:AD->St->Prop},K2 (.ret (.Bl [Am (DX s).1,.bool true])) st->PC 78 [Am s] st K2:=λh=>YV hb (by rw [hcl];exact h)
     refine pB Tryz.func33 ?_
     repeat' ((conv=>whnf);first|exact C1|(refine AV ?_;intros)|(refine C2 ?_ ?_ ?_;rotate_left)|(refine BU ?_ ?_<;>intro _)|refine U ?_|refine CJ ?_|refine Ad 4 [3] [1] ?_|refine Ad 4 [3] [1] ?_|refine Ad 4 [3] [1] ?_|refine Ad 4 [3] [1] ?_|refine Ad 4 [3] [1] ?_|fail)
     all_goals exact AU rfl hk
    .unfold OW Rd.wp at h
     dsimp only at h
     rw [if_neg hcl] at h
     replace h:Rd.wp (MX:Rd Bool) s (λe s'=>if e=true then P s' else R s') E:=h
     have U:∀{K2:AD->St->Prop},K2 (.ret (.Bl [Am (DX s).1,.bool false])) st->PC 78 [Am s] st K2:=λh=>YV hb (by rw [Bool.eq_false_iff.2 hcl];exact h)
     refine pB Tryz.func33 ?_
     repeat' ((conv=>whnf);first|exact C1|(refine AV ?_;intros)|(refine C2 ?_ ?_ ?_;rotate_left)|(refine BU ?_ ?_<;>intro _)|refine U ?_|refine hbad h (λe he h=>?_)|exact AU rfl (kb e he h)|refine CJ ?_|refine Ad 4 [3] [1] ?_|refine Ad 4 [3] [1] ?_|refine Ad 4 [3] [1] ?_|refine Ad 4 [3] [1] ?_|refine Ad 4 [3] [1] ?_|fail)
   |false=>
    simp only [Bool.false_eq_true,if_false] at h
    rw [Rd.wp_ret,if_neg IR] at h
    have hk:=k2 h
    refine pB Tryz.func33 ?_
    repeat' ((conv=>whnf);first|exact C1|(refine AV ?_;intros)|(refine C2 ?_ ?_ ?_;rotate_left)|(refine BU ?_ ?_<;>intro _)|refine CJ ?_|refine Ad 4 [3] [1] ?_|refine Ad 4 [3] [1] ?_|refine Ad 4 [3] [1] ?_|refine Ad 4 [3] [1] ?_|refine Ad 4 [3] [1] ?_|fail)
    all_goals exact AU rfl hk
end
def OL (atom:Rd Nd) (l:List Nd):Rd Nd:=.seq atom λn=>.seq (.loop (MU atom) (l++[n])) λl=>.ret (Jr 11 l)
section
variable {st0 st:St} {s:Af} {rows:List (Ay×List Nd)} {K:AD->St->Prop} {Q:Nd->Af->Prop} {E:Er->Af->Prop} {d:Nat} {L:DL} {atom stm opd full exp stmt:Rd Nd}
theorem qe (U:Rd.AZ atom) (h:Rd.wp (OL atom l) s Q E):Rd.wp atom s (λn s1=>if DI (Aa s1).1=true then Rd.wp (OL atom (l++[n])) s1 Q E else Q (Jr 11 (l++[n])) s1) E:=by
 unfold OL at h
 rw [Rd.wp_seq] at h
 refine Rd.wp_mono h (λn s1 _ h=>?_) λ_ _ _ h=>h
 rw [Rd.wp_seq,Rd.wp_loop] at h
 replace h:Rd.wp (MU atom (l++[n])) s1 (Rd.again (MU atom) s1 (λv s'=>Q (Jr 11 v) s') E) E:=h
 unfold MU at h
 rw [Rd.Ag,Rd.Ao] at h
 split at h
 .rename_i hi
  rw [if_pos hi]
  unfold OL
  rw [Rd.wp_seq] at h |-
  refine Rd.wp_mono h (λn2 s2 hr h=>?_) λ_ _ _ h=>h
  rw [Rd.wp_seq]
  exact Rd.Bh h (U _ _ _ hr)
 .rename_i hi
  rw [if_neg hi]
  rw [Rd.wp_ret,Rd.AO] at h
  exact h
theorem jK (U:mu s<=100000000) (k:∀n s' e,K (.ret (Ax n s' e)) st):PC 74 [Am s] st K:=by
 refine QX (BT U) ?_
 split<;>exact k _ _ _
attribute [local irreducible] Go.Aw.Ai
theorem SJ (hm:mu s<=100000000) (hc:Rx st0 st rows) (ha:Ba 188 (λs=>[Am s,.int .i64 ((d+1:Nat):Int)]) atom) (hF:Rd.AZ atom)
 (hk:(Aa s).1.kind=10/\¬(Aa s).1.text=[92]\/(Aa s).1.kind=9/\¬(Aa s).1.text=Xf/\¬(Aa s).1.text=xj/\¬(Aa s).1.text=UL/\¬(Aa s).1.text=xi\/¬(Aa s).1.kind=10/\¬(Aa s).1.kind=9)
 (h:Rd.wp (MV atom) s (λv s'=>∀st',Rx st0 st' rows->K (.ret (Ax v s' 0)) st') (λe s'=>∀n st',Rx st0 st' rows->K (.ret (Ax n s' e.1)) st')):PC 241 [Am s,.int .i64 ((d+1:Nat):Int)] st K:=by
 replace h:Rd.wp (OL atom []) s (λv s'=>∀st',Rx st0 st' rows->K (.ret (Ax v s' 0)) st') (λe s'=>∀n st',Rx st0 st' rows->K (.ret (Ax n s' e.1)) st'):=h
 refine AQ Ac [] Tryz.func241 rfl IR rfl ?_
 refine Ah (Aj Ac ?_)
 repeat' ((conv=>whnf);first|(refine AV ?_;intros)|(refine Ej ?_ ?_<;>intro e h)|fail)
 refine Ah (Aj Ac ?_)
 repeat' ((conv=>whnf);first|(refine AV ?_;intros)|(refine Ej ?_ ?_<;>intro e h)|refine CJ ?_|(refine El ?_;intro own1 U hc)|refine BH (λ_=>?_)|exact CV|fail)
 refine Ah (Aj Ac ?_)
 repeat' ((conv=>whnf);first|(refine AV ?_;intros)|(refine Ej ?_ ?_<;>intro e h)|refine jK hm (λn s' e=>?_))
 refine Ah (Aj Ac ?_)
 repeat' ((conv=>whnf);first|(refine AV ?_;intros)|(refine Ej ?_ ?_<;>intro e h)|fail)
 refine Ra [] [(3,Dq n s' e)] [1,2,4,6] [0,1] (Aj Ac ?_) ?_
 .rcases hk with ⟨k1,k2⟩|⟨k1,k2,k3,k4,k5⟩|⟨k1,k2⟩
  all_goals (repeat' ((conv=>whnf);first|(refine AV ?_;intros)|(refine Ej ?_ ?_<;>intro e h)|fail))
  all_goals exact ⟨Yl,St.le_refl _⟩
 refine Ah (Aj Ac ?_)
 repeat' ((conv=>whnf);first|(refine AV ?_;intros)|(refine Ej ?_ ?_<;>intro e h)|fail)
 refine Aj Ac ?_
 repeat' ((conv=>whnf);first|(refine AV ?_;intros)|(refine Ej ?_ ?_<;>intro e h)|fail)
 refine Hg (λp=>OL atom p.1) (x0:=([],n,s',e)) (λp s own=>[(7,.slice 6 (p.1.map Ap) own)]) (λp s own=>[(0,s.cells),(3,Dq p.2.1 p.2.2.1 p.2.2.2)]) [1,2,4,6] [1] (λp own=>(own,p.1)::rows) (λp=>p.1.length) .full hm (hc.push []) h li Yl ?_
 rintro ⟨l,n,s',e⟩ s1 U own1 hm1 hm2 hc h hl
 dsimp only at hc h hl
 have h:=qe hF h
 by_cases hn:l=[]
 .subst hn
  have e1:∀n:Nd,¬(((([]++[n]:List Nd).length:Nat):Int)>1):=λn=>by show ¬(1:Int)>1;omega
  repeat' ((conv=>whnf);first|refine Ww (e1 _) ?_|(refine AV ?_;intros)|(refine Ej ?_ ?_<;>intro e h)|refine Ba.Tr ha hF ‹_› hc h (λn s1 U hr hl hm hc h=>?_) (λe n s1 U he hc h=>?_)|exact ⟨⟨(_,_,_,_),_,_,_⟩,⟨hm,GE,hc,h,f8⟩,GE,Yl,St.le_refl _⟩|refine CJ ?_|(refine El ?_;intro own1 U hc)|refine BH (λ_=>?_)|exact CV|fail)
 .have e1:∀n:Nd,((((l++[n]:List Nd).length:Nat):Int))>1:=λn=>by rw [List.length_append,List.length_singleton];have:=List.length_pos_iff.2 hn;omega
  have e2:∀n:Nd,Jr 11 (l++[n])=Al 11 (l++[n]):=λn=>by have:=e1 n;unfold Jr;rw [if_neg H1]
  simp only [e2] at h
  repeat' ((conv=>whnf);first|refine Wv (e1 _) ?_|(refine AV ?_;intros)|(refine Ej ?_ ?_<;>intro e h)|refine Ba.Tr ha hF ‹_› hc h (λn s1 U hr hl hm hc h=>?_) (λe n s1 U he hc h=>?_)|exact ⟨⟨(_,_,_,_),_,_,_⟩,⟨hm,GE,hc,h,f8⟩,GE,Yl,St.le_refl _⟩|refine CJ ?_|(refine El ?_;intro own1 U hc)|refine BH (λ_=>?_)|exact CV|fail)
theorem Za (hd:d<=1000000) (U:Kg d L stm opd full) (ha:Ba 188 (λs=>[Am s,.int .i64 ((d+1:Nat):Int)]) atom) (hF:Rd.AZ atom) (hD:Dv atom) (hA:xo atom):
 Ba 241 (λs=>[Am s,.int .i64 ((d+1:Nat):Int)]) (Iq L atom):=by
 refine ⟨λ{st0 s st rows K} hm hc h=>?_⟩
 simp only [Iq,Rd.Ag,Rd.Ao,mg,xL,kM,u7,sR,Rd.wp_seq,beq_iff_eq] at h
 by_cases k1:(Aa s).1.kind=10
 .rw [if_pos k1] at h
  by_cases k2:(Aa s).1.text=[92]
  .rw [if_pos k2] at h
   refine pB Tryz.func241 ?_
   repeat' ((conv=>whnf);(first|refine AV ?_|refine Cn ‹_› ‹_› H1 ?_|refine LP.go (by first|  exact (cw hd U ha hF hD hA).a) ?_ ?_|refine CJ ?_|exact CV|fail)<;>intros)
  .rw [if_neg k2] at h
   exact SJ hm hc ha hF (.inl ⟨k1,k2⟩) h
 rw [if_neg k1] at h
 by_cases k9:(Aa s).1.kind=9
 .rw [if_pos k9] at h
  by_cases t1:(Aa s).1.text=Xf
  .rw [if_pos t1] at h
   refine pB Tryz.func241 ?_
   repeat' ((conv=>whnf);(first|refine AV ?_|refine Cn ‹_› ‹_› H1 ?_|refine LP.go (by first|  exact (iH hd U).a) ?_ ?_|refine CJ ?_|exact CV|fail)<;>intros)
  rw [if_neg t1] at h
  by_cases t2:(Aa s).1.text=xj
  .rw [if_pos t2] at h
   have t1:¬(Aa s).1.text=[108,101,116]:=by rw [t2];decide
   refine pB Tryz.func241 ?_
   repeat' ((conv=>whnf);(first|refine AV ?_|refine Cn ‹_› ‹_› H1 ?_|refine LP.go (by first|  exact (cp hd U).a) ?_ ?_|refine CJ ?_|exact CV|fail)<;>intros)
  rw [if_neg t2] at h
  by_cases t3:(Aa s).1.text=UL
  .rw [if_pos t3] at h
   refine pB Tryz.func241 ?_
   repeat' ((conv=>whnf);(first|refine AV ?_|refine Cn ‹_› ‹_› H1 ?_|refine LP.go (by first|  exact (iz hd U).a) ?_ ?_|refine CJ ?_|exact CV|fail)<;>intros)
  rw [if_neg t3] at h
  by_cases t4:(Aa s).1.text=xi
  .rw [if_pos t4] at h
   refine pB Tryz.func241 ?_
   repeat' ((conv=>whnf);(first|refine AV ?_|refine Cn ‹_› ‹_› H1 ?_|refine LP.go (by first|  exact (iQ hd U).a) ?_ ?_|refine CJ ?_|exact CV|fail)<;>intros)
  rw [if_neg t4] at h
  exact SJ hm hc ha hF (.inr (.inl ⟨k9,t1,t2,t3,t4⟩)) h
 .rw [if_neg k9] at h
  exact SJ hm hc ha hF (.inr (.inr ⟨k1,k9⟩)) h
end
theorem X0 {own:Ay}:AD.ret (Ax (Dn false l) s e)=(AD.ret (.agg [.int .i64 2,.int .i64 0,.str [],.int .i64 0,.int .i64 0,.slice 6 (l.map Ap) own,.slice 4 (Bb s.AR) .any,.int .i64 s.pos,.slice 1 (ints s.Cf) .any,.int .i64 s.wait,.int .i64 e])).wk:=Kw (f:=false)
theorem PR {own:Ay}:AD.ret (Ax (Dn true l) s e)=(AD.ret (.agg [.int .i64 2,.int .i64 1,.str [],.int .i64 0,.int .i64 0,.slice 6 (l.map Ap) own,.slice 4 (Bb s.AR) .any,.int .i64 s.pos,.slice 1 (ints s.Cf) .any,.int .i64 s.wait,.int .i64 e])).wk:=Kw (f:=true)
section
variable {st0 st:St} {s:Af} {rows:List (Ay×List Nd)} {K:AD->St->Prop} {E:Er->Af->Prop} {d:Nat}
theorem eY {Q:Unit->Af->Prop} (U:mu s<=100000000) (hk:(Aa s).1.kind=18) (h:Rd.wp GN s Q E) (k:∀n s1,mu s1<mu s->mu s1<=100000000->Q () s1->K (.ret (.Bl [.int .i64 0,Ax n s1 0])) st):PC 31 [Am s] st K:=by
 rw [GN,Rd.wp_seq] at h
 refine pB Tryz.func31 ?_
 repeat' ((conv=>whnf);first|(refine AV ?_;intros)|refine Cn ‹_› h H1 (λs1 hz hl U h=>?_)|exact AU rfl (k _ _ hl U h)|refine CJ ?_|fail)
theorem su {Q:Nd->Af->Prop} (hm:mu s<=100000000) (hc:Rx st0 st rows) (hk:¬(Aa s).1.kind=18) (h:Rd.wp (Bo 15 [123]) s Q E) (k:∀n s1 st',mu s1<mu s->mu s1<=100000000->Rx st0 st' rows->Q n s1->K (.ret (.Bl [.int .i64 1,Ax n s1 0])) st')
 (kb:∀e n s1 st',¬e.1=0->Rx st0 st' rows->E e s1->K (.ret (.Bl [.int .i64 1,Ax n s1 e.1])) st'):PC 31 [Am s] st K:=by
 refine pB Tryz.func31 ?_
 repeat' ((conv=>whnf);first|(refine AV ?_;intros)|refine Ba.Tr (J5 IR) (GR IR) ‹_› hc h (λn s1 U hr hl hm hc h=>?_) (λe n s1 U he hc h=>?_)|exact AU rfl (k _ _ _ hl hm hc h)|exact AU rfl (kb _ _ _ _ he hc h)|refine CJ ?_|fail)
theorem sm {A:Rd Nd} (U:Ba 47 (λs=>[Am s,.int .i64 D]) A):Ba 237 (λs=>[Am s,.int .i64 D,.int .i64 0]) A:=by
 refine ⟨λ{st0 s st rows K} hm hc h=>?_⟩
 refine pB Tryz.func237 ?_
 repeat' ((conv=>whnf);(first|refine AV ?_|refine LP.go (by first|exact Ba.q) ?_ ?_|exact CV|fail)<;>intros)
theorem sn {A:Rd Nd} (U:Ba 259 (λs=>[Am s,.int .i64 D]) A):Ba 237 (λs=>[Am s,.int .i64 D,.int .i64 1]) A:=by
 refine ⟨λ{st0 s st rows K} hm hc h=>?_⟩
 refine pB Tryz.func237 ?_
 repeat' ((conv=>whnf);(first|refine AV ?_|refine LP.go (by first|exact Ba.q) ?_ ?_|exact CV|fail)<;>intros)
theorem sq {A:Rd Nd} (U:Ba 308 (λs=>[Am s,.int .i64 D]) A):Ba 237 (λs=>[Am s,.int .i64 D,.int .i64 2]) A:=by
 refine ⟨λ{st0 s st rows K} hm hc h=>?_⟩
 refine pB Tryz.func237 ?_
 repeat' ((conv=>whnf);(first|refine AV ?_|refine LP.go (by first|exact Ba.q) ?_ ?_|exact CV|fail)<;>intros)
theorem YY {U:Bool} {P R:Af->Prop} (e:U=m) (hm:mu s<=100000000) (h:Rd.wp (Gi false U) s (λe s'=>if e=true then P s' else R s') E)
 (k1:∀s',mu s'<=mu s->mu s'<=100000000->P s'->K (.ret (.Bl [.bool true,Ax BC s' 0])) st) (k2:R s->K (.ret (.Bl [.bool false,Ax BC s 0])) st) (kb:∀e:Er,¬e.1=0->E e s->K (.ret (.Bl [.bool true,Ax BC s e.1])) st):
 PC 33 [Am s,.int .i64 0,.bool m] st K:=by
 subst e
 exact SM (f:=false) hm h k1 k2 kb
theorem YZ {U:Bool} {P R:Af->Prop} (e:U=m) (hm:mu s<=100000000) (h:Rd.wp (Gi true U) s (λe s'=>if e=true then P s' else R s') E)
 (k1:∀s',mu s'<=mu s->mu s'<=100000000->P s'->K (.ret (.Bl [.bool true,Ax BC s' 0])) st) (k2:R s->K (.ret (.Bl [.bool false,Ax BC s 0])) st) (kb:∀e:Er,¬e.1=0->E e s->K (.ret (.Bl [.bool true,Ax BC s e.1])) st):
 PC 33 [Am s,.int .i64 1,.bool m] st K:=by
 subst e
 exact SM (f:=true) hm h k1 k2 kb
attribute [local irreducible] Go.Aw.Ai
theorem Pk {w:Int} {starts:Tk->Bool} {item:Rd Nd} (hd:d+1<=100) (hst:w=0/\starts=FT\/¬w=0/\starts=D2) (hi:Ba 237 (λs=>[Am s,.int .i64 ((d+1:Nat):Int),.int .i64 w]) item) (hF:Rd.AZ item):
 Ba 183 (λs=>[Am s,.int .i64 ((d+1:Nat):Int),.int .i64 w]) (Dp starts item):=by
 refine ⟨λ{st0 s st rows K} hm hc h=>?_⟩
 have hb:∀f,(Rd.seq (.loop (Le starts item f) []) λl=>.ret (Dn f l))=MZ starts item f []:=λ_=>rfl
 unfold Dp at h
 rw [Rd.Ag,Rd.Ao,Rd.wp_seq,Rd.wp_seq,hb,hb] at h
 have hdcl:∀{t:Tk} {st:St} {K:AD->St->Prop},K (.ret (.bool (FT t))) st->PC 79 [DP t] st K:=λh=>cq h
 by_cases hk:(Aa s).1.kind=18
 .rw [if_pos (beq_iff_eq.2 hk)] at h
  refine pB Tryz.func183 ?_
  repeat' ((conv=>whnf);first|exact C1|(refine AV ?_;intros)|(refine C2 ?_ ?_ ?_;rotate_left)|(refine BU ?_ ?_<;>intro _)|refine eY ‹_› hk h (λn s1 hl hm h=>?_)|refine CJ ?_|(refine El ?_;intro own1 U hc)|exact CV|fail)
  refine Hg (λl=>MZ starts item false l) (x0:=[]) (λl s own=>[]) (λl s own=>[(0,s.cells),(3,[.int .i64 2,.int .i64 0,.str [],.int .i64 0,.int .i64 0,.slice 6 (l.map Ap) own])]) [1,2,3,6,7,9] [1] (λl own=>(own,l)::rows) (λl=>l.length) .full hm (hc.push []) h li Yl ?_
  intro l s1 U own1 hm1 hm2 hc h hl
  simp only [MZ,Le,Rd.Ag,Rd.Ao,Rd.wp_seq,Rd.wp_loop,Rd.wp_ret,Rd.AO] at h
  rcases hst with ⟨hw,rfl⟩|⟨hw,rfl⟩
  all_goals (repeat' ((conv=>whnf);first|exact C1|(refine AV ?_;intros)|(refine C2 ?_ ?_ ?_;rotate_left)|(refine BU ?_ ?_<;>intro _)|refine SU ‹_› hc h (λs1 U hl hm hc h=>?_)|refine hdcl ?_|refine Pj ‹_› ?_|refine YY (Ui ‹_›) ‹_› h (λs1 hl hm h=>?_) (λh=>?_) (λe he h=>?_)|refine YY (Ug ‹_›) ‹_› h (λs1 hl hm h=>?_) (λh=>?_) (λe he h=>?_)|refine Ba.Tr hi hF ‹_› hc h (λn s1 U hr hl hm hc h=>?_) (λe n s1 U he hc h=>?_)|exact Ae hc.drop h X0|exact ⟨⟨_,_,_,_⟩,⟨hm,GE,hc,(by simp only [MZ,Rd.wp_seq,Rd.wp_ret]<;>exact Rd.Bh h H1),f8⟩,GE,Yl,St.le_refl _⟩|refine CJ ?_|(refine El ?_;intro own1 U hc)|exact CV|refine Ad 11 [3,5,10] [5] ?_|fail))
 .rw [if_neg (λe=>hk (beq_iff_eq.1 e))] at h
  refine pB Tryz.func183 ?_
  repeat' ((conv=>whnf);first|exact C1|(refine AV ?_;intros)|(refine C2 ?_ ?_ ?_;rotate_left)|(refine BU ?_ ?_<;>intro _)|refine su ‹_› hc hk h (λn s1 U hl hm hc h=>?_) (λe n s1 U he hc h=>?_)|refine CJ ?_|(refine El ?_;intro own1 U hc)|exact CV|fail)
  refine Hg (λl=>MZ starts item true l) (x0:=[]) (λl s own=>[]) (λl s own=>[(0,s.cells),(3,[.int .i64 2,.int .i64 1,.str [],.int .i64 0,.int .i64 0,.slice 6 (l.map Ap) own])]) [1,2,3,6,7,9] [1] (λl own=>(own,l)::rows) (λl=>l.length) .full hm (hc.push []) h li Yl ?_
  intro l s1 U own1 hm1 hm2 hc h hl
  simp only [MZ,Le,Rd.Ag,Rd.Ao,Rd.wp_seq,Rd.wp_loop,Rd.wp_ret,Rd.AO] at h
  rcases hst with ⟨hw,rfl⟩|⟨hw,rfl⟩
  all_goals (repeat' ((conv=>whnf);first|exact C1|(refine AV ?_;intros)|(refine C2 ?_ ?_ ?_;rotate_left)|(refine BU ?_ ?_<;>intro _)|refine SU ‹_› hc h (λs1 U hl hm hc h=>?_)|refine hdcl ?_|refine Pj ‹_› ?_|refine YZ (Ui ‹_›) ‹_› h (λs1 hl hm h=>?_) (λh=>?_) (λe he h=>?_)|refine YZ (Ug ‹_›) ‹_› h (λs1 hl hm h=>?_) (λh=>?_) (λe he h=>?_)|refine Ba.Tr hi hF ‹_› hc h (λn s1 U hr hl hm hc h=>?_) (λe n s1 U he hc h=>?_)|exact Ae hc.drop h PR|exact Ae hc.drop (h _) PR|exact ⟨⟨_,_,_,_⟩,⟨hm,GE,hc,(by simp only [MZ,Rd.wp_seq,Rd.wp_ret]<;>exact Rd.Bh h H1),f8⟩,GE,Yl,St.le_refl _⟩|refine CJ ?_|(refine El ?_;intro own1 U hc)|exact CV|refine Ad 11 [3,5,10] [5] ?_|fail))
end
section
variable {st0 st:St} {s:Af} {rows:List (Ay×List Nd)} {K:AD->St->Prop} {E:Er->Af->Prop} {d:Nat}
theorem SP (h0:1<=d) (h1:d<=100):Ba 108 (λs=>[Am s,.int .i64 (d:Int)]) (CH d):=by
 refine ⟨λ{st0 s st rows K} hm hc h=>?_⟩
 refine sl hm rfl ?_
 have e:B0 ((d:Nat):Int)=d:=by unfold B0;split<;>omega
 have hB:C4 (EJ (BN (B8 (d - 1)))):=OP (Cr (B3 _))
 unfold ES
 rw [if_neg H1,e]
 unfold Rd.wp CH at h
 cases U:EJ (BN (B8 (d - 1))) s with
 |inl p=>obtain ⟨e,s'⟩:=p;rw [Ip hB U] at h;exact h BC st hc
 |inr p=>rw [IY U] at h;exact h st hc
theorem wy (U:D<1):K5 258 (λs=>[Am s,.int .i64 D]) (.fail Fi):=by
 refine ⟨λ{st0 s st rows K} hm hc h=>?_⟩
 rw [Rd.BD] at h
 refine pB Tryz.func258 ?_
 repeat' ((conv=>whnf);(first|refine AV ?_|refine CJ ?_|exact CV|fail)<;>intros)
theorem sF (U:D<1):K5 259 (λs=>[Am s,.int .i64 D]) (.fail Fi):=by
 refine ⟨λ{st0 s st rows K} hm hc h=>?_⟩
 rw [Rd.BD] at h
 refine pB Tryz.func259 ?_
 repeat' ((conv=>whnf);(first|refine AV ?_|refine CJ ?_|exact CV|fail)<;>intros)
theorem Of {w:Int} (U:D<1):K5 183 (λs=>[Am s,.int .i64 D,.int .i64 w]) (.fail Fi):=by
 refine ⟨λ{st0 s st rows K} hm hc h=>?_⟩
 rw [Rd.BD] at h
 refine pB Tryz.func183 ?_
 repeat' ((conv=>whnf);(first|  refine AV ?_|refine CJ ?_|exact CV|fail)<;>intros)
structure xt (d:Nat) (D:Int) (full:Rd Nd) (L:DL):Prop where
 atom:Ba 188 (λs=>[Am s,.int .i64 ((d+1:Nat):Int)]) (kx L)
 ops:Ba 110 (λs=>[Am s,.int .i64 ((d+1:Nat):Int)]) (opsL L)
 row:tK 186 (λs=>[Am s,.int .i64 ((d+1:Nat):Int),.bool true]) (H8 (ca L) true)
 exp:K5 258 (λs=>[Am s,.int .i64 D]) (Qm full L)
 stmt:K5 259 (λs=>[Am s,.int .i64 D]) (K1 full L)
 alt:K5 308 (λs=>[Am s,.int .i64 D]) (aD full L)
 decl:K5 47 (λs=>[Am s,.int .i64 D]) (F2 full L)
 decls:Ba 183 (λs=>[Am s,.int .i64 ((d+1:Nat):Int),.int .i64 0]) (Dp FT (F2 full L))
 stmts:Ba 183 (λs=>[Am s,.int .i64 ((d+1:Nat):Int),.int .i64 1]) (Dp D2 (K1 full L))
 alts:Ba 183 (λs=>[Am s,.int .i64 ((d+1:Nat):Int),.int .i64 2]) (Dp D2 (aD full L))
theorem yc {L:DL} {stm opd full:Rd Nd} (hD:pW D d) (hL:Kg d L stm opd full) (U:Ms L):xt d D (CH (d+1)) L:=by
 have hd:=hD.le
 have hd2:d<=1000000:=H1
 have hF:=Lk (d+1)
 have atom:=nx hd2 hL (ny hd2 hL λo=>iP (o:=o) hd2 hL)
 have dat:=Lj U
 have opd:=Za hd2 hL atom PO dat ku
 have dop:=M4 U
 have full:=SP (d:=d+1) H1 hd
 have key:∀{D:Int},pW D d->K5 258 (λs=>[Am s,.int .i64 D]) (Qm (CH (d+1)) L)/\K5 259 (λs=>[Am s,.int .i64 D]) (K1 (CH (d+1)) L)/\K5 308 (λs=>[Am s,.int .i64 D]) (aD (CH (d+1)) L)/\K5 47 (λs=>[Am s,.int .i64 D]) (F2 (CH (d+1)) L):=λhD=>by
  have exp:=eU (Yi hd) opd full
  have stmt:=Zg (Yi hd) hL U exp.c (IL hF U)
  exact ⟨eU hD opd full,Zg hD hL U exp.c (IL hF U),sf hD hL opd dop exp.c stmt.c,nA hD hL U opd dop atom dat full exp.c stmt.c⟩
 obtain ⟨e1,e2,e3,e4⟩:=key hD
 obtain ⟨f1,f2,f3,f4⟩:=key (Yi hd)
 exact ⟨atom,QV opd,fm opd,e1,e2,e3,e4,Pk hd (.inl ⟨rfl,rfl⟩) (sm f4.c) (NT hF U).XW,Pk hd (.inr ⟨IR,rfl⟩) (sn f2.c) (JE hF U).XW,Pk hd (.inr ⟨IR,rfl⟩) (sq f3.c) (Vi hF U).XW⟩
theorem yd:∀d,d<=100->∃stm opd full,Kg d (Jq d) stm opd full
 |0,_=>⟨.fail Fi,.fail Fi,.fail Fi,(wy IR).c,(sF IR).c,(Of IR).c,(Of IR).c,(Of IR).c,λ_=>rfl,λh=>absurd rfl h,λh=>absurd rfl h,λh=>absurd rfl h,λh=>absurd rfl h,λh=>absurd rfl h,λh=>absurd rfl h⟩
 |d+1,h=>by
  obtain ⟨_,_,_,U⟩:=yd d H1
  have l:=yc (Yi h) U (O0 d)
  exact ⟨K1 (CH (d+1)) (Jq d),ca (Jq d),CH (d+1),l.exp.c,l.stmt.c,l.decls,l.stmts,l.alts,λe=>(by cases e),λ_=>l.atom,λ_=>l.ops,λ_=>l.row,λ_=>SP H1 h,λ_ _=>rfl,λ_ _=>rfl⟩
theorem uw {deep:Int} (h:¬deep<1):xt (B0 deep - 1) deep (CH (B0 deep)) (Jq (B0 deep - 1)):=by
 obtain ⟨d,e,hL⟩:∃d,B0 deep=d+1/\pW deep d:=by
  by_cases U:100<deep
  .exact ⟨99,by unfold B0;rw [if_pos U];rfl,xQ U⟩
  .obtain ⟨k,rfl⟩:∃k:Nat,deep=((k+1:Nat):Int):=⟨deep.toNat - 1,H1⟩
   exact ⟨k,by unfold B0;rw [if_neg U];omega,Yi H1⟩
 rw [e]
 obtain ⟨_,_,_,hl⟩:=yd d (by have:=hL.le;omega)
 exact yc hL hl (O0 d)
theorem K5.end_ {f:FuncId} {mk:Af->List V} {A:Rd Nd} (hf:K5 f mk A) (U:mu s<=100000000) (h:∀st',St.le st st'->K (.ret (Ax (rn (DC A s)) (rs (DC A s)) (re (DC A s)))) st'):PC f (mk s) st K:=
 hf.ap (st0:=st) (rows:=[]) U Rx.start (Rd.UQ (λv s' e st' c=>(by unfold DC at h;rw [e] at h;exact h st' c.le)) (λe s' hr st' c=>(by unfold DC at h;rw [hr] at h;exact h st' c.le)))
end
structure Rf (f:FuncId) (mk:Af->List V) (A:Rd Nd):Prop where
 ap:∀{st0:St} {s:Af} {st:St} {rows:List (Ay×List Nd)} {K:AD->St->Prop},mu s<=100000000->((Aa s).1.kind≠0/\(Aa s).1.kind≠21)->Rx st0 st rows->
  Rd.wp A s (λv s'=>∀st',Rx st0 st' rows->K (.ret (Ax v s' 0)) st') (λe s'=>∀n st',Rx st0 st' rows->K (.ret (Ax n s' e.1)) st')->PC f (mk s) st K
section
variable {st0 st:St} {s:Af} {rows:List (Ay×List Nd)} {K:AD->St->Prop} {Q:Nd->Af->Prop} {E:Er->Af->Prop}
attribute [local irreducible] Go.Aw.Ai
theorem jO {o:Bool}:Ba 21 (λs=>[Am s,.bool o]) (Pf o):=
 ⟨λU hc h=>pO U hc (Rd.wp_mono h (λv s' _ q=>q) (λe s' _ q st' hr=>q BC st' hr))⟩
theorem fJ {k:Int} (h:K (.ret (.bool (BR n [k]))) st):PC 104 [enc n,.int .i64 k] st K:=by
 refine pB Tryz.func104 ?_
 repeat' ((conv=>whnf);first|  (refine CD ?_ ?_<;>intro _)|fail)
 all_goals conv=>whnf
 all_goals (refine An h ?_;clear h;simp_all [BR])
theorem CG {k:Int} (e:BR n [k]=b) (h:K (.ret (.bool b)) st):PC 104 [enc n,.int .i64 k] st K:=by subst e;exact fJ h
theorem CA (h:K (.ret (Ax BC s 120)) st):PC 37 [Am s] st K:=by
 refine pB Tryz.func37 ?_
 repeat' ((conv=>whnf);first|  fail)
 all_goals exact AU rfl h
theorem Tp (h:K (.ret (.bool (C0 n))) st):PC 182 [enc n] st K:=by
 refine pB Tryz.func182 ?_
 repeat' ((conv=>whnf);first|  (refine CD ?_ ?_<;>intro _)|fail)
 all_goals conv=>whnf
 all_goals (refine An h ?_;clear h;simp_all [C0])
theorem w8 (h:K (.ret (.bool (EV n))) st):PC 178 [enc n] st K:=by
 refine pB Tryz.func178 ?_
 repeat' ((conv=>whnf);first|(refine Bc ?_;intros)|(refine CD ?_ ?_<;>intro _)|refine fJ ?_)
 all_goals conv=>whnf
 all_goals (refine An h ?_;clear h;simp_all [EV])
theorem af:Rf 41 (λs=>[Am s]) JP:=by
 refine ⟨λ{st0 s st rows K} hm hk hc h=>?_⟩
 simp only [JP,QJ,QK,QL,Rd.Ag,Rd.Ao,Rd.wp_seq,Rd.wp_ret] at h
 refine pB Tryz.func41 ?_
 repeat' ((conv=>whnf);first|exact B1|(refine Bc ?_;intros)|(refine B2 ?_ ?_ ?_;rotate_left)|refine EI ‹_› IR h (λe h=>?_) (λe h=>?_)|refine Gd ‹_› h (λe h=>?_) (λe h=>?_)|refine BK (l:=[]) (Nat.zero_le _) ‹_› (hc.push []) h (by first|assumption|exact A9 ‹_› IR) (λs2 own2 st2 hlt hm2 hc h=>?_)|refine BK AC ‹_› hc h (by first|assumption|exact A9 ‹_› IR) (λs2 own2 st2 hlt hm2 hc h=>?_)|refine Ba.go (A5 IR IR) ‹_› hc h (λn s1 U hr hmm hm1 hc h=>?_) (λe n s1 U he hc h=>?_)|refine Ba.go (AF (o:=true)) ‹_› hc h (λn s1 U hr hmm hm1 hc h=>?_) (λe n s1 U he hc h=>?_)|refine Rx.BE hc AC (λown1 U hc=>?_)|refine A2 ?_|exact Ae hc h rfl|exact At hc h rfl|exact Ae hc.drop h rfl|exact At hc.drop h rfl|exact Ae hc.drop h Ak|exact Ae hc h Ak|exact Ae hc (h BC) rfl|exact Ae hc.drop (h BC) rfl|refine Ba.go (jO (o:=true)) ‹_› hc h (λn s1 U hr hmm hm1 hc h=>?_) (λe n s1 U he hc h=>?_)|refine Az [1,5,2,7,8] [1] ?_|fail|fail)
end
def pY (row:Rd Nd):Prop:=∀s n s',row.run s=.inr (n,s')->n.kind=39->0<n.kids.length
theorem oN {Q:Nd->Af->Prop} {E:Er->Af->Prop} (e:AP s 15 [40]=true) (hk:(Aa (Aa s).2.1).1.kind=6) (h:Rd.wp (D5 [6]) s Q E):Rd.wp (D5 (ZJ true)) s Q E:=by
 have hw:(Bo 15 [40]).run s=AB.run s:=by
  unfold Bo Rd.look
  dsimp only
  rw [e];rfl
 unfold Rd.wp D5 Rd.seq at h |-
 dsimp only at h |-
 rw [hw] at h |-
 cases U:AB.run s with
 |inl p=>rw [U] at h;exact h
 |inr p=>
  obtain ⟨o,s1⟩:=p
  rw [U] at h
  dsimp only at h |-
  have hs1:s1=(Aa s).2.1:=by
   rw [LM e IR] at U
   injection U with U
   exact (congrArg (·.2) U).symm
  have e6:(Cm [6]).run s1=(Cm (ZJ true)).run s1:=by
   unfold Cm Rd.look
   dsimp only
   rw [hs1,hk];rfl
  rw [e6] at h
  exact h
section
variable {st0 st:St} {s:Af} {rows:List (Ay×List Nd)} {K:AD->St->Prop} {Q:Nd->Af->Prop} {E:Er->Af->Prop}
attribute [local irreducible] Go.Aw.Ai
theorem tF (hk0:n.kind=39->0<n.kids.length) (h:K (.ret (.bool (CN n))) st):PC 98 [enc n] st K:=by
 refine pB Tryz.func98 ?_
 by_cases hk:n.kind=39
 .have hpos:=hk0 hk
  obtain ⟨x,hx⟩:∃x,n.kids[(0:Int).toNat]? =some x:=⟨_,List.getElem?_eq_getElem hpos⟩
  have hl2:BR n [2]=false:=by unfold BR;rw [hk];rfl
  have e0:CN n=(BR x [2]&&(n.kids.drop 1).all (BR · [1])):=by
   unfold CN
   rw [hk,beq_self_eq_true,if_pos rfl]
   cases hkk:n.kids with
   |nil=>rw [hkk] at hx;cases hx
   |cons y r=>rw [hkk] at hx;cases hx;simp
  have l1:∀{st:St} {K:AD->St->Prop},K (.ret (.bool false)) st->PC 104 [enc n,.int .i64 2] st K:=λh=>CG hl2 h
  cases U:BR x [2] with
  |false=>
   rw [e0,U,Bool.false_and] at h
   have l2:∀{st:St} {K:AD->St->Prop},K (.ret (.bool false)) st->PC 104 [enc x,.int .i64 2] st K:=λh=>CG U h
   repeat' ((conv=>whnf);first|refine Wm hx IR ?_|(refine Bc ?_;intros)|refine l1 ?_|refine l2 ?_)
   all_goals exact fin h rfl
  |true=>
   rw [e0,U,Bool.true_and] at h
   have l2:∀{st:St} {K:AD->St->Prop},K (.ret (.bool true)) st->PC 104 [enc x,.int .i64 2] st K:=λh=>CG U h
   repeat' ((conv=>whnf);first|refine Wm hx IR ?_|(refine Bc ?_;intros)|refine l1 ?_|refine l2 ?_)
   refine Gr (α:=Nat) (λi=>[(3,.int .i64 (i:Nat))]) [1] (λ_=>[]) [0] (λ_=>st) (λi=>i<=n.kids.length/\(n.kids.drop i).all (BR · [1])=(n.kids.drop 1).all (BR · [1])) (λi=>n.kids.length - i) 1 ⟨hpos,rfl⟩ Yl (St.le_refl _) ?_
   rintro i ⟨hi,hs⟩
   by_cases hlt:i<n.kids.length
   .obtain ⟨y,hy⟩:∃y,n.kids[(i:Int).toNat]? =some y:=⟨_,List.getElem?_eq_getElem hlt⟩
    have hd:n.kids.drop i=y::n.kids.drop (i+1):=by
     obtain ⟨h1,h2⟩:=List.getElem?_eq_some_iff.1 (show n.kids[i]? =some y from hy)
     rw [List.drop_eq_getElem_cons h1,h2]
    rw [hd,List.all_cons] at hs
    cases hy1:BR y [1] with
    |true=>
     rw [hy1,Bool.true_and] at hs
     have l3:∀{st:St} {K:AD->St->Prop},K (.ret (.bool true)) st->PC 104 [enc y,.int .i64 1] st K:=λh=>CG hy1 h
     repeat' ((conv=>whnf);first|refine Wm hy H1 ?_|(refine Bc ?_;intros)|refine l3 ?_)
     all_goals conv=>whnf
     all_goals exact ⟨i+1,⟨hlt,hs⟩,Nat.sub_lt_sub_left hlt (Nat.lt_succ_self i),Yl,St.le_refl _⟩
    |false=>
     rw [hy1,Bool.false_and] at hs
     rw [<-hs] at h
     have l3:∀{st:St} {K:AD->St->Prop},K (.ret (.bool false)) st->PC 104 [enc y,.int .i64 1] st K:=λh=>CG hy1 h
     repeat' ((conv=>whnf);first|refine Wm hy H1 ?_|(refine Bc ?_;intros)|refine l3 ?_)
     all_goals exact fin h rfl
   .rw [List.drop_of_length_le (show n.kids.length<=i by omega)] at hs
    rw [<-hs] at h
    repeat' ((conv=>whnf);first|(refine Bc ?_;intros)|fail)
    all_goals exact fin h rfl
 .have e0:CN n=BR n [2]:=by unfold CN;rw [if_neg (by simpa using hk)]
  rw [e0] at h
  cases U:BR n [2]
  all_goals (rw [U] at h;have l1:∀{b:Bool} {st:St} {K:AD->St->Prop},BR n [2]=b->K (.ret (.bool b)) st->PC 104 [enc n,.int .i64 2] st K:=λe h=>CG e h)
  all_goals (repeat' ((conv=>whnf);first|(refine Bc ?_;intros)|refine l1 U ?_))
  all_goals exact fin h rfl
theorem PH (U:n.kind=39->0<n.kids.length) (h:if CN n=true then P else R) (k1:CN n=true->P->K (.ret (.bool true)) st) (k2:CN n=false->R->K (.ret (.bool false)) st):PC 98 [enc n] st K:=by
 refine tF U ?_
 cases e:CN n with
 |true=>exact k1 e (by rw [if_pos e] at h;exact h)
 |false=>exact k2 e (by rw [if_neg (by rw [e];decide)] at h;exact h)
theorem fI {row:Rd Nd} (hr0:Ba 97 (λs=>[Am s,.int .i64 D]) row) {own:Ay} {Q:List Nd×Nd->Af->Prop} (m:Nat) (hl:l.length<=m) (hm8:m<=800000000) (hm:mu s<=100000000) (hc:Rx st0 st ((own,l)::rows)) (h:Rd.wp (KW row l) s Q E)
 (k1:∀p s1 U st',(∃sa sb,row.run sa=.inr (p.2,sb))->p.1.length<=m+2->mu s1<=mu s->mu s1<=100000000->Rx st0 st' ((U,p.1++[p.2])::rows)->Q p s1->K (.ret (.Bl [.slice 6 ((p.1++[p.2]).map Ap) U,Ax p.2 s1 0])) st')
 (k2:∀(e:Er) n l' s1 U st',¬e.1=0->Rx st0 st' ((U,l')::rows)->E e s1->K (.ret (.Bl [.slice 6 (l'.map Ap) U,Ax n s1 e.1])) st'):PC 100 [.slice 6 (l.map Ap) own,Am s,.int .i64 D] st K:=by
 simp only [KW,Rd.Ag,Rd.Ao,Rd.wp_seq,Rd.wp_ret] at h
 refine pB Tryz.func100 ?_
 repeat' ((conv=>whnf);first|exact B1|(refine Bc ?_;intros)|(refine B2 ?_ ?_ ?_;rotate_left)|refine Ba.go hr0 ‹_› hc h (λn s1 st1 hr hmm hm1 hc h=>?_) (λe n s1 st1 he hc h=>?_)|refine EI ‹_› IR h (λe h=>?_) (λe h=>?_)|refine Rx.BE hc la (λown1 st1 hc=>?_)|refine BK la ‹_› hc h (A9 ‹_› IR) (λs2 own2 st2 hlt hm2 hc h=>?_)|refine Ad 4 [3] [1] ?_|refine Ad 4 [3] [1] ?_|refine Ad 4 [3] [1] ?_|exact ⟨_,_,.inl rfl,St.le_refl _,k1 (_,_) _ _ _ ⟨_,_,hr⟩ la H1 ‹_› hc h⟩|exact ⟨_,_,.inl rfl,St.le_refl _,k2 _ _ _ _ _ _ he hc h⟩|fail|fail)
end
section
variable {st0 st:St} {s:Af} {rows:List (Ay×List Nd)} {K:AD->St->Prop} {Q:Nd->Af->Prop} {E:Er->Af->Prop}
attribute [local irreducible] Go.Aw.Ai
theorem ak {row whole:Rd Nd} (hr0:Ba 97 (λs=>[Am s,.int .i64 D]) row) (hw0:Ba 99 (λs=>[Am s,.int .i64 D]) whole) (hy:pY row):Rf 42 (λs=>[Am s,.int .i64 D]) (J7 row whole):=by
 refine ⟨λ{st0 s st rows K} hm hk hc h=>?_⟩
 simp only [J7,FB,Rd.Ao,Rd.wp_seq,Rd.wp_ret,Rd.BD] at h
 refine pB Tryz.func42 ?_
 repeat' ((conv=>whnf);first|(refine Bc ?_;intros)|refine BK (l:=[]) (Nat.zero_le _) ‹_› (hc.push []) h (by first|assumption) (λs2 own2 st2 hlt hm2 hc h=>?_)|refine BK AC ‹_› hc h (by first|assumption) (λs2 own2 st2 hlt hm2 hc h=>?_)|refine F9 IR AC ‹_› hc h (λn s1 own1 U hr hmm hm1 hc h=>?_) (λe n s1 own1 U he hc h=>?_)|refine Ba.go (A5 IR IR) ‹_› hc h (λn s1 U hr hmm hm1 hc h=>?_) (λe n s1 U he hc h=>?_)|refine Ba.go (AF (o:=true)) ‹_› hc h (λn s1 U hr hmm hm1 hc h=>?_) (λe n s1 U he hc h=>?_)|refine Rx.BE hc AC (λown1 U hc=>?_)|refine A2 ?_|exact Ae hc h rfl|exact At hc h rfl|exact Ae hc.drop h rfl|exact At hc.drop h rfl|exact Ae hc.drop h Ak|exact Ae hc h Ak|exact Ae hc (h BC) rfl|exact Ae hc.drop (h BC) rfl|refine Ba.go hr0 ‹_› hc h (λn s1 U hr hmm hm1 hc h=>?_) (λe n s1 U he hc h=>?_)|refine Ba.go hw0 ‹_› hc h (λn s1 U hr hmm hm1 hc h=>?_) (λe n s1 U he hc h=>?_)|refine PH (hy _ _ _ hr) h (λe h=>?_) (λe h=>?_)|refine CA ?_|fail)
theorem aj {atom:Rd Nd} (ha0:Ba 307 (λs=>[Am s,.int .i64 D]) atom):Ba 234 (λs=>[Am s,.int .i64 D]) (GF atom):=by
 refine ⟨λ{st0 s st rows K} hm hc h=>?_⟩
 simp only [GF,HR,Rd.Ag,Rd.Ao,Rd.wp_seq,Rd.wp_ret] at h
 refine pB Tryz.func234 ?_
 cases e1:AP s 5 [33] with
 |true=>
  rw [e1,if_pos rfl] at h
  repeat' ((conv=>whnf);first|(refine Bc ?_;intros)|refine IB ‹_› ‹_› IR ?_|refine HA ‹_› ‹_› IR ?_|refine Tn ‹_› ‹_› ?_|refine TH ‹_› ‹_› ?_|refine DU ‹_› ?_|refine BK (l:=[]) (Nat.zero_le _) ‹_› (hc.push []) h (by first|assumption|exact A9 ‹_› IR) (λs2 own2 st2 hlt hm2 hc h=>?_)|refine BK AC ‹_› hc h (by first|assumption|exact A9 ‹_› IR) (λs2 own2 st2 hlt hm2 hc h=>?_)|refine Ba.go (A5 IR IR) ‹_› hc h (λn s1 U hr hmm hm1 hc h=>?_) (λe n s1 U he hc h=>?_)|refine Ba.go (AF (o:=true)) ‹_› hc h (λn s1 U hr hmm hm1 hc h=>?_) (λe n s1 U he hc h=>?_)|refine Rx.BE hc AC (λown1 U hc=>?_)|refine A2 ?_|exact Ae hc h rfl|exact At hc h rfl|exact Ae hc.drop h rfl|exact At hc.drop h rfl|exact Ae hc.drop h Ak|exact Ae hc h Ak|exact Ae hc (h BC) rfl|exact Ae hc.drop (h BC) rfl|refine Ba.go ha0 ‹_› hc h (λn s1 U hr hmm hm1 hc h=>?_) (λe n s1 U he hc h=>?_)|fail)
 |false=>
  rw [e1,if_neg IR] at h
  cases e2:AP s 15 [40] with
  |true=>
   rw [e2,if_pos rfl] at h
   have ht:Rd.wp AB s (λ_ s'=>s'=(Aa s).2.1) (λ_ _=>True):=by
    unfold Rd.wp
    rw [LM e2 IR]
   have hk:=A9 e2 (show (15:Int)≠0/\(15:Int)≠21 by decide)
   by_cases h6:(Aa (Aa s).2.1).1.kind=6
   .rw [if_pos (by simpa using h6)] at h
    have h:=oN e2 h6 h
    have h7:∀t,t=(Aa s).2.1->(Aa t).1.kind=6:=λt e=>by rw [e];exact h6
    repeat' ((conv=>whnf);first|refine Wt (h7 _ ‹_›) ?_|(refine Bc ?_;intros)|refine HA ‹_› ‹_› IR ?_|refine Tn ‹_› ‹_› ?_|refine Cn ‹_› ht hk (λs1 e1 hlt hm1 q=>?_)|refine DU ‹_› ?_|refine Ba.go (AF (o:=true)) ‹_› hc h (λn s1 U hr hmm hm1 hc h=>?_) (λe n s1 U he hc h=>?_)|exact Ae hc h rfl|exact At hc h rfl|fail)
   .rw [if_neg (by simpa using h6)] at h
    have h7:∀t,t=(Aa s).2.1->¬(Aa t).1.kind=6:=λt e=>by rw [e];exact h6
    repeat' ((conv=>whnf);first|refine Wu (h7 _ ‹_›) ?_|(refine Bc ?_;intros)|refine HA ‹_› ‹_› IR ?_|refine Tn ‹_› ‹_› ?_|refine Cn ‹_› ht hk (λs1 e1 hlt hm1 q=>?_)|refine DU ‹_› ?_|refine Ba.go ha0 ‹_› hc h (λn s1 U hr hmm hm1 hc h=>?_) (λe n s1 U he hc h=>?_)|exact Ae hc h rfl|exact At hc h rfl|fail)
  |false=>
   rw [e2,if_neg IR] at h
   repeat' ((conv=>whnf);first|(refine Bc ?_;intros)|refine HA ‹_› ‹_› IR ?_|refine TH ‹_› ‹_› ?_|refine Ba.go ha0 ‹_› hc h (λn s1 U hr hmm hm1 hc h=>?_) (λe n s1 U he hc h=>?_)|exact Ae hc h rfl|exact At hc h rfl|fail)
theorem Xv {k:Int} {x:Nd} {K:List V->Prop} (h:l[k.toNat]? =some x) (U:0<=k) (kk:K (Ap x)):0<=k/\∃e,(l.map Ap)[k.toNat]? =some e/\K e:=⟨U,_,by rw [List.getElem?_map,h];rfl,kk⟩
def Oy (l:List Nd):Bool:=l.length==1|| !l.any C0
def S0 (l:List Nd):Nd:=if l.length=1 then l.headD BC else Al 39 l
theorem yD {own:Ay} (h:K (.ret (.Bl [enc (if Oy l=true then S0 l else BC),.bool (Oy l)])) st):PC 180 [.slice 6 (l.map Ap) own] st K:=by
 refine pB Tryz.func180 ?_
 by_cases h1:l.length=1
 .have hb:Oy l=true:=by unfold Oy;rw [h1];rfl
  obtain ⟨x,rfl⟩:=List.length_eq_one_iff.1 h1
  rw [hb,if_pos rfl] at h
  have hv:S0 [x]=x:=rfl
  rw [hv] at h
  have hx:([x]:List Nd)[(0:Int).toNat]? =some x:=rfl
  repeat' ((conv=>whnf);first|refine Xv hx IR ?_|(refine Bc ?_;intros)|refine BH (λ_=>?_))
  all_goals exact AU rfl h
 .have hli:¬(l.length:Int)=1:=H1
  have e1:Oy l= !l.any C0:=by unfold Oy;rw [beq_eq_false_iff_ne.2 h1,Bool.false_or]
  have ev:S0 l=Al 39 l:=if_neg h1
  rw [e1,ev] at h
  repeat' ((conv=>whnf);first|(refine Bc ?_;intros)|refine BH (λ_=>?_))
  refine Gr (α:=Nat) (λi=>[(4,.int .i64 (i:Nat))]) [0,2] (λ_=>[]) [0] (λ_=>st) (λi=>i<=l.length/\(l.drop i).any C0=l.any C0) (λi=>l.length - i) 0 ⟨Nat.zero_le _,rfl⟩ Yl (St.le_refl _) ?_
  rintro i ⟨hi,hs⟩
  by_cases hlt:i<l.length
  .obtain ⟨y,hy⟩:∃y,l[(i:Int).toNat]? =some y:=⟨_,List.getElem?_eq_getElem hlt⟩
   have hd:l.drop i=y::l.drop (i+1):=by
    obtain ⟨h1,h2⟩:=List.getElem?_eq_some_iff.1 (show l[i]? =some y from hy)
    rw [List.drop_eq_getElem_cons h1,h2]
   rw [hd,List.any_cons] at hs
   cases U:C0 y with
   |true=>
    rw [U,Bool.true_or] at hs
    rw [<-hs,Bool.not_true,if_neg IR] at h
    have l3:∀{st:St} {K:AD->St->Prop},K (.ret (.bool true)) st->PC 182 [enc y] st K:=λh=>Tp (by rw [U];exact h)
    repeat' ((conv=>whnf);first|with_reducible refine Wi ?_|with_reducible refine Wj ?_|refine Xv hy H1 ?_|(refine Bc ?_;intros)|refine l3 ?_|refine BH (λ_=>?_))
    all_goals first|exact AU rfl h|contradiction
   |false=>
    rw [U,Bool.false_or] at hs
    have l3:∀{st:St} {K:AD->St->Prop},K (.ret (.bool false)) st->PC 182 [enc y] st K:=λh=>Tp (by rw [U];exact h)
    repeat' ((conv=>whnf);first|with_reducible refine Wi ?_|with_reducible refine Wj ?_|refine Xv hy H1 ?_|(refine Bc ?_;intros)|refine l3 ?_|refine BH (λ_=>?_))
    all_goals conv=>whnf
    all_goals exact ⟨i+1,⟨hlt,hs⟩,Nat.sub_lt_sub_left hlt (Nat.lt_succ_self i),Yl,St.le_refl _⟩
  .rw [List.drop_of_length_le (show l.length<=i by omega)] at hs
   rw [<-hs,List.any_nil,Bool.not_false,if_pos rfl] at h
   repeat' ((conv=>whnf);first|(refine Bc ?_;intros)|refine A2 ?_|refine BH (λ_=>?_))
   all_goals first|exact AU rfl h|contradiction
end
theorem oY (s:Af):Pw (Aa s).1=(AP s 5 [33]||Ca (Aa s).1):=by
 unfold Pw Ca AP
 by_cases h5:(Aa s).1.kind=5
 .rw [h5];simp
 .by_cases U:(Aa s).1.kind=15
  .rw [U];simp
  .have d5:((Aa s).1.kind==5)=false:=by simpa using h5
   have d15:((Aa s).1.kind==15)=false:=by simpa using U
   simp only [d5,d15,Bool.false_eq_true,if_false,Bool.false_and,Bool.false_or,Bool.or_false]
section
variable {st:St} {K:AD->St->Prop} {s:Af} {P R:Prop} {t:Tk}
theorem xa (U:mu s<=100000000) (h:if (AP s 5 [33]||Ca t)=true then P else R) (k1:P->K (.ret (.bool true)) st) (k2:(if Ca t=true then P else R)->K (.ret (.bool false)) st):PC 94 [Am s,.int .i64 5,.str [33]] st K:=by
 cases e:AP s 5 [33] with
 |true=>rw [e,Bool.true_or,if_pos rfl] at h;exact IB U e IR (k1 h)
 |false=>rw [e,Bool.false_or] at h;exact HA U e IR (k2 h)
theorem jR (h:if Ca t=true then P else R) (U:P->K (.ret (.bool true)) st) (k2:R->K (.ret (.bool false)) st):PC 233 [DP t] st K:=by
 cases e:Ca t with
 |true=>exact G2 e (U (by rw [if_pos e] at h;exact h))
 |false=>exact G2 e (k2 (by rw [if_neg (by rw [e];decide)] at h;exact h))
end
section
variable {st0 st:St} {s:Af} {rows:List (Ay×List Nd)} {K:AD->St->Prop} {E:Er->Af->Prop}
attribute [local irreducible] Go.Aw.Ai
theorem dd {atom:Rd Nd} (ha0:Ba 307 (λs=>[Am s,.int .i64 D]) atom) (hA:Rd.AZ atom) (hm:mu s<=100000000) (hc:Rx st0 st rows) (h:Rd.wp (Lz atom) s Q E)
 (k1:∀l n s1 U st',0<l.length->l.length+4*mu s1<=500000000->mu s1<=mu s->mu s1<=100000000->Rx st0 st' ((U,l)::rows)->Q l s1->K (.ret (.Bl [.slice 6 (l.map Ap) U,Ax n s1 0])) st')
 (k2:∀(e:Er) n l s1 U st',¬e.1=0->Rx st0 st' ((U,l)::rows)->E e s1->K (.ret (.Bl [.slice 6 (l.map Ap) U,Ax n s1 e.1])) st'):PC 177 [Am s,.int .i64 D] st K:=by
 have hF:Rd.AZ (GF atom):=R1 hA
 refine pB Tryz.func177 ?_
 repeat' ((conv=>whnf);first|exact B1|(refine Bc ?_;intros)|(refine B2 ?_ ?_ ?_;rotate_left)|fail)
 refine Lt (α:=List Nd×Af×St×Ay) (λy=>[(6,.slice 6 (y.1.map Ap) y.2.2.2)]) (λy=>[(0,y.2.1.cells)]) [1,2,5] [1] (λy=>y.2.2.1)
  (λy=>mu y.2.1<=100000000/\mu y.2.1<=mu s/\Rx st0 y.2.2.1 ((y.2.2.2,y.1)::rows)/\Rd.wp (GF atom) y.2.1 (λm s'=>mu s'<mu y.2.1->Rd.wp (Rd.loop (SF atom) (y.1++[m])) s' Q E) E/\y.1.length+4*mu y.2.1<=500000000) (λy=>mu y.2.1) ([],s,st,.full) ⟨hm,Nat.le_refl _,hc.push [],?_,by simp only [List.length_nil];omega⟩ Yl (St.le_refl _) ?_
 .unfold Lz at h
  rw [Rd.wp_seq] at h
  exact Rd.wp_mono h (λv s' _ q _=>q) (λe s' _ q=>q)
 rintro ⟨l,s1,st1,own1⟩ ⟨j1,j2,j3,j4,j5⟩
 dsimp only at j1 j2 j3 j4 j5 |-
 have h:=Rd.wp_mono j4 (λv s' r q=>q (hF _ _ _ r)) (λe s' _ q=>q)
 have hc:=j3
 clear j3 j4
 simp only [Rd.wp_loop,SF,Rd.Ag,Rd.Ao,Rd.wp_seq,Rd.wp_ret,Rd.AO,oY] at h
 repeat' ((conv=>whnf);first|exact B1|(refine Bc ?_;intros)|(refine B2 ?_ ?_ ?_;rotate_left)|refine Ba.go (aj ha0) ‹_› hc h (λn s2 st2 hr hmm hm1 hc h=>?_) (λe n s2 st2 he hc h=>?_)|refine Rx.BE hc H1 (λown2 st2 hc=>?_)|refine xa ‹_› h (λh=>?_) (λh=>?_)|refine DU ‹_› ?_|refine jR h (λh=>?_) (λh=>?_)|refine Ad 4 [3] [1] ?_|refine Ad 4 [3] [1] ?_|exact ⟨_,_,.inl rfl,St.le_refl _,k2 _ _ _ _ _ _ he hc h⟩|exact ⟨_,_,.inl rfl,St.le_refl _,k1 _ _ _ _ _ f8 (by have:=hF _ _ _ hr<;>simp only [List.length_append,List.length_cons,List.length_nil]<;>omega) H1 ‹_› hc h⟩|exact ⟨(_,_,_,_),⟨‹_›,GE,hc,Rd.wp_mono h (λv s' r q lt=>Rd.Bh q lt) (λe s' _ q=>q),(by have:=hF _ _ _ hr<;>simp only [List.length_append,List.length_cons,List.length_nil]<;>omega)⟩,hF _ _ _ hr,Yl,St.le_refl _⟩|fail|fail)
end
def RC (item:Rd Nd) (l:List Nd):Rd (Sum ((Bool×List Nd)×(Nd×Af)) (List Nd)):=.seq item λn=>.look λs=>if AP s 15 [44]=true then .seq AB λc=>.ret (.inl ((false,l++[n]++[c]),(n,s))) else .ret (.inr (l++[n]))
def OX (item:Rd Nd) (shut:List UInt8) (p:(Bool×List Nd)×(Nd×Af)):Rd (Sum ((Bool×List Nd)×(Nd×Af)) (List Nd)):=
 if p.1.1=true then .look λs=>if AP s 15 shut=true then .ret (.inr p.1.2) else RC item p.1.2 else RC item p.1.2
def Va (item:Rd Nd) (l:List Nd):Rd (Sum (Bool×List Nd) (List Nd)):=.seq item λn=>.look λs=>if AP s 15 [44]=true then .seq AB λc=>.ret (.inl (false,l++[n]++[c])) else .ret (.inr (l++[n]))
theorem dA {item:Rd Nd} (l:List Nd) (s:Af):(Va item l).run s=(match (RC item l).run s with| .inl p=>.inl p| .inr (.inl y,s')=>.inr (.inl y.1,s')| .inr (.inr b,s')=>.inr (.inr b,s')):=by
 unfold Va RC Rd.seq Rd.look
 dsimp only
 cases item.run s with
 |inl p=>rfl
 |inr p=>
  dsimp only
  split
  .dsimp only
   cases AB.run p.2 with
   |inl q=>rfl
   |inr q=>rfl
  .rfl
theorem qx {item:Rd Nd} {shut:List UInt8} (x:(Bool×List Nd)×(Nd×Af)) (s:Af):Rd.iter (OX item shut) x s=Rd.iter (H5 item shut) x.1 s:=by
 have key:∀(x:(Bool×List Nd)×(Nd×Af)) s,(H5 item shut x.1).run s=(match (OX item shut x).run s with| .inl p=>.inl p| .inr (.inl y,s')=>.inr (.inl y.1,s')| .inr (.inr b,s')=>.inr (.inr b,s')):=λx s=>by
  have hb:H5 item shut x.1=if x.1.1=true then Rd.look λs=>if AP s 15 shut=true then .ret (.inr x.1.2) else Va item x.1.2 else Va item x.1.2:=rfl
  rw [hb]
  unfold OX
  split
  .unfold Rd.look
   dsimp only
   split
   .rfl
   .exact dA _ _
  .exact dA _ _
 exact T6 (λp:(Bool×List Nd)×(Nd×Af)=>p.1) (λx s e s' h=>by rw [key,h]) (λx s y s' h=>by rw [key,h]) (λx s b s' h=>by rw [key,h]) x s
theorem jF {item:Rd Nd} {shut:List UInt8} {x:Bool×List Nd} {q:Nd×Af} {E:Er->Af->Prop} (h:Rd.wp (Rd.loop (H5 item shut) x) s Q E):Rd.wp (Rd.loop (OX item shut) (x,q)) s Q E:=by
 unfold Rd.wp at h |-
 rw [show (Rd.loop (OX item shut) (x,q)).run s=(Rd.loop (H5 item shut) x).run s from qx _ _]
 exact h
section
variable {st0 st:St} {s:Af} {rows:List (Ay×List Nd)} {K:AD->St->Prop} {Q:Nd->Af->Prop} {E:Er->Af->Prop}
attribute [local irreducible] Go.Aw.Ai
theorem HV:Rf 103 (λs=>[Am s]) HY:=by
 refine ⟨λ{st0 s st rows K} hm hk hc h=>?_⟩
 simp only [HY,D3,Rd.Ag,Rd.Ao,Rd.wp_seq,Rd.wp_ret] at h
 refine pB Tryz.func103 ?_
 repeat' ((conv=>whnf);first|(refine Bc ?_;intros)|refine Gd ‹_› h (λe h=>?_) (λe h=>?_)|refine BK (l:=[]) (Nat.zero_le _) ‹_› (hc.push []) h (by first|assumption|exact A9 ‹_› IR) (λs2 own2 st2 hlt hm2 hc h=>?_)|refine BK AC ‹_› hc h (by first|assumption|exact A9 ‹_› IR) (λs2 own2 st2 hlt hm2 hc h=>?_)|refine Ba.go (A5 IR IR) ‹_› hc h (λn s1 U hr hmm hm1 hc h=>?_) (λe n s1 U he hc h=>?_)|refine Ba.go (AF (o:=true)) ‹_› hc h (λn s1 U hr hmm hm1 hc h=>?_) (λe n s1 U he hc h=>?_)|refine Fg AC ‹_› hc h (λn s1 U hmm hm1 hc h=>?_) (λe n s1 U he hc h=>?_)|refine Rx.BE hc AC (λown1 U hc=>?_)|refine A2 ?_|exact Ae hc h rfl|exact At hc h rfl|exact Ae hc.drop h rfl|exact At hc.drop h rfl|exact Ae hc.drop h Ak|exact Ae hc h Ak|exact Ae hc (h BC) rfl|exact Ae hc.drop (h BC) rfl|fail)
 refine KB (x0:=(true,_)) (λ(p:Bool×List Nd) s own=>[(5,.bool p.1),(3,.slice 6 (p.2.map Ap) own)]) (λp s own=>[(0,s.cells)]) [1,2] [1] (λp own=>(own,p.2)::rows) (λp=>p.2.length) own2 hm2 hc h (by show 2+_<=_;omega) Yl ?_
 intro p s3 st3 own3 hm3 hm4 hc h hl
 obtain ⟨f,l⟩:=p
 dsimp only at hc hl
 simp only [H5,Rd.Ag,Rd.Ao,Rd.wp_seq,Rd.wp_ret,Rd.AO] at h
 cases f
 all_goals simp only [Bool.false_eq_true,if_false,if_true] at h
 all_goals (repeat' ((conv=>whnf);first|(refine Bc ?_;intros)|exact ⟨⟨(false,_),_,_,_⟩,⟨‹_›,Do,hc,Rd.Bh h Do,Do⟩,Do,Yl,St.le_refl _⟩|refine Gd ‹_› h (λe h=>?_) (λe h=>?_)|refine BK (l:=[]) (Nat.zero_le _) ‹_› (hc.push []) h (by first|assumption|exact A9 ‹_› IR) (λs2 own2 st2 hlt hm2 hc h=>?_)|refine BK AC ‹_› hc h (by first|assumption|exact A9 ‹_› IR) (λs2 own2 st2 hlt hm2 hc h=>?_)|refine Ba.go (A5 IR IR) ‹_› hc h (λn s1 U hr hmm hm1 hc h=>?_) (λe n s1 U he hc h=>?_)|refine Ba.go (AF (o:=true)) ‹_› hc h (λn s1 U hr hmm hm1 hc h=>?_) (λe n s1 U he hc h=>?_)|refine Fg AC ‹_› hc h (λn s1 U hmm hm1 hc h=>?_) (λe n s1 U he hc h=>?_)|refine Rx.BE hc AC (λown1 U hc=>?_)|refine A2 ?_|exact Ae hc h rfl|exact At hc h rfl|exact Ae hc.drop h rfl|exact At hc.drop h rfl|exact Ae hc.drop h Ak|exact Ae hc h Ak|exact Ae hc (h BC) rfl|exact Ae hc.drop (h BC) rfl|fail))
theorem Xj {whole:Rd Nd} (hw0:Ba 99 (λs=>[Am s,.int .i64 D]) whole):Rf 45 (λs=>[Am s,.int .i64 D]) (HX whole):=by
 refine ⟨λ{st0 s st rows K} hm hk hc h=>?_⟩
 simp only [HX,D3,Rd.Ag,Rd.Ao,Rd.wp_seq,Rd.wp_ret] at h
 refine pB Tryz.func45 ?_
 repeat' ((conv=>whnf);first|(refine Bc ?_;intros)|refine Gd ‹_› h (λe h=>?_) (λe h=>?_)|refine BK (l:=[]) (Nat.zero_le _) ‹_› (hc.push []) h (by first|assumption|exact A9 ‹_› IR) (λs2 own2 st2 hlt hm2 hc h=>?_)|refine BK AC ‹_› hc h (by first|assumption|exact A9 ‹_› IR) (λs2 own2 st2 hlt hm2 hc h=>?_)|refine F9 IR AC ‹_› hc h (λn s1 own1 U hr hmm hm1 hc h=>?_) (λe n s1 own1 U he hc h=>?_)|refine Ba.go (A5 IR IR) ‹_› hc h (λn s1 U hr hmm hm1 hc h=>?_) (λe n s1 U he hc h=>?_)|refine Ba.go (AF (o:=true)) ‹_› hc h (λn s1 U hr hmm hm1 hc h=>?_) (λe n s1 U he hc h=>?_)|refine Fg AC ‹_› hc h (λn s1 U hmm hm1 hc h=>?_) (λe n s1 U he hc h=>?_)|refine Rx.BE hc AC (λown1 U hc=>?_)|exact Ae hc h rfl|exact At hc h rfl|exact Ae hc.drop h rfl|exact At hc.drop h rfl|exact Ae hc.drop h Ak|exact Ae hc h Ak|exact Ae hc (h BC) rfl|exact Ae hc.drop (h BC) rfl|fail)
 have h:=jF (q:=(n,s1)) h
 refine KB (x0:=((true,_),(n,s1))) (λ(p:(Bool×List Nd)×(Nd×Af)) s own=>[(7,.bool p.1.1),(5,.slice 6 (p.1.2.map Ap) own)]) (λp s own=>[(0,s.cells),(2,SI p.2.1 p.2.2)]) [1,2,4,6] [1] (λp own=>(own,p.1.2)::rows) (λp=>p.1.2.length) own1 hm1 hc h (by show 2+_<=_;omega) Yl ?_
 intro p s3 st3 own3 hm3 hm4 hc h hl
 obtain ⟨⟨f,l⟩,q⟩:=p
 dsimp only at hc hl
 simp only [OX,RC,Rd.Ag,Rd.Ao,Rd.wp_seq,Rd.wp_ret,Rd.AO] at h
 cases f
 all_goals simp only [Bool.false_eq_true,if_false,if_true] at h
 all_goals (repeat' ((conv=>whnf);first|(refine Bc ?_;intros)|exact ⟨⟨((false,_),(_,_)),_,_,_⟩,⟨‹_›,Do,hc,Rd.Bh h Do,Do⟩,Do,Yl,St.le_refl _⟩|refine Ba.go hw0 ‹_› hc h (λn s1 U hr hmm hm1 hc h=>?_) (λe n s1 U he hc h=>?_)|refine Gd ‹_› h (λe h=>?_) (λe h=>?_)|refine BK (l:=[]) (Nat.zero_le _) ‹_› (hc.push []) h (by first|assumption|exact A9 ‹_› IR) (λs2 own2 st2 hlt hm2 hc h=>?_)|refine BK AC ‹_› hc h (by first|assumption|exact A9 ‹_› IR) (λs2 own2 st2 hlt hm2 hc h=>?_)|refine F9 IR AC ‹_› hc h (λn s1 own1 U hr hmm hm1 hc h=>?_) (λe n s1 own1 U he hc h=>?_)|refine Ba.go (A5 IR IR) ‹_› hc h (λn s1 U hr hmm hm1 hc h=>?_) (λe n s1 U he hc h=>?_)|refine Ba.go (AF (o:=true)) ‹_› hc h (λn s1 U hr hmm hm1 hc h=>?_) (λe n s1 U he hc h=>?_)|refine Fg AC ‹_› hc h (λn s1 U hmm hm1 hc h=>?_) (λe n s1 U he hc h=>?_)|refine Rx.BE hc AC (λown1 U hc=>?_)|exact Ae hc h rfl|exact At hc h rfl|exact Ae hc.drop h rfl|exact At hc.drop h rfl|exact Ae hc.drop h Ak|exact Ae hc h Ak|exact Ae hc (h BC) rfl|exact Ae hc.drop (h BC) rfl|fail))
end
section
variable {st0 st:St} {s:Af} {rows:List (Ay×List Nd)} {K:AD->St->Prop} {Q:Nd->Af->Prop} {E:Er->Af->Prop}
attribute [local irreducible] Go.Aw.Ai
theorem GI (e:EV n=b) (h:K (.ret (.bool b)) st):PC 178 [enc n] st K:=by subst e;exact w8 h
theorem UU (e:C0 n=b) (h:K (.ret (.bool b)) st):PC 182 [enc n] st K:=by subst e;exact Tp h
theorem tD (hk:0<n.kids.length) (h:K (.ret (.bool (HO n))) st):PC 102 [enc n] st K:=by
 refine pB Tryz.func102 ?_
 obtain ⟨x0,U⟩:∃x,n.kids[(0:Int).toNat]? =some x:=⟨_,List.getElem?_eq_getElem hk⟩
 have e0:n.kids.headD BC=x0:=by
  cases hkk:n.kids with
  |nil=>rw [hkk] at U;cases U
  |cons y r=>rw [hkk] at U;cases U;rfl
 unfold HO at h
 rw [e0] at h
 cases hm:EV x0 with
 |false=>
  rw [hm,if_neg IR] at h
  repeat' ((conv=>whnf);first|with_reducible refine Wj ?_|refine Wm U IR ?_|(refine Bc ?_;intros)|refine GI hm ?_)
  all_goals exact fin h rfl
 |true=>
  rw [hm,if_pos rfl] at h
  by_cases h2:n.kids.length=2
  .obtain ⟨x1,hx1⟩:∃x,n.kids[(1:Int).toNat]? =some x:=⟨_,List.getElem?_eq_getElem (show 1<n.kids.length by omega)⟩
   rw [if_pos h2,show n.kids[1]?.getD BC=x1 by rw [show n.kids[1]? =some x1 from hx1];rfl] at h
   have hl2:(n.kids.length:Int)=2:=H1
   cases hs:C0 x1
   all_goals rw [hs] at h
   all_goals (repeat' ((conv=>whnf);first|with_reducible refine Wi ?_|with_reducible refine Wj ?_|refine Wm U IR ?_|refine Wm hx1 IR ?_|(refine Bc ?_;intros)|refine GI hm ?_|refine UU hs ?_))
   all_goals exact fin h rfl
  .have hl2:¬(n.kids.length:Int)=2:=H1
   rw [if_neg h2] at h
   by_cases h4:n.kids.length=4
   .have hl4:(n.kids.length:Int)=4:=H1
    obtain ⟨x2,hx2⟩:∃x,n.kids[(2:Int).toNat]? =some x:=⟨_,List.getElem?_eq_getElem (show 2<n.kids.length by omega)⟩
    rw [show n.kids[2]?.getD BC=x2 by rw [show n.kids[2]? =some x2 from hx2];rfl] at h
    by_cases h13:x2.kind=13
    .rw [if_pos ⟨h4,h13⟩] at h
     by_cases h3:x2.kids.length=3
     .have hl3:(x2.kids.length:Int)=3:=H1
      obtain ⟨y2,hy2⟩:∃x,x2.kids[(2:Int).toNat]? =some x:=⟨_,List.getElem?_eq_getElem (show 2<x2.kids.length by omega)⟩
      rw [show x2.kids[2]?.getD BC=y2 by rw [show x2.kids[2]? =some y2 from hy2];rfl,decide_eq_true h3,Bool.true_and] at h
      cases hs:C0 y2
      all_goals rw [hs] at h
      all_goals (repeat' ((conv=>whnf);first|with_reducible refine Wi ?_|with_reducible refine Wj ?_|refine Wm U IR ?_|refine Wm hx2 IR ?_|refine Wm hy2 IR ?_|(refine Bc ?_;intros)|refine GI hm ?_|refine UU hs ?_))
      all_goals exact fin h rfl
     .have hl3:¬(x2.kids.length:Int)=3:=H1
      rw [decide_eq_false h3,Bool.false_and] at h
      repeat' ((conv=>whnf);first|with_reducible refine Wi ?_|with_reducible refine Wj ?_|refine Wm U IR ?_|refine Wm hx2 IR ?_|(refine Bc ?_;intros)|refine GI hm ?_)
      all_goals exact fin h rfl
    .rw [if_neg (λx=>h13 x.2)] at h
     repeat' ((conv=>whnf);first|with_reducible refine Wi ?_|with_reducible refine Wj ?_|refine Wm U IR ?_|refine Wm hx2 IR ?_|(refine Bc ?_;intros)|refine GI hm ?_)
     all_goals exact fin h rfl
   .have hl4:¬(n.kids.length:Int)=4:=H1
    rw [if_neg (λx=>h4 x.1)] at h
    repeat' ((conv=>whnf);first|with_reducible refine Wi ?_|with_reducible refine Wj ?_|refine Wm U IR ?_|(refine Bc ?_;intros)|refine GI hm ?_)
    all_goals exact fin h rfl
theorem jQ {t:Tk} (h:K (.ret (.bool (Qf t))) st):PC 34 [DP t] st K:=by
 refine pB Tryz.func34 ?_
 repeat' ((conv=>whnf);first|  (refine CD ?_ ?_<;>intro _)|refine cq ?_)
 all_goals conv=>whnf
 all_goals (refine An h ?_;clear h;simp_all [Qf])
end
structure LD where
 l:List Nd
 s:Af
 m:St
 o:Ay
 x:List UInt8
 q:Nd×Af
def yF (cons:Rd Nd) (B:List UInt8×List Nd->Rd (Sum (List UInt8×List Nd) (List Nd))) (Q:List Nd->Af->Prop) (E:Er->Af->Prop) (t:Af) (rows:List (Ay×List Nd)) (st0:St) (y:LD):Prop:=
 mu y.s<=100000000/\mu y.s<=mu t/\Rx st0 y.m ((y.o,y.l)::rows)/\AP y.s 10 y.x=true/\(y.x=[61]\/y.x=[124])/\0<y.l.length/\y.l.length+4*mu y.s<=500000000/\
  Rd.wp AB y.s (λe s'=>Rd.wp cons s' (λc U=>Rd.again B y.s Q E (.inl ([124],y.l++[e]++[c])) U) E) E
theorem rI {ih:(AG->Env->St->Prop)->Env->St->Prop} {Q0:AG->Env->St->Prop} {env:Env} {cons:Rd Nd} {B:List UInt8×List Nd->Rd (Sum (List UInt8×List Nd) (List Nd))} {E:Er->Af->Prop} {t:Af} {rows:List (Ay×List Nd)} {st0:St}
 (f:LD->List (Nat×V)) (g:LD->List (Nat×List V)) (keep kb:List Nat) (x0:LD) (h0:yF cons B Q E t rows st0 x0) (he:(env.EG (f x0) (g x0) keep kb).C3 env)
 (hb:∀x,yF cons B Q E t rows st0 x->ih (Bz (λenv' st'=>∃y:LD,yF cons B Q E t rows st0 y/\mu y.s<mu x.s/\(env.EG (f y) (g y) keep kb).C3 env'/\St.le y.m st') Q0) (env.EG (f x) (g x) keep kb) x.m):
 ∃(α:Type) (E:α->Env) (S:α->St) (J:α->Prop) (μ:α->Nat) (U:α),J U/\(E U).C3 env/\St.le (S U) x0.m/\
  ∀x,J x->ih (Bz (λenv' st'=>∃y,J y/\μ y<μ x/\(E y).C3 env'/\St.le (S y) st') Q0) (E x) (S x):=
 Lt f g keep kb (λy=>y.m) (yF cons B Q E t rows st0) (λy=>mu y.s) x0 h0 he (St.le_refl _) hb
section
variable {st0 st:St} {s:Af} {rows:List (Ay×List Nd)} {K:AD->St->Prop} {E:Er->Af->Prop}
attribute [local irreducible] Go.Aw.Ai
theorem Rf.go {f:FuncId} {mk:Af->List V} {A:Rd Nd} {Q:Nd->Af->Prop} (hf:Rf f mk A) (U:mu s<=100000000) (hk:(Aa s).1.kind≠0/\(Aa s).1.kind≠21) (hc:Rx st0 st rows) (h:Rd.wp A s Q E)
 (k:∀n s' st',A.run s=.inr (n,s')->mu s'<=mu s->mu s'<=100000000->Rx st0 st' rows->Q n s'->K (.ret (Ax n s' 0)) st')
 (kb:∀e n s' st',¬e.1=0->Rx st0 st' rows->E e s'->K (.ret (Ax n s' e.1)) st'):PC f (mk s) st K:=
 hf.ap U hk hc (Rd.wp_mono h (λv s' r q st' c=>k v s' st' r (A.le _ _ _ r) (Nat.le_trans (A.le _ _ _ r) U) c q) (λe s' _ q n st' c=>kb e n s' st' e.2 c q))
theorem pH {atom whole:Rd Nd} {s0:Af} (hm:mu s<=100000000) (h:Rd.again (TV atom whole) s0 Q E (.inl ([124],l)) s) (U:mu s<mu s0)
 (k1:AP s 10 [124]=true->Rd.wp AB s (λe s'=>Rd.wp (FO atom whole) s' (λc s''=>Rd.again (TV atom whole) s Q E (.inl ([124],l++[e]++[c])) s'') E) E->K (.ret (.bool true)) st)
 (k2:AP s 10 [124]=false->Q l s->K (.ret (.bool false)) st):PC 94 [Am s,.int .i64 10,.str [124]] st K:=by
 have h:=Rd.Bh h U
 rw [Rd.wp_loop] at h
 simp only [TV,Rd.Ag,Rd.Ao,Rd.wp_seq,Rd.wp_ret,Rd.AO] at h
 exact EI hm IR h k1 k2
theorem vi (h:AP s 10 [124]=true):AP s 10 [61]=false:=by
 unfold AP at h |-
 simp only [Bool.and_eq_true,beq_iff_eq] at h
 rw [h.1,h.2];rfl
theorem pL {atom row whole:Rd Nd} (hr0:Ba 97 (λs=>[Am s,.int .i64 D]) row) (hc0:Ba 101 (λs=>[Am s,.int .i64 D]) (FO atom whole)) (hy:pY row):
 Rf 43 (λs=>[Am s,.int .i64 D,.int .i64 42]) (TW atom row whole):=by
 refine ⟨λ{st0 s st rows K} hm hk hc h=>?_⟩
 simp only [TW,FB,JC,Rd.wp_loop,TV,Rd.Ag,Rd.Ao,Rd.wp_seq,Rd.wp_ret,Rd.BD,Rd.AO] at h
 refine pB Tryz.func43 ?_
 repeat' ((conv=>whnf);first|exact B1|(refine Bc ?_;intros)|(refine B2 ?_ ?_ ?_;rotate_left)|refine IB ‹_› ‹_› IR ?_|refine HA ‹_› ‹_› IR ?_|refine EI ‹_› IR h (λe h=>?_) (λe h=>?_)|refine BK (l:=[]) (Nat.zero_le _) ‹_› (hc.push []) h (by first|assumption|exact A9 ‹_› IR) (λs2 own2 st2 hlt hm2 hc h=>?_)|refine BK AC ‹_› hc h (by first|assumption|exact A9 ‹_› IR) (λs2 own2 st2 hlt hm2 hc h=>?_)|refine Ba.go (A5 IR IR) ‹_› hc h (λn s1 U hr hmm hm1 hc h=>?_) (λe n s1 U he hc h=>?_)|refine Ba.go (AF (o:=true)) ‹_› hc h (λn s1 U hr hmm hm1 hc h=>?_) (λe n s1 U he hc h=>?_)|refine Rx.BE hc AC (λown1 U hc=>?_)|refine A2 ?_|exact Ae hc h rfl|exact At hc h rfl|exact Ae hc.drop h rfl|exact At hc.drop h rfl|exact Ae hc.drop h Ak|exact Ae hc h Ak|exact Ae hc (h BC) rfl|exact Ae hc.drop (h BC) rfl|refine fI hr0 1 (Nat.le_of_ble_eq_true rfl) IR ‹_› hc h (λp s1 own1 U hr hpl hmm hm1 hc h=>?_) (λe n l' s1 own1 U he hc h=>?_)|refine PH (by obtain ⟨_,_,hq⟩:=hr<;>exact hy _ _ _ hq) h (λe h=>?_) (λe h=>?_)|refine CA ?_|refine Rf.go HV ‹_› (A9 ‹_› IR) hc h (λn s1 U hr hmm hm1 hc h=>?_) (λe n s1 U he hc h=>?_)|refine Az [1,3,7,4,9,10] [1] ?_|fail|fail)
 refine rI (t:=s) (λy=>[(7,.slice 6 (y.l.map Ap) y.o)]) (λy=>[(0,y.s.cells),(2,SI y.q.1 y.q.2)]) [1,2,3,6,8] [1] ⟨p.1++[p.2],s1,U,own1,[61],(p.2,s1)⟩ ⟨hm1,f9,hc,e,.inl rfl,f7,f7,h⟩ Yl ?_
 rintro ⟨l,s3,st3,own3,x,q⟩ ⟨j1,j2,hc,e3,hx,j6,j7,h⟩
 dsimp only at j1 j2 hc e3 hx j6 j7 h |-
 have hpos:(0:Int)<(l.length:Int):=H1
 rcases hx with rfl|rfl
 .skip
  repeat' ((conv=>whnf);first|refine Wv hpos ?_|exact B1|(refine Bc ?_;intros)|(refine B2 ?_ ?_ ?_;rotate_left)|refine pH ‹_› h H1 (λe h=>?_) (λe h=>?_)|refine Ba.go hc0 ‹_› hc h (λn s1 U hr hmm hm1 hc h=>?_) (λe n s1 U he hc h=>?_)|refine Rf.go HV ‹_› (A9 ‹_› IR) hc h (λn s1 U hr hmm hm1 hc h=>?_) (λe n s1 U he hc h=>?_)|exact ⟨⟨_,_,_,_,_,(_,_)⟩,⟨‹_›,GE,hc,e,.inr rfl,f8,f8,h⟩,GE,Yl,St.le_refl _⟩|refine BH (λ_=>?_)|refine IB ‹_› ‹_› IR ?_|refine HA ‹_› ‹_› IR ?_|refine EI ‹_› IR h (λe h=>?_) (λe h=>?_)|refine BK (l:=[]) (Nat.zero_le _) ‹_› (hc.push []) h (by first|assumption|exact A9 ‹_› IR) (λs2 own2 st2 hlt hm2 hc h=>?_)|refine BK AC ‹_› hc h (by first|assumption|exact A9 ‹_› IR) (λs2 own2 st2 hlt hm2 hc h=>?_)|refine Ba.go (A5 IR IR) ‹_› hc h (λn s1 U hr hmm hm1 hc h=>?_) (λe n s1 U he hc h=>?_)|refine Ba.go (AF (o:=true)) ‹_› hc h (λn s1 U hr hmm hm1 hc h=>?_) (λe n s1 U he hc h=>?_)|refine Rx.BE hc AC (λown1 U hc=>?_)|refine A2 ?_|exact Ae hc h rfl|exact At hc h rfl|exact Ae hc.drop h rfl|exact At hc.drop h rfl|exact Ae hc.drop h Ak|exact Ae hc h Ak|exact Ae hc (h BC) rfl|exact Ae hc.drop (h BC) rfl|refine Az [1,3,7,4,9,10] [1] ?_|fail|fail)
 .have e4:=vi e3
  repeat' ((conv=>whnf);first|refine Wv hpos ?_|exact B1|(refine Bc ?_;intros)|(refine B2 ?_ ?_ ?_;rotate_left)|refine pH ‹_› h H1 (λe h=>?_) (λe h=>?_)|refine Ba.go hc0 ‹_› hc h (λn s1 U hr hmm hm1 hc h=>?_) (λe n s1 U he hc h=>?_)|refine Rf.go HV ‹_› (A9 ‹_› IR) hc h (λn s1 U hr hmm hm1 hc h=>?_) (λe n s1 U he hc h=>?_)|exact ⟨⟨_,_,_,_,_,(_,_)⟩,⟨‹_›,GE,hc,e,.inr rfl,f8,f8,h⟩,GE,Yl,St.le_refl _⟩|refine BH (λ_=>?_)|refine IB ‹_› ‹_› IR ?_|refine HA ‹_› ‹_› IR ?_|refine EI ‹_› IR h (λe h=>?_) (λe h=>?_)|refine BK (l:=[]) (Nat.zero_le _) ‹_› (hc.push []) h (by first|assumption|exact A9 ‹_› IR) (λs2 own2 st2 hlt hm2 hc h=>?_)|refine BK AC ‹_› hc h (by first|assumption|exact A9 ‹_› IR) (λs2 own2 st2 hlt hm2 hc h=>?_)|refine Ba.go (A5 IR IR) ‹_› hc h (λn s1 U hr hmm hm1 hc h=>?_) (λe n s1 U he hc h=>?_)|refine Ba.go (AF (o:=true)) ‹_› hc h (λn s1 U hr hmm hm1 hc h=>?_) (λe n s1 U he hc h=>?_)|refine Rx.BE hc AC (λown1 U hc=>?_)|refine A2 ?_|exact Ae hc h rfl|exact At hc h rfl|exact Ae hc.drop h rfl|exact At hc.drop h rfl|exact Ae hc.drop h Ak|exact Ae hc h Ak|exact Ae hc (h BC) rfl|exact Ae hc.drop (h BC) rfl|refine Az [1,3,7,4,9,10] [1] ?_|fail|fail)
end
theorem l8 (n:Nd):BR n [2,4]=(BR n [2]||BR n [4]):=by
 unfold BR
 simp only [List.contains_cons,List.contains_nil,Bool.or_false]
 cases (n.kind==1)<;>simp
section
variable {st0 st:St} {s:Af} {rows:List (Ay×List Nd)} {K:AD->St->Prop} {E:Er->Af->Prop}
attribute [local irreducible] Go.Aw.Ai
theorem jP (U:0<n.kids.length) (h:if HO n=true then P else R) (k1:HO n=true->P->K (.ret (.bool true)) st) (k2:HO n=false->R->K (.ret (.bool false)) st):PC 102 [enc n] st K:=by
 refine tD U ?_
 cases e:HO n with
 |true=>exact k1 e (by rw [if_pos e] at h;exact h)
 |false=>exact k2 e (by rw [if_neg (by rw [e];decide)] at h;exact h)
theorem ah {atom row whole:Rd Nd} (hr0:Ba 97 (λs=>[Am s,.int .i64 D]) row) (hc0:Ba 101 (λs=>[Am s,.int .i64 D]) (FO atom whole)) (hy:pY row):
 Rf 43 (λs=>[Am s,.int .i64 D,.int .i64 43]) (JV atom row whole):=by
 refine ⟨λ{st0 s st rows K} hm hk hc h=>?_⟩
 simp only [JV,FB,JC,Rd.Ag,Rd.Ao,Rd.wp_seq,Rd.wp_ret,Rd.BD] at h
 refine pB Tryz.func43 ?_
 repeat' ((conv=>whnf);first|exact B1|(refine Bc ?_;intros)|(refine B2 ?_ ?_ ?_;rotate_left)|refine Ba.go hc0 ‹_› hc h (λn s1 U hr hmm hm1 hc h=>?_) (λe n s1 U he hc h=>?_)|refine jP (List.length_pos_iff.2 (TU hr)) h (λe h=>?_) (λe h=>?_)|refine fI hr0 1 (Nat.le_of_ble_eq_true rfl) IR ‹_› hc h (λp s1 own1 U hr hpl hmm hm1 hc h=>?_) (λe n l' s1 own1 U he hc h=>?_)|refine PH (by obtain ⟨_,_,hq⟩:=hr<;>exact hy _ _ _ hq) h (λe h=>?_) (λe h=>?_)|refine CA ?_|refine Rf.go HV ‹_› (A9 ‹_› IR) hc h (λn s1 U hr hmm hm1 hc h=>?_) (λe n s1 U he hc h=>?_)|refine EI ‹_› IR h (λe h=>?_) (λe h=>?_)|refine BK (l:=[]) (Nat.zero_le _) ‹_› (hc.push []) h (by first|assumption|exact A9 ‹_› IR) (λs2 own2 st2 hlt hm2 hc h=>?_)|refine BK AC ‹_› hc h (by first|assumption|exact A9 ‹_› IR) (λs2 own2 st2 hlt hm2 hc h=>?_)|refine F9 IR AC ‹_› hc h (λn s1 own1 U hr hmm hm1 hc h=>?_) (λe n s1 own1 U he hc h=>?_)|refine Ba.go (A5 IR IR) ‹_› hc h (λn s1 U hr hmm hm1 hc h=>?_) (λe n s1 U he hc h=>?_)|refine Ba.go (AF (o:=true)) ‹_› hc h (λn s1 U hr hmm hm1 hc h=>?_) (λe n s1 U he hc h=>?_)|refine Rx.BE hc AC (λown1 U hc=>?_)|refine A2 ?_|exact Ae hc h rfl|exact At hc h rfl|exact Ae hc.drop h rfl|exact At hc.drop h rfl|exact Ae hc.drop h Ak|exact Ae hc h Ak|exact Ae hc (h BC) rfl|exact Ae hc.drop (h BC) rfl|refine Az [1,3,7,4,9,10] [1] ?_|fail|fail)
end
section
variable {st0 st:St} {s:Af} {rows:List (Ay×List Nd)} {K:AD->St->Prop} {E:Er->Af->Prop}
attribute [local irreducible] Go.Aw.Ai
theorem jM {row decls:Rd Nd} (hD:1<=D/\D<=100) (hr0:Ba 97 (λs=>[Am s,.int .i64 D]) row) (hd0:Ba 105 (λs=>[Am s,.int .i64 (D - 1)]) decls):
 Rf 44 (λs=>[Am s,.int .i64 D,.int .i64 44]) (OU row decls):=by
 refine ⟨λ{st0 s st rows K} hm hk hc h=>?_⟩
 have hall:∀l:List Nd,(l.all λ_=>true)=true:=λl=>by simp
 simp only [OU,TR,FB,hall,if_true,Rd.Ag,Rd.Ao,Rd.wp_seq,Rd.wp_ret,Rd.BD] at h
 refine AQ Ac [] Tryz.func44 rfl IR rfl ?_
 refine Ah (Aj Ac ?_)
 repeat' ((conv=>whnf);first|exact B1|(refine Bc ?_;intros)|(refine B2 ?_ ?_ ?_;rotate_left)|fail)
 refine Ah (Aj Ac ?_)
 repeat' ((conv=>whnf);first|exact B1|(refine Bc ?_;intros)|(refine B2 ?_ ?_ ?_;rotate_left)|refine EI ‹_› IR h (λe h=>?_) (λe h=>?_)|refine BK (l:=[]) (Nat.zero_le _) ‹_› (hc.push []) h (by first|assumption|exact A9 ‹_› IR) (λs2 own2 st2 hlt hm2 hc h=>?_)|refine BK AC ‹_› hc h (by first|assumption|exact A9 ‹_› IR) (λs2 own2 st2 hlt hm2 hc h=>?_)|refine Ba.go (A5 IR IR) ‹_› hc h (λn s1 U hr hmm hm1 hc h=>?_) (λe n s1 U he hc h=>?_)|refine Ba.go (AF (o:=true)) ‹_› hc h (λn s1 U hr hmm hm1 hc h=>?_) (λe n s1 U he hc h=>?_)|refine Rx.BE hc AC (λown1 U hc=>?_)|refine A2 ?_|exact Ae hc h rfl|exact At hc h rfl|exact Ae hc.drop h rfl|exact At hc.drop h rfl|exact Ae hc.drop h Ak|exact Ae hc h Ak|exact Ae hc (h BC) rfl|exact Ae hc.drop (h BC) rfl|fail)
 refine Ah (Aj Ac ?_)
 repeat' ((conv=>whnf);first|exact B1|(refine Bc ?_;intros)|(refine B2 ?_ ?_ ?_;rotate_left)|refine fI hr0 1 (Nat.le_of_ble_eq_true rfl) IR ‹_› hc h (λp s1 own1 U hr hpl hmm hm1 hc h=>?_) (λe n l' s1 own1 U he hc h=>?_)|fail)
 .obtain ⟨l,n⟩:=p
  dsimp only at hr hpl hc h |-
  cases hcn:Gf n with
  |false=>
   rw [hcn,if_neg IR] at h
   by_cases h39:n.kind=39
   .by_cases h2:n.kids.length=2
    .have hl2:(n.kids.length:Int)=2:=H1
     obtain ⟨x0,hx0⟩:∃x,n.kids[(0:Int).toNat]? =some x:=⟨_,List.getElem?_eq_getElem (show 0<n.kids.length by omega)⟩
     obtain ⟨x1,hx1⟩:∃x,n.kids[(1:Int).toNat]? =some x:=⟨_,List.getElem?_eq_getElem (show 1<n.kids.length by omega)⟩
     have ec:Gf n=(BR x0 [2]&&BR x1 [1]):=by
      unfold Gf
      rw [h39,h2,show n.kids[0]?.getD BC=x0 by rw [show n.kids[0]? =some x0 from hx0];rfl,show n.kids[1]?.getD BC=x1 by rw [show n.kids[1]? =some x1 from hx1];rfl];rfl
     rw [ec] at hcn
     refine Aj Ac ?_
     cases e0:BR x0 [2] with
     |false=>
      have e1:BR x1 [1]=BR x1 [1]:=rfl
      repeat' ((conv=>whnf);first|with_reducible refine Wi ?_|with_reducible refine Wj ?_|refine Wm hx0 IR ?_|refine Wm hx1 IR ?_|exact B1|(refine Bc ?_;intros)|(refine B2 ?_ ?_ ?_;rotate_left)|refine CG e0 ?_|refine CG e1 ?_|refine CA ?_|refine EI ‹_› IR h (λe h=>?_) (λe h=>?_)|refine BK (l:=[]) (Nat.zero_le _) ‹_› (hc.push []) h (by first|assumption|exact A9 ‹_› IR) (λs2 own2 st2 hlt hm2 hc h=>?_)|refine BK AC ‹_› hc h (by first|assumption|exact A9 ‹_› IR) (λs2 own2 st2 hlt hm2 hc h=>?_)|refine Ba.go (A5 IR IR) ‹_› hc h (λn s1 U hr hmm hm1 hc h=>?_) (λe n s1 U he hc h=>?_)|refine Ba.go (AF (o:=true)) ‹_› hc h (λn s1 U hr hmm hm1 hc h=>?_) (λe n s1 U he hc h=>?_)|refine Rx.BE hc AC (λown1 U hc=>?_)|refine A2 ?_|exact Ae hc h rfl|exact At hc h rfl|exact Ae hc.drop h rfl|exact At hc.drop h rfl|exact Ae hc.drop h Ak|exact Ae hc h Ak|exact Ae hc (h BC) rfl|exact Ae hc.drop (h BC) rfl|refine Az [1,3,7,4,9,10] [1] ?_|fail|fail)
     |true=>
      rw [e0,Bool.true_and] at hcn
      have e1:=hcn
      repeat' ((conv=>whnf);first|with_reducible refine Wi ?_|with_reducible refine Wj ?_|refine Wm hx0 IR ?_|refine Wm hx1 IR ?_|exact B1|(refine Bc ?_;intros)|(refine B2 ?_ ?_ ?_;rotate_left)|refine CG e0 ?_|refine CG e1 ?_|refine CA ?_|refine EI ‹_› IR h (λe h=>?_) (λe h=>?_)|refine BK (l:=[]) (Nat.zero_le _) ‹_› (hc.push []) h (by first|assumption|exact A9 ‹_› IR) (λs2 own2 st2 hlt hm2 hc h=>?_)|refine BK AC ‹_› hc h (by first|assumption|exact A9 ‹_› IR) (λs2 own2 st2 hlt hm2 hc h=>?_)|refine Ba.go (A5 IR IR) ‹_› hc h (λn s1 U hr hmm hm1 hc h=>?_) (λe n s1 U he hc h=>?_)|refine Ba.go (AF (o:=true)) ‹_› hc h (λn s1 U hr hmm hm1 hc h=>?_) (λe n s1 U he hc h=>?_)|refine Rx.BE hc AC (λown1 U hc=>?_)|refine A2 ?_|exact Ae hc h rfl|exact At hc h rfl|exact Ae hc.drop h rfl|exact At hc.drop h rfl|exact Ae hc.drop h Ak|exact Ae hc h Ak|exact Ae hc (h BC) rfl|exact Ae hc.drop (h BC) rfl|refine Az [1,3,7,4,9,10] [1] ?_|fail|fail)
    .have hl2:¬(n.kids.length:Int)=2:=H1
     refine Aj Ac ?_
     repeat' ((conv=>whnf);first|exact B1|(refine Bc ?_;intros)|(refine B2 ?_ ?_ ?_;rotate_left)|refine CA ?_|refine EI ‹_› IR h (λe h=>?_) (λe h=>?_)|refine BK (l:=[]) (Nat.zero_le _) ‹_› (hc.push []) h (by first|assumption|exact A9 ‹_› IR) (λs2 own2 st2 hlt hm2 hc h=>?_)|refine BK AC ‹_› hc h (by first|assumption|exact A9 ‹_› IR) (λs2 own2 st2 hlt hm2 hc h=>?_)|refine Ba.go (A5 IR IR) ‹_› hc h (λn s1 U hr hmm hm1 hc h=>?_) (λe n s1 U he hc h=>?_)|refine Ba.go (AF (o:=true)) ‹_› hc h (λn s1 U hr hmm hm1 hc h=>?_) (λe n s1 U he hc h=>?_)|refine Rx.BE hc AC (λown1 U hc=>?_)|refine A2 ?_|exact Ae hc h rfl|exact At hc h rfl|exact Ae hc.drop h rfl|exact At hc.drop h rfl|exact Ae hc.drop h Ak|exact Ae hc h Ak|exact Ae hc (h BC) rfl|exact Ae hc.drop (h BC) rfl|refine Az [1,3,7,4,9,10] [1] ?_|fail|fail)
   .refine Aj Ac ?_
    repeat' ((conv=>whnf);first|exact B1|(refine Bc ?_;intros)|(refine B2 ?_ ?_ ?_;rotate_left)|refine CA ?_|refine EI ‹_› IR h (λe h=>?_) (λe h=>?_)|refine BK (l:=[]) (Nat.zero_le _) ‹_› (hc.push []) h (by first|assumption|exact A9 ‹_› IR) (λs2 own2 st2 hlt hm2 hc h=>?_)|refine BK AC ‹_› hc h (by first|assumption|exact A9 ‹_› IR) (λs2 own2 st2 hlt hm2 hc h=>?_)|refine Ba.go (A5 IR IR) ‹_› hc h (λn s1 U hr hmm hm1 hc h=>?_) (λe n s1 U he hc h=>?_)|refine Ba.go (AF (o:=true)) ‹_› hc h (λn s1 U hr hmm hm1 hc h=>?_) (λe n s1 U he hc h=>?_)|refine Rx.BE hc AC (λown1 U hc=>?_)|refine A2 ?_|exact Ae hc h rfl|exact At hc h rfl|exact Ae hc.drop h rfl|exact At hc.drop h rfl|exact Ae hc.drop h Ak|exact Ae hc h Ak|exact Ae hc (h BC) rfl|exact Ae hc.drop (h BC) rfl|refine Az [1,3,7,4,9,10] [1] ?_|fail|fail)
  |true=>
   rw [hcn,if_pos rfl] at h
   unfold Gf at hcn
   simp only [Bool.and_eq_true,beq_iff_eq] at hcn
   obtain ⟨⟨⟨h39,h2⟩,e0⟩,e1⟩:=hcn
   have hl2:(n.kids.length:Int)=2:=H1
   obtain ⟨x0,hx0⟩:∃x,n.kids[(0:Int).toNat]? =some x:=⟨_,List.getElem?_eq_getElem (show 0<n.kids.length by omega)⟩
   obtain ⟨x1,hx1⟩:∃x,n.kids[(1:Int).toNat]? =some x:=⟨_,List.getElem?_eq_getElem (show 1<n.kids.length by omega)⟩
   rw [show n.kids[0]?.getD BC=x0 by rw [show n.kids[0]? =some x0 from hx0];rfl] at e0
   rw [show n.kids[1]?.getD BC=x1 by rw [show n.kids[1]? =some x1 from hx1];rfl] at e1
   refine Aj Ac ?_
   repeat' ((conv=>whnf);first|with_reducible refine Wi ?_|with_reducible refine Wj ?_|refine Wm hx0 IR ?_|refine Wm hx1 IR ?_|exact B1|(refine Bc ?_;intros)|(refine B2 ?_ ?_ ?_;rotate_left)|refine CG e0 ?_|refine CG e1 ?_|refine Ba.go hd0 ‹_› hc h (λb s4 st4 hr4 hmm4 hm4 hc h=>?_) (λe n s1 U he hc h=>?_)|refine EI ‹_› IR h (λe h=>?_) (λe h=>?_)|refine BK (l:=[]) (Nat.zero_le _) ‹_› (hc.push []) h (by first|assumption|exact A9 ‹_› IR) (λs2 own2 st2 hlt hm2 hc h=>?_)|refine BK AC ‹_› hc h (by first|assumption|exact A9 ‹_› IR) (λs2 own2 st2 hlt hm2 hc h=>?_)|refine Ba.go (A5 IR IR) ‹_› hc h (λn s1 U hr hmm hm1 hc h=>?_) (λe n s1 U he hc h=>?_)|refine Ba.go (AF (o:=true)) ‹_› hc h (λn s1 U hr hmm hm1 hc h=>?_) (λe n s1 U he hc h=>?_)|refine Rx.BE hc AC (λown1 U hc=>?_)|refine A2 ?_|exact Ae hc h rfl|exact At hc h rfl|exact Ae hc.drop h rfl|exact At hc.drop h rfl|exact Ae hc.drop h Ak|exact Ae hc h Ak|exact Ae hc (h BC) rfl|exact Ae hc.drop (h BC) rfl|refine Az [1,3,7,4,9,10] [1] ?_|exact At hc.drop.drop h rfl|fail|fail)
   refine Gr (α:=Nat) (λi=>[(12,.int .i64 (i:Nat))]) [2,3,6,7,8,10] (λ_=>[]) [0,1,2] (λ_=>st4) (λi=>i<=b.kids.length) (λi=>b.kids.length - i) 0 (Nat.zero_le _) Yl (St.le_refl _) ?_
   intro i hi
   by_cases hlt:i<b.kids.length
   .have hli:(i:Int)<(b.kids.length:Int):=H1
    repeat' ((conv=>whnf);first|refine Wv hli ?_|exact B1|(refine Bc ?_;intros)|(refine B2 ?_ ?_ ?_;rotate_left)|refine Wq (a:=(i:Int)+1) H1 H1 ?_|fail)
    all_goals conv=>whnf
    all_goals exact ⟨i+1,hlt,Nat.sub_lt_sub_left hlt (Nat.lt_succ_self i),Yl,St.le_refl _⟩
   .have hli:¬(i:Int)<(b.kids.length:Int):=H1
    repeat' ((conv=>whnf);first|refine Ww hli ?_|exact B1|(refine Bc ?_;intros)|(refine B2 ?_ ?_ ?_;rotate_left)|refine EI ‹_› IR h (λe h=>?_) (λe h=>?_)|refine BK (l:=[]) (Nat.zero_le _) ‹_› (hc.push []) h (by first|assumption|exact A9 ‹_› IR) (λs2 own2 st2 hlt hm2 hc h=>?_)|refine BK AC ‹_› hc h (by first|assumption|exact A9 ‹_› IR) (λs2 own2 st2 hlt hm2 hc h=>?_)|refine Ba.go (A5 IR IR) ‹_› hc h (λn s1 U hr hmm hm1 hc h=>?_) (λe n s1 U he hc h=>?_)|refine Ba.go (AF (o:=true)) ‹_› hc h (λn s1 U hr hmm hm1 hc h=>?_) (λe n s1 U he hc h=>?_)|refine Rx.BE hc AC (λown1 U hc=>?_)|refine A2 ?_|exact Ae hc h rfl|exact At hc h rfl|exact Ae hc.drop h rfl|exact At hc.drop h rfl|exact Ae hc.drop h Ak|exact Ae hc h Ak|exact Ae hc (h BC) rfl|exact Ae hc.drop (h BC) rfl|refine Rx.BE hc.drop AC (λown1 U hc=>?_)|refine Az [1,3,7,4,9,10] [1] ?_|fail|fail)
 .refine Aj Ac ?_
  repeat' ((conv=>whnf);first|exact B1|(refine Bc ?_;intros)|(refine B2 ?_ ?_ ?_;rotate_left)|refine EI ‹_› IR h (λe h=>?_) (λe h=>?_)|refine BK (l:=[]) (Nat.zero_le _) ‹_› (hc.push []) h (by first|assumption|exact A9 ‹_› IR) (λs2 own2 st2 hlt hm2 hc h=>?_)|refine BK AC ‹_› hc h (by first|assumption|exact A9 ‹_› IR) (λs2 own2 st2 hlt hm2 hc h=>?_)|refine Ba.go (A5 IR IR) ‹_› hc h (λn s1 U hr hmm hm1 hc h=>?_) (λe n s1 U he hc h=>?_)|refine Ba.go (AF (o:=true)) ‹_› hc h (λn s1 U hr hmm hm1 hc h=>?_) (λe n s1 U he hc h=>?_)|refine Rx.BE hc AC (λown1 U hc=>?_)|refine A2 ?_|exact Ae hc h rfl|exact At hc h rfl|exact Ae hc.drop h rfl|exact At hc.drop h rfl|exact Ae hc.drop h Ak|exact Ae hc h Ak|exact Ae hc (h BC) rfl|exact Ae hc.drop (h BC) rfl|fail)
end
section
variable {st0 st:St} {s:Af} {rows:List (Ay×List Nd)} {K:AD->St->Prop} {E:Er->Af->Prop}
attribute [local irreducible] Go.Aw.Ai
theorem Xk {row decls:Rd Nd} (hD:1<=D/\D<=100) (hr0:Ba 97 (λs=>[Am s,.int .i64 D]) row) (hd0:Ba 105 (λs=>[Am s,.int .i64 (D - 1)]) decls):
 Rf 44 (λs=>[Am s,.int .i64 D,.int .i64 45]) (HZ row decls):=by
 refine ⟨λ{st0 s st rows K} hm hk hc h=>?_⟩
 simp only [HZ,TR,FB,Rd.Ag,Rd.Ao,Rd.wp_seq,Rd.wp_ret,Rd.BD] at h
 refine AQ Ac [] Tryz.func44 rfl IR rfl ?_
 refine Ah (Aj Ac ?_)
 repeat' ((conv=>whnf);first|exact B1|(refine Bc ?_;intros)|(refine B2 ?_ ?_ ?_;rotate_left)|fail)
 refine Ah (Aj Ac ?_)
 repeat' ((conv=>whnf);first|exact B1|(refine Bc ?_;intros)|(refine B2 ?_ ?_ ?_;rotate_left)|refine EI ‹_› IR h (λe h=>?_) (λe h=>?_)|refine BK (l:=[]) (Nat.zero_le _) ‹_› (hc.push []) h (by first|assumption|exact A9 ‹_› IR) (λs2 own2 st2 hlt hm2 hc h=>?_)|refine BK AC ‹_› hc h (by first|assumption|exact A9 ‹_› IR) (λs2 own2 st2 hlt hm2 hc h=>?_)|refine Ba.go (A5 IR IR) ‹_› hc h (λn s1 U hr hmm hm1 hc h=>?_) (λe n s1 U he hc h=>?_)|refine Ba.go (AF (o:=true)) ‹_› hc h (λn s1 U hr hmm hm1 hc h=>?_) (λe n s1 U he hc h=>?_)|refine Rx.BE hc AC (λown1 U hc=>?_)|refine A2 ?_|exact Ae hc h rfl|exact At hc h rfl|exact Ae hc.drop h rfl|exact At hc.drop h rfl|exact Ae hc.drop h Ak|exact Ae hc h Ak|exact Ae hc (h BC) rfl|exact Ae hc.drop (h BC) rfl|fail)
 refine Ah (Aj Ac ?_)
 repeat' ((conv=>whnf);first|exact B1|(refine Bc ?_;intros)|(refine B2 ?_ ?_ ?_;rotate_left)|refine fI hr0 1 (Nat.le_of_ble_eq_true rfl) IR ‹_› hc h (λp s1 own1 U hr hpl hmm hm1 hc h=>?_) (λe n l' s1 own1 U he hc h=>?_)|fail)
 .obtain ⟨l,n⟩:=p
  dsimp only at hr hpl hc h |-
  by_cases h39:n.kind=39
  .by_cases h2:n.kids.length=2
   .have hl2:(n.kids.length:Int)=2:=H1
    obtain ⟨x0,hx0⟩:∃x,n.kids[(0:Int).toNat]? =some x:=⟨_,List.getElem?_eq_getElem (show 0<n.kids.length by omega)⟩
    have ec:Ih n=(BR x0 [2]||BR x0 [4]):=by
     unfold Ih
     rw [h39,h2,show n.kids[0]?.getD BC=x0 by rw [show n.kids[0]? =some x0 from hx0];rfl,l8];rfl
    rw [ec] at h
    refine Aj Ac ?_
    cases e0:BR x0 [2]<;>cases e1:BR x0 [4]
    case false.false=>
     rw [e0,e1,if_neg IR] at h
     repeat' ((conv=>whnf);first|with_reducible refine Wi ?_|with_reducible refine Wj ?_|refine Wm hx0 IR ?_|exact B1|(refine Bc ?_;intros)|(refine B2 ?_ ?_ ?_;rotate_left)|refine CG e0 ?_|refine CG e1 ?_|refine CA ?_|refine EI ‹_› IR h (λe h=>?_) (λe h=>?_)|refine BK (l:=[]) (Nat.zero_le _) ‹_› (hc.push []) h (by first|assumption|exact A9 ‹_› IR) (λs2 own2 st2 hlt hm2 hc h=>?_)|refine BK AC ‹_› hc h (by first|assumption|exact A9 ‹_› IR) (λs2 own2 st2 hlt hm2 hc h=>?_)|refine Ba.go (A5 IR IR) ‹_› hc h (λn s1 U hr hmm hm1 hc h=>?_) (λe n s1 U he hc h=>?_)|refine Ba.go (AF (o:=true)) ‹_› hc h (λn s1 U hr hmm hm1 hc h=>?_) (λe n s1 U he hc h=>?_)|refine Rx.BE hc AC (λown1 U hc=>?_)|refine A2 ?_|exact Ae hc h rfl|exact At hc h rfl|exact Ae hc.drop h rfl|exact At hc.drop h rfl|exact Ae hc.drop h Ak|exact Ae hc h Ak|exact Ae hc (h BC) rfl|exact Ae hc.drop (h BC) rfl|refine Az [1,3,7,4,9,10] [1] ?_|fail|fail)
    all_goals
     rw [e0,e1,if_pos IR] at h
     repeat' ((conv=>whnf);first|with_reducible refine Wi ?_|with_reducible refine Wj ?_|refine Wm hx0 IR ?_|exact B1|(refine Bc ?_;intros)|(refine B2 ?_ ?_ ?_;rotate_left)|refine CG e0 ?_|refine CG e1 ?_|refine Ba.go hd0 ‹_› hc h (λb s4 st4 hr4 hmm4 hm4 hc h=>?_) (λe n s1 U he hc h=>?_)|refine EI ‹_› IR h (λe h=>?_) (λe h=>?_)|refine BK (l:=[]) (Nat.zero_le _) ‹_› (hc.push []) h (by first|assumption|exact A9 ‹_› IR) (λs2 own2 st2 hlt hm2 hc h=>?_)|refine BK AC ‹_› hc h (by first|assumption|exact A9 ‹_› IR) (λs2 own2 st2 hlt hm2 hc h=>?_)|refine Ba.go (A5 IR IR) ‹_› hc h (λn s1 U hr hmm hm1 hc h=>?_) (λe n s1 U he hc h=>?_)|refine Ba.go (AF (o:=true)) ‹_› hc h (λn s1 U hr hmm hm1 hc h=>?_) (λe n s1 U he hc h=>?_)|refine Rx.BE hc AC (λown1 U hc=>?_)|refine A2 ?_|exact Ae hc h rfl|exact At hc h rfl|exact Ae hc.drop h rfl|exact At hc.drop h rfl|exact Ae hc.drop h Ak|exact Ae hc h Ak|exact Ae hc (h BC) rfl|exact Ae hc.drop (h BC) rfl|refine Az [1,3,7,4,9,10] [1] ?_|exact At hc.drop.drop h rfl|fail|fail)
     refine Gr (α:=Nat) (λi=>[(12,.int .i64 (i:Nat))]) [2,3,6,7,8,10] (λ_=>[]) [0,1,2] (λ_=>st4) (λi=>i<=b.kids.length/\∀j y,j<i->b.kids[j]? =some y->y.kind=36) (λi=>b.kids.length - i) 0 ⟨Nat.zero_le _,λj y hj=>absurd hj (Nat.not_lt_zero j)⟩ Yl (St.le_refl _) ?_
     intro i hi
     by_cases hlt:i<b.kids.length
     .have hli:(i:Int)<(b.kids.length:Int):=H1
      obtain ⟨x,hx⟩:∃x,b.kids[(i:Int).toNat]? =some x:=⟨_,List.getElem?_eq_getElem (show i<b.kids.length from hlt)⟩
      by_cases h36:x.kind=36
      .skip
       repeat' ((conv=>whnf);first|refine Wv hli ?_|refine Wm hx H1 ?_|exact B1|(refine Bc ?_;intros)|(refine B2 ?_ ?_ ?_;rotate_left)|refine Wq (a:=(i:Int)+1) H1 H1 ?_|fail)
       all_goals conv=>whnf
       all_goals exact ⟨i+1,⟨hlt,λj y hj hy=>(Nat.lt_succ_iff_lt_or_eq.1 hj).elim (λq=>hi.2 j y q hy) λq=>by subst q;cases hx.symm.trans hy;exact h36⟩,Nat.sub_lt_sub_left hlt (Nat.lt_succ_self i),Yl,St.le_refl _⟩
      .have ha:¬(b.kids.all λn=>n.kind==36)=true:=λha=>h36 (by have:=List.all_eq_true.1 ha x (List.mem_of_getElem? hx);simpa using this)
       rw [if_neg ha] at h
       repeat' ((conv=>whnf);first|refine Wv hli ?_|refine Wm hx H1 ?_|exact B1|(refine Bc ?_;intros)|(refine B2 ?_ ?_ ?_;rotate_left)|refine CA ?_|refine EI ‹_› IR h (λe h=>?_) (λe h=>?_)|refine BK (l:=[]) (Nat.zero_le _) ‹_› (hc.push []) h (by first|assumption|exact A9 ‹_› IR) (λs2 own2 st2 hlt hm2 hc h=>?_)|refine BK AC ‹_› hc h (by first|assumption|exact A9 ‹_› IR) (λs2 own2 st2 hlt hm2 hc h=>?_)|refine Ba.go (A5 IR IR) ‹_› hc h (λn s1 U hr hmm hm1 hc h=>?_) (λe n s1 U he hc h=>?_)|refine Ba.go (AF (o:=true)) ‹_› hc h (λn s1 U hr hmm hm1 hc h=>?_) (λe n s1 U he hc h=>?_)|refine Rx.BE hc AC (λown1 U hc=>?_)|refine A2 ?_|exact Ae hc h rfl|exact At hc h rfl|exact Ae hc.drop h rfl|exact At hc.drop h rfl|exact Ae hc.drop h Ak|exact Ae hc h Ak|exact Ae hc (h BC) rfl|exact Ae hc.drop (h BC) rfl|exact Ae hc.drop.drop (h BC) rfl|fail|fail)
     .have hli:¬(i:Int)<(b.kids.length:Int):=H1
      have ha:(b.kids.all λn=>n.kind==36)=true:=List.all_eq_true.2 λy hy=>by
       obtain ⟨j,hj,hjy⟩:=List.getElem_of_mem hy
       simpa using hi.2 j y H1 (by rw [List.getElem?_eq_getElem hj,hjy])
      rw [if_pos ha] at h
      repeat' ((conv=>whnf);first|refine Ww hli ?_|exact B1|(refine Bc ?_;intros)|(refine B2 ?_ ?_ ?_;rotate_left)|refine EI ‹_› IR h (λe h=>?_) (λe h=>?_)|refine BK (l:=[]) (Nat.zero_le _) ‹_› (hc.push []) h (by first|assumption|exact A9 ‹_› IR) (λs2 own2 st2 hlt hm2 hc h=>?_)|refine BK AC ‹_› hc h (by first|assumption|exact A9 ‹_› IR) (λs2 own2 st2 hlt hm2 hc h=>?_)|refine Ba.go (A5 IR IR) ‹_› hc h (λn s1 U hr hmm hm1 hc h=>?_) (λe n s1 U he hc h=>?_)|refine Ba.go (AF (o:=true)) ‹_› hc h (λn s1 U hr hmm hm1 hc h=>?_) (λe n s1 U he hc h=>?_)|refine Rx.BE hc AC (λown1 U hc=>?_)|refine A2 ?_|exact Ae hc h rfl|exact At hc h rfl|exact Ae hc.drop h rfl|exact At hc.drop h rfl|exact Ae hc.drop h Ak|exact Ae hc h Ak|exact Ae hc (h BC) rfl|exact Ae hc.drop (h BC) rfl|refine Rx.BE hc.drop AC (λown1 U hc=>?_)|refine Az [1,3,7,4,9,10] [1] ?_|fail|fail)
   .have hl2:¬(n.kids.length:Int)=2:=H1
    have ec:Ih n=false:=by unfold Ih;simp [h2]
    rw [ec,if_neg IR] at h
    refine Aj Ac ?_
    repeat' ((conv=>whnf);first|exact B1|(refine Bc ?_;intros)|(refine B2 ?_ ?_ ?_;rotate_left)|refine CA ?_|refine EI ‹_› IR h (λe h=>?_) (λe h=>?_)|refine BK (l:=[]) (Nat.zero_le _) ‹_› (hc.push []) h (by first|assumption|exact A9 ‹_› IR) (λs2 own2 st2 hlt hm2 hc h=>?_)|refine BK AC ‹_› hc h (by first|assumption|exact A9 ‹_› IR) (λs2 own2 st2 hlt hm2 hc h=>?_)|refine Ba.go (A5 IR IR) ‹_› hc h (λn s1 U hr hmm hm1 hc h=>?_) (λe n s1 U he hc h=>?_)|refine Ba.go (AF (o:=true)) ‹_› hc h (λn s1 U hr hmm hm1 hc h=>?_) (λe n s1 U he hc h=>?_)|refine Rx.BE hc AC (λown1 U hc=>?_)|refine A2 ?_|exact Ae hc h rfl|exact At hc h rfl|exact Ae hc.drop h rfl|exact At hc.drop h rfl|exact Ae hc.drop h Ak|exact Ae hc h Ak|exact Ae hc (h BC) rfl|exact Ae hc.drop (h BC) rfl|refine Az [1,3,7,4,9,10] [1] ?_|fail|fail)
  .have ec:Ih n=false:=by unfold Ih;simp [h39]
   rw [ec,if_neg IR] at h
   refine Aj Ac ?_
   repeat' ((conv=>whnf);first|exact B1|(refine Bc ?_;intros)|(refine B2 ?_ ?_ ?_;rotate_left)|refine CA ?_|refine EI ‹_› IR h (λe h=>?_) (λe h=>?_)|refine BK (l:=[]) (Nat.zero_le _) ‹_› (hc.push []) h (by first|assumption|exact A9 ‹_› IR) (λs2 own2 st2 hlt hm2 hc h=>?_)|refine BK AC ‹_› hc h (by first|assumption|exact A9 ‹_› IR) (λs2 own2 st2 hlt hm2 hc h=>?_)|refine Ba.go (A5 IR IR) ‹_› hc h (λn s1 U hr hmm hm1 hc h=>?_) (λe n s1 U he hc h=>?_)|refine Ba.go (AF (o:=true)) ‹_› hc h (λn s1 U hr hmm hm1 hc h=>?_) (λe n s1 U he hc h=>?_)|refine Rx.BE hc AC (λown1 U hc=>?_)|refine A2 ?_|exact Ae hc h rfl|exact At hc h rfl|exact Ae hc.drop h rfl|exact At hc.drop h rfl|exact Ae hc.drop h Ak|exact Ae hc h Ak|exact Ae hc (h BC) rfl|exact Ae hc.drop (h BC) rfl|refine Az [1,3,7,4,9,10] [1] ?_|fail|fail)
 .refine Aj Ac ?_
  repeat' ((conv=>whnf);first|exact B1|(refine Bc ?_;intros)|(refine B2 ?_ ?_ ?_;rotate_left)|refine EI ‹_› IR h (λe h=>?_) (λe h=>?_)|refine BK (l:=[]) (Nat.zero_le _) ‹_› (hc.push []) h (by first|assumption|exact A9 ‹_› IR) (λs2 own2 st2 hlt hm2 hc h=>?_)|refine BK AC ‹_› hc h (by first|assumption|exact A9 ‹_› IR) (λs2 own2 st2 hlt hm2 hc h=>?_)|refine Ba.go (A5 IR IR) ‹_› hc h (λn s1 U hr hmm hm1 hc h=>?_) (λe n s1 U he hc h=>?_)|refine Ba.go (AF (o:=true)) ‹_› hc h (λn s1 U hr hmm hm1 hc h=>?_) (λe n s1 U he hc h=>?_)|refine Rx.BE hc AC (λown1 U hc=>?_)|refine A2 ?_|exact Ae hc h rfl|exact At hc h rfl|exact Ae hc.drop h rfl|exact At hc.drop h rfl|exact Ae hc.drop h Ak|exact Ae hc h Ak|exact Ae hc (h BC) rfl|exact Ae hc.drop (h BC) rfl|fail)
end
section
variable {st0 st:St} {s:Af} {rows:List (Ay×List Nd)} {K:AD->St->Prop} {Q:Nd->Af->Prop} {E:Er->Af->Prop}
attribute [local irreducible] Go.Aw.Ai
theorem Rx.xw {own:Ay} {x:Nd} {K:V->St->Prop} (h:Rx st0 st ((own,l)::rows)) (hb:l.length+1<=1000000000)
 (k1:K .Cc st) (k2:∀U st',Rx st0 st' ((own,l)::rows)->K (.slice 6 ((l++[x]).map Ap) U) st'):Ai 6 72 (l.map Ap) own [Ap x] st K:=by
 cases own with
 |any=>exact (h.ok _ (List.mem_cons_self ..)).elim
 |full=>exact h.BE hb λU st' hc=>k2 U st' (hc.drop.push l)
 |tok b=>
  refine Xt ?_ ?_ ?_ ?_ k1
  .simp;omega
  .simp [Fk];omega
  .rfl
  .have:=(h.ok _ (List.mem_cons_self ..)).2
   simpa using this
theorem w4 {own:Ay} {k:Int} {x:List UInt8} (hl:l.length<=900000000) (hm:mu s<=100000000) (hc:Rx st0 st ((own,l)::rows)) (hk:(Aa s).1.kind≠0/\(Aa s).1.kind≠21)
 (h:if AP (Aa s).2.1 k x=true then P else Rd.wp AB s Q E)
 (k1:∀s1,AP s1 k x=true->mu s1<=100000000->P->K (.ret (.Bl [.Cc,Am s1])) st)
 (k2:∀s1 U st',AP s1 k x=true->mu s1<=100000000->Rx st0 st' ((own,l)::rows)->P->K (.ret (.Bl [.slice 6 ((l++[AJ (Aa s).1]).map Ap) U,Am s1])) st')
 (k3:∀s1 U st',AP s1 k x=false->mu s1<mu s->mu s1<=100000000->Rx st0 st' ((U,l++[AJ (Aa s).1])::rows)->Q (AJ (Aa s).1) s1->K (.ret (.Bl [.slice 6 ((l++[AJ (Aa s).1]).map Ap) U,Am s1])) st'):PC 53 [.slice 6 (l.map Ap) own,Am s] st K:=by
 have ht:Rd.wp AB s (λ_ s'=>s'=(Aa s).2.1) (λ_ _=>True):=by
  unfold Rd.wp
  rw [C8 (En hk.1)]
 cases e:AP (Aa s).2.1 k x with
 |false=>
  rw [e,if_neg IR] at h
  have h2:Rd.wp AB s (λn s'=>s'=(Aa s).2.1/\Q n s') E:=by
   unfold Rd.wp at h |-
   rw [C8 (En hk.1)] at h |-
   exact ⟨rfl,h⟩
  exact BK hl hm hc h2 hk λs1 U st' hlt hm1 hc q=>k3 s1 U st' (by rw [q.1];exact e) hlt hm1 hc q.2
 |true=>
  rw [e,if_pos rfl] at h
  refine pB Tryz.func53 ?_
  repeat' ((conv=>whnf);first|exact B1|(refine B2 ?_ ?_ ?_;rotate_left)|refine Cn hm ht hk (λs1 e1 hlt hm1 q=>?_)|refine Rx.xw hc H1 ?_ (λown1 st1 hc=>?_)|refine Ad 5 [4] [1] ?_|fail|fail)
  all_goals first
   |exact ⟨_,_,.inl rfl,St.le_refl _,k1 _ (by rw [q];exact e) hm1 h⟩
   |exact ⟨_,_,.inl rfl,St.le_refl _,k2 _ _ _ (by rw [q];exact e) hm1 hc h⟩
theorem zu (hm:mu s<=100000000) (hc:Rx st0 st rows) (h:Rd.wp (D5 [5,6]) s (λn s1=>if (X6 n==5)=true then Q n s1 else P) E)
 (k1:∀o x c s1 U,x.form=5->mu s1<=mu s->mu s1<=100000000->Rx st0 U rows->Q (Al 3 [o,x,c]) s1->K (.ret (Ax (Al 3 [o,x,c]) s1 0)) U)
 (k2:∀o x c s1 U,¬x.form=5->Rx st0 U rows->P->K (.ret (Ax (Al 3 [o,x,c]) s1 0)) U)
 (k3:∀(e:Er) n s1 U,¬e.1=0->Rx st0 U rows->E e s1->K (.ret (Ax n s1 e.1)) U):PC 107 [Am s,.bool true] st K:=by
 refine Ba.go (AF (o:=true)) hm hc h (λn s1 U hr hmm hm1 hc h=>?_) (λe n s1 U he hc h=>k3 e n s1 U he hc h)
 obtain ⟨o,x,c,rfl⟩:=UD hr
 by_cases e:x.form=5
 .rw [if_pos (show (X6 (Al 3 [o,x,c])==5)=true from by show (x.form==5)=true;simpa using e)] at h
  exact k1 o x c s1 U e hmm hm1 hc h
 .rw [if_neg (show ¬(X6 (Al 3 [o,x,c])==5)=true from by show ¬(x.form==5)=true;simpa using e)] at h
  exact k2 o x c s1 U e hc h
end
end Go.Proofs.Z
