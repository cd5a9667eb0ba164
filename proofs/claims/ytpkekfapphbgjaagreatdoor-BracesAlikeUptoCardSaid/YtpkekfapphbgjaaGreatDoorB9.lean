/-
  Parts of a proof: lemmas that the last text uses.
-/
import Derived.Test.YtpkekfapphbgjaaGreatDoorB8
set_option linter.unusedVariables false
set_option linter.unusedSimpArgs false
set_option maxHeartbeats 16000000
variable {s x:List UInt8} {b c o:Bool} {ks:List Int} {i M d:Nat} {J:List (List UInt8)->Go.Aw.St->Prop} {l:List Go.Aw.Nd} {K:Go.Aw.At->Go.Aw.St->Prop} {n:Go.Aw.Nd} {Q:Go.Aw.Nd->Go.Proofs.Z.Al->Prop} {k deep:Int} {P:Prop} {E:Go.Proofs.Z.Er->Go.Proofs.Z.Al->Prop} {f g:Go.FuncId} {mk:Nat->Go.Aw.V->List Go.Aw.V} {A:Go.Proofs.Z.Rd Go.Aw.Nd} {args cs:List Go.Aw.V} {st0:Go.Aw.St} {rows:List (Go.Aw.AA×List Go.Aw.Nd)} {p:Go.Aw.Nd->Bool}
namespace Go.Aw
open Go
theorem WY {s:List UInt8}:∀{l:List (Nat×Nat)} {a:Nat},RY s.length a l->(HP s a l).length<=4*(s.length - a)
 |[],a,h=>by rw [HP,List.length_drop];omega
 |p::r,a,h=>by
  obtain ⟨h1,h2,U⟩:=h
  have:=WY U
  have:=TN U
  rw [HP,List.length_append,List.length_append,List.length_drop,List.length_take]
  simp only [List.length_cons,List.length_nil]
  omega
theorem n8 (f:Int) (t:List UInt8):(UY f t).length<=4*t.length:=by
 unfold UY
 split
 .split
  .rename_i u U
   by_cases hz:Eg t=0
   .rw [MA hz] at U
    injection U with U
    subst U
    have:=WY (aw (s:=t));omega
   .rw [QX hz] at U;cases U
  .omega
 .omega
def JP:List (List UInt8)->Nat
 |[]=>0
 |x::r=>x.length+JP r
theorem JQ:∀l r:List (List UInt8),JP (l++r)=JP l+JP r
 |[],r=>by rw [List.nil_append,JP];omega
 |x::l,r=>by rw [List.cons_append,JP,JP,JQ l r];omega
theorem XC:∀l:List (List UInt8),(Lib.joinTail [32] l).length=JP l+l.length
 |[]=>rfl
 |x::r=>by
  have:=XC r
  simp only [Lib.joinTail,List.map_cons,List.flatten_cons,List.length_append,List.length_cons,List.length_nil,JP] at this |-
  omega
theorem VQ:∀l:List (List UInt8),(Lib.join l [32]).length<=JP l+l.length
 |[]=>Nat.zero_le _
 |x::r=>by
  rw [Lib.join_cons,List.length_append,XC,JP,List.length_cons];omega
end Go.Aw
namespace Go.Proofs.Z
open Go Go.Aw
mutual
theorem Le:∀n:Nd,C7 (Av n)<=4*C7 n
 | .mk k f t l c ks=>by
   have:=Oh ks
   have:=n8 f t
   rw [Av]
   split<;>rw [C7,C7]<;>omega
theorem Oh:∀l:List Nd,Gr (Da l)<=4*Gr l
 |[]=>Nat.zero_le _
 |n::r=>by
  have:=Le n
  have:=Oh r
  rw [Da,Gr,Gr];omega
end
mutual
theorem Rz:∀n:Nd,(CR n).length+1<=3*n.size/\JP (CR n)+1<=C7 n+3*n.size
 | .mk k f t l c ks=>by
   rw [CR,Nd.size,C7]
   split
   .exact ⟨Pi,by rw [JP,JP];omega⟩
   .split
    .have:=NR true true ks
     rw [List.length_append,List.length_append,JQ,JQ]
     simp only [List.length_cons,List.length_nil,JP]
     omega
    .have:=NR false true ks
     omega
theorem NR:∀(b first:Bool) (l:List Nd),(D0 b first l).length<=3*Bn l/\JP (D0 b first l)<=Gr l+3*Bn l
 |_,_,[]=>⟨Nat.zero_le _,Nat.zero_le _⟩
 |b,first,n::r=>by
  have:=Rz n
  have:=NR b false r
  rw [D0,Bn,Gr,List.length_append,List.length_append,JQ,JQ]
  split<;>simp only [List.length_cons,List.length_nil,JP]<;>omega
end
theorem Ow (b:Bool) (x:Nd):∀(first:Bool) (l:List Nd),D0 b first (l++[x])=D0 b first l++((if b=true/\¬(first=true/\l=[]) then [[59]] else [])++CR x)
 |first,[]=>by
  rw [List.nil_append,D0,D0,D0,List.append_nil,List.nil_append]
  cases b<;>cases first<;>rfl
 |first,a::l=>by
  rw [List.cons_append,D0,Ow b x false l,D0]
  simp only [List.append_assoc]
  congr 3
  cases b<;>simp
def Cc (b:Bool) (ks:List Nd) (i:Nat):List (List UInt8):=(if b=true then [[123]] else [])++D0 b true (ks.take i)
theorem G0 {ks:List Nd} {x:Nd} (h:ks[i]? =some x):Cc b ks (i+1)=Cc b ks i++((if b=true/\0<i then [[59]] else [])++CR x):=by
 unfold Cc
 rw [List.take_add_one,h]
 show _++D0 b true (ks.take i++[x])=_
 rw [Ow,List.append_assoc]
 congr 4
 have:=(List.getElem?_eq_some_iff.1 h).1
 simp only [true_and,eq_iff_iff]
 refine and_congr_right λ_=>?_
 rw [List.take_eq_nil_iff]
 constructor
 .intro h;omega
 .rintro h (rfl|rfl)
  .omega
  .simp at this
theorem Mv {ks:List Nd} (h:i<=ks.length):(Cc b ks i).length<=(Cc b ks ks.length).length:=by
 have key:∀d i,i+d=ks.length->(Cc b ks i).length<=(Cc b ks ks.length).length:=by
  intro d
  induction d with
  |zero=>intro i h;rw [<-h];exact Nat.le_refl _
  |succ d ih=>
   intro i h
   refine Nat.le_trans ?_ (ih (i+1) AC)
   rw [G0 (List.getElem?_eq_getElem (show i<ks.length by omega)),List.length_append]
   omega
 exact key (ks.length - i) i AC
section
variable {st:St} {L:Nat} {r:Loop} {Im:Mem}
attribute [local irreducible] Go.Aw.Ag
def lK (L:Nat) (r:Loop) (Im:Mem) (M:Nat) (J:List (List UInt8)->St->Prop):Prop:=
 ∀l s st,l.length+1<=M->J l st->YS Tryz.prog L r Im [.str s] st (J (l++[s]))
theorem lK.go (h:lK L r Im M J) {l:List (List UInt8)} {K:St->Prop} (U:J l st) (hm:l.length+1<=M) (k:∀st',J (l++[s]) st'->K st'):YS Tryz.prog L r Im [.str s] st K:=(h l s st hm U).mono k
theorem sv (hY:lK L r Im M J):∀(m:Nat) {n:Nd} {l:List (List UInt8)} {st:St} {R:At->St->Prop},n.size<=m->n.size<=900000000->l.length+(CR n).length<=M->J l st->(∀st',J (l++CR n) st'->R (.ret (.bool true)) st')->XZ Tryz.prog L r Im 82 [enc n,.XX L] st R:=by
 intro m
 induction m with
 |zero=>intro n l st R hm;cases n;rw [Nd.size] at hm;omega
 |succ m ih=>
  intro n l st R hm hz hM hj h
  cases n with
  |mk k f t p c ks=>
   have hks:ks.length<=900000000:=by have:ks.length<_:=EW (.mk k f t p c ks);omega
   refine RZ Ab Tryz.func82 rfl Do rfl ?_
   refine Bh (FO.of (Ae Ab ?_))
   repeat' ((conv=>whnf);first|(refine A1 ?_;intros)|fail)
   refine Bh (Bh (FO.of (Ae Ab ?_)))
   by_cases hk:k=1
   .have hk':(Nd.mk k f t p c ks).kind=1:=hk
    rw [CR,if_pos hk] at h hM
    repeat' ((conv=>whnf);first|(refine A1 ?_;intros)|fail)
    refine GL (t:=true) rfl ?_
    refine Bh (EG (He Ab 3 rfl ?_))
    repeat' ((conv=>whnf);first|(refine A1 ?_;intros)|fail)
    refine Lr rfl rfl ?_
    repeat' ((conv=>whnf);first|(refine A1 ?_;intros)|refine ⟨rfl,?_⟩|refine hY.go hj hM (λst1 hj1=>?_))
    refine Iw Ab rfl ?_
    repeat' ((conv=>whnf);first|(refine A1 ?_;intros)|fail)
    refine FO.of (Ae Ab ?_)
    conv=>whnf
    refine ⟨.inr rfl,?_⟩
    conv=>whnf
    exact h _ hj1
   .have hk':¬(Nd.mk k f t p c ks).kind=1:=hk
    repeat' ((conv=>whnf);first|(refine A1 ?_;intros)|fail)
    refine GL (t:=false) rfl ?_
    refine FO.of (Ae Ab ?_)
    repeat' ((conv=>whnf);first|(refine A1 ?_;intros)|fail)
    rw [CR,if_neg hk] at h hM
    by_cases hb:k=2
    .have hb':(Nd.mk k f t p c ks).kind=2:=hb
     rw [if_pos hb] at h hM
     have hpt:∀st',J (l++Cc true ks ks.length++[[125]]) st'->R (.ret (.bool true)) st':=λst' hj=>h st' (by rw [List.append_assoc] at hj;unfold Cc at hj;rw [List.take_length] at hj;exact hj)
     have hpl:l.length+(Cc true ks ks.length).length+1<=M:=by unfold Cc;rw [List.take_length];simp only [List.length_append,List.length_cons,List.length_nil,if_true] at hM |-;omega
     refine Bh (FO.of (Ae Ab ?_))
     repeat' ((conv=>whnf);first|(refine A1 ?_;intros)|fail)
     refine Bh (Bh (EG (He Ab 3 rfl ?_)))
     repeat' ((conv=>whnf);first|(refine A1 ?_;intros)|fail)
     refine Lr rfl rfl ?_
     repeat' ((conv=>whnf);first|(refine A1 ?_;intros)|refine ⟨rfl,?_⟩|refine hY.go hj AC (λst1 hj1=>?_))
     refine Iw Ab rfl ?_
     repeat' ((conv=>whnf);first|(refine A1 ?_;intros)|fail)
     refine GL (t:=false) rfl ?_
     refine FO.of (Ae Ab ?_)
     repeat' ((conv=>whnf);first|(refine A1 ?_;intros)|fail)
     refine Bh (Bh (FO.of (Ae Ab ?_)))
     repeat' ((conv=>whnf);first|(refine A1 ?_;intros)|fail)
     refine GC ?_
     refine Pc ?_
     refine HN (α:=Nat×St) (λx=>[(27,.int .i64 (x.1:Int))]) (λ_=>[]) [1,5,25,26] [] (λx=>x.2) (λx=>x.1<=ks.length/\J (l++Cc true ks x.1) x.2) (λx=>ks.length - x.1) (0,st1) ⟨Nat.zero_le _,hj1⟩ Yl (St.le_refl _) ?_
     rintro ⟨i,st2⟩ ⟨hi,hj2⟩
     dsimp only at hi hj2 |-
     refine Bh (FO.of (Ae Ab ?_))
     by_cases U:i<ks.length
     .obtain ⟨x,hx⟩:∃x,ks[(i:Int).toNat]? =some x:=⟨_,List.getElem?_eq_getElem U⟩
      have hx':ks[i]? =some x:=hx
      have hsz:=Cb (n:=.mk k f t p c ks) (List.mem_of_getElem? hx)
      have hnx:=G0 (b:=true) hx'
      have hpm:=Mv (b:=true) (ks:=ks) (i:=i+1) U
      have hli:(i:Int)<(ks.length:Int):=AC
      repeat' ((conv=>whnf);first|refine Wv hli ?_|(refine A1 ?_;intros)|fail)
      refine Bh (FO.of (Ae Ab ?_))
      repeat' ((conv=>whnf);first|(refine A1 ?_;intros)|fail)
      refine Bh ?_
      refine GC ?_
      refine Bh (FO.of (Ae Ab ?_))
      repeat' ((conv=>whnf);first|refine Wm hx AC ?_|(refine A1 ?_;intros)|fail)
      by_cases hi0:0<i
      .have hi1:(0:Int)<(i:Int):=AC
       rw [if_pos ⟨rfl,hi0⟩] at hnx
       rw [hnx] at hpm
       refine Bh (EG (He Ab 7 rfl ?_))
       repeat' ((conv=>whnf);first|refine Wv hi1 ?_|(refine A1 ?_;intros)|fail)
       refine Lr rfl rfl ?_
       repeat' ((conv=>whnf);first|(refine A1 ?_;intros)|refine ⟨rfl,?_⟩|refine hY.go hj2 (by simp only [List.length_append,List.length_cons,List.length_nil] at hpm |-<;>omega) (λst3 hj3=>?_))
       refine He Ab 5 rfl ?_
       repeat' ((conv=>whnf);first|(refine A1 ?_;intros)|fail)
       refine OK Ab rfl rfl ?_
       conv=>whnf
       refine ih (n:=x) AC AC (l:=l++Cc true ks i++[[59]]) (by simp only [List.length_append,List.length_cons,List.length_nil] at hpm |-;omega) hj3 (λst4 hj4=>?_)
       conv=>whnf
       refine Iw Ab rfl ?_
       repeat' ((conv=>whnf);first|(refine A1 ?_;intros)|fail)
       refine GL (t:=false) rfl ?_
       refine FO.of (Ae Ab ?_)
       repeat' ((conv=>whnf);first|(refine A1 ?_;intros)|fail)
       refine FO.of (Ae Ab ?_)
       repeat' ((conv=>whnf);first|(refine A1 ?_;intros)|refine Wq (a:=(i:Int)+1) AC AC ?_)
       all_goals conv=>whnf
       all_goals exact ⟨(i+1,st4),⟨U,by dsimp only;rw [hnx];simpa only [List.append_assoc,List.nil_append] using hj4⟩,Nat.sub_lt_sub_left U (Nat.lt_succ_self i),Yl,St.le_refl _⟩
      .obtain rfl:i=0:=AC
       rw [if_neg AC] at hnx
       rw [hnx] at hpm
       refine Bh (EG (He Ab 13 rfl ?_))
       repeat' ((conv=>whnf);first|(refine A1 ?_;intros)|fail)
       refine OK Ab rfl rfl ?_
       conv=>whnf
       refine ih (n:=x) AC AC (l:=l++Cc true ks 0) (by simp only [List.length_append] at hpm |-;omega) hj2 (λst4 hj4=>?_)
       conv=>whnf
       refine Iw Ab rfl ?_
       repeat' ((conv=>whnf);first|(refine A1 ?_;intros)|fail)
       refine GL (t:=false) rfl ?_
       refine FO.of (Ae Ab ?_)
       repeat' ((conv=>whnf);first|(refine A1 ?_;intros)|fail)
       refine FO.of (Ae Ab ?_)
       repeat' ((conv=>whnf);first|(refine A1 ?_;intros)|refine Wq (a:=((0:Nat):Int)+1) AC AC ?_)
       all_goals conv=>whnf
       all_goals exact ⟨(0+1,st4),⟨U,by dsimp only;rw [hnx];simpa only [List.append_assoc,List.nil_append] using hj4⟩,Nat.sub_lt_sub_left U (Nat.lt_succ_self 0),Yl,St.le_refl _⟩
     .obtain rfl:i=ks.length:=AC
      have hli:¬(ks.length:Int)<(ks.length:Int):=AC
      repeat' ((conv=>whnf);first|refine Ww hli ?_|(refine A1 ?_;intros)|fail)
      refine Bh (FO.of (Ae Ab ?_))
      repeat' ((conv=>whnf);first|(refine A1 ?_;intros)|fail)
      refine Bh (EG (He Ab 4 rfl ?_))
      repeat' ((conv=>whnf);first|(refine A1 ?_;intros)|fail)
      refine Lr rfl rfl ?_
      repeat' ((conv=>whnf);first|(refine A1 ?_;intros)|refine ⟨rfl,?_⟩|refine hY.go hj2 (by rw [List.length_append]<;>omega) (λst3 hj3=>?_))
      refine Iw Ab rfl ?_
      repeat' ((conv=>whnf);first|(refine A1 ?_;intros)|fail)
      refine FO.of (Ae Ab ?_)
      conv=>whnf
      refine ⟨.inr rfl,?_⟩
      conv=>whnf
      exact hpt _ hj3
    .have hb':¬(Nd.mk k f t p c ks).kind=2:=hb
     rw [if_neg hb] at h hM
     have hpt:∀st',J (l++Cc false ks ks.length) st'->R (.ret (.bool true)) st':=λst' hj=>h st' (by unfold Cc at hj;rw [List.take_length] at hj;exact hj)
     have hpl:l.length+(Cc false ks ks.length).length<=M:=by unfold Cc;rw [List.take_length];exact hM
     refine Bh (FO.of (Ae Ab ?_))
     repeat' ((conv=>whnf);first|(refine A1 ?_;intros)|fail)
     refine Bh (Bh (FO.of (Ae Ab ?_)))
     repeat' ((conv=>whnf);first|(refine A1 ?_;intros)|fail)
     refine GL (t:=false) rfl ?_
     refine FO.of (Ae Ab ?_)
     repeat' ((conv=>whnf);first|(refine A1 ?_;intros)|fail)
     refine Bh (Bh (FO.of (Ae Ab ?_)))
     repeat' ((conv=>whnf);first|(refine A1 ?_;intros)|fail)
     refine GC ?_
     refine Pc ?_
     refine HN (α:=Nat×St) (λx=>[(27,.int .i64 (x.1:Int))]) (λ_=>[]) [1,5,25,26] [] (λx=>x.2) (λx=>x.1<=ks.length/\J (l++Cc false ks x.1) x.2) (λx=>ks.length - x.1) (0,_) ⟨Nat.zero_le _,by rw [show l++Cc false ks 0=l from List.append_nil _];exact hj⟩ Yl (St.le_refl _) ?_
     rintro ⟨i,st2⟩ ⟨hi,hj2⟩
     dsimp only at hi hj2 |-
     refine Bh (FO.of (Ae Ab ?_))
     by_cases U:i<ks.length
     .obtain ⟨x,hx⟩:∃x,ks[(i:Int).toNat]? =some x:=⟨_,List.getElem?_eq_getElem U⟩
      have hx':ks[i]? =some x:=hx
      have hsz:=Cb (n:=.mk k f t p c ks) (List.mem_of_getElem? hx)
      have hnx:=G0 (b:=false) hx'
      have hpm:=Mv (b:=false) (ks:=ks) (i:=i+1) U
      have hli:(i:Int)<(ks.length:Int):=AC
      rw [if_neg GT] at hnx
      rw [hnx] at hpm
      repeat' ((conv=>whnf);first|refine Wv hli ?_|(refine A1 ?_;intros)|fail)
      refine Bh (FO.of (Ae Ab ?_))
      repeat' ((conv=>whnf);first|(refine A1 ?_;intros)|fail)
      refine Bh ?_
      refine GC ?_
      refine Bh (FO.of (Ae Ab ?_))
      repeat' ((conv=>whnf);first|refine Wm hx AC ?_|(refine A1 ?_;intros)|fail)
      refine Bh (EG (He Ab 13 rfl ?_))
      repeat' ((conv=>whnf);first|(refine A1 ?_;intros)|fail)
      refine OK Ab rfl rfl ?_
      conv=>whnf
      refine ih (n:=x) AC AC (l:=l++Cc false ks i) (by simp only [List.length_append] at hpm |-;omega) hj2 (λst4 hj4=>?_)
      conv=>whnf
      refine Iw Ab rfl ?_
      repeat' ((conv=>whnf);first|(refine A1 ?_;intros)|fail)
      refine GL (t:=false) rfl ?_
      refine FO.of (Ae Ab ?_)
      repeat' ((conv=>whnf);first|(refine A1 ?_;intros)|fail)
      refine FO.of (Ae Ab ?_)
      repeat' ((conv=>whnf);first|(refine A1 ?_;intros)|refine Wq (a:=(i:Int)+1) AC AC ?_)
      all_goals conv=>whnf
      all_goals exact ⟨(i+1,st4),⟨U,by dsimp only;rw [hnx];simpa only [List.append_assoc,List.nil_append] using hj4⟩,Nat.sub_lt_sub_left U (Nat.lt_succ_self i),Yl,St.le_refl _⟩
     .obtain rfl:i=ks.length:=AC
      have hli:¬(ks.length:Int)<(ks.length:Int):=AC
      repeat' ((conv=>whnf);first|refine Ww hli ?_|(refine A1 ?_;intros)|fail)
      refine Bh (FO.of (Ae Ab ?_))
      repeat' ((conv=>whnf);first|(refine A1 ?_;intros)|fail)
      refine FO.of (Ae Ab ?_)
      conv=>whnf
      refine ⟨.inr rfl,?_⟩
      conv=>whnf
      exact hpt _ hj2
end
section
variable {st:St} {L:Nat} {r:Loop} {Im:Mem} {R:At->St->Prop}
attribute [local irreducible] Go.Aw.Ag
theorem oK {c:Nat} (hY:lK L r Im M J) (hz:n.size<=900000000) (hM:(CR n).length<=M) (hb:st.box c=some (AB n)) (h0:J [] st)
 {I:Mem} {w:World} {U:List Value} (hm:Im.le I) (hs:B7 I st w) (hargs:Ao I [.ptr c 0] U) (hl:w.heap[L]? =some (.loop r)) (hi:Idle L st):
 Calls Tryz.prog 81 (Value.func (.yield L) #[] #[]::U).toArray w λe w'=>(∃v,e=.returned v)/\∃I' st',Fr I st w I' st' w'/\B7 I' st' w'/\J (CR n) st':=by
 refine LN Ab Tryz.func81 rfl rfl (r:=r) (Im:=Im) (args:=[.XX L,.ptr c 0]) (K:=J (CR n)) rfl ?_ hm hs (by
  simp only [Ao] at hargs |-
  exact ⟨_,_,rfl,by simp only [AH],hargs⟩) hl hi
 refine EG (He Ab 2 rfl ?_)
 repeat' ((conv=>whnf);first|  refine Ah hb ?_)
 refine OK Ab rfl rfl ?_
 conv=>whnf
 refine sv hY n.size (n:=n) (l:=[]) (Nat.le_refl _) hz (by simpa using hM) h0 (λst1 hj1=>?_)
 conv=>whnf
 refine Iw Ab rfl ?_
 conv=>whnf
 exact ⟨.inl rfl,hj1⟩
theorem kR (h:∀c,st.fresh c->R (.ret (.func 81 [] [.ptr c 0])) (st.Aa c (AB n))):PC 53 [enc n] st R:=by
 refine AP Ab [1] Tryz.func53 rfl Do rfl ?_
 refine Ae Ab ?_
 repeat' ((conv=>whnf);first|  refine IL (λc U=>?_))
 all_goals exact Bm rfl (h c U)
theorem PY (hz:n.size<=300000) (ht:C7 n<=100000000) (h:∀st',st.le st'->R (.ret (.str (N5 n))) st'):PC 24 [enc n] st R:=by
 refine A0.ends (Mx Ab [1,3] Tryz.func24 rfl Do rfl ?_)
 have hp:∀{st:St} {R:At->St->Prop},(∀st',st.le st'->R (.ret (enc (Av n))) st')->PC 31 [enc n] st R:=λh=>RC _ (Nat.le_refl _) AC AC h
 have hl:=Rz (Av n)
 have hps:=DY n
 have hpt:=Le n
 refine Ae Ab ?_
 repeat' ((conv=>whnf);first|  refine IL (λb1 f1=>?_))
 refine Ae Ab ?_
 repeat' ((conv=>whnf);first|  refine IL (λb3 f3=>?_)|refine Ah (St.Ai ..) ?_)
 have U:b3≠b1:=by
  rintro rfl
  have:=f3.1
  rw [St.Ai] at this;cases this
 have hle3:∀X Y,st.le (((st.Aa b1 (AB n)).Aa b3 X).Aa b3 Y):=λX Y=>by
  rw [St.set_set]
  exact St.Aj (St.Aj (St.le_refl _) f1.1 _) (by have:=f3.1;rw [Fs (Ne.symm U)] at this;exact this) _
 have hb1:∀X Y,(((st.Aa b1 (AB n)).Aa b3 X).Aa b3 Y).box b1=some (AB n):=λX Y=>by rw [Fs U,Fs U,St.Ai]
 refine Ae Ab ?_
 repeat' ((conv=>whnf);first|  refine Ah (hb1 _ _) ?_|refine hp (λst1 hle1=>?_)|refine kR (λc fc=>?_))
 conv=>whnf
 refine lC.here ?_
 have h1b:st1.box b3=some [.slice 1 [] .full]:=hle1.1 _ _ (St.Ai ..)
 have n3c:b3≠c:=by
  rintro rfl
  have:=fc.1
  rw [h1b] at this;cases this
 have hleA:st.le st1:=St.le_trans (hle3 _ _) hle1
 generalize hS:st1.Aa c (AB (Av n))=S
 have hS3:S.box b3=some [.slice 1 [] .full]:=by rw [<-hS,Fs (Ne.symm n3c)];exact h1b
 have hSc:S.box c=some (AB (Av n)):=by rw [<-hS,St.Ai]
 have hleS:st.le S:=by rw [<-hS];exact St.le_trans hleA (St.Aj (St.le_refl _) fc.1 _)
 obtain ⟨J,hJ⟩:∃J:List (List UInt8)->St->Prop,J=λl st'=>∃o:AA,o.Bw (S.Aa b3 [.slice 1 (strs l) o])/\st'=o.st (S.Aa b3 [.slice 1 (strs l) o]) l.length:=⟨_,rfl⟩
 refine ⟨⟨rfl,rfl⟩,81,[.ptr c 0],J (CR (Av n)),⟨rfl,⟨_,Tryz.func81,Do,Do⟩⟩,?_,?_⟩
 .intro D B Im β a wm L df fi hF I w cargs hm hs hargs hl2 hi
  refine oK (n:=Av n) (M:=3000000) (J:=J) (λl s st1 hlm hj=>?_) AC AC hSc ?_ hm hs hargs hl2 hi
  .refine eS Ab hF rfl rfl rfl Do rfl rfl ?_
   rw [hJ] at hj
   obtain ⟨o,hgo,rfl⟩:=hj
   have hb3:(o.st (S.Aa b3 [.slice 1 (strs l) o]) l.length).box b3=some [.slice 1 (strs l) o]:=by rw [AA.Lk,St.Ai]
   have hfin:∀o2:AA,o2.Bw (S.Aa b3 [.slice 1 (strs l) o])->J (l++[s]) ((o2.st (S.Aa b3 [.slice 1 (strs l) o]) (l++[s]).length).Aa b3 [.slice 1 (strs (l++[s])) o2]):=λo2 h2=>by
    rw [hJ]
    exact ⟨o2,AA.Mb h2,by rw [AA.Rq,St.set_set]⟩
   unfold O3
   repeat' ((conv=>whnf);first|  refine ⟨⟨rfl,rfl⟩,?_⟩|refine Ah hb3 ?_|refine JO (new:=[s]) hgo (by rw [List.length_singleton]<;>omega) (λo2 h2=>?_)|refine Ah Rp ?_|exact hfin o2 h2)
  .rw [hJ]
   exact ⟨.full,trivial,(St.MJ hS3).symm⟩
 .intro st' hk
  rw [hJ] at hk
  obtain ⟨o,hgo,rfl⟩:=hk
  have hb3:(o.st (S.Aa b3 [.slice 1 (strs (CR (Av n))) o]) (CR (Av n)).length).box b3=some [.slice 1 (strs (CR (Av n))) o]:=Rp
  have hjl:=VQ (CR (Av n))
  have hle9:st.le (o.st (S.Aa b3 [.slice 1 (strs (CR (Av n))) o]) (CR (Av n)).length):=
   St.le_trans (St.Aj hleS (by have:=f3.1;rw [Fs (Ne.symm U)] at this;exact this) _) (AA.Bi hgo)
  refine Ae Ab ?_
  repeat' ((conv=>whnf);first|  refine Ah hb3 ?_|refine qZ AC AC ?_)
  all_goals conv=>whnf
  all_goals refine ⟨.inr rfl,?_⟩
  all_goals conv=>whnf
  all_goals exact ⟨_,_,.inl rfl,hle9,h _ (St.le_refl _)⟩
end
section
variable {st0 st st':St} {b d:Nat} {s:Al} {rows:List (AA×List Nd)} {K:At->St->Prop}
attribute [local irreducible] Go.Aw.Ag
theorem Cx.mono (h:Cx st0 b s st rows) (k:st.le st'):Cx st0 b s st' rows:=by
 refine ⟨?_,?_,h.mu⟩
 .rcases h.has with e|⟨t,u,o1,o2,e0,e⟩
  .exact .inl (k.1 _ _ e)
  .exact .inr ⟨t,u,o1,o2,e0,k.1 _ _ e⟩
 .obtain ⟨cs,U⟩:=h.rx
  refine ⟨cs,St.le_trans U.le k,λr hr'=>?_,U.ap⟩
  have:=U.ok r hr'
  obtain ⟨o,l⟩:=r
  cases o with
  |any=>exact this
  |full=>exact this
  |tok t=>exact ⟨this.1,k.2 _ _ this.2⟩
theorem Cx.qs {l new:List Int} {Q:V->St->Prop} (hc:Cx st0 b s st rows) (hb:l.length+new.length<=1000000000) (k:∀U st',Cx st0 b s st' rows->Q (.slice 1 (ints (l++new)) U) st'):Ag 1 8 (ints l) .full (ints new) st Q:=
 Lw (own:=.full) trivial hb λU ho=>k U _ (hc.mono (AA.Bi ho))
theorem oF (U:Cx st0 b s st rows) (e:Bp s k x=true) (hk:k≠0/\k≠21) (kk:∀st',Cx st0 b (Ac s).2.1 st' rows->K (.ret (E7 (Ac s).1)) st'):PC 186 [.ptr b 0] st K:=
 UC U.has U.hb (λ_ st' hu=>kk st' (U.NV hu (Nat.le_of_lt (Eh e hk.1 hk.2)))) (λn=>absurd (GX e hk.1) n)
theorem Pq {Q:List V->Prop} (h:Has st b s) (k1:Q (CF s)) (U:∀t u o1 o2 e,Q (VM s t u o1 o2 e)):∃cs,st.box b=some cs/\Q cs:=by
 rcases h with e|⟨t,u,o1,o2,e0,e⟩
 .exact ⟨_,e,k1⟩
 .exact ⟨_,e,U ..⟩
theorem Kw {own:AA} (h:K (.ret (enc (Az k l))) st):PC 268 [.int .i64 k,.slice 6 (l.map AB) own] st K:=by
 refine pB Tryz.func268 ?_
 repeat' ((conv=>whnf);(first|  fail)<;>intros)
 all_goals exact DK (St.le_refl _) BV h
theorem kV {a:Nd} {own:AA} (h:K (.ret (enc (Az k [a]))) st):PC 268 [.int .i64 k,.slice 6 [AB a] own] st K:=Kw (l:=[a]) h
theorem kW {a b:Nd} {own:AA} (h:K (.ret (enc (Az k [a,b]))) st):PC 268 [.int .i64 k,.slice 6 [AB a,AB b] own] st K:=Kw (l:=[a,b]) h
theorem kX {a b c:Nd} {own:AA} (h:K (.ret (enc (Az k [a,b,c]))) st):PC 268 [.int .i64 k,.slice 6 [AB a,AB b,AB c] own] st K:=Kw (l:=[a,b,c]) h
theorem kY {a b c d:Nd} {own:AA} (h:K (.ret (enc (Az k [a,b,c,d]))) st):PC 268 [.int .i64 k,.slice 6 [AB a,AB b,AB c,AB d] own] st K:=Kw (l:=[a,b,c,d]) h
theorem XK (hc:Cx st0 b s st rows) (U:∀st',Cx st0 b s st' rows->K (.ret (.bool (Bp s 15 x))) st'):PC 266 [pv b d,.str x] st K:=by
 refine pB Tryz.func266 ?_
 repeat' ((conv=>whnf);(first|  refine Dh ?_ ?_|refine mY ‹_› ?_)<;>intros)
 all_goals conv=>whnf
 all_goals exact Au (U _ ‹_›) ‹_›
theorem XJ (U:Cx st0 b s st rows) (e:Bp s 15 x=true) (kk:∀st',Cx st0 b s st' rows->K (.ret (.bool true)) st'):PC 266 [pv b d,.str x] st K:=XK U (by rw [e];exact kk)
theorem bL (U:Cx st0 b s st rows) (e:Bp s 15 x=false) (kk:∀st',Cx st0 b s st' rows->K (.ret (.bool false)) st'):PC 266 [pv b d,.str x] st K:=XK U (by rw [e];exact kk)
theorem oS {Q:Prop} (U:Cx st0 b s st rows) (h:if Bp s 15 x=true then P else Q) (k1:∀st',Cx st0 b s st' rows->Bp s 15 x=true->P->K (.ret (.bool true)) st') (k2:∀st',Cx st0 b s st' rows->Bp s 15 x=false->Q->K (.ret (.bool false)) st'):
 PC 266 [pv b d,.str x] st K:=by
 cases e:Bp s 15 x with
 |true=>exact XJ U e λst' c=>k1 st' c e (by rw [if_pos e] at h;exact h)
 |false=>exact bL U e λst' c=>k2 st' c e (by rw [if_neg (by rw [e];decide)] at h;exact h)
theorem oM (k:K (.BK (fault Hl.1)) st):PC 274 [pv b d,.bool false] st K:=by
 refine pB Tryz.func274 ?_
 repeat' ((conv=>whnf);(first|  refine Cf ?_)<;>intros)
 all_goals exact ⟨_,_,.inl rfl,St.le_refl _,k⟩
theorem oN (k:K (.ret (.Bj [])) st):PC 274 [pv b d,.bool true] st K:=by
 refine pB Tryz.func274 ?_
 repeat' ((conv=>whnf);(first|  refine Cf ?_)<;>intros)
 all_goals exact ⟨_,_,.inl rfl,St.le_refl _,k⟩
theorem Dc {Q:Unit->Al->Prop} (h:Rd.wp (Hv c) s Q E) (e:c=true) (k1:Q () s->K (.ret (.Bj [])) st):PC 274 [pv b d,.bool true] st K:=by
 subst e
 unfold Hv at h
 rw [Rd.AF,if_pos rfl,Rd.wp_ret] at h
 exact oN (k1 h)
theorem Db {Q:Unit->Al->Prop} (h:Rd.wp (Hv c) s Q E) (e:c=false) (U:E Hl s->K (.BK (fault Hl.1)) st):PC 274 [pv b d,.bool false] st K:=by
 subst e
 unfold Hv at h
 rw [Rd.AF,if_neg Do,Rd.DP] at h
 exact oM (U h)
def sL (st0:St) (b:Nat) (f:FuncId) (args:List V) (A:Rd Nd):Prop:=∀{s:Al} {st:St} {rows:List (AA×List Nd)} {K:At->St->Prop},Cx st0 b s st rows->
 Rd.wp A s (λv s'=>∀st',Cx st0 b s' st' rows->K (.ret (enc v)) st') (λe s'=>∀st',Cy st0 b s' st' rows->K (.BK (fault e.1)) st')->PC f args st K
theorem AY.z {mk:Nat->List V} (h:AY enc f mk A):sL st0 b f (mk b) A:=h.ap
theorem sL.go (hf:sL st0 b f args A) (U:Cx st0 b s st rows) (h:Rd.wp A s Q E)
 (k:∀v s' st',mu s'<=mu s->Cx st0 b s' st' rows->Q v s'->K (.ret (enc v)) st') (kb:∀e s' st',Cy st0 b s' st' rows->E e s'->K (.BK (fault e.1)) st'):PC f args st K:=
 hf U (Rd.wp_mono h (λv s' r q st' c=>k v s' st' (A.le _ _ _ r) c q) (λe s' _ q st' c=>kb e s' st' c q))
end
theorem Gd (h:P:=by (with_reducible show ∃_,_);first|exact ⟨⟨_,_,_,_⟩,⟨‹_›,Rd.En ‹_› WF,cb,WF⟩,WF,Yl,St.le_refl _⟩|exact BO (Cx.y ‹_›) ‹_›|exact BO (Cx.y (Cx.drop ‹_›)) ‹_›|exact pI ‹_› ‹_› rfl|exact CL ‹_› ‹_› rfl|exact CL ‹_› ‹_› BV|exact CL (Cx.drop ‹_›) ‹_› rfl|exact CL (Cx.drop ‹_›) ‹_› BV|exact BO ‹_› ‹_›|exact BO (Cy.drop ‹_›) ‹_›|exact BO (Cy.drop (Cy.drop ‹_›)) ‹_›|fail):P:=h
theorem RO {A:Prop} (k:A) (h:A->P:=by intro k;(with_reducible show Ag _ _ _ _ _ _ _);first|exact Cx.Fo ‹_› f8 k|exact Cx.Fo (Cx.push ‹_› _) f8 k|fail):P:=h k
theorem ZO {A:Prop} (k:A) (h:A->P:=by intro k;(with_reducible show PC _ _ _ _);first|((with_reducible show PC 149 _ _ _);exact YG ‹_› ‹_› k)|((with_reducible show PC 149 _ _ _);exact hH ‹_› ‹_› k)|((with_reducible show PC 266 _ _ _);exact XJ ‹_› ‹_› k)|((with_reducible show PC 266 _ _ _);exact bL ‹_› ‹_› k)|((with_reducible show PC 112 _ _ _);exact QT ‹_› k)|fail):P:=h k
theorem S5 {A B:Prop} (k:A) (l:B) (h:A->B->P:=by intro k l;(with_reducible show PC _ _ _ _);first|((with_reducible show PC 149 _ _ _);exact gZ ‹_› ‹_› k l)|((with_reducible show PC 266 _ _ _);exact oS ‹_› ‹_› k l)|fail):P:=h k l
theorem RL {A:Prop} (k:A) (h:A->P:=by intro k;(with_reducible show PC _ _ _ _);first|((with_reducible show PC 150 _ _ _);exact UJ ‹_› ‹_› ‹_› Do k)|((with_reducible show PC 150 _ _ _);exact O8 ‹_› ‹_› AC k)|fail):P:=h k
theorem JY {A B:Prop} (k:A) (l:B) (h:A->B->P:=by intro k l;(with_reducible show PC _ _ _ _);first|((with_reducible show PC 150 _ _ _);exact Gy.go ‹_› ‹_› k l)|((with_reducible show PC 153 _ _ _);exact UW.go ‹_› ‹_› k l)|fail):P:=h k l
theorem uu {A:Prop} (k:A) (h:A->P:=by intro k;(with_reducible show PC _ _ _ _);first|((with_reducible show PC 113 _ _ _);exact Sb ‹_› ‹_› k)|fail):P:=h k
theorem RM {A:Prop} (k:A) (h:A->P:=by intro k;(with_reducible show PC _ _ _ _);first|((with_reducible show PC 268 _ _ _);exact kV k)|((with_reducible show PC 268 _ _ _);exact kW k)|((with_reducible show PC 268 _ _ _);exact kX k)|((with_reducible show PC 268 _ _ _);exact kY k)|((with_reducible show PC 268 _ _ _);exact Kw k)|fail):P:=h k
theorem Me {A:Al->Rs} {hle:∀s v s',A s=.inr (v,s')->mu s'<=mu s} (hB:El A) (hf:C1 g (d:Int) A) (h0:d=0->∀s,A s=.inl (2,s)):
 AY enc 110 (λb=>[.ptr b 0,.func g [] [],.int .i64 (d:Int)]) (IQ A hle):=⟨λU h=>Qp (d:=d) rfl hf h0 hB U.mu U.has (Ry hB U h)⟩
theorem PG (U:1<=d) (h:d<=100):Dp (d:Int)=d:=by unfold Dp;split<;>omega
theorem ei {s s':Al} (h:(Gx ks).run s=.inr (n,s')):∃o x c,n=Az 3 [o,x,c]:=by
 unfold Gx at h
 obtain ⟨o,s1,_,h⟩:=Bb h
 obtain ⟨x,s2,_,h⟩:=Bb h
 obtain ⟨c,s3,_,h⟩:=Bb h
 cases h
 exact ⟨o,x,c,rfl⟩
section
variable {st0 st:St} {b d:Nat} {s:Al} {rows:List (AA×List Nd)} {K:At->St->Prop}
attribute [local irreducible] Go.Aw.Ag
theorem kM (U:1<=d) (h:d<=100):AY enc 393 (λb=>[pv b d]) (UK d):=by
 have hi:=Me (hle:=λs v s' h=>Nat.le_of_lt (BC (Bv _) _ _ _ h)) (GF (EP (d - 1))) (by have:=sP (deep:=(d:Int));rw [PG U h] at this;exact this) (λe=>by omega)
 refine ⟨λ{st0 b s st rows K} hc h=>?_⟩
 unfold UK at h
 refine pB Tryz.func393 ?_
 repeat' ((conv=>whnf);(first|  exact Gd|refine Fm.go (by first|exact AY.q) ?_ ?_)<;>intros)
theorem oT (U:1<=d) (h:d<=100):AY enc 273 (λb=>[pv b d]) (lh d):=by
 have hi:=Me (hle:=λs v s' h=>Nat.le_of_lt (ET (BC (Bv _)) _ _ _ h)) (LC (GF (EP (d - 1)))) (by have:=uc (deep:=(d:Int));rw [PG U h] at this;exact this) (λe=>by omega)
 refine ⟨λ{st0 b s st rows K} hc h=>?_⟩
 unfold lh at h
 refine pB Tryz.func273 ?_
 repeat' ((conv=>whnf);(first|  exact Gd|refine Fm.go (by first|exact AY.q) ?_ ?_)<;>intros)
theorem eF (U:1<=d) (h:d<=100):AY enc 276 (λb=>[pv b d]) (UR d):=by
 have hi:=Me (hle:=λs v s' h=>Nat.le_of_lt (FZ (BC (Bv _)) _ _ _ h)) (KX (GF (EP (d - 1)))) (by have:=tM (deep:=(d:Int));rw [PG U h] at this;exact this) (λe=>by omega)
 refine ⟨λ{st0 b s st rows K} hc h=>?_⟩
 unfold UR at h
 refine pB Tryz.func276 ?_
 repeat' ((conv=>whnf);(first|  exact Gd|refine Fm.go (by first|exact AY.q) ?_ ?_)<;>intros)
theorem kS (U:1<=d) (h:d<=100):AY enc 287 (λb=>[pv b d]) (JC d):=by
 have hi:=Me (hle:=λs v s' h=>Nat.le_of_lt (P1 (BC (Bv _)) _ _ _ h)) (Sc (GF (EP (d - 1)))) (by have:=pJ (deep:=(d:Int));rw [PG U h] at this;exact this) (λe=>by omega)
 refine ⟨λ{st0 b s st rows K} hc h=>?_⟩
 unfold JC at h
 refine pB Tryz.func287 ?_
 repeat' ((conv=>whnf);(first|  exact Gd|refine Fm.go (by first|exact AY.q) ?_ ?_)<;>intros)
theorem G7 {own:AA} (U:ks.contains 0=false):AY enc 306 (λb=>[pv b d,.slice 1 (ints ks) own]) (Gx ks):=by
 refine ⟨λ{st0 b s st rows K} hc h=>?_⟩
 simp only [Gx,Rd.wp_seq,Rd.wp_ret] at h
 refine pB Tryz.func306 ?_
 repeat' ((conv=>whnf);(first|exact C4|(refine C5 ?_ ?_ ?_;rotate_left)|refine JY ?_ ?_|exact Gd|refine RM ?_|refine Aq ?_|refine Fm.go (by first|  exact (DM U).a) ?_ ?_|refine AM [1,3,7,9,11,15,17,4,12,18,21,22,24] [1] ?_|fail)<;>intros)
theorem eh {own:AA} (h0:ks.contains 0=false) (U:Cx st0 b s st rows) (h:Rd.wp (Gx ks) s Q E)
 (k:∀o x c s' st',mu s'<=mu s->Cx st0 b s' st' rows->Q (Az 3 [o,x,c]) s'->K (.ret (enc (Az 3 [o,x,c]))) st') (kb:∀e s' st',Cy st0 b s' st' rows->E e s'->K (.BK (fault e.1)) st'):PC 306 [pv b d,.slice 1 (ints ks) own] st K:=
 (G7 h0).go U h (λn s1 st1 hr hm U h=>by obtain ⟨o,x,c,rfl⟩:=ei hr;exact k o x c s1 st1 hm U h) kb
theorem NT:AY enc 286 (λb=>[pv b d]) Rj:=by
 refine ⟨λ{st0 b s st rows K} hc h=>?_⟩
 simp only [Rj,Rd.Ap,Rd.AF,Rd.wp_seq,Rd.wp_ret,Rd.GK] at h
 have U:=hc.mu
 refine pB Tryz.func286 ?_
 repeat' ((conv=>whnf);(first|refine Fx ‹_› ?_ ?_|refine BM ?_|refine S5 ?_ ?_|refine Cf ?_|exact Gd|refine Fm.go (by first|  exact (DM (ks:=[1]) rfl).a) ?_ ?_|refine Pq (Cx.has ‹_›) ?_ ?_|refine eh (ks:=[5,6]) rfl ‹_› ‹_› ?_ ?_|refine Wm (ks:=[_,_,_]) rfl AC ?_|refine FU ‹_› U ?_|refine Cf ?_)<;>intros)
theorem RA:AY enc 307 (λb=>[pv b d]) T8:=by
 refine ⟨λ{st0 b s st rows K} U h=>?_⟩
 simp only [T8,Rd.Ap,Rd.AF] at h
 refine pB Tryz.func307 ?_
 repeat' ((conv=>whnf);(first|refine BM ?_|refine S5 ?_ ?_|exact Gd|refine Fm.go (by first|  exact (DM (ks:=[1,2]) rfl).a|exact (G7 (ks:=[5,6]) rfl).a) ?_ ?_)<;>intros)
end
structure qh (f:FuncId) (mk:Nat->V->List V) (A:List Nd->Rd (List Nd×Nd)):Prop where
 ap:∀{st0:St} {b:Nat} {s:Al} {st:St} {rows:List (AA×List Nd)} {K:At->St->Prop} {own:AA} {l:List Nd},l.length<=90000000->Cx st0 b s st ((own,l)::rows)->
 Rd.wp (A l) s (λp s'=>∀own' st',Cx st0 b s' st' ((own',p.1++[p.2])::rows)->K (.ret (.slice 6 ((p.1++[p.2]).map AB) own')) st') (λe s'=>∀st',Cy st0 b s' st' rows->K (.BK (fault e.1)) st')->PC f (mk b (.slice 6 (l.map AB) own)) st K
theorem qh.go {A:List Nd->Rd (List Nd×Nd)} {b:Nat} {s:Al} {st:St} {Q:List Nd×Nd->Al->Prop} {own:AA} (hf:qh f mk A) (hl:l.length<=90000000) (hc:Cx st0 b s st ((own,l)::rows)) (h:Rd.wp (A l) s Q E)
 (k:∀l' x U s' st',(A l).run s=.inr ((l',x),s')->mu s'<=mu s->Cx st0 b s' st' ((U,l'++[x])::rows)->Q (l',x) s'->K (.ret (.slice 6 ((l'++[x]).map AB) U)) st') (kb:∀e s' st',Cy st0 b s' st' rows->E e s'->K (.BK (fault e.1)) st'):PC f (mk b (.slice 6 (l.map AB) own)) st K:=
 hf.ap hl hc (Rd.wp_mono h (λv s' r q own st' c=>k v.1 v.2 own s' st' r ((A l).le _ _ _ r) c q) (λe s' _ q st' c=>kb e s' st' c q))
theorem DT {x:Nd} {Q:List V->Prop} (k:Q (AB x)):0<=(((l++[x]).length:Nat):Int) - 1/\∃e,((l++[x]).map AB)[((((l++[x]).length:Nat):Int) - 1).toNat]? =some e/\Q e:=
 ⟨by rw [List.length_append];show (0:Int)<=((l.length+1:Nat):Int) - 1;omega,AB x,by
   rw [show ((((l++[x]).length:Nat):Int) - 1).toNat=l.length by rw [List.length_append];show (((l.length+1:Nat):Int) - 1).toNat=_;omega,List.map_append,List.getElem?_append_right (by rw [List.length_map];exact Nat.le_refl _),List.length_map,Nat.sub_self]
   rfl,k⟩
theorem Ia {R:Rd Nd} {p:List Nd×Nd} {s s':Al} (h:(KH R l).run s=.inr (p,s')):p.1.length<=l.length+2:=by
 unfold KH at h
 obtain ⟨r,s1,_,h⟩:=Bb h
 replace h:(if Bp s1 10 [61,62]=true then Rd.seq AO λa=>.seq R λq=>.ret (l++[r]++[a],q) else .ret (l,r):Rd (List Nd×Nd)).run s1=.inr (p,s'):=h
 split at h
 .obtain ⟨a,s2,_,h⟩:=Bb h
  obtain ⟨q,s3,_,h⟩:=Bb h
  cases h
  simp
 .cases h;exact Nat.le_add_right _ _
section
variable {st0 st:St} {b d:Nat} {s:Al} {rows:List (AA×List Nd)} {K:At->St->Prop} {A B R W F D E:Rd Nd}
attribute [local irreducible] Go.Aw.Ag
theorem MW (hr:AY enc 273 (λb=>[pv b d]) R):qh 277 (λb v=>[pv b d,v]) (KH R):=by
 refine ⟨λ{st0 b s st rows K own l} hl U h=>?_⟩
 simp only [KH,Rd.Ap,Rd.AF,Rd.wp_seq,Rd.wp_ret] at h
 have hmu:=U.mu
 refine pB Tryz.func277 ?_
 repeat' ((conv=>whnf);(first|refine BM ?_|refine S5 ?_ ?_|refine RL ?_|exact Gd|refine RO ?_|refine Fm.go (by first|exact AY.q|exact ‹_›.a) ?_ ?_)<;>intros)
theorem DF {own:AA} (h:K (.ret (.bool (DB n ks))) st):PC 281 [enc n,.slice 1 (ints ks) own] st K:=by
 refine pB Tryz.func281 ?_
 repeat' ((conv=>whnf);(first|  refine Dh ?_ ?_|refine N3 ?_)<;>intros)
 all_goals conv=>whnf
 all_goals (refine Au h ?_;clear h;simp_all [DB])
theorem RD (U:AY enc 393 (λb=>[pv b d]) A):AY enc 361 (λb=>[pv b d]) (MR A):=by
 refine ⟨λ{st0 b s st rows K} hc h=>?_⟩
 simp only [MR,Rd.wp_seq,Rd.wp_ret] at h
 refine pB Tryz.func361 ?_
 repeat' ((conv=>whnf);(first|exact C4|(refine C5 ?_ ?_ ?_;rotate_left)|refine JY ?_ ?_|exact Gd|refine RM ?_|refine Aq ?_|refine Fm.go (by first|exact AY.q) ?_ ?_|refine AM [1,3,7,4,8,11,12,14] [1] ?_|fail)<;>intros)
theorem oL (U:Cx st0 b s st rows) (h:∀st',Cx st0 b s st' rows->K (.ret (.bool (UQ (Ac s).1))) st'):PC 360 [pv b d] st K:=by
 refine pB Tryz.func360 ?_
 repeat' ((conv=>whnf);(first|  refine Dh ?_ ?_|refine ZO ?_|fail)<;>intros)
 all_goals conv=>whnf
 all_goals (refine Au (h _ ‹_›) ?_;clear h;simp_all [UQ])
theorem MX (h:K (.ret (.bool (GZ n))) st):PC 320 [enc n] st K:=by
 refine pB Tryz.func320 ?_
 repeat' ((conv=>whnf);(first|refine BM ?_|refine Dh ?_ ?_|refine DF (ks:=[2]) ?_|refine DF (ks:=[6]) ?_)<;>intros)
 all_goals conv=>whnf
 all_goals (refine Au h ?_;clear h;simp_all [GZ])
theorem eE {t:Tk} (h:K (.ret (.bool (bK t))) st):PC 190 [E7 t] st K:=by
 refine pB Tryz.func190 ?_
 repeat' ((conv=>whnf);(first|  refine Dh ?_ ?_|refine LD ?_|refine TH ?_)<;>intros)
 all_goals conv=>whnf
 all_goals (refine Au h ?_;clear h;simp_all [bK])
theorem lg (ha:AY enc 393 (λb=>[pv b d]) A):AY enc 359 (λb=>[pv b d]) (JS A):=by
 refine ⟨λ{st0 b s st rows K} hc h=>?_⟩
 simp only [JS,Rd.Ap,Rd.AF] at h
 have U:=hc.mu
 refine pB Tryz.func359 ?_
 repeat' ((conv=>whnf);(first|refine BM ?_|refine Fq ?_ ?_|refine ZO ?_|refine S5 ?_ ?_|exact Gd|refine Fm.go (by first|exact AY.q|exact (RD ha).a|exact (G7 (ks:=[6]) rfl).a) ?_ ?_|refine Pq (Cx.has ‹_›) ?_ ?_|refine oF ‹_› ‹_› Do ?_|refine FU ‹_› U ?_)<;>intros)
theorem lf:AY enc 323 (λb=>[pv b d]) ZC:=by
 refine ⟨λ{st0 b s st rows K} hc h=>?_⟩
 simp only [ZC,Rd.Ap,Rd.AF,Rd.wp_seq,Rd.wp_ret,Rd.GK] at h
 have hmu:=hc.mu
 refine AP Ab [] Tryz.func323 rfl Do rfl ?_
 refine Af (Ae Ab ?_)
 repeat' ((conv=>whnf);(first|exact C4|(refine C5 ?_ ?_ ?_;rotate_left)|fail)<;>intros)
 refine Af (Ae Ab ?_)
 repeat' ((conv=>whnf);first|refine Fx h (λe h=>?_) (λe h=>?_)|exact C4|(refine C5 ?_ ?_ ?_;rotate_left)|(refine ZO ?_;intro U hc)|(refine RL ?_;intro s1 U hz hm hc h)|(refine JY ?_ ?_<;>(first|intro n s1 U hr hm hc h|intro e s1 U hc h))|refine Cf ?_|exact Gd|refine RM ?_|refine Aq (λe1=>?_)|fail)
 refine Af (Ae Ab ?_)
 repeat' ((conv=>whnf);first|exact C4|(refine C5 ?_ ?_ ?_;rotate_left)|(refine ZO ?_;intro U hc)|(refine RL ?_;intro s1 U hz hm hc h)|(refine JY ?_ ?_<;>(first|intro n s1 U hr hm hc h|intro e s1 U hc h))|refine Cf ?_|exact Gd|refine RM ?_|refine Aq (λe1=>?_)|refine Pq hc.has ?_ (λt u o1 o2 e=>?_)|fail)
 all_goals refine Af (Ae Ab ?_)
 all_goals (repeat' ((conv=>whnf);first|exact C4|(refine C5 ?_ ?_ ?_;rotate_left)|(refine ZO ?_;intro U hc)|(refine RL ?_;intro s1 U hz hm hc h)|(refine JY ?_ ?_<;>(first|intro n s1 U hr hm hc h|intro e s1 U hc h))|refine Cf ?_|exact Gd|refine RM ?_|refine Aq (λe1=>?_)|fail))
 all_goals refine Af (M5 Ab (A2 _) (λ_ _ _ _ _ h k=>k.mono h) 10 5 [(0,true),(1,true),(2,true),(3,true),(5,true),(6,true),(4,false),(7,false),(8,true),(9,false)] [] rfl rfl rfl EQ EQ rfl rfl rfl (Nat.le_of_ble_eq_true rfl) rfl ?_)
 all_goals (repeat' ((conv=>whnf);first|exact C4|(refine C5 ?_ ?_ ?_;rotate_left)|(refine ZO ?_;intro U hc)|(refine RL ?_;intro s1 U hz hm hc h)|(refine JY ?_ ?_<;>(first|intro n s1 U hr hm hc h|intro e s1 U hc h))|refine Cf ?_|exact Gd|refine RM ?_|refine Aq (λe1=>?_)|refine AY.go (DM (ks:=[1,2,3,4]) rfl) hc h (λn s1 U hr hm hc h=>?_) (λe s1 U hc h=>?_)|fail|fail))
 all_goals refine Ae Ab ?_
 all_goals (repeat' ((conv=>whnf);first|refine Fx h (λe h=>?_) (λe h=>?_)|exact C4|(refine C5 ?_ ?_ ?_;rotate_left)|(refine ZO ?_;intro U hc)|(refine RL ?_;intro s1 U hz hm hc h)|(refine JY ?_ ?_<;>(first|intro n s1 U hr hm hc h|intro e s1 U hc h))|refine Cf ?_|exact Gd|refine RM ?_|refine Aq (λe1=>?_)|refine Wm (ks:=[_,_,_]) rfl AC ?_|refine FU hc hmu (λU hc=>?_)|refine Cf ?_|fail|fail))
structure X0 (f:FuncId) (mk:Nat->V->List V) (A:List Nd->Rd Nd):Prop where
 ap:∀{st0:St} {b:Nat} {s:Al} {st:St} {rows:List (AA×List Nd)} {K:At->St->Prop} {own:AA} {l:List Nd},l.length<=900000000->Cx st0 b s st ((own,l)::rows)->
 Rd.wp (A l) s (λv s'=>∀st',Cx st0 b s' st' rows->K (.ret (enc v)) st') (λe s'=>∀st',Cy st0 b s' st' rows->K (.BK (fault e.1)) st')->PC f (mk b (.slice 6 (l.map AB) own)) st K
theorem X0.go {A:List Nd->Rd Nd} {b:Nat} {s:Al} {st:St} {E:Er->Al->Prop} {own:AA} (hf:X0 f mk A) (hl:l.length<=900000000) (U:Cx st0 b s st ((own,l)::rows)) (h:Rd.wp (A l) s Q E)
 (k:∀v s' st',(A l).run s=.inr (v,s')->mu s'<=mu s->Cx st0 b s' st' rows->Q v s'->K (.ret (enc v)) st') (kb:∀e s' st',Cy st0 b s' st' rows->E e s'->K (.BK (fault e.1)) st'):PC f (mk b (.slice 6 (l.map AB) own)) st K:=
 hf.ap hl U (Rd.wp_mono h (λv s' r q st' c=>k v s' st' r ((A l).le _ _ _ r) c q) (λe s' _ q st' c=>kb e s' st' c q))
theorem Ov (hd:AY enc 324 (λb=>[pv b d]) J8):X0 279 (λb v=>[pv b d,.int .i64 k,v]) (LV k):=by
 refine ⟨λ{st0 b s st rows K own l} hl U h=>?_⟩
 simp only [LV,Rd.Ap,Rd.AF,Rd.wp_seq,Rd.wp_ret] at h
 have hmu:=U.mu
 refine pB Tryz.func279 ?_
 repeat' ((conv=>whnf);(first|refine BM ?_|refine S5 ?_ ?_|exact Gd|refine RM ?_|refine RO ?_|refine Fm.go (by first|exact AY.q) ?_ ?_)<;>intros)
theorem XM (hr:AY enc 273 (λb=>[pv b d]) R) (hw:AY enc 276 (λb=>[pv b d]) W) (hs:∀{n:Nd} {st:St} {K:At->St->Prop},K (.ret (.bool (Ed n))) st->PC 275 [enc n] st K):
 AY enc 228 (λb=>[pv b d]) (MS R W):=by
 refine ⟨λ{st0 b s st rows K} U h=>?_⟩
 simp only [MS,Rd.wp_seq,Rd.wp_ret] at h
 have hmu:=U.mu
 refine pB Tryz.func228 ?_
 repeat' ((conv=>whnf);(first|exact C4|(refine C5 ?_ ?_ ?_;rotate_left)|refine Dh ?_ ?_|refine JY ?_ ?_|exact Gd|refine RM ?_|refine RO ?_|refine Aq ?_|refine Fm.go (by first|exact AY.q|exact ‹_›.a) ?_ ?_|refine hs ?_|refine Dc ‹_› ‹_› ?_|refine Db ‹_› ‹_› ?_|refine X9 AC rfl ?_|refine Cx.Fo (l:=[_,_]) (Cx.push ‹_› _) (Nat.le_of_ble_eq_true rfl) ?_|refine AM [1,3,7,4,8,11,13] [] ?_|refine Ad 6 [4,5] [] ?_|fail)<;>intros)
end
theorem Rd.dk {σ β:Type} {body:σ->Rd (Sum σ β)} {I:σ->Prop} {P:β->Prop} (h1:∀x s x' s',I x->(body x).run s=.inr (.inl x',s')->I x') (h2:∀x s y s',I x->(body x).run s=.inr (.inr y,s')->P y) (x:σ) (s:Al) (hx:I x):∀y s',(Rd.loop body x).run s=.inr (y,s')->P y:=by
 show ∀y s',Rd.iter body x s=.inr (y,s')->P y
 fun_induction Rd.iter body x s with
 |case1 x s e h=>intro y s' U;cases U
 |case2 x s y s1 h=>intro y s' U;cases U;exact h2 _ _ _ _ hx h
 |case3 x s x' s1 h hlt ih=>exact ih (h1 _ _ _ _ hx h)
 |case4 x s x' s1 h hlt=>intro y s' U;cases U
theorem WW {s s':Al} (h:(NB A).run s=.inr (l,s')):l≠[]:=by
 unfold NB at h
 obtain ⟨n,s1,_,h⟩:=Bb h
 refine Rd.dk (body:=Zf A) (I:=λl=>l≠[]) (P:=λl=>l≠[]) (λx s x' s' U h=>?_) (λx s y s' U h=>?_) [n] s1 GT l s' h
 all_goals replace h:(if UQ (Ac s).1=true then Rd.seq (JS A) λn=>.ret (.inl (x++[n])) else .ret (.inr x):Rd (Sum (List Nd) (List Nd))).run s=.inr (_,s'):=h
 all_goals split at h
 .obtain ⟨n,s2,_,h⟩:=Bb h;cases h;simp
 .cases h
 .obtain ⟨n,s2,_,h⟩:=Bb h;cases h
 .cases h;exact U
theorem mX {s:Al} (h:Bp s k x=true) (U:k≠21):(Ac s).1.kind≠21:=λe=>by
 unfold Bp at h
 rw [e] at h
 simp only [Bool.and_eq_true,beq_iff_eq] at h
 exact U h.1.symm
theorem Yt (U:Rd.A7 A):Rd.A7 (JS A):=Rd.A7.look λs v s' h=>by
 split at h
 .rename_i hi
  exact Rd.A7.at (λ_ _ e=>G6 e (mX hi Do)) h
 split at h
 .split at h
  .exact Rd.A7.seq (K1 Do) s v s' h
  .exact U _ _ _ h
 .exact U _ _ _ h
theorem pL (h:l≠[]):∃x,l[((0:Int)).toNat]? =some x/\l.headD Kj=x:=by
 cases l with
 |nil=>exact absurd rfl h
 |cons x r=>exact ⟨x,rfl,rfl⟩
section
variable {st0 st:St} {b d:Nat} {s:Al} {rows:List (AA×List Nd)} {K:At->St->Prop} {A B R W F D E:Rd Nd}
attribute [local irreducible] Go.Aw.Ag
abbrev jU (l:List Nd) (own:AA):V:=.slice 6 (l.map AB) own
theorem SU (hA:Rd.A7 A) (hp:AY enc 359 (λb=>[pv b d]) (JS A)):lD jU (λl=>l) 319 (λb=>[pv b d]) (NB A):=by
 refine ⟨λ{st0 b s st rows K} U h=>?_⟩
 simp only [NB,Rd.wp_seq] at h
 have hmu:=U.mu
 refine pB Tryz.func319 ?_
 repeat' ((conv=>whnf);(first|  refine Fq ?_ ?_|exact Gd|refine RO ?_|refine Fm.go (by first|exact AY.q) ?_ ?_)<;>intros)
 refine Cn (λl own=>[(3,.slice 6 (l.map AB) own)]) (λ_ _=>[]) [1] [0] (λl own=>(own,l)::rows) (λl=>l.length) .full (Cx.push ‹_› _) ‹_› (by show 1+_<=_;omega) Yl ?_
 intro l s1 st1 own1 U h hl hm1
 simp only [Zf,Rd.Ap,Rd.AF,Rd.wp_seq,Rd.wp_ret,Rd.Bu] at h
 repeat' ((conv=>whnf);(first|  refine Fq ?_ ?_|exact Gd|refine RO ?_|refine oL ‹_› ?_|refine AY.pK (hp) (Yt hA) ‹_› ‹_› ?_ ?_)<;>intros)
theorem Iu {item:Rd Nd} {fs:List V} {own:AA} {Q:List Nd->Al->Prop} {E:Er->Al->Prop} (hi:sL st0 b g (fs++cs) item) (hl:l.length<=90000000) (hc:Cx st0 b s st ((own,l)::rows)) (h:Rd.wp (Hi item x l) s Q E)
 (k:∀l' U s' st',mu s'<=mu s->Cx st0 b s' st' ((U,l')::rows)->Q l' s'->K (.ret (.slice 6 (l'.map AB) U)) st') (kb:∀e s' st',Cy st0 b s' st' rows->E e s'->K (.BK (fault e.1)) st'):
 PC 285 [pv b d,.slice 6 (l.map AB) own,.str x,.func g fs cs] st K:=by
 replace h:=Rd.wp_mono (Q':=λl' s'=>∀U st',Cx st0 b s' st' ((U,l')::rows)->K (.ret (.slice 6 (l'.map AB) U)) st') (E':=λe s'=>∀st',Cy st0 b s' st' rows->K (.BK (fault e.1)) st') h (λv s' r q own st' c=>k v own s' st' ((Hi item x l).le _ _ _ r) c q) (λe s' _ q st' c=>kb e s' st' c q)
 clear k kb
 simp only [Hi,Rd.wp_seq,Rd.wp_ret] at h
 have hmu:=hc.mu
 refine pB Tryz.func285 ?_
 repeat' ((conv=>whnf);(first|refine BM ?_|fail)<;>intros)
 refine Cn (x0:=(true,l)) (λ(p:Bool×List Nd) own=>[(9,.bool p.1),(1,.slice 6 (p.2.map AB) own)]) (λ_ _=>[]) [2,3,4] [0] (λp own=>(own,p.2)::rows) (λp=>p.2.length) own ‹_› ‹_› So Yl ?_
 intro p s1 st1 own1 hc h hl hm1
 obtain ⟨f,l⟩:=p
 dsimp only at hc hl
 simp only [fS,Rd.Ap,Rd.AF,Rd.wp_seq,Rd.wp_ret,Rd.Bu] at h
 cases f
 all_goals simp only [Bool.false_eq_true,if_false,if_true] at h
 all_goals (repeat' ((conv=>whnf);first|(refine BM ?_;intros)|exact ⟨⟨(false,_),_,_,_⟩,⟨hc,Rd.En h WF,cb,WF⟩,WF,Yl,St.le_refl _⟩|(refine S5 ?_ ?_<;>intro st1 hc e h)|(refine RL ?_;intro s1 st1 hz hm hc h)|(refine JY ?_ ?_<;>(first|intro n s1 st1 hr hm hc h|intro e s1 st1 hc h))|exact Gd|(refine RO ?_;intro own1 st1 hc)|refine Qf ?_|refine sL.go hi hc h (λn s1 st1 hm hc h=>?_) (λe s1 st1 hc h=>?_)))
end
theorem cr {W:Rd Nd} {s s':Al} (h:(IB A W).run s=.inr (n,s')):n.kids≠[]:=by
 have hB:∀{l:List Nd} {s:Al},l≠[]->(LR A l).run s=.inr (n,s')->n.kids≠[]:=λ{l s} hl h=>by
  have hC:(J4 A l).run s=.inr (n,s')->n.kids≠[]:=λh=>by
   obtain ⟨a,s1,_,h⟩:=Bb h
   obtain ⟨o,s2,_,h⟩:=Bb h
   obtain ⟨r,s3,_,h⟩:=Bb h
   obtain ⟨c,s4,_,h⟩:=Bb h
   cases h;simp [Az,Nd.kids]
  replace h:(if ((Ac s).1.kind==6)=true then J4 A l else if Bp s 15 [96]=true then J4 A l else .seq (Hv (GZ (l.headD Kj))) λ_=>.ret (Az 48 l):Rd Nd).run s=.inr (n,s'):=h
  split at h
  .exact hC h
  .split at h
   .exact hC h
   .obtain ⟨a,s1,_,h⟩:=Bb h
    cases h;exact hl
 obtain ⟨l,s1,h1,h⟩:=Bb h
 have hl:=WW h1
 split at h
 .replace h:(if Bp s1 15 [123]=true then Rd.seq AO λo=>.seq (Hi (MV A W) [125] (l++[o])) λl=>.ret (Az 48 l) else LR A l:Rd Nd).run s1=.inr (n,s'):=h
  split at h
  .obtain ⟨o,s2,_,h⟩:=Bb h
   obtain ⟨l2,s3,U,h⟩:=Bb h
   obtain ⟨l3,s4,_,U⟩:=Bb U
   obtain ⟨c,s5,_,U⟩:=Bb U
   cases U;cases h
   simp [Az,Nd.kids]
  .exact hB hl h
 .exact hB hl h
section
variable {st0 st:St} {b d c:Nat} {s:Al} {rows:List (AA×List Nd)} {K:At->St->Prop} {A B R W F D E:Rd Nd}
attribute [local irreducible] Go.Aw.Ag
theorem ez (hs:AY enc 361 (λb=>[pv b d]) (MR A)) (hw:AY enc 276 (λb=>[pv b d]) W):AY enc 321 (λb=>[pv b d]) (MV A W):=by
 refine ⟨λ{st0 b s st rows K} U h=>?_⟩
 simp only [MV,Rd.Ap,Rd.AF,Rd.wp_seq,Rd.wp_ret] at h
 have hmu:=U.mu
 refine pB Tryz.func321 ?_
 repeat' ((conv=>whnf);(first|refine BM ?_|refine S5 ?_ ?_|refine RL ?_|refine JY ?_ ?_|exact Gd|refine RM ?_|refine RO ?_|refine Fm.go (by first|exact AY.q|exact NT.a) ?_ ?_)<;>intros)
 refine Cn (λl own=>[(3,.slice 6 (l.map AB) own)]) (λ_ _=>[]) [1,2] [0,1] (λl own=>(own,l)::rows) (λl=>l.length) .full (Cx.push ‹_› _) ‹_› (by show 1+_<=_;omega) Yl ?_
 intro l s1 st1 own1 U h hl hm1
 simp only [gI,Rd.Ap,Rd.AF,Rd.wp_seq,Rd.wp_ret,Rd.Bu] at h
 repeat' ((conv=>whnf);(first|refine BM ?_|refine S5 ?_ ?_|refine RL ?_|refine JY ?_ ?_|exact Gd|refine RM ?_|refine RO ?_|refine Fm.go (by first|exact AY.q|exact NT.a) ?_ ?_)<;>intros)
abbrev tF (b d:Nat):V:=.FY [.ptr b 0,.int .i64 (d:Int)] 0
theorem LX:AY enc 363 (λb=>[tF b d]) (Df [2,4]):=by
 refine ⟨λ{st0 b s st rows K} U h=>?_⟩
 refine pB Tryz.func363 ?_
 repeat' ((conv=>whnf);(first|  exact Gd|refine Fm.go (by first|  exact (DM (ks:=[2,4]) rfl).a) ?_ ?_)<;>intros)
theorem MU:AY enc 324 (λb=>[pv b d]) J8:=by
 refine ⟨λ{st0 b s st rows K} U h=>?_⟩
 simp only [J8,Rd.Ap,Rd.AF,Rd.wp_seq,Rd.wp_ret] at h
 have hmu:=U.mu
 refine AP Ab [] Tryz.func324 rfl Do rfl ?_
 refine Af (Ae Ab ?_)
 repeat' ((conv=>whnf);(first|exact C4|refine BM ?_|(refine C5 ?_ ?_ ?_;rotate_left)|fail)<;>intros)
 refine Af (Ae Ab ?_)
 repeat' ((conv=>whnf);first|exact C4|(refine BM ?_;intros)|(refine C5 ?_ ?_ ?_;rotate_left)|refine Gy.go U h (λo s1 st1 hr hm U h=>?_) (λe s1 st1 U h=>?_)|exact BO U h|fail)
 refine OJ 1 0 rfl rfl rfl ?_
 refine Ae Ab ?_
 repeat' ((conv=>whnf);(first|exact C4|refine BM ?_|(refine C5 ?_ ?_ ?_;rotate_left)|refine S5 ?_ ?_|refine RL ?_|exact Gd|refine RM ?_|refine Aq ?_|refine Fm.go (by first|  exact LX.a) ?_ ?_|refine Iu (l:=[_,_]) (fs:=[]) (cs:=[tF b d]) LX.z (Nat.le_of_ble_eq_true rfl) ‹_› ‹_› ?_ ?_|refine Cx.Fo (l:=[_]) (Cx.push ‹_› [_]) (Nat.le_of_ble_eq_true rfl) ?_|refine AM [1,3,5,7,15,8,11,12,16,18,20] [1] ?_|fail)<;>intros)
theorem su {own:AA} (hf:∀x ∈ l,CJ f p x) (h:K (.ret (.bool (l.any p))) st):PC 327 [.slice 6 (l.map AB) own,.func f [] []] st K:=
 SD (args':=[.slice 6 (Cj l) .any,.func f [] []]) (by rw [<-BI];rfl) (Jf hf h)
theorem oE {x:Nd}:CJ 362 Fj x:=by
 intro st R h
 refine pB Tryz.func362 ?_
 repeat' ((conv=>whnf);(first|  refine Dh ?_ ?_|fail)<;>intros)
 all_goals conv=>whnf
 all_goals (refine Au h ?_;clear h;simp_all [Fj])
theorem oV {own:AA} {E:Er->Al->Prop} (hc:Cx st0 b s st ((own,l)::rows)) (h:Rd.wp (bD l) s Q E)
 (k:∀v st',Cx st0 b s st' rows->Q v s->K (.ret (enc v)) st') (kb:∀e st',Cy st0 b s st' rows->E e s->K (.BK (fault e.1)) st'):PC 322 [pv b d,.slice 6 (l.map AB) own] st K:=by
 refine pB Tryz.func322 ?_
 unfold bD at h
 by_cases U:l.length=1
 .have hn:(l.length:Int)=1:=AC
  obtain ⟨x,rfl⟩:=List.length_eq_one_iff.1 U
  rw [if_pos U,Rd.wp_ret] at h
  have h:=k _ st hc.drop h
  repeat' ((conv=>whnf);(first|exact C4|refine BM ?_|(refine C5 ?_ ?_ ?_;rotate_left)|refine Dh ?_ ?_|refine B5 (l:=[x]) ?_|refine X9 AC rfl ?_|fail)<;>intros)
  all_goals exact Bm rfl h
 .have hn:¬(l.length:Int)=1:=AC
  rw [if_neg U,Rd.wp_seq] at h
  simp only [Rd.wp_ret] at h
  repeat' ((conv=>whnf);first|exact C4|(refine BM ?_;intros)|(refine C5 ?_ ?_ ?_;rotate_left)|(refine Dh ?_ ?_<;>intro _)|refine B5 (l:=l) (λ_=>?_)|refine su (l:=l) (λx hx=>oE) ?_|refine Dc h (by simp only [show l.any Fj=false by assumption,Bool.not_false]) (λh=>?_)|refine Db h (by simp only [show l.any Fj=true by assumption,Bool.not_true]) (λh=>?_)|refine Kw (l:=l) ?_|exact Bm rfl (k _ _ hc.drop h)|exact λe'=>⟨_,_,.inl rfl,St.le_refl _,kb _ _ hc.drop.y h⟩|refine Ad 5 [2,4] [] ?_|fail)
theorem ZA (hA:Rd.A7 A) (hp:AY enc 359 (λb=>[pv b d]) (JS A)) (hf:AY enc 321 (λb=>[pv b d]) (MV A W)):AY enc 278 (λb=>[pv b d]) (IB A W):=by
 refine ⟨λ{st0 b s st rows K} hc h=>?_⟩
 have hmu:=hc.mu
 simp only [IB,LR,J4,Rd.Ap,Rd.AF,Rd.wp_seq,Rd.wp_ret] at h
 refine AP Ab [] Tryz.func278 rfl Do rfl ?_
 refine Af (Ae Ab ?_)
 repeat' ((conv=>whnf);(first|exact C4|refine BM ?_|(refine C5 ?_ ?_ ?_;rotate_left)|refine Dh ?_ ?_|fail)<;>intros)
 refine Af (Ae Ab ?_)
 repeat' ((conv=>whnf);first|exact C4|(refine BM ?_;intros)|(refine C5 ?_ ?_ ?_;rotate_left)|(refine Dh ?_ ?_<;>intro _)|refine lD.go (SU hA hp) hc h (λl own1 s1 st1 hr hm hc h=>?_) (λe s1 st1 hc h=>?_)|exact BO hc h|fail)
 obtain ⟨x,hx,hd⟩:=pL (WW hr)
 rw [hd] at h
 refine Ae Ab ?_
 have e2:(l.length==1)=true↔(l.length:Int)=1:=by rw [beq_iff_eq];omega
 have hB:((l.length:Int)=1/\GZ x=true/\Bp s1 15 [123]=true)\/((l.length:Int)=1/\GZ x=true/\Bp s1 15 [123]=false)\/((l.length:Int)=1/\GZ x=false)\/¬((l.length:Int)=1):=by
  by_cases e:(l.length:Int)=1
  .cases GZ x<;>cases Bp s1 15 [123]<;>simp [e]
  .simp [e]
 have e3:¬((l.length:Int)=1)->(l.length==1)=false:=λe=>by
  cases e4:l.length==1 with
  |true=>exact absurd (e2.1 e4) e
  |false=>rfl
 rcases hB with ⟨U,em,eb⟩|hB
 .simp only [e2.2 U,em,eb,Bool.and_self,if_true] at h
  repeat' ((conv=>whnf);(first|exact C4|refine BM ?_|(refine C5 ?_ ?_ ?_;rotate_left)|refine Dh ?_ ?_|refine ZO ?_|refine RL ?_|exact Gd|refine RM ?_|refine RO ?_|refine B5 ?_|refine Aq ?_|refine B5 (l:=l) ?_|refine Vq (es:=l.map AB) (x:=AB x) (by rw [List.getElem?_map,hx]<;>rfl) AC ?_|refine MX ?_|refine Iu (l:=l++[_]) (fs:=[pv b d]) (cs:=[]) hf.z RK ‹_› ‹_› ?_ ?_|refine AM [1,3,5,7,15,17,8,11,12,18,20,22] [1] ?_|refine Ad 6 [4,5] [] ?_|refine Ad 9 [4,5,7,8] [1] ?_|fail)<;>intros)
 cases e6:((Ac s1).1.kind==6)
 all_goals cases e9:Bp s1 15 [96]
 all_goals (simp only [e6,e9,if_true,Bool.false_eq_true,if_false] at h)
 all_goals rcases hB with ⟨U,em,eb⟩|⟨U,em⟩|U
 all_goals first
  |simp only [e2.2 U,em,eb,Bool.and_self,Bool.true_and,Bool.false_eq_true,if_true,if_false] at h
  |simp only [e2.2 U,em,Bool.true_and,Bool.false_eq_true,if_false] at h
  |simp only [e3 U,Bool.false_and,Bool.false_eq_true,if_false] at h
 all_goals (repeat' ((conv=>whnf);(first|exact C4|refine BM ?_|(refine C5 ?_ ?_ ?_;rotate_left)|refine Dh ?_ ?_|refine ZO ?_|refine RL ?_|exact Gd|refine RM ?_|refine RO ?_|refine B5 ?_|refine Aq ?_|refine B5 (l:=l) ?_|refine Vq (es:=l.map AB) (x:=AB x) (by rw [List.getElem?_map,hx]<;>rfl) AC ?_|refine MX ?_|refine oV ‹_› ‹_› ?_ ?_|refine Fm.go (by first|  exact lf.a) ?_ ?_|refine lD.go (SU hA hp) ‹_› ‹_› ?_ ?_|refine Dc ‹_› ‹_› ?_|refine Db ‹_› ‹_› ?_|refine Dc ‹_› rfl ?_|refine Db ‹_› rfl ?_|refine AM [1,3,5,7,15,17,8,11,12,18,20,22] [1] ?_|refine Ad 6 [4,5] [] ?_|refine Ad 9 [4,5,7,8] [1] ?_|fail)<;>intros))
end
def Rf (n:Nd):Nat->Bool
 |0=>Ed n
 |k+1=>(n.kids.drop (k+1)).all (DB · [1])
theorem UA {k:Nat}:Rf n (k+1)=(n.kids.drop (k+1)).all (DB · [1]):=rfl
theorem ak {x:Nd} {K:Int->Prop} (h:l.length<=90000000) (k:K (((l++[x]).length:Int) - 1)):∃r,r=IntKind.i64.wrap (((l++[x]).length:Int) - 1)/\K r:=
 Wq (by rw [List.length_append];show _<=((l.length+1:Nat):Int) - 1;omega) (by rw [List.length_append];show ((l.length+1:Nat):Int) - 1<=_;omega) k
theorem mT {R:Rd Nd} {p:List Nd×Nd} {s s':Al} (h:(KH R [n]).run s=.inr (p,s')):p.1.length<=90000000:=Nat.le_trans (Ia h) (Nat.le_of_ble_eq_true rfl)
theorem gT {R:Rd Nd} {p:List Nd×Nd} {s s':Al} {x y z:Nd} (h:(KH R [n]).run s=.inr (p,s')):(p.1++[x]++[y]++[z]).length<=900000000:=by
 have U:p.1.length<=3:=Ia h
 rw [List.length_append,List.length_append,List.length_append]
 show p.1.length+1+1+1<=_
 omega
theorem Vk {k:Nat} {x:Nd} (h:l[k]? =some x):l.drop k=x::l.drop (k+1):=by
 obtain ⟨U,h2⟩:=List.getElem?_eq_some_iff.1 h
 rw [<-h2,List.drop_eq_getElem_cons U]
section
variable {st0 st:St} {b d c:Nat} {s:Al} {rows:List (AA×List Nd)} {K:At->St->Prop} {A B R W F D E:Rd Nd}
attribute [local irreducible] Go.Aw.Ag
theorem NS {st:St} (h:K (.ret (.bool (Ed n))) st):PC 275 [enc n] st K:=by
 refine pB Tryz.func275 ?_
 by_cases hk:n.kind=39
 .skip
  repeat' ((conv=>whnf);(first|refine BM ?_|refine Dh ?_ ?_|fail)<;>intros)
  refine K9 14 [12,13] n.kids.length (λk=>k<=n.kids.length/\Ed n=Rf n k) ⟨Nat.zero_le _,rfl⟩ Yl ?_
  rintro k ⟨hk1,hi⟩
  by_cases hlt:k<n.kids.length
  .obtain ⟨x,hx⟩:∃x,n.kids[(k:Int).toNat]? =some x:=⟨_,List.getElem?_eq_getElem hlt⟩
   have hdr:=Vk (show n.kids[k]? =some x from hx)
   by_cases h0:k=0
   .subst h0
    have hz:((0:Nat):Int)=0:=rfl
    have e:Ed n=(DB x [2]&&Rf n 1):=by
     unfold Ed Rf
     rw [hk,beq_self_eq_true,if_pos rfl]
     cases hkk:n.kids with
     |nil=>rw [hkk] at hx;cases hx
     |cons y r=>rw [hkk] at hx;cases hx;simp
    cases hb:DB x [2] with
    |true=>
     have U:∀{st:St} {K:At->St->Prop} {own:AA},K (.ret (.bool true)) st->PC 281 [enc x,.slice 1 [[.int .i64 2]] own] st K:=λh=>DF (ks:=[2]) (by rw [hb];exact h)
     repeat' ((conv=>whnf);first|(refine BM ?_;intros)|(refine Dh ?_ ?_<;>intro _)|refine U ?_)
     all_goals conv=>whnf
     all_goals exact ⟨1,⟨hlt,by rw [e,hb,Bool.true_and]⟩,Nat.sub_lt_sub_left hlt (Nat.lt_succ_self 0),Yl,St.le_refl _⟩
    |false=>
     have U:∀{st:St} {K:At->St->Prop} {own:AA},K (.ret (.bool false)) st->PC 281 [enc x,.slice 1 [[.int .i64 2]] own] st K:=λh=>DF (ks:=[2]) (by rw [hb];exact h)
     rw [e,hb,Bool.false_and] at h
     repeat' ((conv=>whnf);first|(refine BM ?_;intros)|(refine Dh ?_ ?_<;>intro _)|refine U ?_)
     all_goals exact Bm rfl h
   .have e:Rf n k=(DB x [1]&&Rf n (k+1)):=by
     obtain ⟨j,rfl⟩:∃j,k=j+1:=⟨k - 1,AC⟩
     rw [UA,UA,hdr,List.all_cons]
    have hpos:(k:Int)>0:=AC
    cases hb:DB x [1] with
    |true=>
     have U:∀{st:St} {K:At->St->Prop} {own:AA},K (.ret (.bool true)) st->PC 281 [enc x,.slice 1 [[.int .i64 1]] own] st K:=λh=>DF (ks:=[1]) (by rw [hb];exact h)
     repeat' ((conv=>whnf);first|(refine BM ?_;intros)|(refine Dh ?_ ?_<;>intro _)|refine U ?_)
     all_goals conv=>whnf
     all_goals exact ⟨k+1,⟨hlt,by rw [hi,e,hb,Bool.true_and]⟩,Nat.sub_lt_sub_left hlt (Nat.lt_succ_self k),Yl,St.le_refl _⟩
    |false=>
     have U:∀{st:St} {K:At->St->Prop} {own:AA},K (.ret (.bool false)) st->PC 281 [enc x,.slice 1 [[.int .i64 1]] own] st K:=λh=>DF (ks:=[1]) (by rw [hb];exact h)
     rw [hi,e,hb,Bool.false_and] at h
     repeat' ((conv=>whnf);first|(refine BM ?_;intros)|(refine Dh ?_ ?_<;>intro _)|refine U ?_)
     all_goals exact Bm rfl h
  .have hk2:k=n.kids.length:=AC
   have h1:Ed n=true:=by
    rw [hi]
    cases k with
    |zero=>
     have h2:n.kids=[]:=List.length_eq_zero_iff.1 hk2.symm
     unfold Rf Ed
     rw [hk,h2];rfl
    |succ k=>rw [UA,List.drop_eq_nil_of_le AC];rfl
   rw [h1] at h
   repeat' ((conv=>whnf);first|(refine BM ?_;intros)|(refine Dh ?_ ?_<;>intro _)|fail)
   all_goals exact Bm rfl h
 .have e:Ed n=DB n [2]:=by
   unfold Ed
   rw [if_neg (by rw [beq_iff_eq];exact hk)]
  rw [e] at h
  repeat' ((conv=>whnf);first|(refine BM ?_;intros)|(refine Dh ?_ ?_<;>intro _)|refine DF (ks:=[2]) ?_)
  all_goals conv=>whnf
  all_goals (refine Au h ?_;clear h;simp_all)
theorem kN (hc1:AY enc 278 (λb=>[pv b d]) (IB A W)) (hr1:AY enc 273 (λb=>[pv b d]) R):AY enc 229 (λb=>[pv b d]) (Z2 A R W):=by
 refine ⟨λ{st0 b s st rows K} hc h=>?_⟩
 simp only [Z2,Rd.wp_seq] at h
 have hmu:=hc.mu
 refine pB Tryz.func229 ?_
 repeat' ((conv=>whnf);first|exact C4|(refine BM ?_;intros)|(refine C5 ?_ ?_ ?_;rotate_left)|(refine Dh ?_ ?_<;>intro _)|(refine S5 ?_ ?_<;>intro U hc e h)|(refine RL ?_;intro s1 U hz hm hc h)|(refine JY ?_ ?_<;>(first|intro n s1 U hr hm hc h|intro e s1 U hc h))|exact Gd|(refine RO ?_;intro own1 U hc)|refine B5 (λ_=>?_)|refine Aq (λe1=>?_)|refine qh.go (l:=[_]) (MW hr1) (Nat.le_of_ble_eq_true rfl) (hc.push _) h (λl x own1 s1 U hh hm hc h=>?_) (λe s1 U hc h=>?_)|refine DT ?_|refine ak (mT hh) ?_|refine NS ?_|refine Dc h ‹_› (λh=>?_)|refine Db h ‹_› (λh=>?_)|refine Ad 7 [3,5] [] ?_|refine Ad 9 [7,8] [] ?_|fail)
 have hl2:l.length<=3:=Ia hh
 refine Cn (x0:=([61],l++[x])) (λ(p:List UInt8×List Nd) own=>[(4,.str p.1),(3,.slice 6 (p.2.map AB) own)]) (λ_ _=>[]) [1,2] [0,1] (λp own=>(own,p.2)::rows) (λp=>p.2.length) _ ‹_› ‹_› (by dsimp only;simp only [List.length_append,List.length_cons,List.length_nil];omega) Yl ?_
 intro p s1 U own1 hc h hl hm1
 obtain ⟨x,l⟩:=p
 dsimp only at hc hl
 simp only [pA,Rd.Ap,Rd.AF,Rd.wp_seq,Rd.wp_ret,Rd.Bu] at h
 repeat' ((conv=>whnf);first|exact C4|(refine BM ?_;intros)|(refine C5 ?_ ?_ ?_;rotate_left)|(refine Dh ?_ ?_<;>intro _)|exact ⟨⟨(_,_),_,_,_⟩,⟨hc,Rd.En h WF,cb,WF⟩,WF,Yl,St.le_refl _⟩|(refine S5 ?_ ?_<;>intro U hc e h)|(refine RL ?_;intro s1 U hz hm hc h)|(refine JY ?_ ?_<;>(first|intro n s1 U hr hm hc h|intro e s1 U hc h))|exact Gd|(refine RO ?_;intro own1 U hc)|refine B5 (λ_=>?_)|refine Aq (λe1=>?_)|refine AY.go hc1 hc h (λn s1 U hr hm hc h=>?_) (λe s1 U hc h=>?_)|refine X0.go (l:=l) (Ov MU) AC hc h (λn s1 U hr hm hc h=>?_) (λe s1 U hc h=>?_)|fail)
theorem qR (h:n.kids≠[]):∃x,n.kids[((0:Int)).toNat]? =some x/\n.kids.headD Kj=x:=pL h
theorem eB {st:St} (hn:n.kids≠[]) (h:K (.ret (.bool (Uc n))) st):PC 280 [enc n] st K:=by
 refine pB Tryz.func280 ?_
 obtain ⟨x,hx,hd⟩:=qR hn
 unfold Uc at h
 rw [hd] at h
 cases hm:GZ x with
 |false=>
  rw [hm,if_neg Do] at h
  have U:∀{st:St} {K:At->St->Prop},K (.ret (.bool false)) st->PC 320 [enc x] st K:=λh=>MX (by rw [hm];exact h)
  repeat' ((conv=>whnf);first|(refine BM ?_;intros)|(refine Dh ?_ ?_<;>intro _)|refine U ?_)
  all_goals exact Bm rfl h
 |true=>
  rw [hm,if_pos rfl] at h
  have U:∀{st:St} {K:At->St->Prop},K (.ret (.bool true)) st->PC 320 [enc x] st K:=λh=>MX (by rw [hm];exact h)
  by_cases h2:n.kids.length=2
  .obtain ⟨y,hy⟩:∃y,n.kids[((1:Int)).toNat]? =some y:=⟨_,List.getElem?_eq_getElem (show 1<n.kids.length by omega)⟩
   have hy2:n.kids[1]? =some y:=hy
   rw [if_pos h2,hy2] at h
   repeat' ((conv=>whnf);first|(refine BM ?_;intros)|(refine Dh ?_ ?_<;>intro _)|refine U ?_)
   all_goals conv=>whnf
   all_goals (refine Au h ?_;clear h;simp_all [Fj])
  .by_cases h4:n.kids.length=4
   .obtain ⟨y,hy⟩:∃y,n.kids[((2:Int)).toNat]? =some y:=⟨_,List.getElem?_eq_getElem (show 2<n.kids.length by omega)⟩
    have hy2:n.kids[2]? =some y:=hy
    rw [if_neg h2,hy2] at h
    by_cases hk:y.kind=13
    .by_cases h3:y.kids.length=3
     .obtain ⟨z,hz⟩:∃z,y.kids[((2:Int)).toNat]? =some z:=⟨_,List.getElem?_eq_getElem (show 2<y.kids.length by omega)⟩
      have hz2:y.kids[2]? =some z:=hz
      repeat' ((conv=>whnf);first|(refine BM ?_;intros)|(refine Dh ?_ ?_<;>intro _)|refine U ?_)
      all_goals conv=>whnf
      all_goals (refine Au h ?_;clear h;simp_all [Fj])
     .skip
      repeat' ((conv=>whnf);first|(refine BM ?_;intros)|(refine Dh ?_ ?_<;>intro _)|refine U ?_)
      all_goals conv=>whnf
      all_goals (refine Au h ?_;clear h;simp_all [Fj])
    .skip
     repeat' ((conv=>whnf);first|(refine BM ?_;intros)|(refine Dh ?_ ?_<;>intro _)|refine U ?_)
     all_goals conv=>whnf
     all_goals (refine Au h ?_;clear h;simp_all [Fj])
   .rw [if_neg h2,if_neg (λe=>h4 e.1)] at h
    repeat' ((conv=>whnf);first|(refine BM ?_;intros)|(refine Dh ?_ ?_<;>intro _)|refine U ?_)
    all_goals exact Bm rfl h
theorem XG (hc1:AY enc 278 (λb=>[pv b d]) (IB A W)) (hr1:AY enc 273 (λb=>[pv b d]) R):AY enc 230 (λb=>[pv b d]) (Mp A R W):=by
 refine ⟨λ{st0 b s st rows K} hc h=>?_⟩
 simp only [Mp,Rd.wp_seq] at h
 have hmu:=hc.mu
 refine AP Ab [] Tryz.func230 rfl Do rfl ?_
 refine Af (Ae Ab ?_)
 repeat' ((conv=>whnf);(first|exact C4|(refine C5 ?_ ?_ ?_;rotate_left)|refine Dh ?_ ?_|fail)<;>intros)
 refine Af (Ae Ab ?_)
 repeat' ((conv=>whnf);first|exact C4|(refine C5 ?_ ?_ ?_;rotate_left)|(refine Dh ?_ ?_<;>intro _)|(refine JY ?_ ?_<;>(first|intro n s1 U hr hm hc h|intro e s1 U hc h))|exact Gd|(refine RO ?_;intro own1 U hc)|refine B5 (λ_=>?_)|refine Aq (λe1=>?_)|refine qh.go (l:=[_]) (MW hr1) (Nat.le_of_ble_eq_true rfl) (hc.push _) h (λl x own1 s1 U hh hm hc h=>?_) (λe s1 U hc h=>?_)|exact BO hc h|refine Ad 7 [3,5] [] ?_|refine Ad 9 [7,8] [] ?_|refine Ad 9 [7,8] [] ?_|fail)
 have hl2:l.length<=3:=Ia hh
 refine Ae Ab ?_
 repeat' ((conv=>whnf);first|exact C4|(refine C5 ?_ ?_ ?_;rotate_left)|(refine Dh ?_ ?_<;>intro _)|(refine JY ?_ ?_<;>(first|intro n s1 U hr hm hc h|intro e s1 U hc h))|exact Gd|(refine RO ?_;intro own1 U hc)|refine B5 (λ_=>?_)|refine Aq (λe1=>?_)|refine DT ?_|refine ak f8 ?_|refine NS ?_|refine AY.go hc1 hc h (λn s1 U hr hm hc h=>?_) (λe s1 U hc h=>?_)|refine eB (cr hr) ?_|refine Dc h ‹_› (λh=>?_)|refine Db h ‹_› (λh=>?_)|refine X0.go (Ov MU) (gT hh) hc h (λn s1 U hr hm hc h=>?_) (λe s1 U hc h=>?_)|refine Ad 7 [3,5] [] ?_|refine Ad 9 [7,8] [] ?_|refine Ad 9 [7,8] [] ?_|fail)
abbrev th (g:FuncId):V:=.FY [.func g [] []] 0
theorem l6 {x:Nd} {st:St} (U:∀{n:Nd} {st:St} {K:At->St->Prop},K (.ret (.bool (p n))) st->PC g [enc n] st K) (h:K (.ret (.bool (!p x))) st):PC 328 [enc x,th g] st K:=by
 refine pB Tryz.func328 ?_
 repeat' ((conv=>whnf);first|  (refine Dh ?_ ?_<;>intro _)|refine U ?_)
 all_goals conv=>whnf
 all_goals (refine Au h ?_;clear h;simp_all)
theorem qT {st:St} (hf:∀x st (K:At->St->Prop),K (.ret (.bool (p x))) st->PC f [enc x,th g] st K) (h:K (.ret (.int .i64 (Cu p l 0))) st):PC 365 [.slice 6 (Cj l) .any,.func f [] [th g]] st K:=by
 refine pB Tryz.func365 ?_
 repeat' ((conv=>whnf);(first|refine BM ?_|refine Dh ?_ ?_|fail)<;>intros)
 refine K9 8 [6,7,0,1] l.length (λk=>k<=l.length/\(Cu p l 0=Cu p (l.drop k) k)) ⟨Nat.zero_le _,rfl⟩ Yl ?_
 rintro k ⟨U,hi⟩
 repeat' ((conv=>whnf);first|(refine BM ?_;intros)|(refine Dh ?_ ?_<;>intro _)|refine hf _ _ _ ?_)
 all_goals conv=>whnf
 all_goals try (have e:=Vk ‹l[Int.toNat k]? =some _›;rw [Int.toNat_natCast] at e;rw [e,Cu] at hi;clear e)
 all_goals first
  |(refine ⟨k+1,⟨AC,?_⟩,AC,Yl,St.le_refl _⟩;clear h;simp_all)
  |(refine fin h ?_;clear h;simp_all;done)
  |(refine fin h ?_;rw [hi,List.drop_eq_nil_of_le AC];rfl)
theorem qo {st:St} (hf:∀x st (K:At->St->Prop),K (.ret (.bool (p x))) st->PC f [enc x,th g] st K) (h:K (.ret (.bool (l.any p))) st):PC 327 [.slice 6 (Cj l) .any,.func f [] [th g]] st K:=by
 refine pB Tryz.func327 ?_
 refine qT hf ?_
 have key:=GW (p:=p) (l:=l) (i:=0) AC
 refine Wh (λU=>?_) (λU=>?_)
 .exact Au h (key.1 U)
 .refine Au h ?_
  simp_all
theorem ZQ:(!l.any λx=> !p x)=l.all p:=by
 rw [List.all_eq_not_any_not]
theorem qm (h:(l.any λx=> !p x)=true):l.all p=false:=by rw [<-ZQ,h];rfl
theorem lM (h:(l.any λx=> !p x)=false):l.all p=true:=by rw [<-ZQ,h];rfl
theorem Gz (hg:∀{n:Nd} {st:St} {K:At->St->Prop},K (.ret (.bool (p n))) st->PC g [enc n] st K) (hd1:AY enc 110 (λb=>[.ptr b 0,.func 326 [] [],.int .i64 ((d:Int) - 1)]) D) (hd0:d<=100):
 X0 282 (λb v=>[pv b d,.int .i64 k,v,.func g [] []]) (λl=>ZV D k l p):=by
 refine ⟨λ{st0 b s st rows K own l} hl hc h=>?_⟩
 simp only [ZV,Rd.Ap,Rd.AF,Rd.wp_seq,Rd.wp_ret] at h
 refine AP Ab [] Tryz.func282 rfl Do rfl ?_
 refine Af (Ae Ab ?_)
 repeat' ((conv=>whnf);(first|exact C4|refine BM ?_|(refine C5 ?_ ?_ ?_;rotate_left)|refine Dh ?_ ?_|fail)<;>intros)
 refine OJ 7 1 rfl rfl rfl ?_
 refine Ae Ab ?_
 repeat' ((conv=>whnf);first|exact C4|(refine BM ?_;intros)|(refine C5 ?_ ?_ ?_;rotate_left)|(refine Dh ?_ ?_<;>intro _)|(refine S5 ?_ ?_<;>intro U hc e h)|(refine RL ?_;intro s1 U hz hm hc h)|exact Gd|refine RM ?_|(refine RO ?_;intro own1 U hc)|refine Aq (λe1=>?_)|refine Wq (a:=(d:Int) - 1) AC AC ?_|refine AY.go hd1 hc h (λn s1 U hr hm hc h=>?_) (λe s1 U hc h=>?_)|refine qo (p:=λx=> !p x) (λx st K h=>l6 hg h) ?_|refine Dc h (lM ‹_›) (λh=>?_)|refine Db h (qm ‹_›) (λh=>?_)|refine Ad 7 [4,6] [] ?_|fail)
theorem Jv {st:St} (h:K (.ret (.bool true)) st):PC 283 [enc n] st K:=by
 refine pB Tryz.func283 ?_
 repeat' ((conv=>whnf);(first|  fail)<;>intros)
 all_goals exact Bm rfl h
theorem Hr {st:St} (h:K (.ret (.bool (n.kind==36))) st):PC 284 [enc n] st K:=by
 refine pB Tryz.func284 ?_
 repeat' ((conv=>whnf);(first|  refine Dh ?_ ?_|fail)<;>intros)
 all_goals conv=>whnf
 all_goals (refine Au h ?_;clear h;simp_all)
theorem et (hr1:AY enc 273 (λb=>[pv b d]) R) (hd1:AY enc 110 (λb=>[.ptr b 0,.func 326 [] [],.int .i64 ((d:Int) - 1)]) D) (hd0:d<=100):AY enc 231 (λb=>[pv b d]) (Tj R D):=by
 refine ⟨λ{st0 b s st rows K} hc h=>?_⟩
 simp only [Tj,Rd.wp_seq] at h
 have hmu:=hc.mu
 refine AP Ab [] Tryz.func231 rfl Do rfl ?_
 refine Af (Ae Ab ?_)
 repeat' ((conv=>whnf);(first|exact C4|refine BM ?_|(refine C5 ?_ ?_ ?_;rotate_left)|fail)<;>intros)
 refine Af (Ae Ab ?_)
 repeat' ((conv=>whnf);first|exact C4|(refine BM ?_;intros)|(refine C5 ?_ ?_ ?_;rotate_left)|(refine JY ?_ ?_<;>(first|intro n s1 U hr hm hc h|intro e s1 U hc h))|exact Gd|refine B5 (λ_=>?_)|refine Aq (λe1=>?_)|refine qh.go (l:=[_]) (MW hr1) (Nat.le_of_ble_eq_true rfl) (hc.push _) h (λl x own1 s1 U hh hm hc h=>?_) (λe s1 U hc h=>?_)|exact BO hc h|refine Ad 7 [3,5] [] ?_|refine Ad 27 [16,24,26] [] ?_|fail)
 have hl2:l.length<=3:=Ia hh
 refine Ae Ab ?_
 by_cases hk:x.kind=39
 .by_cases h2:(x.kids.length:Int)=2
  .have h2':x.kids.length=2:=AC
   obtain ⟨y0,hx0⟩:∃y,x.kids[((0:Int)).toNat]? =some y:=⟨_,List.getElem?_eq_getElem (show 0<x.kids.length by omega)⟩
   obtain ⟨y1,hx1⟩:∃y,x.kids[((1:Int)).toNat]? =some y:=⟨_,List.getElem?_eq_getElem (show 1<x.kids.length by omega)⟩
   have hy0:x.kids[0]? =some y0:=hx0
   have hy1:x.kids[1]? =some y1:=hx1
   have hN:HE x=(DB y0 [2]&&DB y1 [1]):=by unfold HE;rw [hk,h2',hy0,hy1];rfl
   cases i0:DB y0 [2]
   .have hcl:HE x=false:=by rw [hN,i0];rfl
    repeat' ((conv=>whnf);first|exact C4|(refine BM ?_;intros)|(refine C5 ?_ ?_ ?_;rotate_left)|(refine JY ?_ ?_<;>(first|intro n s1 U hr hm hc h|intro e s1 U hc h))|exact Gd|refine B5 (λ_=>?_)|refine Aq (λe1=>?_)|refine DT ?_|refine Wm hx0 AC ?_|refine Wm hx1 AC ?_|refine DF (ks:=[2]) ?_|refine DF (ks:=[1]) ?_|refine Dc h hcl (λh=>?_)|refine Db h hcl (λh=>?_)|refine X0.go (l:=l++[x]) (Gz (d:=d) (λh=>Jv h) hd1 hd0) (by rw [List.length_append]<;>exact Nat.le_trans (Nat.add_le_add_right hl2 _) (Nat.le_of_ble_eq_true rfl)) hc h (λn s1 U hr hm hc h=>?_) (λe s1 U hc h=>?_)|refine Ad 7 [3,5] [] ?_|refine Ad 27 [16,24,26] [] ?_|fail)
   cases i1:DB y1 [1]
   .have hcl:HE x=false:=by rw [hN,i0,i1];rfl
    repeat' ((conv=>whnf);first|exact C4|(refine BM ?_;intros)|(refine C5 ?_ ?_ ?_;rotate_left)|(refine JY ?_ ?_<;>(first|intro n s1 U hr hm hc h|intro e s1 U hc h))|exact Gd|refine B5 (λ_=>?_)|refine Aq (λe1=>?_)|refine DT ?_|refine Wm hx0 AC ?_|refine Wm hx1 AC ?_|refine DF (ks:=[2]) ?_|refine DF (ks:=[1]) ?_|refine Dc h hcl (λh=>?_)|refine Db h hcl (λh=>?_)|refine X0.go (l:=l++[x]) (Gz (d:=d) (λh=>Jv h) hd1 hd0) (by rw [List.length_append]<;>exact Nat.le_trans (Nat.add_le_add_right hl2 _) (Nat.le_of_ble_eq_true rfl)) hc h (λn s1 U hr hm hc h=>?_) (λe s1 U hc h=>?_)|refine Ad 7 [3,5] [] ?_|refine Ad 27 [16,24,26] [] ?_|fail)
   .have hcl:HE x=true:=by rw [hN,i0,i1];rfl
    repeat' ((conv=>whnf);first|exact C4|(refine BM ?_;intros)|(refine C5 ?_ ?_ ?_;rotate_left)|(refine JY ?_ ?_<;>(first|intro n s1 U hr hm hc h|intro e s1 U hc h))|exact Gd|refine B5 (λ_=>?_)|refine Aq (λe1=>?_)|refine DT ?_|refine Wm hx0 AC ?_|refine Wm hx1 AC ?_|refine DF (ks:=[2]) ?_|refine DF (ks:=[1]) ?_|refine Dc h hcl (λh=>?_)|refine Db h hcl (λh=>?_)|refine X0.go (l:=l++[x]) (Gz (d:=d) (λh=>Jv h) hd1 hd0) (by rw [List.length_append]<;>exact Nat.le_trans (Nat.add_le_add_right hl2 _) (Nat.le_of_ble_eq_true rfl)) hc h (λn s1 U hr hm hc h=>?_) (λe s1 U hc h=>?_)|refine Ad 7 [3,5] [] ?_|refine Ad 27 [16,24,26] [] ?_|fail)
  .have hcl:HE x=false:=by unfold HE;rw [show (x.kids.length==2)=false by cases e:x.kids.length==2 with|true=>exact absurd (by rw [beq_iff_eq] at e;omega) h2|false=>rfl];simp
   repeat' ((conv=>whnf);first|exact C4|(refine BM ?_;intros)|(refine C5 ?_ ?_ ?_;rotate_left)|(refine JY ?_ ?_<;>(first|intro n s1 U hr hm hc h|intro e s1 U hc h))|exact Gd|refine B5 (λ_=>?_)|refine Aq (λe1=>?_)|refine DT ?_|refine DF (ks:=[2]) ?_|refine DF (ks:=[1]) ?_|refine Dc h hcl (λh=>?_)|refine Db h hcl (λh=>?_)|refine X0.go (l:=l++[x]) (Gz (d:=d) (λh=>Jv h) hd1 hd0) (by rw [List.length_append]<;>exact Nat.le_trans (Nat.add_le_add_right hl2 _) (Nat.le_of_ble_eq_true rfl)) hc h (λn s1 U hr hm hc h=>?_) (λe s1 U hc h=>?_)|refine Ad 7 [3,5] [] ?_|refine Ad 27 [16,24,26] [] ?_|fail)
 .have hcl:HE x=false:=by unfold HE;rw [show (x.kind==39)=false by cases e:x.kind==39 with|true=>exact absurd (by simpa using e) hk|false=>rfl];rfl
  repeat' ((conv=>whnf);first|exact C4|(refine BM ?_;intros)|(refine C5 ?_ ?_ ?_;rotate_left)|(refine JY ?_ ?_<;>(first|intro n s1 U hr hm hc h|intro e s1 U hc h))|exact Gd|refine B5 (λ_=>?_)|refine Aq (λe1=>?_)|refine DT ?_|refine DF (ks:=[2]) ?_|refine DF (ks:=[1]) ?_|refine Dc h hcl (λh=>?_)|refine Db h hcl (λh=>?_)|refine X0.go (l:=l++[x]) (Gz (d:=d) (λh=>Jv h) hd1 hd0) (by rw [List.length_append]<;>exact Nat.le_trans (Nat.add_le_add_right hl2 _) (Nat.le_of_ble_eq_true rfl)) hc h (λn s1 U hr hm hc h=>?_) (λe s1 U hc h=>?_)|refine Ad 7 [3,5] [] ?_|refine Ad 27 [16,24,26] [] ?_|fail)
theorem UO (hr1:AY enc 273 (λb=>[pv b d]) R) (hd1:AY enc 110 (λb=>[.ptr b 0,.func 326 [] [],.int .i64 ((d:Int) - 1)]) D) (hd0:d<=100):AY enc 232 (λb=>[pv b d]) (Kg R D):=by
 refine ⟨λ{st0 b s st rows K} hc h=>?_⟩
 simp only [Kg,Rd.wp_seq] at h
 have hmu:=hc.mu
 refine AP Ab [] Tryz.func232 rfl Do rfl ?_
 refine Af (Ae Ab ?_)
 repeat' ((conv=>whnf);(first|exact C4|refine BM ?_|(refine C5 ?_ ?_ ?_;rotate_left)|fail)<;>intros)
 refine Af (Ae Ab ?_)
 repeat' ((conv=>whnf);first|exact C4|(refine BM ?_;intros)|(refine C5 ?_ ?_ ?_;rotate_left)|(refine JY ?_ ?_<;>(first|intro n s1 U hr hm hc h|intro e s1 U hc h))|exact Gd|refine B5 (λ_=>?_)|refine Aq (λe1=>?_)|refine qh.go (l:=[_]) (MW hr1) (Nat.le_of_ble_eq_true rfl) (hc.push _) h (λl x own1 s1 U hh hm hc h=>?_) (λe s1 U hc h=>?_)|exact BO hc h|refine Ad 7 [3,5] [] ?_|refine Ad 19 [16,18] [] ?_|fail)
 have hl2:l.length<=3:=Ia hh
 refine Ae Ab ?_
 by_cases hk:x.kind=39
 .by_cases h2:(x.kids.length:Int)=2
  .have h2':x.kids.length=2:=AC
   obtain ⟨y0,hx0⟩:∃y,x.kids[((0:Int)).toNat]? =some y:=⟨_,List.getElem?_eq_getElem (show 0<x.kids.length by omega)⟩
   obtain ⟨y1,hx1⟩:∃y,x.kids[((1:Int)).toNat]? =some y:=⟨_,List.getElem?_eq_getElem (show 1<x.kids.length by omega)⟩
   have hy0:x.kids[0]? =some y0:=hx0
   have hy1:x.kids[1]? =some y1:=hx1
   have hN:Md x=DB y0 [2,4]:=by unfold Md;rw [hk,h2',hy0];rfl
   cases i0:DB y0 [2,4]
   .have hcl:Md x=false:=by rw [hN,i0]
    repeat' ((conv=>whnf);first|exact C4|(refine BM ?_;intros)|(refine C5 ?_ ?_ ?_;rotate_left)|(refine JY ?_ ?_<;>(first|intro n s1 U hr hm hc h|intro e s1 U hc h))|exact Gd|refine B5 (λ_=>?_)|refine Aq (λe1=>?_)|refine DT ?_|refine Wm hx0 AC ?_|refine Wm hx1 AC ?_|refine DF (ks:=[2,4]) ?_|refine DF (ks:=[1]) ?_|refine Dc h hcl (λh=>?_)|refine Db h hcl (λh=>?_)|refine X0.go (l:=l++[x]) (Gz (d:=d) (λh=>Hr h) hd1 hd0) (by rw [List.length_append]<;>exact Nat.le_trans (Nat.add_le_add_right hl2 _) (Nat.le_of_ble_eq_true rfl)) hc h (λn s1 U hr hm hc h=>?_) (λe s1 U hc h=>?_)|refine Ad 7 [3,5] [] ?_|refine Ad 19 [16,18] [] ?_|fail)
   .have hcl:Md x=true:=by rw [hN,i0]
    repeat' ((conv=>whnf);first|exact C4|(refine BM ?_;intros)|(refine C5 ?_ ?_ ?_;rotate_left)|(refine JY ?_ ?_<;>(first|intro n s1 U hr hm hc h|intro e s1 U hc h))|exact Gd|refine B5 (λ_=>?_)|refine Aq (λe1=>?_)|refine DT ?_|refine Wm hx0 AC ?_|refine Wm hx1 AC ?_|refine DF (ks:=[2,4]) ?_|refine DF (ks:=[1]) ?_|refine Dc h hcl (λh=>?_)|refine Db h hcl (λh=>?_)|refine X0.go (l:=l++[x]) (Gz (d:=d) (λh=>Hr h) hd1 hd0) (by rw [List.length_append]<;>exact Nat.le_trans (Nat.add_le_add_right hl2 _) (Nat.le_of_ble_eq_true rfl)) hc h (λn s1 U hr hm hc h=>?_) (λe s1 U hc h=>?_)|refine Ad 7 [3,5] [] ?_|refine Ad 19 [16,18] [] ?_|fail)
  .have hcl:Md x=false:=by unfold Md;rw [show (x.kids.length==2)=false by cases e:x.kids.length==2 with|true=>exact absurd (by rw [beq_iff_eq] at e;omega) h2|false=>rfl];simp
   repeat' ((conv=>whnf);first|exact C4|(refine BM ?_;intros)|(refine C5 ?_ ?_ ?_;rotate_left)|(refine JY ?_ ?_<;>(first|intro n s1 U hr hm hc h|intro e s1 U hc h))|exact Gd|refine B5 (λ_=>?_)|refine Aq (λe1=>?_)|refine DT ?_|refine DF (ks:=[2,4]) ?_|refine DF (ks:=[1]) ?_|refine Dc h hcl (λh=>?_)|refine Db h hcl (λh=>?_)|refine X0.go (l:=l++[x]) (Gz (d:=d) (λh=>Hr h) hd1 hd0) (by rw [List.length_append]<;>exact Nat.le_trans (Nat.add_le_add_right hl2 _) (Nat.le_of_ble_eq_true rfl)) hc h (λn s1 U hr hm hc h=>?_) (λe s1 U hc h=>?_)|refine Ad 7 [3,5] [] ?_|refine Ad 19 [16,18] [] ?_|fail)
 .have hcl:Md x=false:=by unfold Md;rw [show (x.kind==39)=false by cases e:x.kind==39 with|true=>exact absurd (by simpa using e) hk|false=>rfl];rfl
  repeat' ((conv=>whnf);first|exact C4|(refine BM ?_;intros)|(refine C5 ?_ ?_ ?_;rotate_left)|(refine JY ?_ ?_<;>(first|intro n s1 U hr hm hc h|intro e s1 U hc h))|exact Gd|refine B5 (λ_=>?_)|refine Aq (λe1=>?_)|refine DT ?_|refine DF (ks:=[2,4]) ?_|refine DF (ks:=[1]) ?_|refine Dc h hcl (λh=>?_)|refine Db h hcl (λh=>?_)|refine X0.go (l:=l++[x]) (Gz (d:=d) (λh=>Hr h) hd1 hd0) (by rw [List.length_append]<;>exact Nat.le_trans (Nat.add_le_add_right hl2 _) (Nat.le_of_ble_eq_true rfl)) hc h (λn s1 U hr hm hc h=>?_) (λe s1 U hc h=>?_)|refine Ad 7 [3,5] [] ?_|refine Ad 19 [16,18] [] ?_|fail)
end
theorem nR {a:Bool} {Q:Prop}:(if (if a=true then true else b)=true then P else Q)=if a=true then P else if b=true then P else Q:=by cases a<;>cases b<;>simp
section
variable {st0 st:St} {b d:Nat} {s:Al} {rows:List (AA×List Nd)} {K:At->St->Prop} {A B R W F D E:Rd Nd}
attribute [local irreducible] Go.Aw.Ag
theorem kL {k':Int} {x':List UInt8} {E:Er->Al->Prop} (hc:Cx st0 b s st rows) (h:if Bp (Ac s).2.1 k' x'=true then P else AO.wp s Q E) (e:Bp s k x=true) (U:k≠0/\k≠21) (kk:∀st',mu (Ac s).2.1<mu s->Cx st0 b (Ac s).2.1 st' rows->K (.ret (enc (BJ (Ac s).1))) st'):PC 150 [.ptr b 0] st K:=
 Ll hc.has hc.hb (λ_ st' hu=>kk st' (Eh e U.1 U.2) (hc.NV hu (Nat.le_of_lt (Eh e U.1 U.2)))) (λn=>absurd (GX e U.1) n)
theorem gR {s0:Al} (U:Cx st0 b s st rows) (hm:mu (Ac s0).2.1<mu s0) (hb:mu s0<=100000000) (k:∀st',Cx st0 b s0 st' rows->K (.ret (.Bj [])) st'):PC 154 [.ptr b 0,.agg s0.cells] st K:=FU U hb k
theorem tK {U:Int} {y:List UInt8} {E:Er->Al->Prop} (hc:Cx st0 b (Ac s).2.1 st rows) (h:if Bp (Ac s).2.1 k x=true then P else AO.wp s Q E) (e:Bp s U y=true) (hk:U≠0)
 (k1:∀st',Cx st0 b (Ac s).2.1 st' rows->P->K (.ret (.bool true)) st') (U:∀st',Cx st0 b (Ac s).2.1 st' rows->Q (BJ (Ac s).1) (Ac s).2.1->K (.ret (.bool false)) st'):PC 149 [.ptr b 0,.int .i64 k,.str x] st K:=by
 refine gZ hc h (λst' c _ p=>k1 st' c p) (λst' c _ q=>U st' c ?_)
 unfold Rd.wp at q
 rw [Ey (GX e hk)] at q
 exact q
theorem tj {p:Prop} (e:Bp s 1 x=true) (k:(Ac s).1.kind=14):p:=by
 unfold Bp at e
 rw [k] at e
 cases e
theorem kU:AY enc 267 (λb=>[pv b d,.bool o]) (iO o):=by
 refine ⟨λ{st0 b s st rows K} hc h=>?_⟩
 have hmu:=hc.mu
 refine pB Tryz.func267 ?_
 cases o
 all_goals simp only [iO,iN,iM,Bool.false_eq_true,if_false,if_true,Rd.Ap,Rd.AF,Rd.wp_seq,Rd.wp_ret] at h
 .skip
  repeat' ((conv=>whnf);first|refine Fx h (λe h=>?_) (λe h=>?_)|exact C4|(refine BM ?_;intros)|(refine C5 ?_ ?_ ?_;rotate_left)|(refine ZO ?_;intro U hc)|(refine S5 ?_ ?_<;>intro U hc e h)|(refine RL ?_;intro s1 U hz hm hc h)|(refine JY ?_ ?_<;>(first|intro n s1 U hr hm hc h|intro e s1 U hc h))|exact Gd|refine RM ?_|refine Aq (λe1=>?_)|refine Cx.qs (l:=[1]) (new:=[3]) hc (Nat.le_of_ble_eq_true rfl) (λown1 U hc=>?_)|refine Cx.qs (l:=[2]) (new:=[4]) hc (Nat.le_of_ble_eq_true rfl) (λown1 U hc=>?_)|refine Cx.qs (l:=[5,6]) (new:=[7,8]) hc (Nat.le_of_ble_eq_true rfl) (λown1 U hc=>?_)|refine AY.go (DM (ks:=Qk false) rfl) hc h (λn s1 U hr hm hc h=>?_) (λe s1 U hc h=>?_)|refine AY.go (DM (ks:=Zr false) rfl) hc h (λn s1 U hr hm hc h=>?_) (λe s1 U hc h=>?_)|refine AY.go (G7 (ks:=sq false) rfl) hc h (λn s1 U hr hm hc h=>?_) (λe s1 U hc h=>?_)|refine Cx.Fo (l:=[_]) (hc.push [_]) (Nat.le_of_ble_eq_true rfl) (λown1 U hc=>?_)|refine Cx.qp (l:=[_,_]) hc (Nat.le_of_ble_eq_true rfl) (λown1 U hc=>?_)|refine Iu (l:=[_,_]) (fs:=[pv b d]) (cs:=[]) RA.z (Nat.le_of_ble_eq_true rfl) hc h (λl own1 s1 U hm hc h=>?_) (λe s1 U hc h=>?_)|refine AM [1,3,7,9,11,4,12,15,16,18] [1] ?_|refine AM [1,3,5,9,11,6,12,15,16,18,20] [1] ?_|fail)
 .skip
  repeat' ((conv=>whnf);first|refine Fx h (λe h=>?_) (λe h=>?_)|exact C4|(refine BM ?_;intros)|(refine C5 ?_ ?_ ?_;rotate_left)|(refine ZO ?_;intro U hc)|(refine S5 ?_ ?_<;>intro U hc e h)|(refine RL ?_;intro s1 U hz hm hc h)|(refine JY ?_ ?_<;>(first|intro n s1 U hr hm hc h|intro e s1 U hc h))|exact Gd|refine RM ?_|refine Aq (λe1=>?_)|refine AY.go (DM (ks:=Qk true) rfl) hc h (λn s1 U hr hm hc h=>?_) (λe s1 U hc h=>?_)|refine AY.go (DM (ks:=Zr true) rfl) hc h (λn s1 U hr hm hc h=>?_) (λe s1 U hc h=>?_)|refine AY.go (G7 (ks:=sq true) rfl) hc h (λn s1 U hr hm hc h=>?_) (λe s1 U hc h=>?_)|refine Cx.Fo (l:=[_]) (hc.push [_]) (Nat.le_of_ble_eq_true rfl) (λown1 U hc=>?_)|refine Cx.qp (l:=[_,_]) hc (Nat.le_of_ble_eq_true rfl) (λown1 U hc=>?_)|refine Iu (l:=[_,_]) (fs:=[pv b d]) (cs:=[]) RA.z (Nat.le_of_ble_eq_true rfl) hc h (λl own1 s1 U hm hc h=>?_) (λe s1 U hc h=>?_)|refine AM [1,3,7,9,11,4,12,15,16,18] [1] ?_|refine AM [1,3,5,9,11,6,12,15,16,18,20] [1] ?_|fail)
theorem SR:AY enc 221 (λb=>[pv b d,.bool o]) (Gi o):=by
 refine ⟨λ{st0 b s st rows K} U h=>?_⟩
 simp only [Gi,Rd.wp_seq,Rd.wp_ret] at h
 have hmu:=U.mu
 refine pB Tryz.func221 ?_
 repeat' ((conv=>whnf);(first|refine BM ?_|refine S5 ?_ ?_|refine RL ?_|refine JY ?_ ?_|exact Gd|refine RM ?_|refine RO ?_|fail)<;>intros)
 refine Cn (λl own=>[(5,.slice 6 (l.map AB) own)]) (λ_ _=>[]) [1,2,4] [0,1] (λl own=>(own,l)::rows) (λl=>l.length) .full (Cx.push ‹_› _) ‹_› (by show 1+_<=_;omega) Yl ?_
 intro l s1 st1 own1 U h hl hm1
 simp only [iR,fT,Rd.Ap,Rd.AF,Rd.wp_seq,Rd.wp_ret,Rd.Bu] at h
 repeat' ((conv=>whnf);(first|refine BM ?_|refine S5 ?_ ?_|refine RL ?_|refine JY ?_ ?_|exact Gd|refine RM ?_|refine RO ?_|refine Fm.go (by first|  exact (kU (o:=o)).a) ?_ ?_)<;>intros)
theorem XF:AY enc 227 (λb=>[pv b d]) Mc:=by
 refine ⟨λ{st0 b s st rows K} U h=>?_⟩
 simp only [Mc,TR,TS,TT,Rd.Ap,Rd.AF,Rd.wp_seq,Rd.wp_ret] at h
 have hmu:=U.mu
 refine pB Tryz.func227 ?_
 repeat' ((conv=>whnf);(first|refine BM ?_|refine S5 ?_ ?_|refine RL ?_|refine JY ?_ ?_|exact Gd|refine RM ?_|refine RO ?_|refine Fm.go (by first|  exact (DM (ks:=[2,4]) rfl).a|exact (SR (o:=true)).a) ?_ ?_|refine Cx.Fo (l:=[_]) (Cx.push ‹_› [_]) (Nat.le_of_ble_eq_true rfl) ?_)<;>intros)
theorem XE (hf:AY enc 287 (λb=>[pv b d]) F):AY enc 234 (λb=>[pv b d]) (Ma F):=by
 refine ⟨λ{st0 b s st rows K} U h=>?_⟩
 simp only [Ma,Qg,VH,L9,Qh,Rd.Ap,Rd.AF,Rd.wp_seq,Rd.wp_ret,nR] at h
 have hmu:=U.mu
 refine pB Tryz.func234 ?_
 repeat' ((conv=>whnf);(first|exact tj ‹_› ‹_›|refine tK ‹_› ‹_› ‹_› Do ?_ ?_|refine kL ‹_› ‹_› ‹_› Do ?_|refine BM ?_|refine Fq ?_ ?_|refine ZO ?_|refine S5 ?_ ?_|refine RL ?_|refine JY ?_ ?_|refine uu ?_|exact Gd|refine RM ?_|refine RO ?_|refine Fm.go (by first|exact AY.q|exact (DM (ks:=[1]) rfl).a|exact NT.a) ?_ ?_|refine Pq (Cx.has ‹_›) ?_ ?_|refine gR ‹_› ‹_› AC ?_|refine Cx.Fo (l:=[_]) (Cx.push ‹_› [_]) (Nat.le_of_ble_eq_true rfl) ?_)<;>intros)
theorem UM (hw:AY enc 276 (λb=>[pv b d]) W):AY enc 233 (λb=>[pv b d]) (J7 W):=by
 refine ⟨λ{st0 b s st rows K} hc h=>?_⟩
 simp only [J7,Rd.wp_seq,Rd.wp_ret] at h
 have hmu:=hc.mu
 refine pB Tryz.func233 ?_
 repeat' ((conv=>whnf);first|exact C4|(refine C5 ?_ ?_ ?_;rotate_left)|(refine JY ?_ ?_<;>(first|intro n s1 U hr hm hc h|intro e s1 U hc h))|exact Gd|refine RM ?_|refine Aq (λe1=>?_)|refine Iu (l:=[_,_]) (fs:=[pv b d]) (cs:=[]) hw.z (Nat.le_of_ble_eq_true rfl) (hc.push _) h (λl own1 s1 U hm hc h=>?_) (λe s1 U hc h=>?_)|refine AM [1,3,7,9,4,10,13,15] [] ?_|fail)
end
theorem Cx.pX {st:St} {b c:Nat} {s:Al} {cs':List V} (h:Cx (st0.Aa c cs) b s st rows) (U:c≠b):Cx (st0.Aa c cs') b s (st.Aa c cs') rows:=by
 obtain ⟨c0,hr⟩:=h.rx
 refine ⟨?_,⟨c0,?_⟩,h.mu⟩
 .rcases h.has with e|⟨q1,q2,q3,q4,q5,e⟩
  .exact .inl (by rw [St.Ak U];exact e)
  .exact .inr ⟨q1,q2,q3,q4,q5,by rw [St.Ak U];exact e⟩
 .rw [Rt U] at hr |-
  exact hr.Aa
section
variable {st0 st:St} {b d c:Nat} {s:Al} {rows:List (AA×List Nd)} {K R:At->St->Prop} {A B C D E F:Rd Nd}
attribute [local irreducible] Go.Aw.Ag
theorem oW (h1:AY enc 227 (λb=>[pv b d]) Mc) (h2:AY enc 228 (λb=>[pv b d]) (MS B C)) (h3:AY enc 229 (λb=>[pv b d]) (Z2 A B C)) (h4:AY enc 230 (λb=>[pv b d]) (Mp A B C))
 (h5:AY enc 231 (λb=>[pv b d]) (Tj B F)) (h6:AY enc 232 (λb=>[pv b d]) (Kg B F)) (h7:AY enc 233 (λb=>[pv b d]) (J7 C)) (h8:AY enc 234 (λb=>[pv b d]) (Ma D))
 (he:AY enc 110 (λb=>[.ptr b 0,.func 226 [] [],.int .i64 (d:Int)]) E):AY enc 192 (λb=>[pv b d]) (ld A B C D E F):=by
 refine ⟨λ{st0 b s st rows K} U h=>?_⟩
 simp only [ld,Rd.Ap,Rd.AF] at h
 have hmu:=U.mu
 refine pB Tryz.func192 ?_
 repeat' ((conv=>whnf);(first|  refine Fq ?_ ?_|refine ZO ?_|exact Gd|refine Fm.go (by first|exact AY.q) ?_ ?_)<;>intros)
theorem fB {c2:Nat} {E:Er->Al->Prop} (ht:AY enc 192 (λb=>[pv b d]) A) (hF:Rd.A7 A) (f2:st0.box c2=none/\c2≠b)
 (hc:Cx (st0.Aa c2 [.bool (l.any λx=> !(x.kind==50))]) b s st rows) (h:Rd.wp (UP A l) s Q E)
 (k:∀n s1 U,mu s1<mu s->Cx (st0.Aa c2 [.bool ((l++[n]).any λx=> !(x.kind==50))]) b s1 U rows->Q n s1->K (.ret (enc n)) U)
 (kb:∀e s1 U,Cy st0 b s1 U rows->E e s1->K (.BK (fault e.1)) U):PC 191 [tF b d,.ptr c2 0] st K:=by
 simp only [UP,Rd.Ap,Rd.wp_seq,Rd.AF,Rd.wp_ret,Rd.GK] at h
 simp only [List.any_append,List.any_cons,List.any_nil,Bool.or_false] at k
 have hmu:=hc.mu
 generalize (l.any λx=> !(x.kind==50))=o at hc h k
 refine AP Ab [] Tryz.func191 rfl Do rfl ?_
 refine Af (Ae Ab ?_)
 repeat' ((conv=>whnf);(first|refine BM ?_|fail)<;>intros)
 refine Af (Ae Ab ?_)
 repeat' ((conv=>whnf);first|(refine BM ?_;intros)|refine Cf ?_|refine Pq hc.has ?_ (λt u o1 o2 e=>?_))
 all_goals refine Af (Ae Ab ?_)
 all_goals (repeat' ((conv=>whnf);first|(refine BM ?_;intros)|refine Cf ?_|refine AY.pK ht hF hc h (λn s1 U hr hm hc h=>?_) (λe s1 U hc h=>?_)|exact ⟨_,_,.inl rfl,St.le_refl _,kb _ _ _ (hc.unbox f2) h⟩|fail))
 all_goals cases hk:n.kind==50
 all_goals cases o
 all_goals simp only [hk,Bool.and_false,Bool.and_true,Bool.false_and,Bool.true_and,Bool.false_eq_true,if_false,if_true] at h
 all_goals have hk2:=hk
 all_goals simp only [beq_iff_eq,beq_eq_false_iff_ne] at hk2
 all_goals refine Ae Ab ?_
 all_goals (repeat' ((conv=>whnf);first|(refine BM ?_;intros)|refine Ah (Cx.boxed hc f2) ?_|refine FU hc hmu (λU hc=>?_)|refine Cf ?_|exact Bm rfl (k _ _ _ hm (by rw [hk]<;>exact Cx.pX hc f2.2) h)|exact Bm rfl (k _ _ _ hm (by exact Cx.pX hc f2.2) h)|exact ⟨_,_,.inl rfl,St.le_refl _,kb _ _ _ (hc.y.unbox f2) h⟩|fail))
theorem Ys {X:Al->Rs} {hle:∀s v s',X s=.inr (v,s')->mu s'<=mu s} (h:∀s v s',X s=.inr (v,s')->mu s'<mu s):Rd.A7 (IQ X hle):=λs v s' e=>h s v s' (by
 unfold IQ at e
 dsimp only at e
 split at e
 .split at e<;>cases e
 .rename_i U;rw [U];injection e with e;rw [e])
theorem qe {hle:∀s v s',CT A s=.inr (v,s')->mu s'<=mu s} {E:Er->Al->Prop} (h:Rd.wp A s Q E):Rd.wp (IQ (CT A) hle) s Q E:=by
 have e:(IQ (CT A) hle).run s=A.run s:=by
  unfold IQ CT
  dsimp only
  cases U:A.run s with
  |inl p=>simp only [U];rw [dif_neg p.1.2]
  |inr p=>simp only [U]
 unfold Rd.wp at h |-
 rw [e];exact h
theorem gX (hf:C1 g (d:Int) (CT A)) (h0:d=0->∀s,CT A s=.inl (2,s)):AY enc 110 (λb=>[.ptr b 0,.func g [] [],.int .i64 (d:Int)]) A:=
 ⟨λ{st0 b s st rows K} hc h=>(Me (A:=CT A) (hle:=λs v s' e=>by
   unfold CT at e
   split at e
   .cases e
   .rename_i p hp;cases e;exact A.le _ _ _ hp) (λs e s' U=>by
   unfold CT at U
   split at U
   .rename_i p hp;cases U;exact p.1.2
   .cases U) hf h0).ap hc (qe h)⟩
theorem cR (U:1<=d) (h1:d<=100):AY enc 110 (λb=>[.ptr b 0,.func 226 [] [],.int .i64 (d:Int)]) (Sj d):=
 gX (λs hm st R h=>pg (deep:=(d:Int)) hm (by rw [PG U h1];exact h)) (λe=>by omega)
theorem YD (U:d<=100):AY enc 110 (λb=>[.ptr b 0,.func 326 [] [],.int .i64 (d:Int)]) (Tp d):=
 gX (λs hm st R h=>lz (deep:=(d:Int)) hm (by
  cases d with
  |zero=>exact h
  |succ d=>rw [PG (Nat.succ_le_succ (Nat.zero_le d)) U];exact h)) (λe=>by subst e;intro s;rfl)
theorem oR (h0:1<=d) (U:d<=100):AY enc 192 (λb=>[pv b d]) (oQ d):=by
 have ha:=kM h0 U
 have hr:=oT h0 U
 have hw:=eF h0 U
 have hA:Rd.A7 (UK d):=Ys λs v s' e=>BC (Bv _) _ _ _ e
 have hc:=ZA hA (lg ha) (ez (RD ha) hw)
 have hd:AY enc 110 (λb=>[.ptr b 0,.func 326 [] [],.int .i64 ((d:Int) - 1)]) (Tp (d - 1)):=by
  have:=YD (d:=d - 1) AC
  rwa [show (((d - 1:Nat)):Int)=(d:Int) - 1 by omega] at this
 exact oW XF (XM hr hw NS) (kN hc hr) (XG hc hr) (et hr hd U) (UO hr hd U) (UM hw) (XE (kS h0 U)) (cR h0 U)
theorem er (ht:AY enc 192 (λb=>[pv b d]) A) (hF:Rd.A7 A):AY enc 156 (λb=>[pv b d]) (UL A):=by
 refine ⟨λ{st0 b s st rows K} hc h=>?_⟩
 refine AP Ab [] Tryz.func156 rfl Do rfl ?_
 refine Af (Ae Ab ?_)
 repeat' ((conv=>whnf);(first|  fail)<;>intros)
 refine OJ 1 0 rfl rfl rfl ?_
 refine Af (Ae Ab ?_)
 repeat' ((conv=>whnf);(first|  fail)<;>intros)
 refine KR 3 2 rfl rfl rfl (λc fc=>?_)
 have U:=hc.TL fc
 have hc:=hc.Uo (cs:=[.bool false]) fc
 have hB:∀{K:At->St->Prop},Rd.wp (UL A) s (λn s'=>∀(l:List Nd) st',Cx (st0.Aa c [.bool (l.any λx=> !(x.kind==50))]) b s' st' rows->K (.ret (enc n)) st') (λe s'=>∀st',Cy st0 b s' st' rows->K (.BK (fault e.1)) st')->PC 189 [.ptr b 0,.func 190 [] [],.func 191 [] [tF b d,.ptr c 0]] (st.Aa c [.bool false]) K:=λh=>
  Se (fs:=[]) (cs:=[tF b d,.ptr c 0]) (starts:=bK) (base:=λl=>st0.Aa c [.bool (l.any λx=> !(x.kind==50))]) (item:=UP A) (λk=>eE k)
   (λl s st rows K Q E hc h k kb=>fB ht hF U hc h k kb) (λhc=>hc.unbox U) hc h
 refine Ae Ab ?_
 repeat' ((conv=>whnf);first|  refine hB (Rd.wp_mono h (λv s' r q l st' hk=>?_) (λe s' r q st' hk=>?_))|exact CL (hk.unbox U) q rfl|exact CL (hk.unbox U) q BV|exact BO hk q|fail)
theorem Zz (U:1<=d) (h1:d<=100):AY enc 156 (λb=>[pv b d]) (Kv d):=er (oR U h1) (Yu d)
end
section
variable {st0 st:St} {b d c:Nat} {s:Al} {K R:At->St->Prop}
theorem oU (hA:AY enc g (λb=>[pv b d]++cs) A) (hx:st.box c=some [.func g [] cs]) (hs:Has st b s) (hm:mu s<=100000000) (ht:Em st b K (CT A s)):PC 188 [.ptr b 0,.int .i64 (d:Int),.ptr c 0] st K:=by
 have U:∀{K:At->St->Prop},Em st b K (CT A s)->PC g ([pv b d]++cs) st K:=λh=>Ru hA hs hm h
 refine pB Tryz.func188 ?_
 unfold CT at *
 cases hr:A.run s with
 |inl p=>
  rw [hr] at ht U
  repeat' ((conv=>whnf);first|  refine Ah hx ?_|refine A5.2 ?_|refine U (λst1 hu=>?_))
  all_goals exact ⟨_,_,.inl rfl,St.le_refl _,ht _ hu⟩
 |inr p=>
  rw [hr] at ht U
  repeat' ((conv=>whnf);first|  refine Ah hx ?_|refine A5.2 ?_|refine U (λst1 hu=>?_))
  all_goals exact Bm rfl (ht _ hu)
theorem lj {A:Nat->Rd Nd} (hA:∀d:Nat,1<=d->d<=100->AY enc g (λb=>[pv b d]++cs) (A d)) (hm:mu s<=100000000) (h:K (.ret (Jh (Ce s deep (CT (A (Dp deep)) s)))) st):
 PC 155 [Dz s,.int .i64 deep,.func g [] cs] st K:=by
 refine AP Ab [] Tryz.func155 rfl Do rfl ?_
 refine Af (Ae Ab ?_)
 repeat' ((conv=>whnf);(first|  fail)<;>intros)
 refine KR 5 1 rfl rfl rfl (λc fc=>?_)
 refine Ae Ab ?_
 have hq:¬deep<1->∀(b:Nat) (U:St) (R:At->St->Prop),(st.Aa c [.func g [] cs]).le U->Has U b s->Em U b R (CT (A (Dp deep)) s)->PC 188 [.ptr b 0,.int .i64 (if 100<deep then 100 else deep),.ptr c 0] U R:=λhd b U R hle hs ht=>by
  have e:(if 100<deep then 100 else deep)=((Dp deep:Nat):Int):=by unfold Dp;split<;>omega
  rw [e]
  exact oU (hA _ (by unfold Dp;split<;>omega) (by unfold Dp;split<;>omega)) (hle.1 _ _ (St.Ai ..)) hs hm ht
 obtain ⟨n,s',e,hq3⟩:∃n s' e,Ce s deep (CT (A (Dp deep)) s)=(n,s',e):=⟨_,_,_,rfl⟩
 rw [hq3] at h
 have hcat:∀{K:At->St->Prop},K (.ret (PR n s' e)) (st.Aa c [.func g [] cs])->PC 64 [Dz s,.int .i64 deep,.func 188 [] [.ptr c 0]] (st.Aa c [.func g [] cs]) K:=λk=>ZY (s:=s) (q:=CT (A (Dp deep)) s) hq (by rw [hq3];exact k)
 repeat' ((conv=>whnf);(first|  refine hcat ?_)<;>intros)
 all_goals exact DK (St.Aj (St.le_refl _) fc.1 _) rfl h
theorem eQ (hm:mu s<=100000000) (h:K (.ret (Jh (Ce s deep (CT (Kv (Dp deep)) s)))) st):PC 111 [Dz s,.int .i64 deep] st K:=by
 refine pB Tryz.func111 ?_
 repeat' ((conv=>whnf);(first|  refine lj (s:=s) (cs:=[]) (A:=Kv) (λd U h1=>Zz U h1) hm ?_)<;>intros)
 all_goals exact Bm rfl h
end
section
variable {st:St} {K:At->St->Prop}
attribute [local irreducible] Go.Aw.Ag
theorem dq:AY enc 220 (λb=>[pv b d]++[.FY [.bool o] 0]) (Gi o):=by
 refine ⟨λ{st0 b s st rows K} U h=>?_⟩
 refine pB Tryz.func220 ?_
 repeat' ((conv=>whnf);first|  refine AY.go (SR (o:=o)) U h (λn s1 st1 hr hm U h=>?_) (λe s1 st1 U h=>?_)|exact CL U h rfl|exact CL U h BV|exact BO U h|fail)
theorem eR {s:Al} (U:mu s<=100000000) (h:K (.ret (Jh (Ce s 1 (CT (Gi o) s)))) st):PC 187 [Dz s,.bool o] st K:=by
 refine AP Ab [] Tryz.func187 rfl Do rfl ?_
 refine Af (Ae Ab ?_)
 repeat' ((conv=>whnf);first|  fail)
 refine OJ 3 1 rfl rfl rfl ?_
 refine Ae Ab ?_
 repeat' ((conv=>whnf);first|  refine lj (s:=s) (deep:=1) (cs:=[.FY [.bool o] 0]) (A:=λ_=>Gi o) (λd h0 h1=>dq) U ?_)
 all_goals exact Bm rfl h
end
def Kf:Rd (List Nd):=.look λs=>if Bp s 9 UU=true then .seq AO λm=>.seq (Df [2,4]) λn=>.look λs=>
 if Bp s 15 [40]=true then .seq (Gi false) λx=>.seq (BA 9 Je) λw=>.ret ([m]++[n]++[x]++[w]) else .seq (BA 9 Je) λw=>.ret ([m]++[n]++[w])
 else .ret []
def aM (A:Rd Nd):Rd Nd:=.seq Kf λl=>.seq A λb=>.look λs=>if ((Ac s).1.kind==21)=true then .ret (Az 53 (l++[b])) else RR
def Ff (d:Nat):Rd Nd:=aM (Kv d)
theorem YB {s s':Al} (h:Kf.run s=.inr (l,s')):l.length<=4:=by
 replace h:(if Bp s 9 UU=true then .seq AO λm=>.seq (Df [2,4]) λn=>.look λs=>
  if Bp s 15 [40]=true then .seq (Gi false) λx=>.seq (BA 9 Je) λw=>.ret ([m]++[n]++[x]++[w]) else .seq (BA 9 Je) λw=>.ret ([m]++[n]++[w])
 else .ret []:Rd (List Nd)).run s=.inr (l,s'):=h
 split at h
 .obtain ⟨m,s1,_,h⟩:=Bb h
  obtain ⟨n,s2,_,h⟩:=Bb h
  replace h:(if Bp s2 15 [40]=true then .seq (Gi false) λx=>.seq (BA 9 Je) λw=>.ret ([m]++[n]++[x]++[w]) else .seq (BA 9 Je) λw=>.ret ([m]++[n]++[w]):Rd (List Nd)).run s2=.inr (l,s'):=h
  split at h
  .obtain ⟨x,s3,_,h⟩:=Bb h
   obtain ⟨w,s4,_,h⟩:=Bb h
   cases h;simp
  .obtain ⟨w,s4,_,h⟩:=Bb h
   cases h;simp
 .cases h;simp
section
variable {st0 st:St} {b d:Nat} {s:Al} {rows:List (AA×List Nd)} {K R:At->St->Prop}
attribute [local irreducible] Go.Aw.Ag
theorem ZT:El (CT A):=λs e s' U=>by
 unfold CT at U
 split at U
 .rename_i p hp;cases U;exact p.1.2
 .cases U
theorem gW {x:Int} (hf:∀(s:Al),mu s<=100000000->∀(st:St) (R:At->St->Prop),R (.ret (Jh (Ce s 1 (CT A s)))) st->PC g [Dz s,.int .i64 x] st R):
 AY enc 110 (λb=>[.ptr b 0,.func g [] [],.int .i64 x]) A:=⟨λ{st0 b s st rows K} U h=>by
 have ht:=Ry (A:=CT A) (hle:=λs v s' e=>by
  unfold CT at e
  split at e
  .cases e
  .rename_i p hp;cases e;exact A.le _ _ _ hp) ZT U (qe h)
 have hf:=hf s U.mu
 unfold Ce at hf
 simp only [show ¬(1:Int)<1 by decide,if_false] at hf
 cases hq:CT A s with
 |inr p=>
  rw [hq] at ht hf
  exact Qo (n:=p.1) (s':=p.2) (e:=0) hf U.has (λ_=>ht) (λe=>absurd rfl e)
 |inl p=>
  rw [hq] at ht hf
  have hne:=ZT s p.1 p.2 hq
  exact Qo (n:=Kj) (s':=p.2) (e:=p.1) hf U.has (λe=>absurd e hne) (λ_=>ht)⟩
theorem iK {x:Int} (hm:mu s<=100000000) (h:K (.ret (Jh (Ce s 1 (CT (Gi false) s)))) st):PC 152 [Dz s,.int .i64 x] st K:=by
 obtain ⟨n,t,e,U⟩:∃n t e,Ce s 1 (CT (Gi false) s)=(n,t,e):=⟨_,_,_,rfl⟩
 have hn:∀{st:St} {K:At->St->Prop},K (.ret (PR n t e)) st->PC 187 [Dz s,.bool false] st K:=λh=>eR hm (by rw [U];exact h)
 rw [U] at h
 refine pB Tryz.func152 ?_
 repeat' ((conv=>whnf);first|  refine hn ?_)
 all_goals exact Bm rfl h
theorem YW:lD jU (λl=>l) 109 (λb=>[.ptr b 0]) Kf:=by
 refine ⟨λ{st0 b s st rows K} hc h=>?_⟩
 simp only [Kf,Rd.Ap,Rd.AF,Rd.wp_seq,Rd.wp_ret] at h
 have hmu:=hc.mu
 have hn:AY enc 110 (λb=>[.ptr b 0,.func 152 [] [],.int .i64 0]) (Gi false):=gW λs hm st R h=>iK hm h
 refine pB Tryz.func109 ?_
 repeat' ((conv=>whnf);first|(refine A1 ?_;intros)|(refine S5 ?_ ?_<;>intro U hc e h)|(refine RL ?_;intro s1 U hz hm hc h)|(refine JY ?_ ?_<;>(first|intro n s1 U hr hm hc h|intro e s1 U hc h))|exact Gd|(refine RO ?_;intro own1 U hc)|refine AY.go (DM (ks:=[2,4]) rfl) hc h (λn s1 U hr hm hc h=>?_) (λe s1 U hc h=>?_)|refine AY.go hn hc h (λn s1 U hr hm hc h=>?_) (λe s1 U hc h=>?_)|refine Cx.Fo (l:=[_]) (hc.push [_]) (Nat.le_of_ble_eq_true rfl) (λown1 U hc=>?_)|exact fin (h .full _ (hc.push [])) rfl|fail)
theorem YV {Q:List Nd->Al->Prop} (hc:Cx st0 b s st rows) (h:Rd.wp Kf s Q E)
 (k:∀l own1 s1 U,l.length<=4->mu s1<=mu s->Cx st0 b s1 U ((own1,l)::rows)->Q l s1->K (.ret (jU l own1)) U) (kb:∀e s1 U,Cy st0 b s1 U rows->E e s1->K (.BK (fault e.1)) U):PC 109 [.ptr b 0] st K:=
 lD.go YW hc h (λl own1 s1 U hr hm hc h=>k l own1 s1 U (YB hr) hm hc h) kb
theorem Y0 (h0:1<=d) (h1:d<=100):AY enc 65 (λb=>[.ptr b 0,.int .i64 (d:Int)]) (Ff d):=by
 refine ⟨λ{st0 b s st rows K} hc h=>?_⟩
 simp only [Ff,aM,Rd.Ap,Rd.AF,Rd.wp_seq,Rd.wp_ret] at h
 have hmu:=hc.mu
 have hb:AY enc 110 (λb=>[.ptr b 0,.func 111 [] [],.int .i64 (d:Int)]) (Kv d):=gX (λs hm st R h=>eQ hm (by rw [PG h0 h1];exact h)) (λe=>by omega)
 refine pB Tryz.func65 ?_
 repeat' ((conv=>whnf);first|refine Fx h (λe h=>?_) (λe h=>?_)|(refine ZO ?_;intro U hc)|(refine uu ?_;intro e s1 U hc h)|exact Gd|(refine RO ?_;intro own1 U hc)|refine YV hc h (λl own1 s1 U hl hm hc h=>?_) (λe s1 U hc h=>?_)|refine AY.go hb hc h (λn s1 U hr hm hc h=>?_) (λe s1 U hc h=>?_)|refine Cx.Fo (l:=l) hc AC (λown1 U hc=>?_))
theorem eP (hm:mu s<=100000000) (h:R (.ret (Jh (Ce s deep (CT (Ff (Dp deep)) s)))) st):PC 40 [Dz s,.int .i64 deep] st R:=by
 obtain ⟨n,t,e,U⟩:∃n t e,Ce s deep (CT (Ff (Dp deep)) s)=(n,t,e):=⟨_,_,_,rfl⟩
 have hc:∀{K:At->St->Prop},K (.ret (PR n t e)) st->PC 64 [Dz s,.int .i64 deep,.func 65 [] []] st K:=λh=>LO (s:=s) (q:=CT (Ff (Dp deep)) s) (λhd b st5 R hs ht=>by
  have e:(if 100<deep then 100 else deep)=((Dp deep:Nat):Int):=by unfold Dp;split<;>omega
  rw [e]
  exact Ru (Y0 (by unfold Dp;split<;>omega) (by unfold Dp;split<;>omega)) hs hm ht) (by rw [U];exact h)
 rw [U] at h
 refine pB Tryz.func40 ?_
 repeat' ((conv=>whnf);first|  refine hc ?_)
 all_goals exact Bm rfl h
end
end Go.Proofs.Z
namespace Go.Aw
open Go
theorem kP (l:List UInt8):∀q,C6 l=.inl q->q.1<=l.length:=by
 fun_induction C6 l with
 |case1 l h=>intro q U;cases U
 |case2 l h e he=>intro q U;cases U;exact Nat.zero_le _
 |case3 l h p hp q' hq ih=>
  intro q U
  cases U
  have:=ED hp
  have:=ih _ hq
  rw [List.length_drop] at this
  dsimp only
  omega
 |case4 l h p hp n hn ih=>intro q U;cases U
theorem fM {l:List UInt8} {q:Nat×Int} (h:Ep l=.inl q):q.1<=l.length:=by
 unfold Ep at h
 split at h
 .cases h;exact Nat.zero_le _
 .split at h
  .cases h;exact Nat.zero_le _
  .rename_i p U
   have:=ED U
   split at h
   .cases h
   .cases h;exact this.2
theorem rR {p:Nat} (h:(Bs s p).2.2≠0):0<=(Bs s p).2.1/\(Bs s p).2.1<=s.length:=by
 have key:∀c:Int,0<=c->AE (s.drop p)=c->p<s.length:=λc hc e=>BS (k:=p) AC
 unfold Bs at h |-
 split
 .rename_i U
  have hp:=key 34 Do U
  rw [if_pos U] at h
  split
  .rename_i q hq
   have:=kP _ _ hq
   rw [List.length_drop] at this
   dsimp only;omega
  .rename_i n hn;rw [hn] at h;exact absurd rfl h
 .rename_i U
  rw [if_neg U] at h
  split
  .rename_i h2
   have hp:=key 39 Do h2
   rw [if_pos h2] at h
   split
   .rename_i q hq
    have:=fM hq
    rw [List.length_drop] at this
    dsimp only;omega
   .rename_i n hn;rw [hn] at h;exact absurd rfl h
  .rename_i h2;rw [if_neg h2] at h;exact absurd rfl h
theorem nC {p:Nat} (hp:p<=s.length) (h:(Cm s p).2.2≠0):0<=(Cm s p).2.1/\(Cm s p).2.1<=s.length:=by
 unfold Cm at h |-
 split
 .rename_i U;rw [if_pos U] at h;exact absurd rfl h
 .rename_i U
  rw [if_neg U] at h
  split
  .rename_i h2
   rw [if_pos h2] at h
   split
   .dsimp only;omega
   .rename_i h3;rw [if_neg h3] at h;exact absurd rfl h
  .rename_i h2;rw [if_neg h2] at h;exact rR h
end Go.Aw
namespace Go.Proofs.Z
open Go Go.Aw
theorem nA {p:Nat} {x:Lx} {i e:Int} (h:F5 s p x=.inl (i,e)):0<=i/\i<=s.length:=by
 fun_induction F5 s p x with
 |case1 p x U h1=>cases h;omega
 |case2 p x U h1 h2 h3 ih=>exact ih h
 |case3 p x U h1 h2 h3=>cases h
 |case4 p x U h1 h2 h3=>cases h;exact nC (Nat.le_of_lt U) h3
 |case5 p x U h1 h2 h3 h4 ih=>exact ih h
 |case6 p x U h1 h2 h3 h4=>cases h
 |case7 p x U=>cases h
theorem ny {i e:Int} (h:F4 s=.inl (i,e)):0<=i/\i<=s.length:=by
 unfold F4 at h
 split at h
 .cases h;omega
 .split at h
  .injection h with h
   have:=ML DV s
   unfold LP at h
   split at h<;>(cases h;omega)
  .split at h
   .rename_i U
    cases h
    refine ⟨U,?_⟩
    unfold VN
    split<;>omega
   .exact nA h
theorem nB {p:Nat} {x y:Lx} (h:∀t ∈ x.AV,t.text.length<=s.length/\1<=t.line/\t.line<=1+s.length) (e:F5 s p x=.inr y):∀t ∈ y.AV,t.text.length<=s.length/\1<=t.line/\t.line<=1+s.length:=by
 fun_induction F5 s p x with
 |case1 p x U h1=>cases e
 |case2 p x U h1 h2 h3 ih=>exact ih h e
 |case3 p x U h1 h2 h3=>injection e with e;subst e;exact h
 |case4 p x U h1 h2 h3=>cases e
 |case5 p x U h1 h2 h3 h4 ih=>
  refine ih (λt ht=>?_) e
  rcases List.mem_append.1 ht with ht|ht
  .exact h t ht
  .rw [List.mem_singleton.1 ht]
   have:=RH s.length s p (1,1) (Nat.le_refl _) Do
   refine ⟨?_,this.1,this.2.1⟩
   show (Bc s p _).length<=_
   unfold Bc
   rw [List.length_drop,List.length_take]
   omega
 |case6 p x U h1 h2 h3 h4=>injection e with e;subst e;exact h
 |case7 p x U=>injection e with e;subst e;exact h
theorem iq {y:Lx} (e:F4 s=.inr y):∀t ∈ y.AV,t.text.length<=s.length/\1<=t.line/\t.line<=1+s.length:=by
 unfold F4 at e
 split at e
 .cases e
 .split at e
  .cases e
  .split at e
   .cases e
   .exact nB (λt U=>by cases U) e
theorem ir {y:Lx} (hl:s.length<=90000000) (e:F4 s=.inr y):eX y.AV:=λt U=>by have:=iq e t U;omega
theorem dp (l:List Tk):(F7 l).length<=2*l.length+1:=by
 have h:=Ki l none
 have U:(Su l).length<=1:=by
  unfold Su
  split
  .exact Nat.le_refl _
  .split<;>simp
 unfold F7
 rw [List.length_append]
 omega
def Oq (s:Al):Int×Int:=if s.pos<s.AV.length then (match s.AV[s.pos.toNat]? with|some t=>(t.line,t.Cp)|none=>(0,0)) else (0,0)
end Go.Proofs.Z
namespace Go.Aw
open Go
section
variable {P:Program} {T:List (Nat×Ty)}
theorem Tm (hP:MZ P T) {fn:Func} (gl:List Nat) {st:St} {R:St->Prop} (hf:P.funcs[g]? =some fn) {c:Code} (hb:fn.body=some c) (hle:Nat.ble args.length fn.ntmps=true)
 (h:AW P c (sZ T fn R) {tmps:=Hg 0 args,boxes:=[],BG:=0,sz:=fn.ntmps,gl} st):GM P g args none st R:=by
 intro I w cargs u hs hargs hx
 have hx:u=.returning:=hx
 subst hx
 refine callsD_of_wpS hf hb (λc0 cs hu=>?_)
 refine wpS_of_wp (wp_mono (h [] I st w I _ _ w (EX (fn:=fn) gl hs hargs hle)) ?_)
 rintro e a5 w5 ⟨I5,β5,U,st5,ae,r5,x5,k5⟩
 have last:R4 T fn (λ_ st=>R st) U st5->a5.defers=[]/\∃u',c0::cs={c0 with mode:=u'}::cs/\∃v,(results fn a5.tmps).run P w5=.ok v w5/\((∃v',Ending.returned v=.returned v')/\settle u'=.returning/\∃I' st',Fr I st w I' st' w5/\B7 I' st' w5/\R st'):=λq=>by
  obtain ⟨v,c,g1,g2,g3⟩:=B6 (P:=P) (R:=λ_ st=>R st) hP.t r5 (show Es T U st5 fn.results.toList _ from q)
  exact ⟨r5.f.defers,.returning,by rw [<-hu],c,g1,⟨_,rfl⟩,rfl,I5,st5,r5.fr,r5.s,g3⟩
 cases ae with
 |normal=>
  cases e with
  |normal=>exact last k5
  |_=>exact x5.elim
 |ret=>
  cases e with
  |ret=>exact last k5
  |_=>exact x5.elim
 |BK v=>exact k5.elim
 |exit _=>exact k5.elim
 |goto _=>exact k5.elim
end
end Go.Aw
namespace Go.Proofs.Z
open Go Go.Aw
structure Iv (P:Al->Prop):Prop where
 nx:∀{s:Al},P s->(Ac s).2.2=0->P (Ac s).2.1
 cl:∀{s:Al},P s->(DJ s).2=true->P (DJ s).1
section
variable {α β σ:Type} {P:Al->Prop} {A B C D E F:Rd Nd}
def B0 (P:Al->Prop) (A:Rd α):Prop:=∀s,P s->Rd.wp A s (λ_=>P) (λ_=>P)
theorem B0.ret {v:α}:B0 P (.ret v):=λs h=>h
theorem B0.fail {e:Er}:B0 P (.fail e:Rd α):=λs h=>h
theorem B0.Ge {t:Al} {e:Er} (h:P t):B0 P (.Ge t e:Rd α):=λs _=>h
theorem B0.bad:B0 P (RR:Rd α):=λs h=>h
theorem B0.take (N:Iv P):B0 P AO:=λs h=>by
 unfold Rd.wp
 by_cases e:(Ac s).2.2=0
 .rw [Ey e];exact N.nx h e
 .rw [MT e];exact h
theorem B0.close (N:Iv P):B0 P M9:=λs h=>by
 unfold Rd.wp M9
 dsimp only
 by_cases e:(DJ s).2=true
 .rw [if_pos e];exact N.cl h e
 .rw [if_neg e];exact h
theorem B0.seq {m:Rd β} {k:β->Rd α} (h:B0 P m) (g:∀v,B0 P (k v)):B0 P (.seq m k):=λs U=>by
 rw [Rd.wp_seq]
 exact Rd.wp_mono (h s U) (λv s' _ h=>g v s' h) (λ_ _ _ h=>h)
theorem B0.look {f:Al->Rd α} (h:∀s,P s->B0 P (f s)):B0 P (.look f):=λs U=>h s U s U
theorem B0.ite {c:Prop} [Decidable c] {a b:Rd α} (h:B0 P a) (g:B0 P b):B0 P (if c then a else b):=by split<;>assumption
theorem B0.inl {A:Rd α} (h:B0 P A) {s s':Al} {e:Er} (hs:P s) (U:A.run s=.inl (e,s')):P s':=by
 have:=h s hs
 unfold Rd.wp at this
 rw [U] at this;exact this
theorem B0.inr {A:Rd α} (h:B0 P A) {s s':Al} {v:α} (hs:P s) (U:A.run s=.inr (v,s')):P s':=by
 have:=h s hs
 unfold Rd.wp at this
 rw [U] at this;exact this
theorem aF {body:σ->Rd (Sum σ β)} (h:∀x,B0 P (body x)) (x:σ) (s:Al):P s->(∀e s',Rd.iter body x s=.inl (e,s')->P s')/\∀v s',Rd.iter body x s=.inr (v,s')->P s':=by
 fun_induction Rd.iter body x s with
 |case1 x s e h1=>intro U;exact ⟨λe' s' e=>by cases e;exact (h x).inl U h1,λv s' e=>by cases e⟩
 |case2 x s y s1 h1=>intro U;exact ⟨λe' s' e=>(by cases e),λv s' e=>by cases e;exact (h x).inr U h1⟩
 |case3 x s x' s1 h1 hlt ih=>intro U;exact ih ((h x).inr U h1)
 |case4 x s x' s1 h1 hlt=>intro U;exact ⟨λe' s' e=>by cases e;exact U,λv s' e=>by cases e⟩
theorem B0.loop {body:σ->Rd (Sum σ β)} (h:∀x,B0 P (body x)) {x:σ}:B0 P (.loop body x):=λs U=>
 Rd.XV (λv s' e=>(aF h x s U).2 v s' e) (λe s' he=>(aF h x s U).1 e s' he)
structure Lt (P:Al->Prop) (L:EN):Prop where
 atom:B0 P L.atom
 exp:B0 P L.exp
 ops:B0 P L.ops
 decls:B0 P L.decls
 stmts:B0 P L.stmts
 alts:B0 P L.alts
 GP:∀n,B0 P (L.GP n)
 list:∀n,B0 P (L.list n)
end
section
attribute [local irreducible] B0 Rd.ret Rd.seq Rd.look Rd.loop Rd.fail Rd.Ge
theorem q7 {α β:Type} {P:Al->Prop} {it:β->Rd α} (h:∀l,B0 P (it l)) {l:β}:B0 P (it l):=h l
theorem kp {p:Prop} (h:p:=by repeat' (first|assumption|(with_reducible first|exact B0.ret|exact B0.fail|exact B0.bad|exact B0.take ‹_›|exact B0.close ‹_›|exact B0.Ge ‹_›|exact Lt.GP ‹_› _|exact Lt.list ‹_› _|exact q7 ‹_›)|refine B0.look ?_|refine B0.ite ?_ ?_|refine B0.seq ?_ ?_|refine B0.loop ?_|intro _)):p:=h
section
variable {α:Type} {P:Al->Prop} {A B C D E F:Rd Nd} {L:EN}
theorem K6 (N:Iv P) (U:Lt P L) (hA:B0 P A):B0 P (Ij L A):=by
 obtain ⟨h1,h2,h3,h4,h5,h6,h7,h8⟩:=id U;exact kp
theorem JF (N:Iv P) (U:Lt P L):B0 P (Lz L):=by
 obtain ⟨h1,h2,h3,h4,h5,h6,h7,h8⟩:=id U;exact kp
theorem YH (N:Iv P) (U:B0 P A):B0 P (Za A):=kp
theorem q8 (N:Iv P) (U:B0 P A) (hB:B0 P B):B0 P (cM A B):=kp
theorem TW (N:Iv P) (U:B0 P A) (hB:B0 P B) (hC:B0 P C):B0 P (EH A B C n):=kp
theorem ni (N:Iv P) (U:B0 P A) (hB:B0 P B):B0 P (Qz A B n):=kp
theorem nk (N:Iv P) (U:Lt P L) (hA:B0 P A):B0 P (SO L A):=by
 obtain ⟨h1,h2,h3,h4,h5,h6,h7,h8⟩:=id U;exact kp
theorem ib (N:Iv P) (U:Lt P L) (hA:B0 P A) (hB:B0 P B) {m:List UInt8}:B0 P (Zk L A B m):=by
 obtain ⟨h1,h2,h3,h4,h5,h6,h7,h8⟩:=id U;exact kp
theorem q6 (N:Iv P) (hL:Lt P L) (hA:B0 P A) (U:B0 P B) (hC:B0 P C):B0 P (bU L A B C):=by
 have:=ib N hL U hC (m:=[45,62])
 exact kp
theorem ng (N:Iv P) (hL:Lt P L) (hA:B0 P A) (hB:B0 P B) (U:B0 P C) (hD:B0 P D) (hE:B0 P E):B0 P (Sl L A B C D E):=by
 have:=ib N hL U hD (m:=[61])
 exact kp
theorem cW (N:Iv P) {p:Tk->Bool} {it:List Nd->Rd Nd} (U:∀l,B0 P (it l)):B0 P (LI p it):=kp
theorem Mf (N:Iv P) {p:Tk->Bool} (U:B0 P A):B0 P (E4 p A):=kp
theorem nn (N:Iv P) (U:B0 P A) (hB:B0 P B) (hC:B0 P C) (hD:B0 P D) (hE:B0 P E) (hF:B0 P F):B0 P (ld A B C D E F):=kp
end
section
attribute [local semireducible] B0
variable {α:Type} {P:Al->Prop} {A B C D E F:Rd Nd} {L:EN}
def uo {β:Type} (P:Al->Prop) (q:Sum (Int×Al) (β×Al)):Prop:=match q with| .inl p=>P p.2| .inr p=>P p.2
def RN (P:Al->Prop) (A:Al->Rs):Prop:=∀s,P s->uo P (A s)
def tW (P:Al->Prop) (q:Ls):Prop:=uo P q
variable {X Y:Al->Rs}
theorem Ob (N:Iv P) {s:Al} (hs:P s) (h:Bp s k x=true) (U:k≠0):P (Ac s).2.1:=N.nx hs (GX h U)
theorem Mj (N:Iv P):RN P CQ:=λs U=>by
 unfold CQ
 split
 .exact N.nx U ‹_›
 .exact U
theorem B0.of {hle:∀s v s',X s=.inr (v,s')->mu s'<=mu s} (h:RN P X):B0 P (IQ X hle):=λs hs=>by
 have U:=h s hs
 unfold Rd.wp IQ
 dsimp only
 cases e:X s with
 |inl p=>
  rw [e] at U
  have U:P p.2:=U
  dsimp only
  by_cases h:p.1=0
  .rw [dif_pos h];exact U
  .rw [dif_neg h];exact U
 |inr p=>rw [e] at U;exact U
theorem nj (hX:RN P X) (l:List Nd) (s:Al) (hs:P s):tW P (Gl X l s):=by
 fun_induction Gl X l s with
 |case1 l s h1 e1 U=>have:=hX s hs;rw [U] at this;exact this
 |case2 l s h1 p U h3 ih=>have:=hX s hs;rw [U] at this;exact ih this
 |case3 l s h1 p U h3=>exact hs
 |case4 l s h1=>exact hs
theorem Mi (hX:RN P X):RN P (Gm X):=λs hs=>by
 have U:=hX s hs
 unfold Gm
 cases e:X s with
 |inl p=>rw [e] at U;exact U
 |inr p=>
  rw [e] at U
  have h2:=nj hX [p.1] p.2 U
  dsimp only
  cases e2:Gl X [p.1] p.2 with
  |inl q=>rw [e2] at h2;exact h2
  |inr q=>rw [e2] at h2;dsimp only;split<;>exact h2
theorem nf (N:Iv P) (hX:RN P X) (l:List Nd) (s:Al) (hs:P s):tW P (GN X l s):=by
 fun_induction GN X l s with
 |case1 l s U e1 h2=>have:=Mi hX _ (Ob N hs U Do);rw [h2] at this;exact this
 |case2 l s U p h2 h3 ih=>have:=Mi hX _ (Ob N hs U Do);rw [h2] at this;exact ih this
 |case3 l s U p h2 h3=>exact hs
 |case4 l s U=>exact hs
theorem Qs (N:Iv P) (hX:RN P X):RN P (DL X n):=λs hs=>by
 have U:=nf N hX [n] s hs
 unfold DL
 cases e:GN X [n] s with
 |inl q=>rw [e] at U;exact U
 |inr q=>rw [e] at U;dsimp only;split<;>exact U
theorem Nv (N:Iv P) (hX:RN P X):RN P (D2 X):=λs hs=>by
 have U:=Mi hX s hs
 unfold D2
 cases e:Gm X s with
 |inl p=>rw [e] at U;exact U
 |inr p=>rw [e] at U;exact Qs N hX _ U
theorem ic (N:Iv P) (hX:RN P X):RN P (Gn X):=λs hs=>by
 have U:=Mi hX s hs
 unfold Gn
 cases e:Gm X s with
 |inl p=>rw [e] at U;exact U
 |inr p=>
  rw [e] at U
  dsimp only
  by_cases h2:Bp p.2 10 [61,62]=true
  .have h3:=Nv N hX _ (Ob N U h2 Do)
   rw [if_pos h2]
   cases e2:D2 X (Ac p.2).2.1 with
   |inl q=>rw [e2] at h3;exact h3
   |inr q=>rw [e2] at h3;exact h3
  .rw [if_neg h2];exact Qs N hX _ U
theorem c8 (N:Iv P) (hY:RN P Y) (l:List Nd) (s:Al) (hs:P s):tW P (CC Y l s):=by
 fun_induction CC Y l s with
 |case1 l s U e1 h2=>have:=hY _ (Ob N hs U Do);rw [h2] at this;exact this
 |case2 l s U p h2 h3 ih=>have:=hY _ (Ob N hs U Do);rw [h2] at this;exact ih this
 |case3 l s U p h2 h3=>exact hs
 |case4 l s U=>exact hs
theorem cX (N:Iv P) (l:List Nd) (s:Al) (hs:P s):P (Dn l s).2:=by
 fun_induction Dn l s with
 |case1 l s U h2 ih=>exact ih (Ob N hs U Do)
 |case2 l s U h2=>exact hs
 |case3 l s U=>exact hs
theorem Mh (N:Iv P):RN P (λs=>H3 k l s x):=λs hs=>by
 have U:=Mj N s hs
 dsimp only
 unfold H3 KQ bX
 by_cases h:Bp s 15 x=true
 .rw [if_pos h]
  cases e:CQ s with
  |inl q=>rw [e] at U;exact U
  |inr q=>rw [e] at U;exact U
 .rw [if_neg h];exact hs
theorem c9 (N:Iv P) (hY:RN P Y):RN P (Gk Y):=λs hs=>by
 have U:=Mj N s hs
 unfold Gk
 cases e:CQ s with
 |inl p=>rw [e] at U;exact U
 |inr p=>
  rw [e] at U
  dsimp only
  split
  .exact Mh N _ (Ob N U ‹_› Do)
  .split
   .exact Mh N _ U
   .split
    .exact Mh N _ (cX N _ _ U)
    .have h2:=hY p.2 U
     cases e2:Y p.2 with
     |inl q=>rw [e2] at h2;exact h2
     |inr q=>
      rw [e2] at h2
      dsimp only
      have h3:=c8 N hY [p.1,q.1] q.2 h2
      cases e3:CC Y [p.1,q.1] q.2 with
      |inl r=>rw [e3] at h3;exact h3
      |inr r=>rw [e3] at h3;exact Mh N _ h3
theorem YJ (N:Iv P) (hY:RN P Y):RN P (EF Y):=λs hs=>by
 have U:=Mj N s hs
 unfold EF
 cases e:CQ s with
 |inl p=>rw [e] at U;exact U
 |inr p=>
  rw [e] at U
  dsimp only
  split
  .exact Ob N U ‹_› Do
  .have h2:=hY p.2 U
   cases e2:Y p.2 with
   |inl q=>rw [e2] at h2;exact h2
   |inr q=>rw [e2] at h2;exact Mh N _ h2
theorem Qt (N:Iv P) (hY:RN P Y):RN P (Dj Y):=λs U=>by
 have h1:=Mj N s U
 have h2:=c9 N hY s U
 have h3:=YJ N hY s U
 unfold Dj bX
 split
 .split
  .split<;>assumption
  .exact h1
 .exact U
theorem Qu (N:Iv P):∀d,RN P (Dk d)
 |0=>λs U=>U
 |d+1=>Nv N (Qt N (Qu N d))
theorem Qq (N:Iv P) (d:Nat):B0 P (JC d):=.of (ic N (Qt N (Qu N _)))
theorem Kh (N:Iv P) (hF:B0 P A) (U:Lt P L):B0 P (PX A L):=q8 N (K6 N U (JF N U)) hF
theorem Mg (N:Iv P) (hF:B0 P A) (U:Lt P L):B0 P (MQ A L):=nk N U (Kh N hF U)
theorem VS (N:Iv P) (hF:B0 P A) (U:Lt P L):B0 P (Sk A L):=ng N U (JF N U) (YH N (K6 N U (JF N U))) (Kh N hF U) (Mg N hF U) hF
theorem tk (N:Iv P) (hF:B0 P A) (U:Lt P L):Lt P (ui A L):=
 have ho:=K6 N U (JF N U)
 ⟨JF N U,Kh N hF U,YH N ho,Mf N (VS N hF U),Mf N (Mg N hF U),Mf N (q6 N U (YH N ho) (Kh N hF U) (Mg N hF U)),λn=>TW N ho hF (Kh N hF U),λn=>ni N (Kh N hF U) (Mg N hF U)⟩
theorem ia (N:Iv P):∀d,Lt P (dm d)
 |0=>⟨B0.fail,B0.fail,B0.fail,B0.fail,B0.fail,B0.fail,λ_=>B0.fail,λ_=>B0.fail⟩
 |d+1=>tk N (Qq N _) (ia N d)
theorem VR (N:Iv P) (d:Nat):B0 P (Sj d):=VS N (Qq N _) (ia N _)
theorem cY (N:Iv P):∀d,B0 P (Tp d)
 |0=>B0.fail
 |d+1=>Mf N (VR N _)
theorem YI (N:Iv P) (d:Nat):B0 P (Kv d):=by
 have U:=Qt N (Qu N (d - 1))
 have ht:=nn N (B0.of (hle:=λs v s' h=>Nat.le_of_lt (BC (Bv _) _ _ _ h)) U) (B0.of (hle:=λs v s' h=>Nat.le_of_lt (ET (BC (Bv _)) _ _ _ h)) (Mi U)) (B0.of (hle:=λs v s' h=>Nat.le_of_lt (FZ (BC (Bv _)) _ _ _ h)) (Nv N U)) (Qq N d) (VR N d) (cY N (d - 1))
 refine cW N λl=>?_
 have ht:B0 P (oQ d):=ht
 exact kp
end
end
theorem aE (l:List Tk):Iv (λs=>s.AV=l/\0<=s.pos) where
 nx:=@λs U h=>by
  have hg:∀n (s:Al),s.AV=l/\0<=s.pos->(Gp n s).2.1.AV=l/\0<=(Gp n s).2.1.pos:=by
   intro n
   induction n with
   |zero=>intro s U;rw [Gp];unfold GU;split;exact U;split<;>exact U
   |succ n ih=>
    intro s U
    have h0:=U.2
    have h1:0<=s.pos+1:=AC
    rw [Gp]
    split
    .unfold GU;split;exact U;split<;>exact U
    .split
     .unfold Iy;split;exact U;split;exact ⟨U.1,h1⟩;exact U
     .split
      .split
       .rename_i hz;rw [FB hz];exact ih _ ⟨U.1,h1⟩
       .unfold Fc;split;exact U;split;exact ⟨U.1,h1⟩;exact ⟨U.1,h1⟩
      .unfold GO;split;exact ⟨U.1,h1⟩;split;split;exact U;exact ⟨U.1,h1⟩;exact ⟨U.1,h1⟩
  unfold Ac at h |-
  split
  .exact hg _ s U
  .rename_i hm;rw [if_neg hm] at h;cases h
 cl:=@λs U h=>by
  unfold DJ at h |-
  split
  .exact U
  .rename_i hc;rw [if_neg hc] at h;cases h
end Go.Proofs.Z
