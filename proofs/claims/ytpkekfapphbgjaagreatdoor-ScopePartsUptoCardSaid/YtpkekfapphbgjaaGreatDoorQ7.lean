/-
  Parts of a proof: lemmas that the last text uses.
-/
import Derived.Test.YtpkekfapphbgjaaGreatDoorQ6
open Go.Proofs.YtpkekfapphbgjaaGreatDoor
set_option linter.unusedVariables false
set_option linter.unusedSimpArgs false
set_option maxHeartbeats 16000000
variable {env:List Go.Proofs.Z.Fx} {frm:Nat} {n t:Go.Aw.Nd}
namespace Go.Proofs.Z
open Go Go.Aw
mutual
theorem Mx {env:List Fx}:∀(k:Nat) {o:Fx} {l:List Nd} {q:Nd×List Nd},CM env k o l=some q->q.1.size+(AD q.2+q.2.length)+1<=AD l+l.length
 |0,o,l,q,h=>by cases h
 |k+1,o,[],q,h=>by cases h
 |k+1,o,n::r,q,h=>by
  rw [CM] at h
  rw [AD,List.length_cons]
  split at h
  .split at h
   .cases h
   .split at h
    .rename_i p hp
     have h1:=Mx k hp
     have U:=Pp k h
     have h3:(Ar 21 [n,p.1]).size=1+(n.size+(p.1.size+0)):=by unfold Ar;rw [Nd.size,AD,AD,AD]
     omega
    .cases h
  .have U:=Pp k h
   omega
theorem Pp {env:List Fx}:∀(k:Nat) {o:Fx} {n:Nd} {l:List Nd} {q:Nd×List Nd},ED env k o n l=some q->q.1.size+(AD q.2+q.2.length)<=n.size+(AD l+l.length)
 |0,o,n,l,q,h=>by cases h
 |k+1,o,n,[],q,h=>by cases h;exact Nat.le_refl _
 |k+1,o,n,p::r,q,h=>by
  rw [ED] at h
  split at h
  .cases h
  .split at h
   .cases h;exact Nat.le_refl _
   .rw [AD,List.length_cons]
    split at h
    .rename_i U hq
     have h1:=Mx k hq
     have h2:=Pp k h
     have h3:(Ar 20 [n,p,U.1]).size=1+(n.size+(p.size+(U.1.size+0))):=by unfold Ar;rw [Nd.size,AD,AD,AD,AD]
     omega
    .cases h
end
mutual
theorem Zt:∀(n:Nd) {env:List Fx} {p:Int} {t:Nd},CP env p n=.inr t->t.size+1<=2*n.size
 | .mk k f t l c ks,env,p,u,h=>by
   rw [CP] at h
   split at h
   .cases h
   .split at h
    .cases h
    .rename_i ms hm
     have h1:=Sn ks hm
     rw [Nd.size]
     by_cases U:k=17
     .subst U
      unfold OI O0 at h
      rw [if_pos (show (Nd.mk 17 f t l c ms).kind=17 from rfl)] at h
      split at h
      .cases h
      .rename_i t' ht
       cases h
       split at ht
       .split at ht
        .rename_i q hq
         cases ht
         have h2:q.1.size+(AD q.2+q.2.length)+1<=AD ms+ms.length:=Mx _ hq
         omega
        .cases ht
       .cases ht
     .rw [IW (show (Nd.mk k f t l c ms).kind≠17 from U)] at h
      cases h
      rw [Nd.size];omega
theorem Sn:∀(l:List Nd) {all here:List Fx} {k p:Int} {i:Nat} {m:List Nd},CI all k p i here l=.inr m->AD m+m.length<=2*AD l
 |[],all,here,k,p,i,m,h=>by cases h;exact Nat.le_refl _
 |n::r,all,here,k,p,i,m,h=>by
  rw [CI] at h
  split at h
  .cases h
  .split at h
   .cases h
   .rename_i t ht
    split at h
    .cases h
    .rename_i ms U
     cases h
     have h1:=Zt n ht
     have h2:=Sn r U
     rw [AD,AD,List.length_cons];omega
end
theorem FM {frm:Nat}:∀{l:List Nd} {env:List Fx} {f:Ft},E2 frm l env=.inl f->f.1≠0
 |[],env,f,h=>by cases h
 |n::r,env,f,h=>by
  rw [E2] at h
  split at h
  .split at h
   .rename_i e U
    cases h
    rw [eN U];exact (by decide:(120:Int)≠0)
   .split at h
    .cases h;exact (by decide:(161:Int)≠0)
    .exact FM h
  .exact FM h
theorem Mo {frm:Nat}:∀{l:List Nd} {env:List Fx} {f:Ft},E3 frm l env=.inl f->f.1≠0
 |[],env,f,h=>by cases h
 |n::r,env,f,h=>by
  rw [E3] at h
  split at h
  .split at h
   .rename_i U
    cases h
    exact FM U
   .exact Mo h
  .exact Mo h
theorem OA:∀{l:List Nd} {env:List Fx} {f:Ft},HG l env=.inl f->f.1≠0
 |[],env,f,h=>by cases h
 |n::r,env,f,h=>by
  rw [HG] at h
  split at h
  .split at h
   .rename_i U
    cases h
    exact FM U
   .exact OA h
  .exact OA h
theorem Z9 {f:Ft} (h:Dz env n=.inl f):f.1≠0:=by
 unfold Dz at h
 split at h
 .split at h
  .rename_i U
   cases h
   exact FM U
  .exact Mo h
 .split at h
  .exact FM h
  .split at h
   .exact FM h
   .split at h
    .exact OA h
    .cases h
theorem gX {k p:Int} {i:Nat} {here:List Fx} {f:Ft} (h:Gl k p i n here=.inl f):f.1≠0:=by
 unfold Gl at h
 split at h
 .exact FM h
 .cases h
theorem lY {f:Ft} (h:OI env n=.inl f):f.1≠0:=by
 unfold OI O0 at h
 split at h
 .rename_i e U
  cases h
  show e≠0
  (repeat' split at U)<;>first|(cases U;decide)|cases U
 .cases h
mutual
theorem N7:∀(n:Nd) {env:List Fx} {p:Int} {f:Ft},CP env p n=.inl f->f.1≠0
 | .mk k f t l c ks,env,p,u,h=>by
   rw [CP] at h
   split at h
   .rename_i U
    cases h
    exact Z9 U
   .split at h
    .rename_i U
     cases h
     exact Uu ks U
    .exact lY h
theorem Uu:∀(l:List Nd) {all here:List Fx} {k p:Int} {i:Nat} {f:Ft},CI all k p i here l=.inl f->f.1≠0
 |[],all,here,k,p,i,f,h=>by cases h
 |n::r,all,here,k,p,i,f,h=>by
  rw [CI] at h
  split at h
  .rename_i U
   cases h
   exact gX U
  .split at h
   .rename_i U
    cases h
    exact N7 n U
   .split at h
    .rename_i U
     cases h
     exact Uu r U
    .cases h
end
theorem LG (h:CP [] 0 n=.inr t):D1 n=(t,0,0,0):=by unfold D1;rw [h]
theorem Oa {f:Ft} (h:CP [] 0 n=.inl f):D1 n=(Gg,f):=by unfold D1;rw [h]
def xN:List UInt8:=[102,32,61,32,97,32,43,32,98,32,42,32,99,10,103,32,61,32,108,101,116,32,123,32,105,110,102,105,120,108,32,49,32,43,59,32,120,32,43,32,121,32,61,32,120,32,125,32,105,110,32,97,32,43,32,98,32,61,61,32,99,10,105,110,102,105,120,32,52,32,43,43,43]
def xO:List UInt8:=[105,110,102,105,120,108,32,54,32,43,10,102,32,61,32,97,10,105,110,102,105,120,114,32,53,32,43]
theorem zc:(match Ej xN with|(n,_,_,_,e)=>e==0&&(decide (n.size<=1000)&&(decide (B4 n<=1000)&&(match D1 n with|(t,f,l,c)=>f==0&&(l==0&&(c==0&&(decide (n.size<t.size)&&decide (t.size<=1000))))))))=true:=EQ
theorem zd:(match Ej xO with|(n,_,_,_,e)=>e==0&&(decide (n.size<=1000)&&(decide (B4 n<=1000)&&(match D1 n with|(t,f,l,c)=>f==161&&(l==3&&c==1)))))=true:=EQ
theorem za:∃n d l k t,Ej xN=(n,d,l,k,0)/\n.size<=1000/\B4 n<=1000/\D1 n=(t,0,0,0)/\n.size<t.size/\t.size<=1000:=by
 have h:=zc
 obtain ⟨n,c,l,k,e,U⟩:∃n c l k e,Ej xN=(n,c,l,k,e):=⟨_,_,_,_,_,rfl⟩
 rw [U] at h
 obtain ⟨t,a,b,d,hs⟩:∃t a b d,D1 n=(t,a,b,d):=⟨_,_,_,_,rfl⟩
 simp only [hs,Bool.and_eq_true,beq_iff_eq,decide_eq_true_eq] at h
 obtain ⟨rfl,h1,h2,rfl,rfl,rfl,h3,h4⟩:=h
 exact ⟨n,c,l,k,t,U,h1,h2,hs,h3,h4⟩
theorem zb:∃n d l k t,Ej xO=(n,d,l,k,0)/\n.size<=1000/\B4 n<=1000/\D1 n=(t,161,3,1):=by
 have h:=zd
 obtain ⟨n,c,l,k,e,U⟩:∃n c l k e,Ej xO=(n,c,l,k,e):=⟨_,_,_,_,_,rfl⟩
 rw [U] at h
 obtain ⟨t,a,b,d,hs⟩:∃t a b d,D1 n=(t,a,b,d):=⟨_,_,_,_,rfl⟩
 simp only [hs,Bool.and_eq_true,beq_iff_eq,decide_eq_true_eq] at h
 obtain ⟨rfl,h1,h2,rfl,rfl,rfl⟩:=h
 exact ⟨n,c,l,k,t,U,h1,h2,hs⟩
section
variable {st:St} {R:Au->St->Prop}
attribute [local irreducible] Go.Aw.Am
theorem D2 {e l c:Int} (U:D1 n=(t,e,l,c)) (hz:n.size<=15000) (ht:B4 n<=100000000) (h:∀st',st.le st'->R (.ret (.Bp [enc t,.int .i64 l,.int .i64 c,.int .i64 e])) st'):PC 33 [enc n] st R:=
 tM hz ht (by rw [U];exact h)
theorem DI (h:∀st',st.le st'->R (.ret (.bool true)) st'):PC 32 [] st R:=by
 refine pB Tryz.func32 ?_
 obtain ⟨n,d,l,k,t,p1,a1,a2,a3,a4,a5⟩:=za
 obtain ⟨n',d',l',k',t',p2,b1,b2,b3⟩:=zb
 have hlt:(n.size:Int)<(t.size:Int):=AC
 repeat' ((conv=>whnf);first|refine Wv hlt ?_|exact BH|(refine AA ?_;intros)|(refine BI ?_ ?_ ?_;rotate_left)|(refine AB ?_ ?_<;>intro _)|refine eP (Nat.le_of_ble_eq_true rfl) p1 (λw1 st1 U=>?_)|refine eP (Nat.le_of_ble_eq_true rfl) p2 (λw2 st3 hle3=>?_)|refine D2 a3 AC AC (λst2 hle2=>?_)|refine D2 b3 AC AC (λst4 hle4=>?_)|refine pH (n:=t) AC (λst5 hle5=>?_)|refine pH (n:=n) AC (λst6 hle6=>?_)|refine Ad [(0,true),(1,true),(2,true),(3,true),(4,true),(5,true),(6,true),(7,true),(8,true),(9,true),(10,true),(11,true),(12,true),(13,true),(14,true),(15,true),(17,true),(16,false),(18,false),(19,true),(20,true),(21,true),(22,true),(23,true),(24,true),(25,true),(26,true),(27,true),(28,true),(29,true),(30,true),(31,true),(32,true),(33,true),(34,true),(35,true),(36,true),(37,true)] [] GE ?_|with_reducible refine WF ?_)
 all_goals exact fin (h _ (St.le_trans U (St.le_trans hle2 (St.le_trans hle3 (St.le_trans hle4 (St.le_trans hle5 hle6)))))) rfl
end
section
variable {st:St} {R:Au->St->Prop}
attribute [local irreducible] Go.Aw.Am
theorem Xk (hz:n.size<=1000000000) (ht:B4 n<=100000000) (h:∀st',R (.ret (.bool true)) st'):PC 12 [enc n] st R:=by
 refine pB Tryz.func12 ?_
 have hrl:=S8 n
 by_cases h1:(n.size:Int)>3000
 .skip
  repeat' ((conv=>whnf);first|(refine AA ?_;intros)|(refine AB ?_ ?_<;>intro _)|refine DI (λst1 U=>?_)|refine Dn n.size (Nat.le_refl _) hz ?_)
  all_goals exact fin (h _) rfl
 by_cases h2:(Fp n:Int)>0
 .skip
  repeat' ((conv=>whnf);first|(refine AA ?_;intros)|(refine AB ?_ ?_<;>intro _)|refine DI (λst1 U=>?_)|refine Dn n.size (Nat.le_refl _) hz ?_|refine Xi n.size (Nat.le_refl _) hz ?_)
  all_goals exact fin (h _) rfl
 cases h3:DS n with
 |true=>
  have htd:∀{st:St} {R:Au->St->Prop},R (.ret (.bool true)) st->PC 36 [enc n] st R:=λh=>qb n.size (Nat.le_refl _) (by rw [h3];exact h)
  repeat' ((conv=>whnf);first|(refine AA ?_;intros)|(refine AB ?_ ?_<;>intro _)|refine DI (λst1 U=>?_)|refine Dn n.size (Nat.le_refl _) hz ?_|refine Xi n.size (Nat.le_refl _) hz ?_|refine htd ?_)
  all_goals exact fin (h _) rfl
 |false=>
  have htd:∀{st:St} {R:Au->St->Prop},R (.ret (.bool false)) st->PC 36 [enc n] st R:=λh=>qb n.size (Nat.le_refl _) (by rw [h3];exact h)
  have hs:=LG (UN n (env:=[]) (p:=0) AC h3)
  repeat' ((conv=>whnf);first|(refine AA ?_;intros)|(refine AB ?_ ?_<;>intro _)|refine DI (λst1 U=>?_)|refine Dn n.size (Nat.le_refl _) hz ?_|refine Xi n.size (Nat.le_refl _) hz ?_|refine htd ?_|refine D2 hs AC ht (λst2 hle2=>?_)|refine O8 n.size (Nat.le_refl _) ?_)
  all_goals exact fin (h _) rfl
theorem jh {k:Int} {u:Nd} (h:R (.ret (.bool true)) st):PC 26 [enc (Ar k [t,u]),.agg [.int .i64 k,.int .i64 0,.str [],.int .i64 0,.int .i64 0,.slice 6 [Ax t,Ax u] .full]] st R:=
 FL (args':=[enc (Ar k [t,u]),.agg [.int .i64 k,.int .i64 0,.str [],.int .i64 0,.int .i64 0,.slice 6 [Ax t,Ax u] .any]]) rfl (by
  rw [<-rj]
  exact O8 _ (Nat.le_refl _) h)
theorem Xl {a b:Nd} {e l c:Int} (U:D1 (Ar 5 [a,b])=(t,e,l,c)) (hz:a.size+b.size<=14000) (ht:B4 a+B4 b<=100000000) (h:∀st',st.le st'->R (.ret (.Bp [enc t,.int .i64 l,.int .i64 c,.int .i64 e])) st'):
 PC 33 [.agg [.int .i64 5,.int .i64 0,.str [],.int .i64 0,.int .i64 0,.slice 6 [Ax a,Ax b] .full]] st R:=
 FL (args':=[.agg [.int .i64 5,.int .i64 0,.str [],.int .i64 0,.int .i64 0,.slice 6 [Ax a,Ax b] .any]]) rfl (by
  rw [<-rj]
  exact D2 U (by unfold Ar;rw [Nd.size,AD,AD,AD];omega) (by unfold Ar;rw [B4,BC,BC,BC,List.length_nil];omega) h)
theorem Xj {a b:Nd} (hz:a.size<=1000000000) (hz2:b.size<=1000000000) (ht:B4 a+B4 b<=100000000) (h:∀st',R (.ret (.bool true)) st'):PC 13 [enc a,enc b] st R:=by
 refine pB Tryz.func13 ?_
 by_cases h1:(a.size:Int)>1500
 .skip
  repeat' ((conv=>whnf);first|(refine AA ?_;intros)|(refine AB ?_ ?_<;>intro _)|refine DI (λst1 U=>?_)|refine Dn a.size (Nat.le_refl _) hz ?_)
  all_goals exact fin (h _) rfl
 by_cases h2:(b.size:Int)>1500
 .skip
  repeat' ((conv=>whnf);first|(refine AA ?_;intros)|(refine AB ?_ ?_<;>intro _)|refine DI (λst1 U=>?_)|refine Dn a.size (Nat.le_refl _) hz ?_|refine Dn b.size (Nat.le_refl _) hz2 ?_)
  all_goals exact fin (h _) rfl
 have hp:=iY (a:=a) (b:=b)
 cases ha:CP [] 0 a with
 |inl f=>
  obtain ⟨e,l,c⟩:=f
  have hae:e≠0:=N7 a ha
  rw [ha] at hp
  have sa:=Oa ha
  have sp:=Oa hp
  obtain ⟨t2,e2,l2,c2,sb⟩:∃t2 e2 l2 c2,D1 b=(t2,e2,l2,c2):=⟨_,_,_,_,rfl⟩
  repeat' ((conv=>whnf);first|(refine AA ?_;intros)|(refine AB ?_ ?_<;>intro _)|refine DI (λst1 U=>?_)|refine Dn a.size (Nat.le_refl _) hz ?_|refine Dn b.size (Nat.le_refl _) hz2 ?_|refine D2 sa AC AC (λst2 hle2=>?_)|refine D2 sb AC AC (λst3 hle3=>?_)|refine Xl sp AC AC (λst4 hle4=>?_))
  all_goals exact fin (h _) rfl
 |inr t=>
  have sa:=LG ha
  rw [ha] at hp
  dsimp only at hp
  cases hb:CP [] 0 b with
  |inl f=>
   obtain ⟨e,l,c⟩:=f
   have hbe:e≠0:=N7 b hb
   rw [hb] at hp
   have sb:=Oa hb
   have sp:=Oa hp
   repeat' ((conv=>whnf);first|(refine AA ?_;intros)|(refine AB ?_ ?_<;>intro _)|refine DI (λst1 U=>?_)|refine Dn a.size (Nat.le_refl _) hz ?_|refine Dn b.size (Nat.le_refl _) hz2 ?_|refine D2 sa AC AC (λst2 hle2=>?_)|refine D2 sb AC AC (λst3 hle3=>?_)|refine Xl sp AC AC (λst4 hle4=>?_))
   all_goals exact fin (h _) rfl
  |inr u=>
   rw [hb] at hp
   have sb:=LG hb
   have sp:=LG hp
   repeat' ((conv=>whnf);first|(refine AA ?_;intros)|(refine AB ?_ ?_<;>intro _)|refine DI (λst1 U=>?_)|refine Dn a.size (Nat.le_refl _) hz ?_|refine Dn b.size (Nat.le_refl _) hz2 ?_|refine D2 sa AC AC (λst2 hle2=>?_)|refine D2 sb AC AC (λst3 hle3=>?_)|refine Xl sp AC AC (λst4 hle4=>?_)|refine jh ?_)
   all_goals exact fin (h _) rfl
theorem TX (hz:n.size<=1000000000) (ht:B4 n<=100000000) (h:∀st',R (.ret (.bool true)) st'):PC 14 [enc n] st R:=by
 refine pB Tryz.func14 ?_
 by_cases h1:(n.size:Int)>3000
 .skip
  repeat' ((conv=>whnf);first|exact BH|(refine AA ?_;intros)|(refine BI ?_ ?_ ?_;rotate_left)|(refine AB ?_ ?_<;>intro _)|refine DI (λst1 U=>?_)|refine Dn n.size (Nat.le_refl _) hz ?_|with_reducible refine WF ?_)
  all_goals exact fin (h _) rfl
 cases hr:CP [] 0 n with
 |inl f=>
  obtain ⟨e,l,c⟩:=f
  have he:e≠0:=N7 n hr
  have hs:=Oa hr
  repeat' ((conv=>whnf);first|exact BH|(refine AA ?_;intros)|(refine BI ?_ ?_ ?_;rotate_left)|(refine AB ?_ ?_<;>intro _)|refine DI (λst1 U=>?_)|refine Dn n.size (Nat.le_refl _) hz ?_|refine D2 hs AC ht (λst2 hle2=>?_)|refine Zz rfl ?_|with_reducible refine WF ?_)
  all_goals exact fin (h _) rfl
 |inr t=>
  have hs:=LG hr
  obtain ⟨k1,k2⟩:=UM n hr
  have k3:=Zs n hr
  have k4:=Zt n hr
  have hll:(A7 n).length<=100000000:=by have:=Hr n;omega
  have hlt:∀{st:St} {R:Au->St->Prop},R (.ret (.slice 4 (AV (A7 n)) .any)) st->PC 19 [enc t] st R:=λh=>KN (by rw [k1];exact hll) (by rw [k1];exact h)
  have hrt:∀{st:St} {R:Au->St->Prop},R (.ret (.int .i64 0)) st->PC 35 [enc t] st R:=λh=>Xi t.size (Nat.le_refl _) AC (by rw [k3];exact h)
  obtain ⟨t2,e2,l2,c2,st⟩:∃t2 e2 l2 c2,D1 t=(t2,e2,l2,c2):=⟨_,_,_,_,rfl⟩
  cases hsg:Kn n with
  |true=>
   have hsn:∀{st:St} {R:Au->St->Prop},R (.ret (.bool true)) st->PC 37 [enc n] st R:=λh=>ZE n.size (Nat.le_refl _) (by rw [hsg];exact h)
   repeat' ((conv=>whnf);first|exact BH|(refine AA ?_;intros)|(refine BI ?_ ?_ ?_;rotate_left)|(refine AB ?_ ?_<;>intro _)|refine DI (λst1 U=>?_)|refine Dn n.size (Nat.le_refl _) hz ?_|refine D2 hs AC ht (λst2 hle2=>?_)|refine D2 st AC AC (λst3 hle3=>?_)|refine hlt ?_|refine KN hll ?_|refine Tb ?_|refine hrt ?_|refine hsn ?_|refine Ad [(0,true),(2,true),(1,false),(3,false),(4,false),(5,true),(6,true),(7,true),(8,false),(9,true),(10,true)] [] GE ?_|with_reducible refine WF ?_)
   all_goals exact fin (h _) rfl
  |false=>
   have hsn:∀{st:St} {R:Au->St->Prop},R (.ret (.bool false)) st->PC 37 [enc n] st R:=λh=>ZE n.size (Nat.le_refl _) (by rw [hsg];exact h)
   have hrr:CP [] 0 t=.inr t:=by
    obtain ⟨g1,g2,g3⟩:=Zq n hsg hr
    by_cases h17:n.kind=17
    .rw [Zr (p:=0) (q:=20) Do Do]
     exact g3 h17
    .exact g2 h17
   have hs2:=LG hrr
   repeat' ((conv=>whnf);first|exact BH|(refine AA ?_;intros)|(refine BI ?_ ?_ ?_;rotate_left)|(refine AB ?_ ?_<;>intro _)|refine DI (λst1 U=>?_)|refine Dn n.size (Nat.le_refl _) hz ?_|refine D2 hs AC ht (λst2 hle2=>?_)|refine D2 hs2 AC AC (λst3 hle3=>?_)|refine hlt ?_|refine KN hll ?_|refine Tb ?_|refine hrt ?_|refine hsn ?_|refine O8 t.size (Nat.le_refl _) ?_|refine Ad [(0,true),(2,true),(1,false),(3,false),(4,false),(5,true),(6,true),(7,true),(8,false),(9,true),(10,true)] [] GE ?_|with_reducible refine WF ?_)
   all_goals exact fin (h _) rfl
end
section
variable {H:Type} {P:Program}
theorem aM:Tryz.prog.cellsOf 25=6:=EQ
end
section
variable {H:Type}
theorem X8:∀l:List Nd,(l.map λn=>n.size+B4 n).sum=AD l+BC l
 |[]=>rfl
 |n::r=>by rw [List.map_cons,List.sum_cons,X8 r,AD,BC];omega
theorem Lg:∀(n:Nat) (d:DataW H) (vs:List V),dec Tryz.prog n 25 d=some vs->∃nd:Nd,vs=Ax nd/\nd.size+B4 nd<=Rows.uptoBulk d:=by
 intro n
 induction n using Nat.strongRecOn with
 |_ n ih=>
  intro d vs h
  obtain ⟨m,ds,us,rfl,hl,hm,rfl,hb⟩:=aR Tryz.underlying25 h
  match ds,hl with
  |[d0,d1,d2,d3,d4,d5],_=>
   simp only [List.zip_cons_cons,List.zip_nil_right] at hm
   obtain ⟨u0,r0,h0,hm0,rfl⟩:=C4 hm
   obtain ⟨u1,r1,h1,hm1,rfl⟩:=C4 hm0
   obtain ⟨u2,r2,h2,hm2,rfl⟩:=C4 hm1
   obtain ⟨u3,r3,h3,hm3,rfl⟩:=C4 hm2
   obtain ⟨u4,r4,h4,hm4,rfl⟩:=C4 hm3
   obtain ⟨u5,r5,h5,hm5,rfl⟩:=C4 hm4
   cases hm5
   obtain ⟨k,rfl⟩:=QE Tryz.underlying3 h0
   obtain ⟨f,rfl⟩:=QE Tryz.underlying3 h1
   obtain ⟨t,rfl,ht⟩:=rv Tryz.underlying9 h2
   obtain ⟨l,rfl⟩:=QE Tryz.underlying3 h3
   obtain ⟨c,rfl⟩:=QE Tryz.underlying3 h4
   obtain ⟨m',es,U,rfl,rfl,hes,hb'⟩:=gB Tryz.underlying23 h5
   obtain ⟨ks,rfl,hks⟩:=Yb (f:=Ax) (w:=λn=>n.size+B4 n) (λd vs=>ih m' AC d vs) hes
   refine ⟨.mk k f t l c ks,?_,?_⟩
   .simp only [Ax,Nd.kind,Nd.form,Nd.text,Nd.line,Nd.Cg,Nd.kids,BK,aM];rfl
   .rw [X8] at hks
    rw [Nd.size,B4]
    simp only [Rows.uptoBulkAll] at hb
    have ht2:t.length+1=Rows.uptoBulk d2:=ht
    have hb5:Rows.uptoBulkAll U+1<=Rows.uptoBulk d5:=hb'
    omega
end
end Go.Proofs.Z
