/-
  Parts of a proof: lemmas that the last text uses.
-/
import Derived.Test.YtpkekfapphbgjaaGreatDoorQ5
import Derived.RangeFuncRecord
import Derived.RangeFuncSeq
import Derived.OrdersIn
set_option linter.unusedVariables false
set_option linter.unusedSimpArgs false
set_option maxHeartbeats 16000000
variable {n m:Go.Aw.Nd} {c:Go.Code} {s s':Go.Proofs.Z.Aj} {p:Go.Aw.Nd->Bool} {l:List Go.Aw.Nd} {frm i b d id:Nat} {env:List Go.Proofs.Z.Fx} {k:Int} {o:Bool} {Q:Go.Aw.Nd->Go.Proofs.Z.Aj->Prop} {x:List UInt8} {P:Prop} {E:Go.Proofs.Z.Er->Go.Proofs.Z.Aj->Prop} {f g:Go.FuncId} {mk:Nat->Go.Aw.V->List Go.Aw.V} {args cs C:List Go.Aw.V} {ks:List Int} {st0 S:Go.Aw.St} {rows:List (Go.Aw.AE×List Go.Aw.Nd)} {K:Go.Aw.Au->Go.Aw.St->Prop} {t:Go.Proofs.Z.Tk} {w w':Go.World} {ops:Array Go.Oper} {r:Go.Loop} {Im:Go.Aw.Mem} {fn:Go.Func}
namespace Go.Proofs.Z
open Go Go.Aw
mutual
def Sx:Nd->Nd->Prop
 | .mk k f t _ _ ks,m=>if k=17 then (m.kind=20\/m.kind=21) else m.kind=k/\m.form=f/\m.text=t/\FO ks m.kids
def FO:List Nd->List Nd->Prop
 |[],l=>l=[]
 |n::r,l=>∃m s,l=m::s/\Sx n m/\FO r s
end
theorem Sx.row (h:Sx n m) (U:n.kind=17):m.kind=20\/m.kind=21:=by
 cases n with
 |mk k f t l c ks=>
  rw [Sx,if_pos (show k=17 from U)] at h
  exact h
theorem Sx.node (h:Sx n m) (U:n.kind≠17):m.kind=n.kind/\m.form=n.form/\m.text=n.text/\FO n.kids m.kids:=by
 cases n with
 |mk k f t l c ks=>
  rw [Sx,if_neg (show ¬k=17 from U)] at h
  exact h
theorem Sx.kind {n m:Nd} (h:Sx n m) {c:Int} (h1:c≠17) (h2:c≠20) (h3:c≠21):m.kind=c↔n.kind=c:=by
 by_cases U:n.kind=17
 .have:=h.row U
  exact ⟨λe=>by omega,λe=>by omega⟩
 .rw [(h.node U).1]
theorem FO.len:∀{l m:List Nd},FO l m->m.length=l.length
 |[],m,h=>by rw [FO] at h;rw [h]
 |n::r,m,h=>by
  rw [FO] at h
  obtain ⟨x,s,rfl,_,U⟩:=h
  rw [List.length_cons,List.length_cons,FO.len U]
theorem FO.at:∀{l m:List Nd} (i:Nat),FO l m->(l[i]? =none/\m[i]? =none)\/∃x y,l[i]? =some x/\m[i]? =some y/\Sx x y
 |[],m,i,h=>by rw [FO] at h;subst h;exact .inl ⟨rfl,rfl⟩
 |n::r,m,0,h=>by
  rw [FO] at h
  obtain ⟨x,s,rfl,U,_⟩:=h
  exact .inr ⟨n,x,rfl,rfl,U⟩
 |n::r,m,i+1,h=>by
  rw [FO] at h
  obtain ⟨x,s,rfl,_,h2⟩:=h
  simpa using FO.at i h2
theorem FO.drop:∀{l m:List Nd} (i:Nat),FO l m->FO (l.drop i) (m.drop i)
 |l,m,0,h=>h
 |[],m,i+1,h=>by rw [FO] at h;subst h;rfl
 |n::r,m,i+1,h=>by
  rw [FO] at h
  obtain ⟨x,s,rfl,_,U⟩:=h
  exact FO.drop i U
theorem Sx.name (h:Sx n m):Je m=Je n:=by
 have U:=h.kind (c:=18) Do Do Do
 unfold Je
 by_cases hk:n.kind=17
 .rw [if_neg (λe=>by omega),if_neg (λe=>by omega)]
 .obtain ⟨h1,h2,h3,h4⟩:=h.node hk
  simp only [h4.len,U]
  split
  .rcases h4.at (n.kids.length / 2) with ⟨e1,e2⟩|⟨x,y,e1,e2,e3⟩
   .rw [e1,e2]
   .rw [e1,e2]
    dsimp only
    have hx1:=e3.kind (c:=1) Do Do Do
    by_cases hx:x.kind=1
    .obtain ⟨g1,g2,g3,g4⟩:=e3.node AC
     rw [g1,g2,g3]
    .rw [if_neg hx,if_neg (λe=>hx (hx1.1 e))]
  .rfl
theorem Sx.leaf (h:Sx n m):(n.kind=1/\m.kind=1/\m.form=n.form/\m.text=n.text)\/(¬n.kind=1/\¬m.kind=1):=by
 have U:=h.kind (c:=1) Do Do Do
 by_cases hx:n.kind=1
 .obtain ⟨g1,g2,g3,g4⟩:=h.node AC
  exact .inl ⟨hx,U.2 hx,g2,g3⟩
 .exact .inr ⟨hx,λe=>hx (U.1 e)⟩
theorem Sx.side (h:Sx n m):EZ m=EZ n:=by
 unfold EZ
 rcases h.leaf with ⟨U,h2,h3,h4⟩|⟨U,h2⟩
 .rw [U,h2,h3,h4]
 .rw [if_neg (λe=>h2 e.1),if_neg (λe=>U e.1)]
theorem FO.own {s p:Int}:∀{l m:List Nd} {b:Bool} {U:List Fx},FO l m->JV s p b m U=JV s p b l U
 |[],m,b,U,h=>by rw [FO] at h;rw [h]
 |n::r,m,b,U,h=>by
  rw [FO] at h
  obtain ⟨x,t,rfl,h1,h2⟩:=h
  cases b with
  |false=>
   rw [JV,JV,h1.name]
   split
   .exact FO.own h2
   .rfl
  |true=>
   rw [JV,JV]
   rcases h1.leaf with ⟨g1,g2,g3,g4⟩|⟨g1,g2⟩
   .rw [g1,g2,g3,g4]
    split
    .exact FO.own h2
    .rfl
   .rw [if_neg (λe=>g2 e.1),if_neg (λe=>g1 e.1)]
theorem FO.JU {s p:Int} {l m:List Nd} (h:FO l m):JU s p m=JU s p l:=by
 unfold Go.Proofs.Z.JU
 rw [h.len,h.own]
theorem Sx.own (h:Sx n m) (hk:n.kind=35):Ks m=Ks n:=by
 obtain ⟨h1,h2,h3,U⟩:=h.node AC
 unfold Ks
 rw [h1]
 generalize n.kids=l at U
 generalize m.kids=l' at U
 match l,U with
 |[],U=>rw [FO] at U;rw [U]
 |[a],U=>
  rw [FO] at U
  obtain ⟨x,s,rfl,_,U⟩:=U
  rw [FO] at U
  rw [U]
 |a::b::r,U=>
  rw [FO] at U
  obtain ⟨x,s,rfl,g1,U⟩:=U
  have g5:=U
  rw [FO] at U
  obtain ⟨y,s,rfl,g2,g3⟩:=U
  dsimp only
  rw [g1.side,g5.JU,g3.JU]
  rcases g2.leaf with ⟨q1,q2,q3,q4⟩|⟨q1,q2⟩
  .rw [q1,q2,q3,q4]
  .rw [if_neg (λe=>q2 (And.left e)),if_neg (λe=>q1 (And.left e))]
theorem FO.tell {frm:Nat}:∀{l m:List Nd} {env out:List Fx},FO l m->E2 frm l env=.inr out->E2 frm m env=.inr out
 |[],m,env,out,h,k=>by rw [FO] at h;rw [h];exact k
 |n::r,m,env,out,h,k=>by
  rw [FO] at h
  obtain ⟨x,t,rfl,h1,h2⟩:=h
  rw [E2] at k |-
  simp only [h1.kind (c:=35) Do Do Do]
  split at k
  .rename_i U
   rw [if_pos U,h1.own U]
   split at k
   .cases k
   .rename_i l hl
    split at k
    .cases k
    .rename_i e he
     try rw [he]
     exact FO.tell h2 k
  .rename_i U
   rw [if_neg U]
   exact FO.tell h2 k
theorem Sx.kids {n m:Nd} (h:Sx n m) (U:n.kind≠17):FO n.kids m.kids:=(h.node U).2.2.2
theorem Sx.items (h:FO n.kids m.kids) (i:Nat):FO (Ei n i) (Ei m i):=by
 unfold Ei
 rcases h.at i with ⟨U,e2⟩|⟨x,y,U,e2,e3⟩
 .rw [U,e2];exact rfl
 .rw [U,e2]
  dsimp only
  simp only [e3.kind (c:=2) Do Do Do]
  split
  .exact e3.kids AC
  .exact rfl
theorem Sx.last (h:FO n.kids m.kids):FO (GW n) (GW m):=by
 rw [<-Sw,<-Sw,h.len]
 split
 .exact Sx.items h _
 .exact rfl
theorem Sx.where (h:FO n.kids m.kids):FO (Hd n) (Hd m):=by
 unfold Hd
 rw [List.getLast?_eq_getElem?,List.getLast?_eq_getElem?,h.len]
 rcases h.at (n.kids.length - 1) with ⟨U,e2⟩|⟨x,y,U,e2,e3⟩
 .rw [U,e2];exact rfl
 .rw [U,e2]
  dsimp only
  simp only [e3.kind (c:=31) Do Do Do]
  split
  .exact Sx.last (e3.kids AC)
  .exact rfl
theorem FO.class {frm:Nat}:∀{l m:List Nd} {env out:List Fx},FO l m->E3 frm l env=.inr out->E3 frm m env=.inr out
 |[],m,env,out,h,k=>by rw [FO] at h;rw [h];exact k
 |n::r,m,env,out,h,k=>by
  rw [FO] at h
  obtain ⟨x,t,rfl,h1,h2⟩:=h
  rw [E3] at k |-
  simp only [h1.kind (c:=44) Do Do Do]
  split at k
  .rename_i U
   rw [if_pos U]
   split at k
   .cases k
   .rename_i e he
    rw [(Sx.where (h1.kids AC)).tell he]
    exact FO.class h2 k
  .rename_i U
   rw [if_neg U]
   exact FO.class h2 k
theorem FO.comp:∀{l m:List Nd} {env out:List Fx},FO l m->HG l env=.inr out->HG m env=.inr out
 |[],m,env,out,h,k=>by rw [FO] at h;rw [h];exact k
 |n::r,m,env,out,h,k=>by
  rw [FO] at h
  obtain ⟨x,t,rfl,h1,h2⟩:=h
  rw [HG] at k |-
  simp only [h1.kind (c:=33) Do Do Do]
  split at k
  .rename_i U
   rw [if_pos U]
   split at k
   .cases k
   .rename_i e he
    rw [(Sx.items (h1.kids AC) 1).tell he]
    exact FO.comp h2 k
  .rename_i U
   rw [if_neg U]
   exact FO.comp h2 k
theorem Sx.within (hk:m.kind=n.kind) (h:FO n.kids m.kids) {out:List Fx} (k:Dz env n=.inr out):Dz env m=.inr out:=by
 unfold Dz at k |-
 rw [hk]
 split at k
 .rename_i U
  rw [if_pos U]
  split at k
  .cases k
  .rename_i e he
   rw [(Sx.last h).tell he]
   exact (Sx.last h).class k
 .rename_i U
  rw [if_neg U]
  split at k
  .rename_i h2
   rw [if_pos h2]
   exact (Sx.items h 1).tell k
  .rename_i h2
   rw [if_neg h2]
   split at k
   .rename_i h3
    rw [if_pos h3]
    exact (Sx.where h).tell k
   .rename_i h3
    rw [if_neg h3]
    split at k
    .rename_i h4
     rw [if_pos h4]
     exact (h.drop 2).comp k
    .rename_i h4
     rw [if_neg h4]
     exact k
theorem Sx.here {k p:Int} {i:Nat} {n m:Nd} {here out:List Fx} (h:Sx n m) (e:Gl k p i n here=.inr out):Gl k p i m here=.inr out:=by
 unfold Gl at e |-
 simp only [h.kind (c:=33) Do Do Do]
 split at e
 .rename_i U
  rw [if_pos U]
  exact (Sx.items (h.kids AC) 1).tell e
 .rename_i U
  rw [if_neg U]
  exact e
def Good (env:List Fx) (t:Nd):Prop:=CP env 20 t=.inr t
theorem Up (hk:k=20\/k=21) (h:∀x ∈ l,Good env x):Good env (Ar k l):=by
 have hs:∀p,FD k p=false:=λp=>by rcases hk with rfl|rfl<;>rfl
 have U:∀(l:List Nd) (i:Nat),(∀x ∈ l,Good env x)->CI env k 20 i env l=.inr l:=by
  intro l
  induction l with
  |nil=>intro i _;rfl
  |cons x r ih=>
   intro i hx
   rw [CI,JL (hs _)]
   dsimp only
   have:CP (if k=8/\i<2 then env else env) k x=.inr x:=by
    rw [Zr (p:=k) (q:=20) (by rcases hk with rfl|rfl<;>decide) Do,ite_self]
    exact hx x List.mem_cons_self
   rw [this]
   dsimp only
   rw [ih (i+1) λy hy=>hx y (List.mem_cons_of_mem _ hy)]
 unfold Good Ar
 rw [CP,show Dz env (.mk k 0 [] 0 0 l)=.inr env by rcases hk with rfl|rfl<;>rfl]
 dsimp only
 rw [ite_self,U l 0 h]
 exact IW (show k≠17 by omega)
mutual
theorem Mt {env:List Fx}:∀(k:Nat) {o:Fx} {l:List Nd} {q:Nd×List Nd},CM env k o l=some q->(∀x ∈ l,Good env x)->Good env q.1/\∀x ∈ q.2,Good env x
 |0,o,l,q,h,_=>by cases h
 |k+1,o,[],q,h,_=>by cases h
 |k+1,o,n::r,q,h,U=>by
  rw [CM] at h
  have hn:=U n List.mem_cons_self
  have U:=λx hx=>U x (List.mem_cons_of_mem _ hx)
  split at h
  .split at h
   .cases h
   .split at h
    .rename_i p hp
     have h1:=Mt k hp U
     exact Pk k h (Up (.inr rfl) (by simp [hn,h1.1])) h1.2
    .cases h
  .exact Pk k h hn U
theorem Pk {env:List Fx}:∀(k:Nat) {o:Fx} {n:Nd} {l:List Nd} {q:Nd×List Nd},ED env k o n l=some q->Good env n->(∀x ∈ l,Good env x)->Good env q.1/\∀x ∈ q.2,Good env x
 |0,o,n,l,q,h,_,_=>by cases h
 |k+1,o,n,[],q,h,h1,U=>by cases h;exact ⟨h1,U⟩
 |k+1,o,n,p::r,q,h,h1,U=>by
  rw [ED] at h
  split at h
  .cases h
  .split at h
   .cases h;exact ⟨h1,U⟩
   .split at h
    .rename_i q' hq
     have h3:=Mt k hq λx hx=>U x (List.mem_cons_of_mem _ hx)
     exact Pk k h (Up (.inl rfl) (by simp [h1,h3.1,U p List.mem_cons_self])) h3.2
    .cases h
end
theorem Pn {env:List Fx}:∀(k:Nat) {o:Fx} {n:Nd} {l:List Nd} {q:Nd×List Nd},ED env k o n l=some q->(q.1=n/\q.2=l)\/q.1.kind=20
 |0,o,n,l,q,h=>by cases h
 |k+1,o,n,[],q,h=>by cases h;exact .inl ⟨rfl,rfl⟩
 |k+1,o,n,p::r,q,h=>by
  rw [ED] at h
  split at h
  .cases h
  .split at h
   .cases h;exact .inl ⟨rfl,rfl⟩
   .split at h
    .rcases Pn k h with ⟨e,_⟩|e
     .rw [e];exact .inr rfl
     .exact .inr e
    .cases h
theorem bB {k:Nat} {o:Fx} {q:Nd×List Nd} (h:CM env k o l=some q) (hq:q.2=[]) (U:l.length≠1):q.1.kind=20\/q.1.kind=21:=by
 cases k with
 |zero=>cases h
 |succ k=>
  cases l with
  |nil=>cases h
  |cons n r=>
   rw [CM] at h
   split at h
   .split at h
    .cases h
    .split at h
     .rcases Pn k h with ⟨e,_⟩|e
      .rw [e];exact .inr rfl
      .exact .inl e
     .cases h
   .rcases Pn k h with ⟨_,e⟩|e
    .rw [hq] at e
     rw [List.length_cons,<-e] at U
     exact absurd rfl U
    .exact .inl e
theorem Uv {env:List Fx} {p:Int}:∀{l:List Nd} {i:Nat},CI env 17 p i env l=.inr l->∀x ∈ l,Good env x
 |[],i,_=>λx U=>by cases U
 |n::r,i,h=>by
  rw [CI,JL rfl] at h
  dsimp only at h
  rw [ite_self] at h
  split at h
  .cases h
  .rename_i t ht
   split at h
   .cases h
   .rename_i ms hm
    cases h
    intro x U
    rcases List.mem_cons.1 U with rfl|U
    .unfold Good;rw [Zr (p:=20) (q:=17) Do Do];exact ht
    .exact Uv hm x U
mutual
theorem Zq:∀(n:Nd) {env:List Fx} {p:Int} {t:Nd},Kn n=false->CP env p n=.inr t->Sx n t/\(n.kind≠17->CP env p t=.inr t)/\(n.kind=17->Good env t)
 | .mk k f t l c ks,env,p,u,hs,h=>by
   rw [CP] at h
   split at h
   .cases h
   .rename_i all ha
    split at h
    .cases h
    .rename_i ms hm
     rw [Kn,Bool.or_eq_false_iff] at hs
     obtain ⟨g1,g2⟩:=Uw ks hs.2 hm
     rw [Sx]
     by_cases U:k=17
     .subst U
      have ha':all=env:=by cases ha;rfl
      subst ha'
      rw [if_pos rfl]
      rw [if_neg Do] at g2
      unfold OI O0 at h
      rw [if_pos (show (Nd.mk 17 f t l c ms).kind=17 from rfl)] at h
      split at h
      .cases h
      .rename_i t' ht
       cases h
       split at ht
       .split at ht
        .rename_i q hq
         cases ht
         have hl:ms.length≠1:=by rw [g1.len];simpa using hs.1
         exact ⟨bB hq (Un _ Do hq) hl,λe=>absurd rfl e,λ_=>(Mt _ hq (Uv g2)).1⟩
        .cases ht
       .cases ht
     .rw [IW (show (Nd.mk k f t l c ms).kind≠17 from U)] at h
      cases h
      rw [if_neg U]
      refine ⟨⟨rfl,rfl,rfl,g1⟩,λ_=>?_,λe=>absurd e U⟩
      rw [CP,Sx.within (n:=.mk k f t l c ks) (m:=.mk k f t l c ms) rfl g1 ha]
      dsimp only
      rw [g2]
      exact IW (show (Nd.mk k f t l c ms).kind≠17 from U)
theorem Uw:∀(l:List Nd) {all here:List Fx} {k p:Int} {i:Nat} {m:List Nd},O9 l=false->CI all k p i here l=.inr m->FO l m/\CI all k p i here m=.inr m
 |[],all,here,k,p,i,m,_,h=>by cases h;exact ⟨rfl,rfl⟩
 |n::r,all,here,k,p,i,m,hs,h=>by
  rw [O9,Bool.or_eq_false_iff] at hs
  rw [CI] at h
  split at h
  .cases h
  .rename_i h2 hh
   split at h
   .cases h
   .rename_i t ht
    split at h
    .cases h
    .rename_i ms hm
     cases h
     obtain ⟨g1,g2,g3⟩:=Zq n hs.1 ht
     obtain ⟨g4,g5⟩:=Uw r hs.2 hm
     refine ⟨by rw [FO];exact ⟨t,ms,rfl,g1,g4⟩,?_⟩
     rw [CI,g1.here hh]
     dsimp only
     have:CP (if k=8/\i<2 then all else h2) k t=.inr t:=by
      by_cases U:n.kind=17
      .have hq:CP (if k=8/\i<2 then all else h2) 20 t=.inr t:=g3 U
       refine (vq ?_).trans hq
       rcases g1.row U with e|e<;>rw [e]<;>rfl
      .exact g2 U
     rw [this]
     dsimp only
     rw [g5]
end
section
variable {st0 st st':St} {b d:Nat} {s:Aj} {rows:List (AE×List Nd)} {K:Au->St->Prop}
attribute [local irreducible] Go.Aw.Am
theorem Cx.mono (h:Cx st0 b s st rows) (k:st.le st'):Cx st0 b s st' rows:=by
 refine ⟨?_,?_,h.mu⟩
 .rcases h.has with e|⟨t,u,o1,o2,e0,e⟩
  .exact .inl (k.1 _ _ e)
  .exact .inr ⟨t,u,o1,o2,e0,k.1 _ _ e⟩
 .obtain ⟨cs,U⟩:=h.rx
  refine ⟨cs,St.le_trans U.le k,λr hr'=>?_,U.ap⟩
  have:=U.ok r hr'
  obtain ⟨o,l⟩:=r
  cases o with
  |any=>exact this
  |full=>exact this
  |tok t=>exact ⟨this.1,k.2 _ _ this.2⟩
theorem Cx.vW {l new:List Int} {Q:V->St->Prop} (hc:Cx st0 b s st rows) (hb:l.length+new.length<=1000000000) (k:∀U st',Cx st0 b s st' rows->Q (.slice 1 (ints (l++new)) U) st'):Am 1 8 (ints l) .full (ints new) st Q:=
 Rc (own:=.full) trivial hb λU ho=>k U _ (hc.mono (AE.Bz ho))
theorem tT (U:Cx st0 b s st rows) (e:Bq s k x=true) (hk:k≠0/\k≠21) (kk:∀st',Cx st0 b (Ac s).2.1 st' rows->K (.ret (F0 (Ac s).1)) st'):PC 186 [.ptr b 0] st K:=
 Xq U.has U.hb (λ_ st' hu=>kk st' (U.Pw hu (Nat.le_of_lt (Eh e hk.1 hk.2)))) (λn=>absurd (F6 e hk.1) n)
theorem Rj {Q:List V->Prop} (h:Has st b s) (k1:Q (CS s)) (U:∀t u o1 o2 e,Q (YD s t u o1 o2 e)):∃cs,st.box b=some cs/\Q cs:=by
 rcases h with e|⟨t,u,o1,o2,e0,e⟩
 .exact ⟨_,e,k1⟩
 .exact ⟨_,e,U ..⟩
theorem LK {own:AE} (h:K (.ret (enc (Ar k l))) st):PC 268 [.int .i64 k,.slice 6 (l.map Ax) own] st K:=by
 refine pB Tryz.func268 ?_
 repeat' ((conv=>whnf);(first|refine Bb ?_|refine Bc ?_ ?_|refine Be ?_ ?_|fail)<;>intros)
 all_goals exact EJ (St.le_refl _) Cd h
theorem p6 {a:Nd} {own:AE} (h:K (.ret (enc (Ar k [a]))) st):PC 268 [.int .i64 k,.slice 6 [Ax a] own] st K:=LK (l:=[a]) h
theorem p7 {a b:Nd} {own:AE} (h:K (.ret (enc (Ar k [a,b]))) st):PC 268 [.int .i64 k,.slice 6 [Ax a,Ax b] own] st K:=LK (l:=[a,b]) h
theorem p8 {a b c:Nd} {own:AE} (h:K (.ret (enc (Ar k [a,b,c]))) st):PC 268 [.int .i64 k,.slice 6 [Ax a,Ax b,Ax c] own] st K:=LK (l:=[a,b,c]) h
theorem p9 {a b c d:Nd} {own:AE} (h:K (.ret (enc (Ar k [a,b,c,d]))) st):PC 268 [.int .i64 k,.slice 6 [Ax a,Ax b,Ax c,Ax d] own] st K:=LK (l:=[a,b,c,d]) h
theorem Z0 (hc:Cx st0 b s st rows) (U:∀st',Cx st0 b s st' rows->K (.ret (.bool (Bq s 15 x))) st'):PC 266 [pv b d,.str x] st K:=by
 refine pB Tryz.func266 ?_
 repeat' ((conv=>whnf);(first|refine Bb ?_|refine Bc ?_ ?_|refine Be ?_ ?_|refine sx ‹_› ?_)<;>intros)
 all_goals conv=>whnf
 all_goals exact Av (U _ ‹_›) ‹_›
theorem ZZ (U:Cx st0 b s st rows) (e:Bq s 15 x=true) (kk:∀st',Cx st0 b s st' rows->K (.ret (.bool true)) st'):PC 266 [pv b d,.str x] st K:=Z0 U (by rw [e];exact kk)
theorem fE (U:Cx st0 b s st rows) (e:Bq s 15 x=false) (kk:∀st',Cx st0 b s st' rows->K (.ret (.bool false)) st'):PC 266 [pv b d,.str x] st K:=Z0 U (by rw [e];exact kk)
theorem uo {Q:Prop} (U:Cx st0 b s st rows) (h:if Bq s 15 x=true then P else Q) (k1:∀st',Cx st0 b s st' rows->Bq s 15 x=true->P->K (.ret (.bool true)) st') (k2:∀st',Cx st0 b s st' rows->Bq s 15 x=false->Q->K (.ret (.bool false)) st'):
 PC 266 [pv b d,.str x] st K:=by
 cases e:Bq s 15 x with
 |true=>exact ZZ U e λst' c=>k1 st' c e (by rw [if_pos e] at h;exact h)
 |false=>exact fE U e λst' c=>k2 st' c e (by rw [if_neg (by rw [e];decide)] at h;exact h)
theorem ug (k:K (.B1 (fault Ie.1)) st):PC 274 [pv b d,.bool false] st K:=by
 refine pB Tryz.func274 ?_
 repeat' ((conv=>whnf);(first|refine Bb ?_|refine Bc ?_ ?_|refine Be ?_ ?_|refine Cm ?_)<;>intros)
 all_goals exact ⟨_,_,.inl rfl,St.le_refl _,k⟩
theorem uh (k:K (.ret (.Bp [])) st):PC 274 [pv b d,.bool true] st K:=by
 refine pB Tryz.func274 ?_
 repeat' ((conv=>whnf);(first|refine Bb ?_|refine Bc ?_ ?_|refine Be ?_ ?_|refine Cm ?_)<;>intros)
 all_goals exact ⟨_,_,.inl rfl,St.le_refl _,k⟩
theorem Dy {c:Bool} {Q:Unit->Aj->Prop} (h:Rd.wp (Ir c) s Q E) (e:c=true) (k1:Q () s->K (.ret (.Bp [])) st):PC 274 [pv b d,.bool true] st K:=by
 subst e
 unfold Ir at h
 rw [Rd.AK,if_pos rfl,Rd.wp_ret] at h
 exact uh (k1 h)
theorem Dx {c:Bool} {Q:Unit->Aj->Prop} (h:Rd.wp (Ir c) s Q E) (e:c=false) (U:E Ie s->K (.B1 (fault Ie.1)) st):PC 274 [pv b d,.bool false] st K:=by
 subst e
 unfold Ir at h
 rw [Rd.AK,if_neg Do,Rd.Ep] at h
 exact ug (U h)
def yg (st0:St) (b:Nat) (f:FuncId) (args:List V) (A:Rd Nd):Prop:=∀{s:Aj} {st:St} {rows:List (AE×List Nd)} {K:Au->St->Prop},Cx st0 b s st rows->
 Rd.wp A s (λv s'=>∀st',Cx st0 b s' st' rows->K (.ret (enc v)) st') (λe s'=>∀st',Cy st0 b s' st' rows->K (.B1 (fault e.1)) st')->PC f args st K
theorem AZ.z {mk:Nat->List V} {A:Rd Nd} (h:AZ enc f mk A):yg st0 b f (mk b) A:=h.ap
theorem yg.go {A:Rd Nd} (hf:yg st0 b f args A) (U:Cx st0 b s st rows) (h:Rd.wp A s Q E)
 (k:∀v s' st',mu s'<=mu s->Cx st0 b s' st' rows->Q v s'->K (.ret (enc v)) st') (kb:∀e s' st',Cy st0 b s' st' rows->E e s'->K (.B1 (fault e.1)) st'):PC f args st K:=
 hf U (Rd.wp_mono h (λv s' r q st' c=>k v s' st' (A.le _ _ _ r) c q) (λe s' _ q st' c=>kb e s' st' c q))
end
theorem Gm (h:P:=by (with_reducible show ∃_,_);first|exact ⟨⟨_,_,_,_⟩,⟨‹_›,Rd.Fc ‹_› bl,cb,bl⟩,bl,Yl,St.le_refl _⟩|exact BU (Cx.y ‹_›) ‹_›|exact BU (Cx.y (Cx.drop ‹_›)) ‹_›|exact dX ‹_› ‹_› rfl|exact CZ ‹_› ‹_› rfl|exact CZ ‹_› ‹_› Cd|exact CZ (Cx.drop ‹_›) ‹_› rfl|exact CZ (Cx.drop ‹_›) ‹_› Cd|exact BU ‹_› ‹_›|exact BU (Cy.drop ‹_›) ‹_›|exact BU (Cy.drop (Cy.drop ‹_›)) ‹_›|fail):P:=h
theorem Qu {A:Prop} (k:A) (h:A->P:=by intro k;(with_reducible show Am _ _ _ _ _ _ _);first|exact Cx.Hh ‹_› f8 k|exact Cx.Hh (Cx.push ‹_› _) f8 k|fail):P:=h k
theorem MV {A:Prop} (k:A) (h:A->P:=by intro k;(with_reducible show PC _ _ _ _);first|((with_reducible show PC 149 _ _ _);exact bK ‹_› ‹_› k)|((with_reducible show PC 149 _ _ _);exact mR ‹_› ‹_› k)|((with_reducible show PC 266 _ _ _);exact ZZ ‹_› ‹_› k)|((with_reducible show PC 266 _ _ _);exact fE ‹_› ‹_› k)|((with_reducible show PC 112 _ _ _);exact S1 ‹_› k)|fail):P:=h k
theorem TI {A B:Prop} (k:A) (l:B) (h:A->B->P:=by intro k l;(with_reducible show PC _ _ _ _);first|((with_reducible show PC 149 _ _ _);exact mQ ‹_› ‹_› k l)|((with_reducible show PC 266 _ _ _);exact uo ‹_› ‹_› k l)|fail):P:=h k l
theorem Kg {A:Prop} (k:A) (h:A->P:=by intro k;(with_reducible show PC _ _ _ _);first|((with_reducible show PC 150 _ _ _);exact Og ‹_› ‹_› ‹_› Do k)|((with_reducible show PC 150 _ _ _);exact Oh ‹_› ‹_› AC k)|fail):P:=h k
theorem JC {A B:Prop} (k:A) (l:B) (h:A->B->P:=by intro k l;(with_reducible show PC _ _ _ _);first|((with_reducible show PC 150 _ _ _);exact Hu.go ‹_› ‹_› k l)|((with_reducible show PC 153 _ _ _);exact XK.go ‹_› ‹_› k l)|fail):P:=h k l
theorem Yt6 {A:Prop} (k:A) (h:A->P:=by intro k;(with_reducible show PC _ _ _ _);first|((with_reducible show PC 113 _ _ _);exact T9 ‹_› ‹_› k)|fail):P:=h k
theorem TG {A:Prop} (k:A) (h:A->P:=by intro k;(with_reducible show PC _ _ _ _);first|((with_reducible show PC 268 _ _ _);exact p6 k)|((with_reducible show PC 268 _ _ _);exact p7 k)|((with_reducible show PC 268 _ _ _);exact p8 k)|((with_reducible show PC 268 _ _ _);exact p9 k)|((with_reducible show PC 268 _ _ _);exact LK k)|fail):P:=h k
theorem NC {A:Aj->Rs} {hle:∀s v s',A s=.inr (v,s')->mu s'<=mu s} (hB:E8 A) (hf:Dp g (d:Int) A) (h0:d=0->∀s,A s=.inl (2,s)):
 AZ enc 110 (λb=>[.ptr b 0,.func g [] [],.int .i64 (d:Int)]) (JR A hle):=⟨λU h=>Sl (d:=d) rfl hf h0 hB U.mu U.has (Tv hB U h)⟩
theorem RC (U:1<=d) (h:d<=100):DW (d:Int)=d:=by unfold DW;split<;>omega
theorem jx (h:(Ht ks).run s=.inr (n,s')):∃o x c,n=Ar 3 [o,x,c]:=by
 unfold Ht at h
 obtain ⟨o,s1,_,h⟩:=Bj h
 obtain ⟨x,s2,_,h⟩:=Bj h
 obtain ⟨c,s3,_,h⟩:=Bj h
 cases h
 exact ⟨o,x,c,rfl⟩
section
variable {st0 st:St} {b d:Nat} {s:Aj} {rows:List (AE×List Nd)} {K:Au->St->Prop}
attribute [local irreducible] Go.Aw.Am
theorem pU (U:1<=d) (h:d<=100):AZ enc 393 (λb=>[pv b d]) (Xx d):=by
 have hi:=NC (hle:=λs v s' h=>Nat.le_of_lt (BM (Bw _) _ _ _ h)) (Hz (FG (d - 1))) (by have:=ym (deep:=(d:Int));rw [RC U h] at this;exact this) (λe=>by omega)
 refine ⟨λ{st0 b s st rows K} hc h=>?_⟩
 unfold Xx at h
 refine pB Tryz.func393 ?_
 repeat' ((conv=>whnf);(first|refine Bb ?_|refine Bc ?_ ?_|refine Be ?_ ?_|exact Gm|refine Ae ?_|refine Gh.go (by first|exact AZ.q) ?_ ?_)<;>intros)
theorem ur (U:1<=d) (h:d<=100):AZ enc 273 (λb=>[pv b d]) (qh d):=by
 have hi:=NC (hle:=λs v s' h=>Nat.le_of_lt (FH (BM (Bw _)) _ _ _ h)) (M0 (Hz (FG (d - 1)))) (by have:=zS (deep:=(d:Int));rw [RC U h] at this;exact this) (λe=>by omega)
 refine ⟨λ{st0 b s st rows K} hc h=>?_⟩
 unfold qh at h
 refine pB Tryz.func273 ?_
 repeat' ((conv=>whnf);(first|refine Bb ?_|refine Bc ?_ ?_|refine Be ?_ ?_|exact Gm|refine Ae ?_|refine Gh.go (by first|exact AZ.q) ?_ ?_)<;>intros)
theorem jO (U:1<=d) (h:d<=100):AZ enc 276 (λb=>[pv b d]) (XF d):=by
 have hi:=NC (hle:=λs v s' h=>Nat.le_of_lt (GS (BM (Bw _)) _ _ _ h)) (Mm (Hz (FG (d - 1)))) (by have:=zi (deep:=(d:Int));rw [RC U h] at this;exact this) (λe=>by omega)
 refine ⟨λ{st0 b s st rows K} hc h=>?_⟩
 unfold XF at h
 refine pB Tryz.func276 ?_
 repeat' ((conv=>whnf);(first|refine Bb ?_|refine Bc ?_ ?_|refine Be ?_ ?_|exact Gm|refine Ae ?_|refine Gh.go (by first|exact AZ.q) ?_ ?_)<;>intros)
theorem p4 (U:1<=d) (h:d<=100):AZ enc 287 (λb=>[pv b d]) (KH d):=by
 have hi:=NC (hle:=λs v s' h=>Nat.le_of_lt (RX (BM (Bw _)) _ _ _ h)) (Ua (Hz (FG (d - 1)))) (by have:=u7 (deep:=(d:Int));rw [RC U h] at this;exact this) (λe=>by omega)
 refine ⟨λ{st0 b s st rows K} hc h=>?_⟩
 unfold KH at h
 refine pB Tryz.func287 ?_
 repeat' ((conv=>whnf);(first|refine Bb ?_|refine Bc ?_ ?_|refine Be ?_ ?_|exact Gm|refine Ae ?_|refine Gh.go (by first|exact AZ.q) ?_ ?_)<;>intros)
theorem H0 {own:AE} (U:ks.contains 0=false):AZ enc 306 (λb=>[pv b d,.slice 1 (ints ks) own]) (Ht ks):=by
 refine ⟨λ{st0 b s st rows K} hc h=>?_⟩
 simp only [Ht,Rd.wp_seq,Rd.wp_ret] at h
 refine pB Tryz.func306 ?_
 repeat' ((conv=>whnf);(first|exact C7|refine Bb ?_|(refine C8 ?_ ?_ ?_;rotate_left)|refine Bc ?_ ?_|refine Be ?_ ?_|refine JC ?_ ?_|exact Gm|refine TG ?_|refine Ae ?_|refine Gh.go (by first|exact AZ.q|exact (El U).a) ?_ ?_|refine Ad [(0,true),(1,true),(3,true),(4,true),(5,true),(7,true),(8,true),(2,false),(6,false),(9,false),(10,true),(11,false),(12,false)] [1] GE ?_|with_reducible refine WF ?_)<;>intros)
theorem jw {own:AE} (h0:ks.contains 0=false) (U:Cx st0 b s st rows) (h:Rd.wp (Ht ks) s Q E)
 (k:∀o x c s' st',mu s'<=mu s->Cx st0 b s' st' rows->Q (Ar 3 [o,x,c]) s'->K (.ret (enc (Ar 3 [o,x,c]))) st') (kb:∀e s' st',Cy st0 b s' st' rows->E e s'->K (.B1 (fault e.1)) st'):PC 306 [pv b d,.slice 1 (ints ks) own] st K:=
 (H0 h0).go U h (λn s1 st1 hr hm U h=>by obtain ⟨o,x,c,rfl⟩:=jx hr;exact k o x c s1 st1 hm U h) kb
theorem Pu:AZ enc 286 (λb=>[pv b d]) Th:=by
 refine ⟨λ{st0 b s st rows K} hc h=>?_⟩
 simp only [Th,Rd.Aq,Rd.AK,Rd.wp_seq,Rd.wp_ret,Rd.HB] at h
 have U:=hc.mu
 refine pB Tryz.func286 ?_
 repeat' ((conv=>whnf);(first|refine Gp ‹_› ?_ ?_|refine Bb ?_|refine Bc ?_ ?_|refine Be ?_ ?_|refine MV ?_|refine TI ?_ ?_|refine Cm ?_|exact Gm|refine Ae ?_|refine Gh.go (by first|exact AZ.q|exact (El (ks:=[1]) rfl).a) ?_ ?_|refine Rj (Cx.has ‹_›) ?_ ?_|refine jw (ks:=[5,6]) rfl ‹_› ‹_› ?_ ?_|refine Wm (ks:=[_,_,_]) rfl AC ?_|refine GL ‹_› U ?_|refine Cm ?_)<;>intros)
theorem Tx:AZ enc 307 (λb=>[pv b d]) V7:=by
 refine ⟨λ{st0 b s st rows K} U h=>?_⟩
 simp only [V7,Rd.Aq,Rd.AK] at h
 refine pB Tryz.func307 ?_
 repeat' ((conv=>whnf);(first|refine Bb ?_|refine Bc ?_ ?_|refine Be ?_ ?_|refine MV ?_|refine TI ?_ ?_|exact Gm|refine Ae ?_|refine Gh.go (by first|exact AZ.q|exact (El (ks:=[1,2]) rfl).a|exact (H0 (ks:=[5,6]) rfl).a) ?_ ?_)<;>intros)
end
structure vM (f:FuncId) (mk:Nat->V->List V) (A:List Nd->Rd (List Nd×Nd)):Prop where
 ap:∀{st0:St} {b:Nat} {s:Aj} {st:St} {rows:List (AE×List Nd)} {K:Au->St->Prop} {own:AE} {l:List Nd},l.length<=90000000->Cx st0 b s st ((own,l)::rows)->
 Rd.wp (A l) s (λp s'=>∀own' st',Cx st0 b s' st' ((own',p.1++[p.2])::rows)->K (.ret (.slice 6 ((p.1++[p.2]).map Ax) own')) st') (λe s'=>∀st',Cy st0 b s' st' rows->K (.B1 (fault e.1)) st')->PC f (mk b (.slice 6 (l.map Ax) own)) st K
theorem vM.go {A:List Nd->Rd (List Nd×Nd)} {st:St} {Q:List Nd×Nd->Aj->Prop} {own:AE} (hf:vM f mk A) (hl:l.length<=90000000) (hc:Cx st0 b s st ((own,l)::rows)) (h:Rd.wp (A l) s Q E)
 (k:∀l' x U s' st',(A l).run s=.inr ((l',x),s')->mu s'<=mu s->Cx st0 b s' st' ((U,l'++[x])::rows)->Q (l',x) s'->K (.ret (.slice 6 ((l'++[x]).map Ax) U)) st') (kb:∀e s' st',Cy st0 b s' st' rows->E e s'->K (.B1 (fault e.1)) st'):PC f (mk b (.slice 6 (l.map Ax) own)) st K:=
 hf.ap hl hc (Rd.wp_mono h (λv s' r q own st' c=>k v.1 v.2 own s' st' r ((A l).le _ _ _ r) c q) (λe s' _ q st' c=>kb e s' st' c q))
theorem Eu {x:Nd} {Q:List V->Prop} (k:Q (Ax x)):0<=(((l++[x]).length:Nat):Int) - 1/\∃e,((l++[x]).map Ax)[((((l++[x]).length:Nat):Int) - 1).toNat]? =some e/\Q e:=
 ⟨by rw [List.length_append];show (0:Int)<=((l.length+1:Nat):Int) - 1;omega,Ax x,by
   rw [show ((((l++[x]).length:Nat):Int) - 1).toNat=l.length by rw [List.length_append];show (((l.length+1:Nat):Int) - 1).toNat=_;omega,List.map_append,List.getElem?_append_right (by rw [List.length_map];exact Nat.le_refl _),List.length_map,Nat.sub_self]
   rfl,k⟩
theorem Jb {R:Rd Nd} {p:List Nd×Nd} (h:(L4 R l).run s=.inr (p,s')):p.1.length<=l.length+2:=by
 unfold L4 at h
 obtain ⟨r,s1,_,h⟩:=Bj h
 replace h:(if Bq s1 10 [61,62]=true then Rd.seq AR λa=>.seq R λq=>.ret (l++[r]++[a],q) else .ret (l,r):Rd (List Nd×Nd)).run s1=.inr (p,s'):=h
 split at h
 .obtain ⟨a,s2,_,h⟩:=Bj h
  obtain ⟨q,s3,_,h⟩:=Bj h
  cases h
  simp
 .cases h;exact Nat.le_add_right _ _
section
variable {st0 st:St} {b d:Nat} {s:Aj} {rows:List (AE×List Nd)} {K:Au->St->Prop} {A B R W F D E:Rd Nd}
attribute [local irreducible] Go.Aw.Am
theorem Ok (hr:AZ enc 273 (λb=>[pv b d]) R):vM 277 (λb v=>[pv b d,v]) (L4 R):=by
 refine ⟨λ{st0 b s st rows K own l} hl U h=>?_⟩
 simp only [L4,Rd.Aq,Rd.AK,Rd.wp_seq,Rd.wp_ret] at h
 have hmu:=U.mu
 refine pB Tryz.func277 ?_
 repeat' ((conv=>whnf);(first|refine Bb ?_|refine Bc ?_ ?_|refine Be ?_ ?_|refine XN ?_ ?_|refine MV ?_|refine TI ?_ ?_|refine Kg ?_|refine JC ?_ ?_|exact Gm|refine Qu ?_|refine Ae ?_|refine Gh.go (by first|exact AZ.q|exact ‹_›.a) ?_ ?_)<;>intros)
theorem D9 {own:AE} (h:K (.ret (.bool (D6 n ks))) st):PC 281 [enc n,.slice 1 (ints ks) own] st K:=by
 refine pB Tryz.func281 ?_
 repeat' ((conv=>whnf);(first|refine Bb ?_|refine Bc ?_ ?_|refine Be ?_ ?_|refine PH ?_)<;>intros)
 all_goals conv=>whnf
 all_goals (refine Av h ?_;clear h;simp_all [D6])
theorem Tz (U:AZ enc 393 (λb=>[pv b d]) A):AZ enc 361 (λb=>[pv b d]) (Oe A):=by
 refine ⟨λ{st0 b s st rows K} hc h=>?_⟩
 simp only [Oe,Rd.wp_seq,Rd.wp_ret] at h
 refine pB Tryz.func361 ?_
 repeat' ((conv=>whnf);(first|exact C7|refine Bb ?_|(refine C8 ?_ ?_ ?_;rotate_left)|refine Bc ?_ ?_|refine Be ?_ ?_|refine Kg ?_|refine JC ?_ ?_|exact Gm|refine TG ?_|refine Ae ?_|refine Gh.go (by first|exact AZ.q) ?_ ?_|refine Ad [(0,true),(1,true),(3,true),(2,false),(4,false),(5,true),(6,false),(7,false)] [1] GE ?_|with_reducible refine WF ?_)<;>intros)
theorem uf (U:Cx st0 b s st rows) (h:∀st',Cx st0 b s st' rows->K (.ret (.bool (XD (Ac s).1))) st'):PC 360 [pv b d] st K:=by
 refine pB Tryz.func360 ?_
 repeat' ((conv=>whnf);(first|refine Bb ?_|refine Bc ?_ ?_|refine Be ?_ ?_|refine MV ?_|exact Gm|refine Ae ?_)<;>intros)
 all_goals conv=>whnf
 all_goals (refine Av (h _ ‹_›) ?_;clear h;simp_all [XD])
theorem Ol (h:K (.ret (.bool (Gu n))) st):PC 320 [enc n] st K:=by
 refine pB Tryz.func320 ?_
 repeat' ((conv=>whnf);(first|refine Bb ?_|refine Bc ?_ ?_|refine Be ?_ ?_|refine D9 (ks:=[2]) ?_|refine D9 (ks:=[6]) ?_)<;>intros)
 all_goals conv=>whnf
 all_goals (refine Av h ?_;clear h;simp_all [Gu])
theorem jN (h:K (.ret (.bool (fD t))) st):PC 190 [F0 t] st K:=by
 refine pB Tryz.func190 ?_
 repeat' ((conv=>whnf);(first|refine Bb ?_|refine Bc ?_ ?_|refine Be ?_ ?_|refine M1 ?_|refine VH ?_)<;>intros)
 all_goals conv=>whnf
 all_goals (refine Av h ?_;clear h;simp_all [fD])
theorem qf (ha:AZ enc 393 (λb=>[pv b d]) A):AZ enc 359 (λb=>[pv b d]) (K6 A):=by
 refine ⟨λ{st0 b s st rows K} hc h=>?_⟩
 simp only [K6,Rd.Aq,Rd.AK] at h
 have U:=hc.mu
 refine pB Tryz.func359 ?_
 repeat' ((conv=>whnf);(first|refine Bb ?_|refine Bc ?_ ?_|refine Be ?_ ?_|refine MV ?_|refine TI ?_ ?_|exact Gm|refine Ae ?_|refine Gh.go (by first|exact AZ.q|exact (Tz ha).a|exact (H0 (ks:=[6]) rfl).a) ?_ ?_|refine Rj (Cx.has ‹_›) ?_ ?_|refine tT ‹_› ‹_› Do ?_|refine GL ‹_› U ?_)<;>intros)
theorem qe:AZ enc 323 (λb=>[pv b d]) c9:=by
 refine ⟨λ{st0 b s st rows K} hc h=>?_⟩
 simp only [c9,Rd.Aq,Rd.AK,Rd.wp_seq,Rd.wp_ret,Rd.HB] at h
 have hmu:=hc.mu
 refine AO Ab [] Tryz.func323 rfl Do rfl ?_
 refine Ag (Ai Ab ?_)
 repeat' ((conv=>whnf);(first|exact C7|refine Bb ?_|(refine C8 ?_ ?_ ?_;rotate_left)|refine Bc ?_ ?_|refine Be ?_ ?_|with_reducible refine WF ?_)<;>intros)
 refine Ag (Ai Ab ?_)
 repeat' ((conv=>whnf);first|refine Gp h (λe h=>?_) (λe h=>?_)|exact C7|(refine Bb ?_;intros)|(refine C8 ?_ ?_ ?_;rotate_left)|(refine Bc ?_ ?_<;>intro e h)|(refine Be ?_ ?_<;>intro _)|(refine MV ?_;intro U hc)|(refine Kg ?_;intro s1 U hz hm hc h)|(refine JC ?_ ?_<;>(first|intro n s1 U hr hm hc h|intro e s1 U hc h))|refine Cm ?_|exact Gm|refine TG ?_|refine Ae (λe1=>?_)|with_reducible refine WF ?_)
 refine Ag (Ai Ab ?_)
 repeat' ((conv=>whnf);first|exact C7|(refine Bb ?_;intros)|(refine C8 ?_ ?_ ?_;rotate_left)|(refine Bc ?_ ?_<;>intro e h)|(refine Be ?_ ?_<;>intro _)|(refine MV ?_;intro U hc)|(refine Kg ?_;intro s1 U hz hm hc h)|(refine JC ?_ ?_<;>(first|intro n s1 U hr hm hc h|intro e s1 U hc h))|refine Cm ?_|exact Gm|refine TG ?_|refine Ae (λe1=>?_)|refine Rj hc.has ?_ (λt u o1 o2 e=>?_)|with_reducible refine WF ?_)
 all_goals refine Ag (Ai Ab ?_)
 all_goals (repeat' ((conv=>whnf);first|exact C7|(refine Bb ?_;intros)|(refine C8 ?_ ?_ ?_;rotate_left)|(refine Bc ?_ ?_<;>intro e h)|(refine Be ?_ ?_<;>intro _)|(refine MV ?_;intro U hc)|(refine Kg ?_;intro s1 U hz hm hc h)|(refine JC ?_ ?_<;>(first|intro n s1 U hr hm hc h|intro e s1 U hc h))|refine Cm ?_|exact Gm|refine TG ?_|refine Ae (λe1=>?_)|with_reducible refine WF ?_))
 all_goals refine Ag (T8 Ab (BF _) (λ_ _ _ _ _ h k=>k.mono h) 10 5 [(0,true),(1,true),(2,true),(3,true),(5,true),(6,true),(4,false),(7,false),(8,true),(9,false)] [] rfl rfl rfl EQ EQ rfl rfl rfl (Nat.le_of_ble_eq_true rfl) rfl ?_)
 all_goals (repeat' ((conv=>whnf);first|exact C7|(refine Bb ?_;intros)|(refine C8 ?_ ?_ ?_;rotate_left)|(refine Bc ?_ ?_<;>intro e h)|(refine Be ?_ ?_<;>intro _)|(refine MV ?_;intro U hc)|(refine Kg ?_;intro s1 U hz hm hc h)|(refine JC ?_ ?_<;>(first|intro n s1 U hr hm hc h|intro e s1 U hc h))|refine Cm ?_|exact Gm|refine TG ?_|refine Ae (λe1=>?_)|refine AZ.go (El (ks:=[1,2,3,4]) rfl) hc h (λn s1 U hr hm hc h=>?_) (λe s1 U hc h=>?_)|fail|with_reducible refine WF ?_))
 all_goals refine Ai Ab ?_
 all_goals (repeat' ((conv=>whnf);first|refine Gp h (λe h=>?_) (λe h=>?_)|exact C7|(refine Bb ?_;intros)|(refine C8 ?_ ?_ ?_;rotate_left)|(refine Bc ?_ ?_<;>intro e h)|(refine Be ?_ ?_<;>intro _)|(refine MV ?_;intro U hc)|(refine Kg ?_;intro s1 U hz hm hc h)|(refine JC ?_ ?_<;>(first|intro n s1 U hr hm hc h|intro e s1 U hc h))|refine Cm ?_|exact Gm|refine TG ?_|refine Ae (λe1=>?_)|refine Wm (ks:=[_,_,_]) rfl AC ?_|refine GL hc hmu (λU hc=>?_)|refine Cm ?_|fail|with_reducible refine WF ?_))
structure au (f:FuncId) (mk:Nat->V->List V) (A:List Nd->Rd Nd):Prop where
 ap:∀{st0:St} {b:Nat} {s:Aj} {st:St} {rows:List (AE×List Nd)} {K:Au->St->Prop} {own:AE} {l:List Nd},l.length<=900000000->Cx st0 b s st ((own,l)::rows)->
 Rd.wp (A l) s (λv s'=>∀st',Cx st0 b s' st' rows->K (.ret (enc v)) st') (λe s'=>∀st',Cy st0 b s' st' rows->K (.B1 (fault e.1)) st')->PC f (mk b (.slice 6 (l.map Ax) own)) st K
theorem au.go {A:List Nd->Rd Nd} {st:St} {E:Er->Aj->Prop} {own:AE} (hf:au f mk A) (hl:l.length<=900000000) (U:Cx st0 b s st ((own,l)::rows)) (h:Rd.wp (A l) s Q E)
 (k:∀v s' st',(A l).run s=.inr (v,s')->mu s'<=mu s->Cx st0 b s' st' rows->Q v s'->K (.ret (enc v)) st') (kb:∀e s' st',Cy st0 b s' st' rows->E e s'->K (.B1 (fault e.1)) st'):PC f (mk b (.slice 6 (l.map Ax) own)) st K:=
 hf.ap hl U (Rd.wp_mono h (λv s' r q st' c=>k v s' st' r ((A l).le _ _ _ r) c q) (λe s' _ q st' c=>kb e s' st' c q))
theorem Qa (hd:AZ enc 324 (λb=>[pv b d]) Lj):au 279 (λb v=>[pv b d,.int .i64 k,v]) (Nh k):=by
 refine ⟨λ{st0 b s st rows K own l} hl U h=>?_⟩
 simp only [Nh,Rd.Aq,Rd.AK,Rd.wp_seq,Rd.wp_ret] at h
 have hmu:=U.mu
 refine pB Tryz.func279 ?_
 repeat' ((conv=>whnf);(first|refine Bb ?_|refine Bc ?_ ?_|refine Be ?_ ?_|refine MV ?_|refine TI ?_ ?_|exact Gm|refine TG ?_|refine Qu ?_|refine Ae ?_|refine Gh.go (by first|exact AZ.q) ?_ ?_)<;>intros)
theorem Z1 (hr:AZ enc 273 (λb=>[pv b d]) R) (hw:AZ enc 276 (λb=>[pv b d]) W) (hs:∀{n:Nd} {st:St} {K:Au->St->Prop},K (.ret (.bool (D3 n))) st->PC 275 [enc n] st K):
 AZ enc 228 (λb=>[pv b d]) (Of R W):=by
 refine ⟨λ{st0 b s st rows K} U h=>?_⟩
 simp only [Of,Rd.wp_seq,Rd.wp_ret] at h
 have hmu:=U.mu
 refine pB Tryz.func228 ?_
 repeat' ((conv=>whnf);(first|exact C7|refine Bb ?_|(refine C8 ?_ ?_ ?_;rotate_left)|refine Bc ?_ ?_|refine Be ?_ ?_|refine Kg ?_|refine JC ?_ ?_|exact Gm|refine TG ?_|refine Qu ?_|refine Ae ?_|refine Gh.go (by first|exact AZ.q|exact ‹_›.a) ?_ ?_|refine hs ?_|refine Dy ‹_› ‹_› ?_|refine Dx ‹_› ‹_› ?_|refine aH AC rfl ?_|refine Cx.Hh (l:=[_,_]) (Cx.push ‹_› _) (Nat.le_of_ble_eq_true rfl) ?_|refine Ad [(0,true),(1,true),(3,true),(2,false),(4,false),(5,true),(6,true)] [] GE ?_|refine Ad [(0,true),(1,true),(2,true),(3,true),(4,false),(5,false)] [] GE ?_|with_reducible refine WF ?_)<;>intros)
end
theorem Rd.iB {σ β:Type} {body:σ->Rd (Sum σ β)} {I:σ->Prop} {P:β->Prop} (h1:∀x s x' s',I x->(body x).run s=.inr (.inl x',s')->I x') (h2:∀x s y s',I x->(body x).run s=.inr (.inr y,s')->P y) (x:σ) (s:Aj) (hx:I x):∀y s',(Rd.loop body x).run s=.inr (y,s')->P y:=by
 show ∀y s',Rd.iter body x s=.inr (y,s')->P y
 fun_induction Rd.iter body x s with
 |case1 x s e h=>intro y s' U;cases U
 |case2 x s y s1 h=>intro y s' U;cases U;exact h2 _ _ _ _ hx h
 |case3 x s x' s1 h hlt ih=>exact ih (h1 _ _ _ _ hx h)
 |case4 x s x' s1 h hlt=>intro y s' U;cases U
theorem Zg {A:Rd Nd} (h:(O1 A).run s=.inr (l,s')):l≠[]:=by
 unfold O1 at h
 obtain ⟨n,s1,_,h⟩:=Bj h
 refine Rd.iB (body:=cD A) (I:=λl=>l≠[]) (P:=λl=>l≠[]) (λx s x' s' U h=>?_) (λx s y s' U h=>?_) [n] s1 GT l s' h
 all_goals replace h:(if XD (Ac s).1=true then Rd.seq (K6 A) λn=>.ret (.inl (x++[n])) else .ret (.inr x):Rd (Sum (List Nd) (List Nd))).run s=.inr (_,s'):=h
 all_goals split at h
 .obtain ⟨n,s2,_,h⟩:=Bj h;cases h;simp
 .cases h
 .obtain ⟨n,s2,_,h⟩:=Bj h;cases h
 .cases h;exact U
theorem sw (h:Bq s k x=true) (U:k≠21):(Ac s).1.kind≠21:=λe=>by
 unfold Bq at h
 rw [e] at h
 simp only [Bool.and_eq_true,beq_iff_eq] at h
 exact U h.1.symm
theorem bj {A:Rd Nd} (U:Rd.A6 A):Rd.A6 (K6 A):=Rd.A6.look λs v s' h=>by
 split at h
 .rename_i hi
  exact Rd.A6.at (λ_ _ e=>HZ e (sw hi Do)) h
 split at h
 .split at h
  .exact Rd.A6.seq (Mq Do) s v s' h
  .exact U _ _ _ h
 .exact U _ _ _ h
theorem va (h:l≠[]):∃x,l[((0:Int)).toNat]? =some x/\l.headD Gg=x:=by
 cases l with
 |nil=>exact absurd rfl h
 |cons x r=>exact ⟨x,rfl,rfl⟩
section
variable {st0 st:St} {b d:Nat} {s:Aj} {rows:List (AE×List Nd)} {K:Au->St->Prop} {A B R W F D E:Rd Nd}
attribute [local irreducible] Go.Aw.Am
abbrev pd (l:List Nd) (own:AE):V:=.slice 6 (l.map Ax) own
theorem UX (hA:Rd.A6 A) (hp:AZ enc 359 (λb=>[pv b d]) (K6 A)):qw pd (λl=>l) 319 (λb=>[pv b d]) (O1 A):=by
 refine ⟨λ{st0 b s st rows K} U h=>?_⟩
 simp only [O1,Rd.wp_seq] at h
 have hmu:=U.mu
 refine pB Tryz.func319 ?_
 repeat' ((conv=>whnf);(first|refine Bb ?_|refine Bc ?_ ?_|refine Be ?_ ?_|refine XN ?_ ?_|exact Gm|refine Qu ?_|refine Ae ?_|refine Gh.go (by first|exact AZ.q) ?_ ?_)<;>intros)
 refine Ct (λl own=>[(3,.slice 6 (l.map Ax) own)]) (λ_ _=>[]) [1] [0] (λl own=>(own,l)::rows) (λl=>l.length) .full (Cx.push ‹_› _) ‹_› (by show 1+_<=_;omega) Yl ?_
 intro l s1 st1 own1 U h hl hm1
 simp only [cD,Rd.Aq,Rd.AK,Rd.wp_seq,Rd.wp_ret,Rd.Bv] at h
 repeat' ((conv=>whnf);(first|refine Bb ?_|refine Bc ?_ ?_|refine Be ?_ ?_|refine XN ?_ ?_|exact Gm|refine Qu ?_|refine Ae ?_|refine uf ‹_› ?_|refine AZ.u9 (hp) (bj hA) ‹_› ‹_› ?_ ?_)<;>intros)
theorem Jv {item:Rd Nd} {fs:List V} {own:AE} {Q:List Nd->Aj->Prop} {E:Er->Aj->Prop} (hi:yg st0 b g (fs++cs) item) (hl:l.length<=90000000) (hc:Cx st0 b s st ((own,l)::rows)) (h:Rd.wp (H7 item x l) s Q E)
 (k:∀l' U s' st',mu s'<=mu s->Cx st0 b s' st' ((U,l')::rows)->Q l' s'->K (.ret (.slice 6 (l'.map Ax) U)) st') (kb:∀e s' st',Cy st0 b s' st' rows->E e s'->K (.B1 (fault e.1)) st'):
 PC 285 [pv b d,.slice 6 (l.map Ax) own,.str x,.func g fs cs] st K:=by
 replace h:=Rd.wp_mono (Q':=λl' s'=>∀U st',Cx st0 b s' st' ((U,l')::rows)->K (.ret (.slice 6 (l'.map Ax) U)) st') (E':=λe s'=>∀st',Cy st0 b s' st' rows->K (.B1 (fault e.1)) st') h (λv s' r q own st' c=>k v own s' st' ((H7 item x l).le _ _ _ r) c q) (λe s' _ q st' c=>kb e s' st' c q)
 clear k kb
 simp only [H7,Rd.wp_seq,Rd.wp_ret] at h
 have hmu:=hc.mu
 refine pB Tryz.func285 ?_
 repeat' ((conv=>whnf);(first|refine Bb ?_|refine Bc ?_ ?_|refine Be ?_ ?_|refine XN ?_ ?_|fail)<;>intros)
 refine Ct (x0:=(true,l)) (λ(p:Bool×List Nd) own=>[(9,.bool p.1),(1,.slice 6 (p.2.map Ax) own)]) (λ_ _=>[]) [2,3,4] [0] (λp own=>(own,p.2)::rows) (λp=>p.2.length) own ‹_› ‹_› So Yl ?_
 intro p s1 st1 own1 hc h hl hm1
 obtain ⟨f,l⟩:=p
 dsimp only at hc hl
 simp only [lB,Rd.Aq,Rd.AK,Rd.wp_seq,Rd.wp_ret,Rd.Bv] at h
 cases f
 all_goals simp only [Bool.false_eq_true,if_false,if_true] at h
 all_goals (repeat' ((conv=>whnf);first|(refine Bb ?_;intros)|(refine Bc ?_ ?_<;>intro e h)|(refine Be ?_ ?_<;>intro _)|refine XN (λ_=>?_) ?_|exact ⟨⟨(false,_),_,_,_⟩,⟨hc,Rd.Fc h bl,cb,bl⟩,bl,Yl,St.le_refl _⟩|(refine MV ?_;intro st1 hc)|(refine TI ?_ ?_<;>intro st1 hc e h)|(refine Kg ?_;intro s1 st1 hz hm hc h)|(refine JC ?_ ?_<;>(first|intro n s1 st1 hr hm hc h|intro e s1 st1 hc h))|exact Gm|(refine Qu ?_;intro own1 st1 hc)|refine Ae (λe1=>?_)|refine Ny ?_|refine yg.go hi hc h (λn s1 st1 hm hc h=>?_) (λe s1 st1 hc h=>?_)))
end
theorem gz {A W:Rd Nd} (h:(JG A W).run s=.inr (n,s')):n.kids≠[]:=by
 have hB:∀{l:List Nd} {s:Aj},l≠[]->(Nf A l).run s=.inr (n,s')->n.kids≠[]:=λ{l s} hl h=>by
  have hC:(Le A l).run s=.inr (n,s')->n.kids≠[]:=λh=>by
   obtain ⟨a,s1,_,h⟩:=Bj h
   obtain ⟨o,s2,_,h⟩:=Bj h
   obtain ⟨r,s3,_,h⟩:=Bj h
   obtain ⟨c,s4,_,h⟩:=Bj h
   cases h;simp [Ar,Nd.kids]
  replace h:(if ((Ac s).1.kind==6)=true then Le A l else if Bq s 15 [96]=true then Le A l else .seq (Ir (Gu (l.headD Gg))) λ_=>.ret (Ar 48 l):Rd Nd).run s=.inr (n,s'):=h
  split at h
  .exact hC h
  .split at h
   .exact hC h
   .obtain ⟨a,s1,_,h⟩:=Bj h
    cases h;exact hl
 obtain ⟨l,s1,h1,h⟩:=Bj h
 have hl:=Zg h1
 split at h
 .replace h:(if Bq s1 15 [123]=true then Rd.seq AR λo=>.seq (H7 (Oj A W) [125] (l++[o])) λl=>.ret (Ar 48 l) else Nf A l:Rd Nd).run s1=.inr (n,s'):=h
  split at h
  .obtain ⟨o,s2,_,h⟩:=Bj h
   obtain ⟨l2,s3,U,h⟩:=Bj h
   obtain ⟨l3,s4,_,U⟩:=Bj U
   obtain ⟨c,s5,_,U⟩:=Bj U
   cases U;cases h
   simp [Ar,Nd.kids]
  .exact hB hl h
 .exact hB hl h
section
variable {st0 st:St} {b d c:Nat} {s:Aj} {rows:List (AE×List Nd)} {K:Au->St->Prop} {A B R W F D E:Rd Nd}
attribute [local irreducible] Go.Aw.Am
theorem jI (hs:AZ enc 361 (λb=>[pv b d]) (Oe A)) (hw:AZ enc 276 (λb=>[pv b d]) W):AZ enc 321 (λb=>[pv b d]) (Oj A W):=by
 refine ⟨λ{st0 b s st rows K} U h=>?_⟩
 simp only [Oj,Rd.Aq,Rd.AK,Rd.wp_seq,Rd.wp_ret] at h
 have hmu:=U.mu
 refine pB Tryz.func321 ?_
 repeat' ((conv=>whnf);(first|refine Bb ?_|refine Bc ?_ ?_|refine Be ?_ ?_|refine MV ?_|refine TI ?_ ?_|refine Kg ?_|refine JC ?_ ?_|exact Gm|refine TG ?_|refine Qu ?_|refine Ae ?_|refine Gh.go (by first|exact AZ.q|exact Pu.a) ?_ ?_)<;>intros)
 refine Ct (λl own=>[(3,.slice 6 (l.map Ax) own)]) (λ_ _=>[]) [1,2] [0,1] (λl own=>(own,l)::rows) (λl=>l.length) .full (Cx.push ‹_› _) ‹_› (by show 1+_<=_;omega) Yl ?_
 intro l s1 st1 own1 U h hl hm1
 simp only [mj,Rd.Aq,Rd.AK,Rd.wp_seq,Rd.wp_ret,Rd.Bv] at h
 repeat' ((conv=>whnf);(first|refine Bb ?_|refine Bc ?_ ?_|refine Be ?_ ?_|refine MV ?_|refine TI ?_ ?_|refine Kg ?_|refine JC ?_ ?_|exact Gm|refine TG ?_|refine Qu ?_|refine Ae ?_|refine Gh.go (by first|exact AZ.q|exact Pu.a) ?_ ?_)<;>intros)
abbrev yX (b d:Nat):V:=.Gi [.ptr b 0,.int .i64 (d:Int)] 0
theorem Ni:AZ enc 363 (λb=>[yX b d]) (Dl [2,4]):=by
 refine ⟨λ{st0 b s st rows K} U h=>?_⟩
 refine pB Tryz.func363 ?_
 repeat' ((conv=>whnf);(first|refine Bb ?_|refine Bc ?_ ?_|refine Be ?_ ?_|exact Gm|refine Ae ?_|refine Gh.go (by first|exact AZ.q|exact (El (ks:=[2,4]) rfl).a) ?_ ?_)<;>intros)
theorem Oi:AZ enc 324 (λb=>[pv b d]) Lj:=by
 refine ⟨λ{st0 b s st rows K} U h=>?_⟩
 simp only [Lj,Rd.Aq,Rd.AK,Rd.wp_seq,Rd.wp_ret] at h
 have hmu:=U.mu
 refine AO Ab [] Tryz.func324 rfl Do rfl ?_
 refine Ag (Ai Ab ?_)
 repeat' ((conv=>whnf);(first|exact C7|refine Bb ?_|(refine C8 ?_ ?_ ?_;rotate_left)|refine Bc ?_ ?_|refine Be ?_ ?_|with_reducible refine WF ?_)<;>intros)
 refine Ag (Ai Ab ?_)
 repeat' ((conv=>whnf);first|exact C7|(refine Bb ?_;intros)|(refine C8 ?_ ?_ ?_;rotate_left)|(refine Bc ?_ ?_<;>intro e h)|(refine Be ?_ ?_<;>intro _)|refine Hu.go U h (λo s1 st1 hr hm U h=>?_) (λe s1 st1 U h=>?_)|exact BU U h|with_reducible refine WF ?_)
 refine Qs 1 0 rfl rfl rfl ?_
 refine Ai Ab ?_
 repeat' ((conv=>whnf);(first|exact C7|refine Bb ?_|(refine C8 ?_ ?_ ?_;rotate_left)|refine Bc ?_ ?_|refine Be ?_ ?_|refine MV ?_|refine TI ?_ ?_|refine Kg ?_|refine JC ?_ ?_|exact Gm|refine TG ?_|refine Qu ?_|refine Ae ?_|refine Gh.go (by first|exact AZ.q|exact Ni.a) ?_ ?_|refine Ny ?_|refine Jv (l:=[_,_]) (fs:=[]) (cs:=[yX b d]) Ni.z (Nat.le_of_ble_eq_true rfl) ‹_› ‹_› ?_ ?_|refine Cx.Hh (l:=[_]) (Cx.push ‹_› [_]) (Nat.le_of_ble_eq_true rfl) ?_|refine Ad [(0,true),(1,true),(2,true),(3,true),(7,true),(4,false),(5,true),(6,false),(8,false),(9,false),(10,false)] [1] GE ?_|with_reducible refine WF ?_)<;>intros)
theorem xS {own:AE} (U:∀x ∈ l,CX f p x) (h:K (.ret (.bool (l.any p))) st):PC 327 [.slice 6 (l.map Ax) own,.func f [] []] st K:=
 FL (args':=[.slice 6 (BL l) .any,.func f [] []]) (by rw [<-BK];rfl) (Kh U h)
theorem tQ {x:Nd}:CX 362 EV x:=by
 intro st R h
 refine pB Tryz.func362 ?_
 repeat' ((conv=>whnf);(first|refine Bb ?_|refine Bc ?_ ?_|refine Be ?_ ?_|fail)<;>intros)
 all_goals conv=>whnf
 all_goals (refine Av h ?_;clear h;simp_all [EV])
theorem uv {own:AE} {E:Er->Aj->Prop} (hc:Cx st0 b s st ((own,l)::rows)) (h:Rd.wp (fq l) s Q E)
 (k:∀v st',Cx st0 b s st' rows->Q v s->K (.ret (enc v)) st') (kb:∀e st',Cy st0 b s st' rows->E e s->K (.B1 (fault e.1)) st'):PC 322 [pv b d,.slice 6 (l.map Ax) own] st K:=by
 refine pB Tryz.func322 ?_
 unfold fq at h
 by_cases U:l.length=1
 .have hn:(l.length:Int)=1:=AC
  obtain ⟨x,rfl⟩:=List.length_eq_one_iff.1 U
  rw [if_pos U,Rd.wp_ret] at h
  have h:=k _ st hc.drop h
  repeat' ((conv=>whnf);(first|exact C7|refine Bb ?_|(refine C8 ?_ ?_ ?_;rotate_left)|refine Bc ?_ ?_|refine Be ?_ ?_|refine B9 (l:=[x]) ?_|refine aH AC rfl ?_|with_reducible refine WF ?_)<;>intros)
  all_goals exact AY rfl h
 .have hn:¬(l.length:Int)=1:=AC
  rw [if_neg U,Rd.wp_seq] at h
  simp only [Rd.wp_ret] at h
  repeat' ((conv=>whnf);first|exact C7|(refine Bb ?_;intros)|(refine C8 ?_ ?_ ?_;rotate_left)|(refine Bc ?_ ?_<;>intro e h)|(refine Be ?_ ?_<;>intro _)|refine B9 (l:=l) (λ_=>?_)|refine xS (l:=l) (λx hx=>tQ) ?_|refine Dy h (by simp only [show l.any EV=false by assumption,Bool.not_false]) (λh=>?_)|refine Dx h (by simp only [show l.any EV=true by assumption,Bool.not_true]) (λh=>?_)|refine LK (l:=l) ?_|exact AY rfl (k _ _ hc.drop h)|exact λe'=>⟨_,_,.inl rfl,St.le_refl _,kb _ _ hc.drop.y h⟩|refine Ad [(0,true),(1,true),(2,false),(3,true),(4,false)] [] GE ?_|with_reducible refine WF ?_)
theorem cY (hA:Rd.A6 A) (hp:AZ enc 359 (λb=>[pv b d]) (K6 A)) (hf:AZ enc 321 (λb=>[pv b d]) (Oj A W)):AZ enc 278 (λb=>[pv b d]) (JG A W):=by
 refine ⟨λ{st0 b s st rows K} hc h=>?_⟩
 have hmu:=hc.mu
 simp only [JG,Nf,Le,Rd.Aq,Rd.AK,Rd.wp_seq,Rd.wp_ret] at h
 refine AO Ab [] Tryz.func278 rfl Do rfl ?_
 refine Ag (Ai Ab ?_)
 repeat' ((conv=>whnf);(first|exact C7|refine Bb ?_|(refine C8 ?_ ?_ ?_;rotate_left)|refine Bc ?_ ?_|refine Be ?_ ?_|with_reducible refine WF ?_)<;>intros)
 refine Ag (Ai Ab ?_)
 repeat' ((conv=>whnf);first|exact C7|(refine Bb ?_;intros)|(refine C8 ?_ ?_ ?_;rotate_left)|(refine Bc ?_ ?_<;>intro e h)|(refine Be ?_ ?_<;>intro _)|refine qw.go (UX hA hp) hc h (λl own1 s1 st1 hr hm hc h=>?_) (λe s1 st1 hc h=>?_)|exact BU hc h|with_reducible refine WF ?_)
 obtain ⟨x,hx,hd⟩:=va (Zg hr)
 rw [hd] at h
 refine Ai Ab ?_
 have e2:(l.length==1)=true↔(l.length:Int)=1:=by rw [beq_iff_eq];omega
 have hB:((l.length:Int)=1/\Gu x=true/\Bq s1 15 [123]=true)\/((l.length:Int)=1/\Gu x=true/\Bq s1 15 [123]=false)\/((l.length:Int)=1/\Gu x=false)\/¬((l.length:Int)=1):=by
  by_cases e:(l.length:Int)=1
  .cases Gu x<;>cases Bq s1 15 [123]<;>simp [e]
  .simp [e]
 have e3:¬((l.length:Int)=1)->(l.length==1)=false:=λe=>by
  cases e4:l.length==1 with
  |true=>exact absurd (e2.1 e4) e
  |false=>rfl
 rcases hB with ⟨U,em,eb⟩|hB
 .simp only [e2.2 U,em,eb,Bool.and_self,if_true] at h
  repeat' ((conv=>whnf);(first|exact C7|refine Bb ?_|(refine C8 ?_ ?_ ?_;rotate_left)|refine Bc ?_ ?_|refine Be ?_ ?_|refine MV ?_|refine TI ?_ ?_|refine Kg ?_|refine JC ?_ ?_|exact Gm|refine TG ?_|refine Qu ?_|refine B9 ?_|refine Ae ?_|refine B9 (l:=l) ?_|refine Yj (es:=l.map Ax) (x:=Ax x) (by rw [List.getElem?_map,hx]<;>rfl) AC ?_|refine Ol ?_|refine Jv (l:=l++[_]) (fs:=[pv b d]) (cs:=[]) hf.z RL ‹_› ‹_› ?_ ?_|refine Ad [(0,true),(1,true),(2,true),(3,true),(7,true),(8,true),(4,false),(5,true),(6,false),(9,false),(10,false),(11,false)] [1] GE ?_|refine Ad [(0,true),(1,true),(2,true),(3,true),(4,false),(5,false)] [] GE ?_|refine Ad [(0,true),(1,true),(2,true),(3,true),(4,false),(5,false),(6,true),(7,false),(8,false)] [1] GE ?_|with_reducible refine WF ?_)<;>intros)
 cases e6:((Ac s1).1.kind==6)
 all_goals cases e9:Bq s1 15 [96]
 all_goals (simp only [e6,e9,if_true,Bool.false_eq_true,if_false] at h)
 all_goals rcases hB with ⟨U,em,eb⟩|⟨U,em⟩|U
 all_goals first
  |simp only [e2.2 U,em,eb,Bool.and_self,Bool.true_and,Bool.false_eq_true,if_true,if_false] at h
  |simp only [e2.2 U,em,Bool.true_and,Bool.false_eq_true,if_false] at h
  |simp only [e3 U,Bool.false_and,Bool.false_eq_true,if_false] at h
 all_goals (repeat' ((conv=>whnf);(first|exact C7|refine Bb ?_|(refine C8 ?_ ?_ ?_;rotate_left)|refine Bc ?_ ?_|refine Be ?_ ?_|refine MV ?_|refine TI ?_ ?_|refine Kg ?_|refine JC ?_ ?_|exact Gm|refine TG ?_|refine Qu ?_|refine B9 ?_|refine Ae ?_|refine B9 (l:=l) ?_|refine Yj (es:=l.map Ax) (x:=Ax x) (by rw [List.getElem?_map,hx]<;>rfl) AC ?_|refine Ol ?_|refine uv ‹_› ‹_› ?_ ?_|refine Gh.go (by first|exact AZ.q|exact qe.a) ?_ ?_|refine qw.go (UX hA hp) ‹_› ‹_› ?_ ?_|refine Dy ‹_› ‹_› ?_|refine Dx ‹_› ‹_› ?_|refine Dy ‹_› rfl ?_|refine Dx ‹_› rfl ?_|refine Ad [(0,true),(1,true),(2,true),(3,true),(7,true),(8,true),(4,false),(5,true),(6,false),(9,false),(10,false),(11,false)] [1] GE ?_|refine Ad [(0,true),(1,true),(2,true),(3,true),(4,false),(5,false)] [] GE ?_|refine Ad [(0,true),(1,true),(2,true),(3,true),(4,false),(5,false),(6,true),(7,false),(8,false)] [1] GE ?_|with_reducible refine WF ?_)<;>intros))
end
def Te (n:Nd):Nat->Bool
 |0=>D3 n
 |k+1=>(n.kids.drop (k+1)).all (D6 · [1])
theorem Xo {k:Nat}:Te n (k+1)=(n.kids.drop (k+1)).all (D6 · [1]):=rfl
theorem F1 {x:Nd} {K:Int->Prop} (h:l.length<=90000000) (k:K (((l++[x]).length:Int) - 1)):∃r,r=IntKind.i64.wrap (((l++[x]).length:Int) - 1)/\K r:=
 Wq (by rw [List.length_append];show _<=((l.length+1:Nat):Int) - 1;omega) (by rw [List.length_append];show ((l.length+1:Nat):Int) - 1<=_;omega) k
theorem sq {R:Rd Nd} {p:List Nd×Nd} (h:(L4 R [n]).run s=.inr (p,s')):p.1.length<=90000000:=Nat.le_trans (Jb h) (Nat.le_of_ble_eq_true rfl)
theorem mL {R:Rd Nd} {p:List Nd×Nd} {x y z:Nd} (h:(L4 R [n]).run s=.inr (p,s')):(p.1++[x]++[y]++[z]).length<=900000000:=by
 have U:p.1.length<=3:=Jb h
 rw [List.length_append,List.length_append,List.length_append]
 show p.1.length+1+1+1<=_
 omega
theorem Yc {k:Nat} {x:Nd} (h:l[k]? =some x):l.drop k=x::l.drop (k+1):=by
 obtain ⟨U,h2⟩:=List.getElem?_eq_some_iff.1 h
 rw [<-h2,List.drop_eq_getElem_cons U]
section
variable {st0 st:St} {b d c:Nat} {s:Aj} {rows:List (AE×List Nd)} {K:Au->St->Prop} {A B R W F D E:Rd Nd}
attribute [local irreducible] Go.Aw.Am
theorem Pt {st:St} (h:K (.ret (.bool (D3 n))) st):PC 275 [enc n] st K:=by
 refine pB Tryz.func275 ?_
 by_cases hk:n.kind=39
 .skip
  repeat' ((conv=>whnf);(first|refine Bb ?_|refine Bc ?_ ?_|refine Be ?_ ?_|fail)<;>intros)
  refine KO 14 [12,13] n.kids.length (λk=>k<=n.kids.length/\D3 n=Te n k) ⟨Nat.zero_le _,rfl⟩ Yl ?_
  rintro k ⟨hk1,hi⟩
  by_cases hlt:k<n.kids.length
  .obtain ⟨x,hx⟩:∃x,n.kids[(k:Int).toNat]? =some x:=⟨_,List.getElem?_eq_getElem hlt⟩
   have hdr:=Yc (show n.kids[k]? =some x from hx)
   by_cases h0:k=0
   .subst h0
    have hz:((0:Nat):Int)=0:=rfl
    have e:D3 n=(D6 x [2]&&Te n 1):=by
     unfold D3 Te
     rw [hk,beq_self_eq_true,if_pos rfl]
     cases hkk:n.kids with
     |nil=>rw [hkk] at hx;cases hx
     |cons y r=>rw [hkk] at hx;cases hx;simp
    cases hb:D6 x [2] with
    |true=>
     have U:∀{st:St} {K:Au->St->Prop} {own:AE},K (.ret (.bool true)) st->PC 281 [enc x,.slice 1 [[.int .i64 2]] own] st K:=λh=>D9 (ks:=[2]) (by rw [hb];exact h)
     repeat' ((conv=>whnf);first|(refine Bb ?_;intros)|(refine Bc ?_ ?_<;>intro e h)|(refine Be ?_ ?_<;>intro _)|refine U ?_)
     all_goals conv=>whnf
     all_goals exact ⟨1,⟨hlt,by rw [e,hb,Bool.true_and]⟩,Nat.sub_lt_sub_left hlt (Nat.lt_succ_self 0),Yl,St.le_refl _⟩
    |false=>
     have U:∀{st:St} {K:Au->St->Prop} {own:AE},K (.ret (.bool false)) st->PC 281 [enc x,.slice 1 [[.int .i64 2]] own] st K:=λh=>D9 (ks:=[2]) (by rw [hb];exact h)
     rw [e,hb,Bool.false_and] at h
     repeat' ((conv=>whnf);first|(refine Bb ?_;intros)|(refine Bc ?_ ?_<;>intro e h)|(refine Be ?_ ?_<;>intro _)|refine U ?_)
     all_goals exact AY rfl h
   .have e:Te n k=(D6 x [1]&&Te n (k+1)):=by
     obtain ⟨j,rfl⟩:∃j,k=j+1:=⟨k - 1,AC⟩
     rw [Xo,Xo,hdr,List.all_cons]
    have hpos:(k:Int)>0:=AC
    cases hb:D6 x [1] with
    |true=>
     have U:∀{st:St} {K:Au->St->Prop} {own:AE},K (.ret (.bool true)) st->PC 281 [enc x,.slice 1 [[.int .i64 1]] own] st K:=λh=>D9 (ks:=[1]) (by rw [hb];exact h)
     repeat' ((conv=>whnf);first|(refine Bb ?_;intros)|(refine Bc ?_ ?_<;>intro e h)|(refine Be ?_ ?_<;>intro _)|refine U ?_)
     all_goals conv=>whnf
     all_goals exact ⟨k+1,⟨hlt,by rw [hi,e,hb,Bool.true_and]⟩,Nat.sub_lt_sub_left hlt (Nat.lt_succ_self k),Yl,St.le_refl _⟩
    |false=>
     have U:∀{st:St} {K:Au->St->Prop} {own:AE},K (.ret (.bool false)) st->PC 281 [enc x,.slice 1 [[.int .i64 1]] own] st K:=λh=>D9 (ks:=[1]) (by rw [hb];exact h)
     rw [hi,e,hb,Bool.false_and] at h
     repeat' ((conv=>whnf);first|(refine Bb ?_;intros)|(refine Bc ?_ ?_<;>intro e h)|(refine Be ?_ ?_<;>intro _)|refine U ?_)
     all_goals exact AY rfl h
  .have hk2:k=n.kids.length:=AC
   have h1:D3 n=true:=by
    rw [hi]
    cases k with
    |zero=>
     have h2:n.kids=[]:=List.length_eq_zero_iff.1 hk2.symm
     unfold Te D3
     rw [hk,h2];rfl
    |succ k=>rw [Xo,List.drop_eq_nil_of_le AC];rfl
   rw [h1] at h
   repeat' ((conv=>whnf);first|(refine Bb ?_;intros)|(refine Bc ?_ ?_<;>intro e h)|(refine Be ?_ ?_<;>intro _)|fail)
   all_goals exact AY rfl h
 .have e:D3 n=D6 n [2]:=by
   unfold D3
   rw [if_neg (by rw [beq_iff_eq];exact hk)]
  rw [e] at h
  repeat' ((conv=>whnf);first|(refine Bb ?_;intros)|(refine Bc ?_ ?_<;>intro e h)|(refine Be ?_ ?_<;>intro _)|refine D9 (ks:=[2]) ?_)
  all_goals conv=>whnf
  all_goals (refine Av h ?_;clear h;simp_all)
theorem pV (hc1:AZ enc 278 (λb=>[pv b d]) (JG A W)) (hr1:AZ enc 273 (λb=>[pv b d]) R):AZ enc 229 (λb=>[pv b d]) (dH A R W):=by
 refine ⟨λ{st0 b s st rows K} hc h=>?_⟩
 simp only [dH,Rd.wp_seq] at h
 have hmu:=hc.mu
 refine pB Tryz.func229 ?_
 repeat' ((conv=>whnf);first|exact C7|(refine Bb ?_;intros)|(refine C8 ?_ ?_ ?_;rotate_left)|(refine Bc ?_ ?_<;>intro e h)|(refine Be ?_ ?_<;>intro _)|(refine MV ?_;intro U hc)|(refine TI ?_ ?_<;>intro U hc e h)|(refine Kg ?_;intro s1 U hz hm hc h)|(refine JC ?_ ?_<;>(first|intro n s1 U hr hm hc h|intro e s1 U hc h))|exact Gm|(refine Qu ?_;intro own1 U hc)|refine B9 (λ_=>?_)|refine Ae (λe1=>?_)|refine vM.go (l:=[_]) (Ok hr1) (Nat.le_of_ble_eq_true rfl) (hc.push _) h (λl x own1 s1 U hh hm hc h=>?_) (λe s1 U hc h=>?_)|refine Eu ?_|refine F1 (sq hh) ?_|refine Pt ?_|refine Dy h ‹_› (λh=>?_)|refine Dx h ‹_› (λh=>?_)|refine Ad [(0,true),(1,true),(2,true),(3,false),(4,true),(5,false),(6,true)] [] GE ?_|refine Ad [(0,true),(1,true),(2,true),(3,true),(4,true),(5,true),(6,true),(7,false),(8,false)] [] GE ?_|with_reducible refine WF ?_)
 have hl2:l.length<=3:=Jb hh
 refine Ct (x0:=([61],l++[x])) (λ(p:List UInt8×List Nd) own=>[(4,.str p.1),(3,.slice 6 (p.2.map Ax) own)]) (λ_ _=>[]) [1,2] [0,1] (λp own=>(own,p.2)::rows) (λp=>p.2.length) _ ‹_› ‹_› (by dsimp only;simp only [List.length_append,List.length_cons,List.length_nil];omega) Yl ?_
 intro p s1 U own1 hc h hl hm1
 obtain ⟨x,l⟩:=p
 dsimp only at hc hl
 simp only [uW,Rd.Aq,Rd.AK,Rd.wp_seq,Rd.wp_ret,Rd.Bv] at h
 repeat' ((conv=>whnf);first|exact C7|(refine Bb ?_;intros)|(refine C8 ?_ ?_ ?_;rotate_left)|(refine Bc ?_ ?_<;>intro e h)|(refine Be ?_ ?_<;>intro _)|exact ⟨⟨(_,_),_,_,_⟩,⟨hc,Rd.Fc h bl,cb,bl⟩,bl,Yl,St.le_refl _⟩|(refine MV ?_;intro U hc)|(refine TI ?_ ?_<;>intro U hc e h)|(refine Kg ?_;intro s1 U hz hm hc h)|(refine JC ?_ ?_<;>(first|intro n s1 U hr hm hc h|intro e s1 U hc h))|exact Gm|(refine Qu ?_;intro own1 U hc)|refine B9 (λ_=>?_)|refine Ae (λe1=>?_)|refine AZ.go hc1 hc h (λn s1 U hr hm hc h=>?_) (λe s1 U hc h=>?_)|refine au.go (l:=l) (Qa Oi) AC hc h (λn s1 U hr hm hc h=>?_) (λe s1 U hc h=>?_)|with_reducible refine WF ?_)
theorem wH (h:n.kids≠[]):∃x,n.kids[((0:Int)).toNat]? =some x/\n.kids.headD Gg=x:=va h
theorem jK {st:St} (hn:n.kids≠[]) (h:K (.ret (.bool (NP n))) st):PC 280 [enc n] st K:=by
 refine pB Tryz.func280 ?_
 obtain ⟨x,hx,hd⟩:=wH hn
 unfold NP at h
 rw [hd] at h
 cases hm:Gu x with
 |false=>
  rw [hm,if_neg Do] at h
  have U:∀{st:St} {K:Au->St->Prop},K (.ret (.bool false)) st->PC 320 [enc x] st K:=λh=>Ol (by rw [hm];exact h)
  repeat' ((conv=>whnf);first|(refine Bb ?_;intros)|(refine Bc ?_ ?_<;>intro e h)|(refine Be ?_ ?_<;>intro _)|refine U ?_)
  all_goals exact AY rfl h
 |true=>
  rw [hm,if_pos rfl] at h
  have U:∀{st:St} {K:Au->St->Prop},K (.ret (.bool true)) st->PC 320 [enc x] st K:=λh=>Ol (by rw [hm];exact h)
  by_cases h2:n.kids.length=2
  .obtain ⟨y,hy⟩:∃y,n.kids[((1:Int)).toNat]? =some y:=⟨_,List.getElem?_eq_getElem (show 1<n.kids.length by omega)⟩
   have hy2:n.kids[1]? =some y:=hy
   rw [if_pos h2,hy2] at h
   repeat' ((conv=>whnf);first|(refine Bb ?_;intros)|(refine Bc ?_ ?_<;>intro e h)|(refine Be ?_ ?_<;>intro _)|refine U ?_)
   all_goals conv=>whnf
   all_goals (refine Av h ?_;clear h;simp_all [EV])
  .by_cases h4:n.kids.length=4
   .obtain ⟨y,hy⟩:∃y,n.kids[((2:Int)).toNat]? =some y:=⟨_,List.getElem?_eq_getElem (show 2<n.kids.length by omega)⟩
    have hy2:n.kids[2]? =some y:=hy
    rw [if_neg h2,hy2] at h
    by_cases hk:y.kind=13
    .by_cases h3:y.kids.length=3
     .obtain ⟨z,hz⟩:∃z,y.kids[((2:Int)).toNat]? =some z:=⟨_,List.getElem?_eq_getElem (show 2<y.kids.length by omega)⟩
      have hz2:y.kids[2]? =some z:=hz
      repeat' ((conv=>whnf);first|(refine Bb ?_;intros)|(refine Bc ?_ ?_<;>intro e h)|(refine Be ?_ ?_<;>intro _)|refine U ?_)
      all_goals conv=>whnf
      all_goals (refine Av h ?_;clear h;simp_all [EV])
     .skip
      repeat' ((conv=>whnf);first|(refine Bb ?_;intros)|(refine Bc ?_ ?_<;>intro e h)|(refine Be ?_ ?_<;>intro _)|refine U ?_)
      all_goals conv=>whnf
      all_goals (refine Av h ?_;clear h;simp_all [EV])
    .skip
     repeat' ((conv=>whnf);first|(refine Bb ?_;intros)|(refine Bc ?_ ?_<;>intro e h)|(refine Be ?_ ?_<;>intro _)|refine U ?_)
     all_goals conv=>whnf
     all_goals (refine Av h ?_;clear h;simp_all [EV])
   .rw [if_neg h2,if_neg (λe=>h4 e.1)] at h
    repeat' ((conv=>whnf);first|(refine Bb ?_;intros)|(refine Bc ?_ ?_<;>intro e h)|(refine Be ?_ ?_<;>intro _)|refine U ?_)
    all_goals exact AY rfl h
theorem ZX (hc1:AZ enc 278 (λb=>[pv b d]) (JG A W)) (hr1:AZ enc 273 (λb=>[pv b d]) R):AZ enc 230 (λb=>[pv b d]) (NR A R W):=by
 refine ⟨λ{st0 b s st rows K} hc h=>?_⟩
 simp only [NR,Rd.wp_seq] at h
 have hmu:=hc.mu
 refine AO Ab [] Tryz.func230 rfl Do rfl ?_
 refine Ag (Ai Ab ?_)
 repeat' ((conv=>whnf);(first|exact C7|refine Bb ?_|(refine C8 ?_ ?_ ?_;rotate_left)|refine Bc ?_ ?_|refine Be ?_ ?_|with_reducible refine WF ?_)<;>intros)
 refine Ag (Ai Ab ?_)
 repeat' ((conv=>whnf);first|exact C7|(refine Bb ?_;intros)|(refine C8 ?_ ?_ ?_;rotate_left)|(refine Bc ?_ ?_<;>intro e h)|(refine Be ?_ ?_<;>intro _)|(refine Kg ?_;intro s1 U hz hm hc h)|(refine JC ?_ ?_<;>(first|intro n s1 U hr hm hc h|intro e s1 U hc h))|exact Gm|(refine Qu ?_;intro own1 U hc)|refine B9 (λ_=>?_)|refine Ae (λe1=>?_)|refine vM.go (l:=[_]) (Ok hr1) (Nat.le_of_ble_eq_true rfl) (hc.push _) h (λl x own1 s1 U hh hm hc h=>?_) (λe s1 U hc h=>?_)|exact BU hc h|refine Ad [(0,true),(1,true),(2,true),(3,false),(4,true),(5,false),(6,true)] [] GE ?_|refine Ad [(0,true),(1,true),(2,true),(3,true),(4,true),(5,true),(6,true),(7,false),(8,false)] [] GE ?_|refine Ad [(0,true),(1,true),(2,true),(3,true),(4,true),(5,true),(6,true),(7,false),(8,false)] [] GE ?_|with_reducible refine WF ?_)
 have hl2:l.length<=3:=Jb hh
 refine Ai Ab ?_
 repeat' ((conv=>whnf);first|exact C7|(refine Bb ?_;intros)|(refine C8 ?_ ?_ ?_;rotate_left)|(refine Bc ?_ ?_<;>intro e h)|(refine Be ?_ ?_<;>intro _)|(refine Kg ?_;intro s1 U hz hm hc h)|(refine JC ?_ ?_<;>(first|intro n s1 U hr hm hc h|intro e s1 U hc h))|exact Gm|(refine Qu ?_;intro own1 U hc)|refine B9 (λ_=>?_)|refine Ae (λe1=>?_)|refine Eu ?_|refine F1 f8 ?_|refine Pt ?_|refine AZ.go hc1 hc h (λn s1 U hr hm hc h=>?_) (λe s1 U hc h=>?_)|refine jK (gz hr) ?_|refine Dy h ‹_› (λh=>?_)|refine Dx h ‹_› (λh=>?_)|refine au.go (Qa Oi) (mL hh) hc h (λn s1 U hr hm hc h=>?_) (λe s1 U hc h=>?_)|refine Ad [(0,true),(1,true),(2,true),(3,false),(4,true),(5,false),(6,true)] [] GE ?_|refine Ad [(0,true),(1,true),(2,true),(3,true),(4,true),(5,true),(6,true),(7,false),(8,false)] [] GE ?_|refine Ad [(0,true),(1,true),(2,true),(3,true),(4,true),(5,true),(6,true),(7,false),(8,false)] [] GE ?_|with_reducible refine WF ?_)
abbrev yC (g:FuncId):V:=.Gi [.func g [] []] 0
theorem rb {x:Nd} {st:St} (U:∀{n:Nd} {st:St} {K:Au->St->Prop},K (.ret (.bool (p n))) st->PC g [enc n] st K) (h:K (.ret (.bool (!p x))) st):PC 328 [enc x,yC g] st K:=by
 refine pB Tryz.func328 ?_
 repeat' ((conv=>whnf);first|(refine Bb ?_;intros)|(refine Bc ?_ ?_<;>intro e h)|(refine Be ?_ ?_<;>intro _)|refine U ?_)
 all_goals conv=>whnf
 all_goals (refine Av h ?_;clear h;simp_all)
theorem wK {st:St} (U:∀x st (K:Au->St->Prop),K (.ret (.bool (p x))) st->PC f [enc x,yC g] st K) (h:K (.ret (.int .i64 (CG p l 0))) st):PC 365 [.slice 6 (BL l) .any,.func f [] [yC g]] st K:=by
 refine pB Tryz.func365 ?_
 repeat' ((conv=>whnf);(first|refine Bb ?_|refine Bc ?_ ?_|refine Be ?_ ?_|fail)<;>intros)
 refine KO 8 [6,7,0,1] l.length (λk=>k<=l.length/\(CG p l 0=CG p (l.drop k) k)) ⟨Nat.zero_le _,rfl⟩ Yl ?_
 rintro k ⟨hk,hi⟩
 repeat' ((conv=>whnf);first|(refine Bb ?_;intros)|(refine Bc ?_ ?_<;>intro e h)|(refine Be ?_ ?_<;>intro _)|refine U _ _ _ ?_)
 all_goals conv=>whnf
 all_goals try (have e:=Yc ‹l[Int.toNat k]? =some _›;rw [Int.toNat_natCast] at e;rw [e,CG] at hi;clear e)
 all_goals first
  |(refine ⟨k+1,⟨AC,?_⟩,AC,Yl,St.le_refl _⟩;clear h;simp_all)
  |(refine fin h ?_;clear h;simp_all;done)
  |(refine fin h ?_;rw [hi,List.drop_eq_nil_of_le AC];rfl)
theorem vT {st:St} (hf:∀x st (K:Au->St->Prop),K (.ret (.bool (p x))) st->PC f [enc x,yC g] st K) (h:K (.ret (.bool (l.any p))) st):PC 327 [.slice 6 (BL l) .any,.func f [] [yC g]] st K:=by
 refine pB Tryz.func327 ?_
 refine wK hf ?_
 have key:=HS (p:=p) (l:=l) (i:=0) AC
 refine Wh (λU=>?_) (λU=>?_)
 .exact Av h (key.1 U)
 .refine Av h ?_
  simp_all
theorem dq:(!l.any λx=> !p x)=l.all p:=by
 rw [List.all_eq_not_any_not]
theorem vR (h:(l.any λx=> !p x)=true):l.all p=false:=by rw [<-dq,h];rfl
theorem qI (h:(l.any λx=> !p x)=false):l.all p=true:=by rw [<-dq,h];rfl
theorem Hv (hg:∀{n:Nd} {st:St} {K:Au->St->Prop},K (.ret (.bool (p n))) st->PC g [enc n] st K) (hd1:AZ enc 110 (λb=>[.ptr b 0,.func 326 [] [],.int .i64 ((d:Int) - 1)]) D) (hd0:d<=100):
 au 282 (λb v=>[pv b d,.int .i64 k,v,.func g [] []]) (λl=>dA D k l p):=by
 refine ⟨λ{st0 b s st rows K own l} hl hc h=>?_⟩
 simp only [dA,Rd.Aq,Rd.AK,Rd.wp_seq,Rd.wp_ret] at h
 refine AO Ab [] Tryz.func282 rfl Do rfl ?_
 refine Ag (Ai Ab ?_)
 repeat' ((conv=>whnf);(first|exact C7|refine Bb ?_|(refine C8 ?_ ?_ ?_;rotate_left)|refine Bc ?_ ?_|refine Be ?_ ?_|with_reducible refine WF ?_)<;>intros)
 refine Qs 7 1 rfl rfl rfl ?_
 refine Ai Ab ?_
 repeat' ((conv=>whnf);first|exact C7|(refine Bb ?_;intros)|(refine C8 ?_ ?_ ?_;rotate_left)|(refine Bc ?_ ?_<;>intro e h)|(refine Be ?_ ?_<;>intro _)|(refine MV ?_;intro U hc)|(refine TI ?_ ?_<;>intro U hc e h)|(refine Kg ?_;intro s1 U hz hm hc h)|(refine JC ?_ ?_<;>(first|intro n s1 U hr hm hc h|intro e s1 U hc h))|exact Gm|refine TG ?_|(refine Qu ?_;intro own1 U hc)|refine Ae (λe1=>?_)|refine Wq (a:=(d:Int) - 1) AC AC ?_|refine AZ.go hd1 hc h (λn s1 U hr hm hc h=>?_) (λe s1 U hc h=>?_)|refine vT (p:=λx=> !p x) (λx st K h=>rb hg h) ?_|refine Dy h (qI ‹_›) (λh=>?_)|refine Dx h (vR ‹_›) (λh=>?_)|refine Ad [(0,true),(1,true),(2,true),(3,true),(4,false),(5,true),(6,false)] [] GE ?_|with_reducible refine WF ?_)
theorem KA {st:St} (h:K (.ret (.bool true)) st):PC 283 [enc n] st K:=by
 refine pB Tryz.func283 ?_
 repeat' ((conv=>whnf);(first|refine Bb ?_|refine Bc ?_ ?_|refine Be ?_ ?_|fail)<;>intros)
 all_goals exact AY rfl h
theorem Ij {st:St} (h:K (.ret (.bool (n.kind==36))) st):PC 284 [enc n] st K:=by
 refine pB Tryz.func284 ?_
 repeat' ((conv=>whnf);(first|refine Bb ?_|refine Bc ?_ ?_|refine Be ?_ ?_|fail)<;>intros)
 all_goals conv=>whnf
 all_goals (refine Av h ?_;clear h;simp_all)
theorem jC (hr1:AZ enc 273 (λb=>[pv b d]) R) (hd1:AZ enc 110 (λb=>[.ptr b 0,.func 326 [] [],.int .i64 ((d:Int) - 1)]) D) (hd0:d<=100):AZ enc 231 (λb=>[pv b d]) (Vm R D):=by
 refine ⟨λ{st0 b s st rows K} hc h=>?_⟩
 simp only [Vm,Rd.wp_seq] at h
 have hmu:=hc.mu
 refine AO Ab [] Tryz.func231 rfl Do rfl ?_
 refine Ag (Ai Ab ?_)
 repeat' ((conv=>whnf);(first|exact C7|refine Bb ?_|(refine C8 ?_ ?_ ?_;rotate_left)|refine Bc ?_ ?_|refine Be ?_ ?_|with_reducible refine WF ?_)<;>intros)
 refine Ag (Ai Ab ?_)
 repeat' ((conv=>whnf);first|exact C7|(refine Bb ?_;intros)|(refine C8 ?_ ?_ ?_;rotate_left)|(refine Bc ?_ ?_<;>intro e h)|(refine Be ?_ ?_<;>intro _)|(refine Kg ?_;intro s1 U hz hm hc h)|(refine JC ?_ ?_<;>(first|intro n s1 U hr hm hc h|intro e s1 U hc h))|exact Gm|refine B9 (λ_=>?_)|refine Ae (λe1=>?_)|refine vM.go (l:=[_]) (Ok hr1) (Nat.le_of_ble_eq_true rfl) (hc.push _) h (λl x own1 s1 U hh hm hc h=>?_) (λe s1 U hc h=>?_)|exact BU hc h|refine Ad [(0,true),(1,true),(2,true),(3,false),(4,true),(5,false),(6,true)] [] GE ?_|refine Ad [(0,true),(1,true),(2,true),(3,true),(4,true),(5,true),(6,true),(7,true),(8,true),(9,true),(10,true),(11,true),(12,true),(13,true),(14,true),(15,true),(16,false),(17,true),(18,true),(19,true),(20,true),(21,true),(22,true),(23,true),(24,false),(25,true),(26,false)] [] GE ?_|with_reducible refine WF ?_)
 have hl2:l.length<=3:=Jb hh
 refine Ai Ab ?_
 by_cases hk:x.kind=39
 .by_cases h2:(x.kids.length:Int)=2
  .have h2':x.kids.length=2:=AC
   obtain ⟨y0,hx0⟩:∃y,x.kids[((0:Int)).toNat]? =some y:=⟨_,List.getElem?_eq_getElem (show 0<x.kids.length by omega)⟩
   obtain ⟨y1,hx1⟩:∃y,x.kids[((1:Int)).toNat]? =some y:=⟨_,List.getElem?_eq_getElem (show 1<x.kids.length by omega)⟩
   have hy0:x.kids[0]? =some y0:=hx0
   have hy1:x.kids[1]? =some y1:=hx1
   have hN:G5 x=(D6 y0 [2]&&D6 y1 [1]):=by unfold G5;rw [hk,h2',hy0,hy1];rfl
   cases i0:D6 y0 [2]
   .have hcl:G5 x=false:=by rw [hN,i0];rfl
    repeat' ((conv=>whnf);first|exact C7|(refine Bb ?_;intros)|(refine C8 ?_ ?_ ?_;rotate_left)|(refine Bc ?_ ?_<;>intro e h)|(refine Be ?_ ?_<;>intro _)|(refine Kg ?_;intro s1 U hz hm hc h)|(refine JC ?_ ?_<;>(first|intro n s1 U hr hm hc h|intro e s1 U hc h))|exact Gm|refine B9 (λ_=>?_)|refine Ae (λe1=>?_)|refine Eu ?_|refine F1 AC ?_|refine Wm hx0 AC ?_|refine Wm hx1 AC ?_|refine D9 (ks:=[2]) ?_|refine D9 (ks:=[1]) ?_|refine Dy h hcl (λh=>?_)|refine Dx h hcl (λh=>?_)|refine au.go (l:=l++[x]) (Hv (d:=d) (λh=>KA h) hd1 hd0) (by rw [List.length_append]<;>exact Nat.le_trans (Nat.add_le_add_right hl2 _) (Nat.le_of_ble_eq_true rfl)) hc h (λn s1 U hr hm hc h=>?_) (λe s1 U hc h=>?_)|refine Ad [(0,true),(1,true),(2,true),(3,false),(4,true),(5,false),(6,true)] [] GE ?_|refine Ad [(0,true),(1,true),(2,true),(3,true),(4,true),(5,true),(6,true),(7,true),(8,true),(9,true),(10,true),(11,true),(12,true),(13,true),(14,true),(15,true),(16,false),(17,true),(18,true),(19,true),(20,true),(21,true),(22,true),(23,true),(24,false),(25,true),(26,false)] [] GE ?_|with_reducible refine WF ?_)
   cases i1:D6 y1 [1]
   .have hcl:G5 x=false:=by rw [hN,i0,i1];rfl
    repeat' ((conv=>whnf);first|exact C7|(refine Bb ?_;intros)|(refine C8 ?_ ?_ ?_;rotate_left)|(refine Bc ?_ ?_<;>intro e h)|(refine Be ?_ ?_<;>intro _)|(refine Kg ?_;intro s1 U hz hm hc h)|(refine JC ?_ ?_<;>(first|intro n s1 U hr hm hc h|intro e s1 U hc h))|exact Gm|refine B9 (λ_=>?_)|refine Ae (λe1=>?_)|refine Eu ?_|refine F1 AC ?_|refine Wm hx0 AC ?_|refine Wm hx1 AC ?_|refine D9 (ks:=[2]) ?_|refine D9 (ks:=[1]) ?_|refine Dy h hcl (λh=>?_)|refine Dx h hcl (λh=>?_)|refine au.go (l:=l++[x]) (Hv (d:=d) (λh=>KA h) hd1 hd0) (by rw [List.length_append]<;>exact Nat.le_trans (Nat.add_le_add_right hl2 _) (Nat.le_of_ble_eq_true rfl)) hc h (λn s1 U hr hm hc h=>?_) (λe s1 U hc h=>?_)|refine Ad [(0,true),(1,true),(2,true),(3,false),(4,true),(5,false),(6,true)] [] GE ?_|refine Ad [(0,true),(1,true),(2,true),(3,true),(4,true),(5,true),(6,true),(7,true),(8,true),(9,true),(10,true),(11,true),(12,true),(13,true),(14,true),(15,true),(16,false),(17,true),(18,true),(19,true),(20,true),(21,true),(22,true),(23,true),(24,false),(25,true),(26,false)] [] GE ?_|with_reducible refine WF ?_)
   .have hcl:G5 x=true:=by rw [hN,i0,i1];rfl
    repeat' ((conv=>whnf);first|exact C7|(refine Bb ?_;intros)|(refine C8 ?_ ?_ ?_;rotate_left)|(refine Bc ?_ ?_<;>intro e h)|(refine Be ?_ ?_<;>intro _)|(refine Kg ?_;intro s1 U hz hm hc h)|(refine JC ?_ ?_<;>(first|intro n s1 U hr hm hc h|intro e s1 U hc h))|exact Gm|refine B9 (λ_=>?_)|refine Ae (λe1=>?_)|refine Eu ?_|refine F1 AC ?_|refine Wm hx0 AC ?_|refine Wm hx1 AC ?_|refine D9 (ks:=[2]) ?_|refine D9 (ks:=[1]) ?_|refine Dy h hcl (λh=>?_)|refine Dx h hcl (λh=>?_)|refine au.go (l:=l++[x]) (Hv (d:=d) (λh=>KA h) hd1 hd0) (by rw [List.length_append]<;>exact Nat.le_trans (Nat.add_le_add_right hl2 _) (Nat.le_of_ble_eq_true rfl)) hc h (λn s1 U hr hm hc h=>?_) (λe s1 U hc h=>?_)|refine Ad [(0,true),(1,true),(2,true),(3,false),(4,true),(5,false),(6,true)] [] GE ?_|refine Ad [(0,true),(1,true),(2,true),(3,true),(4,true),(5,true),(6,true),(7,true),(8,true),(9,true),(10,true),(11,true),(12,true),(13,true),(14,true),(15,true),(16,false),(17,true),(18,true),(19,true),(20,true),(21,true),(22,true),(23,true),(24,false),(25,true),(26,false)] [] GE ?_|with_reducible refine WF ?_)
  .have hcl:G5 x=false:=by unfold G5;rw [show (x.kids.length==2)=false by cases e:x.kids.length==2 with|true=>exact absurd (by rw [beq_iff_eq] at e;omega) h2|false=>rfl];simp
   repeat' ((conv=>whnf);first|exact C7|(refine Bb ?_;intros)|(refine C8 ?_ ?_ ?_;rotate_left)|(refine Bc ?_ ?_<;>intro e h)|(refine Be ?_ ?_<;>intro _)|(refine Kg ?_;intro s1 U hz hm hc h)|(refine JC ?_ ?_<;>(first|intro n s1 U hr hm hc h|intro e s1 U hc h))|exact Gm|refine B9 (λ_=>?_)|refine Ae (λe1=>?_)|refine Eu ?_|refine F1 AC ?_|refine D9 (ks:=[2]) ?_|refine D9 (ks:=[1]) ?_|refine Dy h hcl (λh=>?_)|refine Dx h hcl (λh=>?_)|refine au.go (l:=l++[x]) (Hv (d:=d) (λh=>KA h) hd1 hd0) (by rw [List.length_append]<;>exact Nat.le_trans (Nat.add_le_add_right hl2 _) (Nat.le_of_ble_eq_true rfl)) hc h (λn s1 U hr hm hc h=>?_) (λe s1 U hc h=>?_)|refine Ad [(0,true),(1,true),(2,true),(3,false),(4,true),(5,false),(6,true)] [] GE ?_|refine Ad [(0,true),(1,true),(2,true),(3,true),(4,true),(5,true),(6,true),(7,true),(8,true),(9,true),(10,true),(11,true),(12,true),(13,true),(14,true),(15,true),(16,false),(17,true),(18,true),(19,true),(20,true),(21,true),(22,true),(23,true),(24,false),(25,true),(26,false)] [] GE ?_|with_reducible refine WF ?_)
 .have hcl:G5 x=false:=by unfold G5;rw [show (x.kind==39)=false by cases e:x.kind==39 with|true=>exact absurd (by simpa using e) hk|false=>rfl];rfl
  repeat' ((conv=>whnf);first|exact C7|(refine Bb ?_;intros)|(refine C8 ?_ ?_ ?_;rotate_left)|(refine Bc ?_ ?_<;>intro e h)|(refine Be ?_ ?_<;>intro _)|(refine Kg ?_;intro s1 U hz hm hc h)|(refine JC ?_ ?_<;>(first|intro n s1 U hr hm hc h|intro e s1 U hc h))|exact Gm|refine B9 (λ_=>?_)|refine Ae (λe1=>?_)|refine Eu ?_|refine F1 AC ?_|refine D9 (ks:=[2]) ?_|refine D9 (ks:=[1]) ?_|refine Dy h hcl (λh=>?_)|refine Dx h hcl (λh=>?_)|refine au.go (l:=l++[x]) (Hv (d:=d) (λh=>KA h) hd1 hd0) (by rw [List.length_append]<;>exact Nat.le_trans (Nat.add_le_add_right hl2 _) (Nat.le_of_ble_eq_true rfl)) hc h (λn s1 U hr hm hc h=>?_) (λe s1 U hc h=>?_)|refine Ad [(0,true),(1,true),(2,true),(3,false),(4,true),(5,false),(6,true)] [] GE ?_|refine Ad [(0,true),(1,true),(2,true),(3,true),(4,true),(5,true),(6,true),(7,true),(8,true),(9,true),(10,true),(11,true),(12,true),(13,true),(14,true),(15,true),(16,false),(17,true),(18,true),(19,true),(20,true),(21,true),(22,true),(23,true),(24,false),(25,true),(26,false)] [] GE ?_|with_reducible refine WF ?_)
theorem XB (hr1:AZ enc 273 (λb=>[pv b d]) R) (hd1:AZ enc 110 (λb=>[.ptr b 0,.func 326 [] [],.int .i64 ((d:Int) - 1)]) D) (hd0:d<=100):AZ enc 232 (λb=>[pv b d]) (Lr R D):=by
 refine ⟨λ{st0 b s st rows K} hc h=>?_⟩
 simp only [Lr,Rd.wp_seq] at h
 have hmu:=hc.mu
 refine AO Ab [] Tryz.func232 rfl Do rfl ?_
 refine Ag (Ai Ab ?_)
 repeat' ((conv=>whnf);(first|exact C7|refine Bb ?_|(refine C8 ?_ ?_ ?_;rotate_left)|refine Bc ?_ ?_|refine Be ?_ ?_|with_reducible refine WF ?_)<;>intros)
 refine Ag (Ai Ab ?_)
 repeat' ((conv=>whnf);first|exact C7|(refine Bb ?_;intros)|(refine C8 ?_ ?_ ?_;rotate_left)|(refine Bc ?_ ?_<;>intro e h)|(refine Be ?_ ?_<;>intro _)|(refine Kg ?_;intro s1 U hz hm hc h)|(refine JC ?_ ?_<;>(first|intro n s1 U hr hm hc h|intro e s1 U hc h))|exact Gm|refine B9 (λ_=>?_)|refine Ae (λe1=>?_)|refine vM.go (l:=[_]) (Ok hr1) (Nat.le_of_ble_eq_true rfl) (hc.push _) h (λl x own1 s1 U hh hm hc h=>?_) (λe s1 U hc h=>?_)|exact BU hc h|refine Ad [(0,true),(1,true),(2,true),(3,false),(4,true),(5,false),(6,true)] [] GE ?_|refine Ad [(0,true),(1,true),(2,true),(3,true),(4,true),(5,true),(6,true),(7,true),(8,true),(9,true),(10,true),(11,true),(12,true),(13,true),(14,true),(15,true),(16,false),(17,true),(18,false)] [] GE ?_|with_reducible refine WF ?_)
 have hl2:l.length<=3:=Jb hh
 refine Ai Ab ?_
 by_cases hk:x.kind=39
 .by_cases h2:(x.kids.length:Int)=2
  .have h2':x.kids.length=2:=AC
   obtain ⟨y0,hx0⟩:∃y,x.kids[((0:Int)).toNat]? =some y:=⟨_,List.getElem?_eq_getElem (show 0<x.kids.length by omega)⟩
   obtain ⟨y1,hx1⟩:∃y,x.kids[((1:Int)).toNat]? =some y:=⟨_,List.getElem?_eq_getElem (show 1<x.kids.length by omega)⟩
   have hy0:x.kids[0]? =some y0:=hx0
   have hy1:x.kids[1]? =some y1:=hx1
   have hN:KJ x=D6 y0 [2,4]:=by unfold KJ;rw [hk,h2',hy0];rfl
   cases i0:D6 y0 [2,4]
   .have hcl:KJ x=false:=by rw [hN,i0]
    repeat' ((conv=>whnf);first|exact C7|(refine Bb ?_;intros)|(refine C8 ?_ ?_ ?_;rotate_left)|(refine Bc ?_ ?_<;>intro e h)|(refine Be ?_ ?_<;>intro _)|(refine Kg ?_;intro s1 U hz hm hc h)|(refine JC ?_ ?_<;>(first|intro n s1 U hr hm hc h|intro e s1 U hc h))|exact Gm|refine B9 (λ_=>?_)|refine Ae (λe1=>?_)|refine Eu ?_|refine F1 AC ?_|refine Wm hx0 AC ?_|refine Wm hx1 AC ?_|refine D9 (ks:=[2,4]) ?_|refine D9 (ks:=[1]) ?_|refine Dy h hcl (λh=>?_)|refine Dx h hcl (λh=>?_)|refine au.go (l:=l++[x]) (Hv (d:=d) (λh=>Ij h) hd1 hd0) (by rw [List.length_append]<;>exact Nat.le_trans (Nat.add_le_add_right hl2 _) (Nat.le_of_ble_eq_true rfl)) hc h (λn s1 U hr hm hc h=>?_) (λe s1 U hc h=>?_)|refine Ad [(0,true),(1,true),(2,true),(3,false),(4,true),(5,false),(6,true)] [] GE ?_|refine Ad [(0,true),(1,true),(2,true),(3,true),(4,true),(5,true),(6,true),(7,true),(8,true),(9,true),(10,true),(11,true),(12,true),(13,true),(14,true),(15,true),(16,false),(17,true),(18,false)] [] GE ?_|with_reducible refine WF ?_)
   .have hcl:KJ x=true:=by rw [hN,i0]
    repeat' ((conv=>whnf);first|exact C7|(refine Bb ?_;intros)|(refine C8 ?_ ?_ ?_;rotate_left)|(refine Bc ?_ ?_<;>intro e h)|(refine Be ?_ ?_<;>intro _)|(refine Kg ?_;intro s1 U hz hm hc h)|(refine JC ?_ ?_<;>(first|intro n s1 U hr hm hc h|intro e s1 U hc h))|exact Gm|refine B9 (λ_=>?_)|refine Ae (λe1=>?_)|refine Eu ?_|refine F1 AC ?_|refine Wm hx0 AC ?_|refine Wm hx1 AC ?_|refine D9 (ks:=[2,4]) ?_|refine D9 (ks:=[1]) ?_|refine Dy h hcl (λh=>?_)|refine Dx h hcl (λh=>?_)|refine au.go (l:=l++[x]) (Hv (d:=d) (λh=>Ij h) hd1 hd0) (by rw [List.length_append]<;>exact Nat.le_trans (Nat.add_le_add_right hl2 _) (Nat.le_of_ble_eq_true rfl)) hc h (λn s1 U hr hm hc h=>?_) (λe s1 U hc h=>?_)|refine Ad [(0,true),(1,true),(2,true),(3,false),(4,true),(5,false),(6,true)] [] GE ?_|refine Ad [(0,true),(1,true),(2,true),(3,true),(4,true),(5,true),(6,true),(7,true),(8,true),(9,true),(10,true),(11,true),(12,true),(13,true),(14,true),(15,true),(16,false),(17,true),(18,false)] [] GE ?_|with_reducible refine WF ?_)
  .have hcl:KJ x=false:=by unfold KJ;rw [show (x.kids.length==2)=false by cases e:x.kids.length==2 with|true=>exact absurd (by rw [beq_iff_eq] at e;omega) h2|false=>rfl];simp
   repeat' ((conv=>whnf);first|exact C7|(refine Bb ?_;intros)|(refine C8 ?_ ?_ ?_;rotate_left)|(refine Bc ?_ ?_<;>intro e h)|(refine Be ?_ ?_<;>intro _)|(refine Kg ?_;intro s1 U hz hm hc h)|(refine JC ?_ ?_<;>(first|intro n s1 U hr hm hc h|intro e s1 U hc h))|exact Gm|refine B9 (λ_=>?_)|refine Ae (λe1=>?_)|refine Eu ?_|refine F1 AC ?_|refine D9 (ks:=[2,4]) ?_|refine D9 (ks:=[1]) ?_|refine Dy h hcl (λh=>?_)|refine Dx h hcl (λh=>?_)|refine au.go (l:=l++[x]) (Hv (d:=d) (λh=>Ij h) hd1 hd0) (by rw [List.length_append]<;>exact Nat.le_trans (Nat.add_le_add_right hl2 _) (Nat.le_of_ble_eq_true rfl)) hc h (λn s1 U hr hm hc h=>?_) (λe s1 U hc h=>?_)|refine Ad [(0,true),(1,true),(2,true),(3,false),(4,true),(5,false),(6,true)] [] GE ?_|refine Ad [(0,true),(1,true),(2,true),(3,true),(4,true),(5,true),(6,true),(7,true),(8,true),(9,true),(10,true),(11,true),(12,true),(13,true),(14,true),(15,true),(16,false),(17,true),(18,false)] [] GE ?_|with_reducible refine WF ?_)
 .have hcl:KJ x=false:=by unfold KJ;rw [show (x.kind==39)=false by cases e:x.kind==39 with|true=>exact absurd (by simpa using e) hk|false=>rfl];rfl
  repeat' ((conv=>whnf);first|exact C7|(refine Bb ?_;intros)|(refine C8 ?_ ?_ ?_;rotate_left)|(refine Bc ?_ ?_<;>intro e h)|(refine Be ?_ ?_<;>intro _)|(refine Kg ?_;intro s1 U hz hm hc h)|(refine JC ?_ ?_<;>(first|intro n s1 U hr hm hc h|intro e s1 U hc h))|exact Gm|refine B9 (λ_=>?_)|refine Ae (λe1=>?_)|refine Eu ?_|refine F1 AC ?_|refine D9 (ks:=[2,4]) ?_|refine D9 (ks:=[1]) ?_|refine Dy h hcl (λh=>?_)|refine Dx h hcl (λh=>?_)|refine au.go (l:=l++[x]) (Hv (d:=d) (λh=>Ij h) hd1 hd0) (by rw [List.length_append]<;>exact Nat.le_trans (Nat.add_le_add_right hl2 _) (Nat.le_of_ble_eq_true rfl)) hc h (λn s1 U hr hm hc h=>?_) (λe s1 U hc h=>?_)|refine Ad [(0,true),(1,true),(2,true),(3,false),(4,true),(5,false),(6,true)] [] GE ?_|refine Ad [(0,true),(1,true),(2,true),(3,true),(4,true),(5,true),(6,true),(7,true),(8,true),(9,true),(10,true),(11,true),(12,true),(13,true),(14,true),(15,true),(16,false),(17,true),(18,false)] [] GE ?_|with_reducible refine WF ?_)
end
theorem th {a b:Bool} {Q:Prop}:(if (if a=true then true else b)=true then P else Q)=if a=true then P else if b=true then P else Q:=by cases a<;>cases b<;>simp
section
variable {st0 st:St} {b d:Nat} {s:Aj} {rows:List (AE×List Nd)} {K:Au->St->Prop} {A B R W F D E:Rd Nd}
attribute [local irreducible] Go.Aw.Am
theorem pT {k':Int} {x':List UInt8} {E:Er->Aj->Prop} (hc:Cx st0 b s st rows) (h:if Bq (Ac s).2.1 k' x'=true then P else AR.wp s Q E) (e:Bq s k x=true) (U:k≠0/\k≠21) (kk:∀st',mu (Ac s).2.1<mu s->Cx st0 b (Ac s).2.1 st' rows->K (.ret (enc (BA (Ac s).1))) st'):PC 150 [.ptr b 0] st K:=
 ML hc.has hc.hb (λ_ st' hu=>kk st' (Eh e U.1 U.2) (hc.Pw hu (Nat.le_of_lt (Eh e U.1 U.2)))) (λn=>absurd (F6 e U.1) n)
theorem mD {s0:Aj} (U:Cx st0 b s st rows) (hm:mu (Ac s0).2.1<mu s0) (hb:mu s0<=100000000) (k:∀st',Cx st0 b s0 st' rows->K (.ret (.Bp [])) st'):PC 154 [.ptr b 0,.agg s0.cells] st K:=GL U hb k
theorem zg {U:Int} {y:List UInt8} {E:Er->Aj->Prop} (hc:Cx st0 b (Ac s).2.1 st rows) (h:if Bq (Ac s).2.1 k x=true then P else AR.wp s Q E) (e:Bq s U y=true) (hk:U≠0)
 (k1:∀st',Cx st0 b (Ac s).2.1 st' rows->P->K (.ret (.bool true)) st') (U:∀st',Cx st0 b (Ac s).2.1 st' rows->Q (BA (Ac s).1) (Ac s).2.1->K (.ret (.bool false)) st'):PC 149 [.ptr b 0,.int .i64 k,.str x] st K:=by
 refine mQ hc h (λst' c _ p=>k1 st' c p) (λst' c _ q=>U st' c ?_)
 unfold Rd.wp at q
 rw [C6 (F6 e hk)] at q
 exact q
theorem yG {p:Prop} (e:Bq s 1 x=true) (k:(Ac s).1.kind=14):p:=by
 unfold Bq at e
 rw [k] at e
 cases e
theorem p5:AZ enc 267 (λb=>[pv b d,.bool o]) (nV o):=by
 refine ⟨λ{st0 b s st rows K} hc h=>?_⟩
 have hmu:=hc.mu
 refine pB Tryz.func267 ?_
 cases o
 all_goals simp only [nV,nU,nT,Bool.false_eq_true,if_false,if_true,Rd.Aq,Rd.AK,Rd.wp_seq,Rd.wp_ret] at h
 .skip
  repeat' ((conv=>whnf);first|refine Gp h (λe h=>?_) (λe h=>?_)|exact C7|(refine Bb ?_;intros)|(refine C8 ?_ ?_ ?_;rotate_left)|(refine Bc ?_ ?_<;>intro e h)|(refine Be ?_ ?_<;>intro _)|(refine MV ?_;intro U hc)|(refine TI ?_ ?_<;>intro U hc e h)|(refine Kg ?_;intro s1 U hz hm hc h)|(refine JC ?_ ?_<;>(first|intro n s1 U hr hm hc h|intro e s1 U hc h))|exact Gm|refine TG ?_|(refine Qu ?_;intro own1 U hc)|refine Ae (λe1=>?_)|refine Cx.vW (l:=[1]) (new:=[3]) hc (Nat.le_of_ble_eq_true rfl) (λown1 U hc=>?_)|refine Cx.vW (l:=[2]) (new:=[4]) hc (Nat.le_of_ble_eq_true rfl) (λown1 U hc=>?_)|refine Cx.vW (l:=[5,6]) (new:=[7,8]) hc (Nat.le_of_ble_eq_true rfl) (λown1 U hc=>?_)|refine AZ.go (El (ks:=Sf false) rfl) hc h (λn s1 U hr hm hc h=>?_) (λe s1 U hc h=>?_)|refine AZ.go (El (ks:=cP false) rfl) hc h (λn s1 U hr hm hc h=>?_) (λe s1 U hc h=>?_)|refine AZ.go (H0 (ks:=xP false) rfl) hc h (λn s1 U hr hm hc h=>?_) (λe s1 U hc h=>?_)|refine Cx.Hh (l:=[_]) (hc.push [_]) (Nat.le_of_ble_eq_true rfl) (λown1 U hc=>?_)|refine Cx.vU (l:=[_,_]) hc (Nat.le_of_ble_eq_true rfl) (λown1 U hc=>?_)|refine Jv (l:=[_,_]) (fs:=[pv b d]) (cs:=[]) Tx.z (Nat.le_of_ble_eq_true rfl) hc h (λl own1 s1 U hm hc h=>?_) (λe s1 U hc h=>?_)|refine Ad [(0,true),(1,true),(3,true),(4,true),(5,true),(2,false),(6,false),(7,true),(8,false),(9,false)] [1] GE ?_|refine Ad [(0,true),(1,true),(2,true),(4,true),(5,true),(3,false),(6,false),(7,true),(8,false),(9,false),(10,false)] [1] GE ?_|with_reducible refine WF ?_)
 .skip
  repeat' ((conv=>whnf);first|refine Gp h (λe h=>?_) (λe h=>?_)|exact C7|(refine Bb ?_;intros)|(refine C8 ?_ ?_ ?_;rotate_left)|(refine Bc ?_ ?_<;>intro e h)|(refine Be ?_ ?_<;>intro _)|(refine MV ?_;intro U hc)|(refine TI ?_ ?_<;>intro U hc e h)|(refine Kg ?_;intro s1 U hz hm hc h)|(refine JC ?_ ?_<;>(first|intro n s1 U hr hm hc h|intro e s1 U hc h))|exact Gm|refine TG ?_|(refine Qu ?_;intro own1 U hc)|refine Ae (λe1=>?_)|refine AZ.go (El (ks:=Sf true) rfl) hc h (λn s1 U hr hm hc h=>?_) (λe s1 U hc h=>?_)|refine AZ.go (El (ks:=cP true) rfl) hc h (λn s1 U hr hm hc h=>?_) (λe s1 U hc h=>?_)|refine AZ.go (H0 (ks:=xP true) rfl) hc h (λn s1 U hr hm hc h=>?_) (λe s1 U hc h=>?_)|refine Cx.Hh (l:=[_]) (hc.push [_]) (Nat.le_of_ble_eq_true rfl) (λown1 U hc=>?_)|refine Cx.vU (l:=[_,_]) hc (Nat.le_of_ble_eq_true rfl) (λown1 U hc=>?_)|refine Jv (l:=[_,_]) (fs:=[pv b d]) (cs:=[]) Tx.z (Nat.le_of_ble_eq_true rfl) hc h (λl own1 s1 U hm hc h=>?_) (λe s1 U hc h=>?_)|refine Ad [(0,true),(1,true),(3,true),(4,true),(5,true),(2,false),(6,false),(7,true),(8,false),(9,false)] [1] GE ?_|refine Ad [(0,true),(1,true),(2,true),(4,true),(5,true),(3,false),(6,false),(7,true),(8,false),(9,false),(10,false)] [1] GE ?_|with_reducible refine WF ?_)
theorem UU:AZ enc 221 (λb=>[pv b d,.bool o]) (G7 o):=by
 refine ⟨λ{st0 b s st rows K} U h=>?_⟩
 simp only [G7,Rd.wp_seq,Rd.wp_ret] at h
 have hmu:=U.mu
 refine pB Tryz.func221 ?_
 repeat' ((conv=>whnf);(first|refine Bb ?_|refine Bc ?_ ?_|refine Be ?_ ?_|refine MV ?_|refine TI ?_ ?_|refine Kg ?_|refine JC ?_ ?_|exact Gm|refine TG ?_|refine Qu ?_|refine Ae ?_)<;>intros)
 refine Ct (λl own=>[(5,.slice 6 (l.map Ax) own)]) (λ_ _=>[]) [1,2,4] [0,1] (λl own=>(own,l)::rows) (λl=>l.length) .full (Cx.push ‹_› _) ‹_› (by show 1+_<=_;omega) Yl ?_
 intro l s1 st1 own1 U h hl hm1
 simp only [nY,lC,Rd.Aq,Rd.AK,Rd.wp_seq,Rd.wp_ret,Rd.Bv] at h
 repeat' ((conv=>whnf);(first|refine Bb ?_|refine Bc ?_ ?_|refine Be ?_ ?_|refine MV ?_|refine TI ?_ ?_|refine Kg ?_|refine JC ?_ ?_|exact Gm|refine TG ?_|refine Qu ?_|refine Ae ?_|refine Gh.go (by first|exact AZ.q|exact (p5 (o:=o)).a) ?_ ?_)<;>intros)
theorem ZW:AZ enc 227 (λb=>[pv b d]) NB:=by
 refine ⟨λ{st0 b s st rows K} U h=>?_⟩
 simp only [NB,VQ,VR,VS,Rd.Aq,Rd.AK,Rd.wp_seq,Rd.wp_ret] at h
 have hmu:=U.mu
 refine pB Tryz.func227 ?_
 repeat' ((conv=>whnf);(first|refine Bb ?_|refine Bc ?_ ?_|refine Be ?_ ?_|refine MV ?_|refine TI ?_ ?_|refine Kg ?_|refine JC ?_ ?_|exact Gm|refine TG ?_|refine Qu ?_|refine Ae ?_|refine Gh.go (by first|exact AZ.q|exact (El (ks:=[2,4]) rfl).a|exact (UU (o:=true)).a) ?_ ?_|refine Cx.Hh (l:=[_]) (Cx.push ‹_› [_]) (Nat.le_of_ble_eq_true rfl) ?_)<;>intros)
theorem ZV (hf:AZ enc 287 (λb=>[pv b d]) F):AZ enc 234 (λb=>[pv b d]) (NA F):=by
 refine ⟨λ{st0 b s st rows K} U h=>?_⟩
 simp only [NA,Sb,Yw,Nz,Sc,Rd.Aq,Rd.AK,Rd.wp_seq,Rd.wp_ret,th] at h
 have hmu:=U.mu
 refine pB Tryz.func234 ?_
 repeat' ((conv=>whnf);(first|exact yG ‹_› ‹_›|refine zg ‹_› ‹_› ‹_› Do ?_ ?_|refine pT ‹_› ‹_› ‹_› Do ?_|refine Bb ?_|refine Bc ?_ ?_|refine Be ?_ ?_|refine MV ?_|refine TI ?_ ?_|refine Kg ?_|refine JC ?_ ?_|refine Yt6 ?_|exact Gm|refine TG ?_|refine Qu ?_|refine Ae ?_|refine Gh.go (by first|exact AZ.q|exact (El (ks:=[1]) rfl).a|exact Pu.a) ?_ ?_|refine Rj (Cx.has ‹_›) ?_ ?_|refine mD ‹_› ‹_› AC ?_|refine Cx.Hh (l:=[_]) (Cx.push ‹_› [_]) (Nat.le_of_ble_eq_true rfl) ?_)<;>intros)
theorem Xz (hw:AZ enc 276 (λb=>[pv b d]) W):AZ enc 233 (λb=>[pv b d]) (Li W):=by
 refine ⟨λ{st0 b s st rows K} hc h=>?_⟩
 simp only [Li,Rd.wp_seq,Rd.wp_ret] at h
 have hmu:=hc.mu
 refine pB Tryz.func233 ?_
 repeat' ((conv=>whnf);first|exact C7|(refine Bb ?_;intros)|(refine C8 ?_ ?_ ?_;rotate_left)|(refine Bc ?_ ?_<;>intro e h)|(refine Be ?_ ?_<;>intro _)|(refine Kg ?_;intro s1 U hz hm hc h)|(refine JC ?_ ?_<;>(first|intro n s1 U hr hm hc h|intro e s1 U hc h))|exact Gm|refine TG ?_|refine Ae (λe1=>?_)|refine Jv (l:=[_,_]) (fs:=[pv b d]) (cs:=[]) hw.z (Nat.le_of_ble_eq_true rfl) (hc.push _) h (λl own1 s1 U hm hc h=>?_) (λe s1 U hc h=>?_)|refine Ad [(0,true),(1,true),(3,true),(4,true),(2,false),(5,false),(6,true),(7,true)] [] GE ?_|with_reducible refine WF ?_)
end
theorem Cx.vp {st:St} {c:Nat} {cs':List V} (h:Cx (st0.Aa c cs) b s st rows) (U:c≠b):Cx (st0.Aa c cs') b s (st.Aa c cs') rows:=by
 obtain ⟨c0,hr⟩:=h.rx
 refine ⟨?_,⟨c0,?_⟩,h.mu⟩
 .rcases h.has with e|⟨q1,q2,q3,q4,q5,e⟩
  .exact .inl (by rw [St.Ak U];exact e)
  .exact .inr ⟨q1,q2,q3,q4,q5,by rw [St.Ak U];exact e⟩
 .rw [Tr U] at hr |-
  exact hr.Aa
section
variable {st0 st:St} {b d c:Nat} {s:Aj} {rows:List (AE×List Nd)} {K R:Au->St->Prop} {A B C D E F:Rd Nd}
attribute [local irreducible] Go.Aw.Am
theorem uy (h1:AZ enc 227 (λb=>[pv b d]) NB) (h2:AZ enc 228 (λb=>[pv b d]) (Of B C)) (h3:AZ enc 229 (λb=>[pv b d]) (dH A B C)) (h4:AZ enc 230 (λb=>[pv b d]) (NR A B C))
 (h5:AZ enc 231 (λb=>[pv b d]) (Vm B F)) (h6:AZ enc 232 (λb=>[pv b d]) (Lr B F)) (h7:AZ enc 233 (λb=>[pv b d]) (Li C)) (h8:AZ enc 234 (λb=>[pv b d]) (NA D))
 (he:AZ enc 110 (λb=>[.ptr b 0,.func 226 [] [],.int .i64 (d:Int)]) E):AZ enc 192 (λb=>[pv b d]) (qd A B C D E F):=by
 refine ⟨λ{st0 b s st rows K} U h=>?_⟩
 simp only [qd,Rd.Aq,Rd.AK] at h
 have hmu:=U.mu
 refine pB Tryz.func192 ?_
 repeat' ((conv=>whnf);(first|refine Bb ?_|refine Bc ?_ ?_|refine Be ?_ ?_|refine MV ?_|exact Gm|refine Ae ?_|refine Gh.go (by first|exact AZ.q) ?_ ?_)<;>intros)
theorem kY {c2:Nat} {E:Er->Aj->Prop} (ht:AZ enc 192 (λb=>[pv b d]) A) (hF:Rd.A6 A) (f2:st0.box c2=none/\c2≠b)
 (hc:Cx (st0.Aa c2 [.bool (l.any λx=> !(x.kind==50))]) b s st rows) (h:Rd.wp (XC A l) s Q E)
 (k:∀n s1 U,mu s1<mu s->Cx (st0.Aa c2 [.bool ((l++[n]).any λx=> !(x.kind==50))]) b s1 U rows->Q n s1->K (.ret (enc n)) U)
 (kb:∀e s1 U,Cy st0 b s1 U rows->E e s1->K (.B1 (fault e.1)) U):PC 191 [yX b d,.ptr c2 0] st K:=by
 simp only [XC,Rd.Aq,Rd.wp_seq,Rd.AK,Rd.wp_ret,Rd.HB] at h
 simp only [List.any_append,List.any_cons,List.any_nil,Bool.or_false] at k
 have hmu:=hc.mu
 generalize (l.any λx=> !(x.kind==50))=o at hc h k
 refine AO Ab [] Tryz.func191 rfl Do rfl ?_
 refine Ag (Ai Ab ?_)
 repeat' ((conv=>whnf);(first|refine Bb ?_|refine Bc ?_ ?_|refine Be ?_ ?_|fail)<;>intros)
 refine Ag (Ai Ab ?_)
 repeat' ((conv=>whnf);first|(refine Bb ?_;intros)|(refine Bc ?_ ?_<;>intro e h)|(refine Be ?_ ?_<;>intro _)|refine Cm ?_|exact Gm|refine Ae (λe1=>?_)|refine Rj hc.has ?_ (λt u o1 o2 e=>?_))
 all_goals refine Ag (Ai Ab ?_)
 all_goals (repeat' ((conv=>whnf);first|(refine Bb ?_;intros)|(refine Bc ?_ ?_<;>intro e h)|(refine Be ?_ ?_<;>intro _)|refine Cm ?_|exact Gm|refine Ae (λe1=>?_)|refine AZ.u9 ht hF hc h (λn s1 U hr hm hc h=>?_) (λe s1 U hc h=>?_)|exact ⟨_,_,.inl rfl,St.le_refl _,kb _ _ _ (hc.unbox f2) h⟩|fail))
 all_goals cases hk:n.kind==50
 all_goals cases o
 all_goals simp only [hk,Bool.and_false,Bool.and_true,Bool.false_and,Bool.true_and,Bool.false_eq_true,if_false,if_true] at h
 all_goals have hk2:=hk
 all_goals simp only [beq_iff_eq,beq_eq_false_iff_ne] at hk2
 all_goals refine Ai Ab ?_
 all_goals (repeat' ((conv=>whnf);first|(refine Bb ?_;intros)|(refine Bc ?_ ?_<;>intro e h)|(refine Be ?_ ?_<;>intro _)|refine An (Cx.boxed hc f2) ?_|refine GL hc hmu (λU hc=>?_)|refine Cm ?_|exact AY rfl (k _ _ _ hm (by rw [hk]<;>exact Cx.vp hc f2.2) h)|exact AY rfl (k _ _ _ hm (by exact Cx.vp hc f2.2) h)|exact ⟨_,_,.inl rfl,St.le_refl _,kb _ _ _ (hc.y.unbox f2) h⟩|fail))
theorem bh {X:Aj->Rs} {hle:∀s v s',X s=.inr (v,s')->mu s'<=mu s} (h:∀s v s',X s=.inr (v,s')->mu s'<mu s):Rd.A6 (JR X hle):=λs v s' e=>h s v s' (by
 unfold JR at e
 dsimp only at e
 split at e
 .split at e<;>cases e
 .rename_i U;rw [U];injection e with e;rw [e])
theorem vG {A:Rd Nd} {hle:∀s v s',De A s=.inr (v,s')->mu s'<=mu s} {E:Er->Aj->Prop} (h:Rd.wp A s Q E):Rd.wp (JR (De A) hle) s Q E:=by
 have e:(JR (De A) hle).run s=A.run s:=by
  unfold JR De
  dsimp only
  cases U:A.run s with
  |inl p=>simp only [U];rw [dif_neg p.1.2]
  |inr p=>simp only [U]
 unfold Rd.wp at h |-
 rw [e];exact h
theorem mP {A:Rd Nd} (hf:Dp g (d:Int) (De A)) (h0:d=0->∀s,De A s=.inl (2,s)):AZ enc 110 (λb=>[.ptr b 0,.func g [] [],.int .i64 (d:Int)]) A:=
 ⟨λ{st0 b s st rows K} hc h=>(NC (A:=De A) (hle:=λs v s' e=>by
   unfold De at e
   split at e
   .cases e
   .rename_i p hp;cases e;exact A.le _ _ _ hp) (λs e s' U=>by
   unfold De at U
   split at U
   .rename_i p hp;cases U;exact p.1.2
   .cases U) hf h0).ap hc (vG h)⟩
theorem hZ (U:1<=d) (h1:d<=100):AZ enc 110 (λb=>[.ptr b 0,.func 226 [] [],.int .i64 (d:Int)]) (Ug d):=
 mP (λs hm st R h=>uM (deep:=(d:Int)) hm (by rw [RC U h1];exact h)) (λe=>by omega)
theorem bH (U:d<=100):AZ enc 110 (λb=>[.ptr b 0,.func 326 [] [],.int .i64 (d:Int)]) (Vs d):=
 mP (λs hm st R h=>qt (deep:=(d:Int)) hm (by
  cases d with
  |zero=>exact h
  |succ d=>rw [RC (Nat.succ_le_succ (Nat.zero_le d)) U];exact h)) (λe=>by subst e;intro s;rfl)
theorem um (h0:1<=d) (U:d<=100):AZ enc 192 (λb=>[pv b d]) (uk d):=by
 have ha:=pU h0 U
 have hr:=ur h0 U
 have hw:=jO h0 U
 have hA:Rd.A6 (Xx d):=bh λs v s' e=>BM (Bw _) _ _ _ e
 have hc:=cY hA (qf ha) (jI (Tz ha) hw)
 have hd:AZ enc 110 (λb=>[.ptr b 0,.func 326 [] [],.int .i64 ((d:Int) - 1)]) (Vs (d - 1)):=by
  have:=bH (d:=d - 1) AC
  rwa [show (((d - 1:Nat)):Int)=(d:Int) - 1 by omega] at this
 exact uy ZW (Z1 hr hw Pt) (pV hc hr) (ZX hc hr) (jC hr hd U) (XB hr hd U) (Xz hw) (ZV (p4 h0 U)) (hZ h0 U)
theorem jB (ht:AZ enc 192 (λb=>[pv b d]) A) (hF:Rd.A6 A):AZ enc 156 (λb=>[pv b d]) (Xy A):=by
 refine ⟨λ{st0 b s st rows K} hc h=>?_⟩
 refine AO Ab [] Tryz.func156 rfl Do rfl ?_
 refine Ag (Ai Ab ?_)
 repeat' ((conv=>whnf);(first|refine Bb ?_|refine Bc ?_ ?_|refine Be ?_ ?_|fail)<;>intros)
 refine Qs 1 0 rfl rfl rfl ?_
 refine Ag (Ai Ab ?_)
 repeat' ((conv=>whnf);(first|refine Bb ?_|refine Bc ?_ ?_|refine Be ?_ ?_|fail)<;>intros)
 refine Me 3 2 rfl rfl rfl (λc fc=>?_)
 have U:=hc.VL fc
 have hc:=hc.Xd (cs:=[.bool false]) fc
 have hB:∀{K:Au->St->Prop},Rd.wp (Xy A) s (λn s'=>∀(l:List Nd) st',Cx (st0.Aa c [.bool (l.any λx=> !(x.kind==50))]) b s' st' rows->K (.ret (enc n)) st') (λe s'=>∀st',Cy st0 b s' st' rows->K (.B1 (fault e.1)) st')->PC 189 [.ptr b 0,.func 190 [] [],.func 191 [] [yX b d,.ptr c 0]] (st.Aa c [.bool false]) K:=λh=>
  Ud (fs:=[]) (cs:=[yX b d,.ptr c 0]) (starts:=fD) (base:=λl=>st0.Aa c [.bool (l.any λx=> !(x.kind==50))]) (item:=XC A) (λk=>jN k)
   (λl s st rows K Q E hc h k kb=>kY ht hF U hc h k kb) (λhc=>hc.unbox U) hc h
 refine Ai Ab ?_
 repeat' ((conv=>whnf);first|(refine Bb ?_;intros)|(refine Bc ?_ ?_<;>intro e h)|(refine Be ?_ ?_<;>intro _)|refine hB (Rd.wp_mono h (λv s' r q l st' hk=>?_) (λe s' r q st' hk=>?_))|exact CZ (hk.unbox U) q rfl|exact CZ (hk.unbox U) q Cd|exact BU hk q|fail)
theorem cX (U:1<=d) (h1:d<=100):AZ enc 156 (λb=>[pv b d]) (LJ d):=jB (um U h1) (bm d)
end
section
variable {st0 st:St} {b d c:Nat} {s:Aj} {K R:Au->St->Prop}
theorem uu {A:Rd Nd} (hA:AZ enc g (λb=>[pv b d]++cs) A) (hx:st.box c=some [.func g [] cs]) (hs:Has st b s) (hm:mu s<=100000000) (ht:Fb st b K (De A s)):PC 188 [.ptr b 0,.int .i64 (d:Int),.ptr c 0] st K:=by
 have U:∀{K:Au->St->Prop},Fb st b K (De A s)->PC g ([pv b d]++cs) st K:=λh=>Tt hA hs hm h
 refine pB Tryz.func188 ?_
 unfold De at *
 cases hr:A.run s with
 |inl p=>
  rw [hr] at ht U
  repeat' ((conv=>whnf);first|(refine Bb ?_;intros)|(refine Bc ?_ ?_<;>intro e h)|(refine Be ?_ ?_<;>intro _)|refine An hx ?_|refine A9.2 ?_|refine U (λst1 hu=>?_))
  all_goals exact ⟨_,_,.inl rfl,St.le_refl _,ht _ hu⟩
 |inr p=>
  rw [hr] at ht U
  repeat' ((conv=>whnf);first|(refine Bb ?_;intros)|(refine Bc ?_ ?_<;>intro e h)|(refine Be ?_ ?_<;>intro _)|refine An hx ?_|refine A9.2 ?_|refine U (λst1 hu=>?_))
  all_goals exact AY rfl (ht _ hu)
theorem qi {deep:Int} {A:Nat->Rd Nd} (hA:∀d:Nat,1<=d->d<=100->AZ enc g (λb=>[pv b d]++cs) (A d)) (hm:mu s<=100000000) (h:K (.ret (Ki (Ck s deep (De (A (DW deep)) s)))) st):
 PC 155 [DD s,.int .i64 deep,.func g [] cs] st K:=by
 refine AO Ab [] Tryz.func155 rfl Do rfl ?_
 refine Ag (Ai Ab ?_)
 repeat' ((conv=>whnf);(first|refine Bb ?_|refine Bc ?_ ?_|refine Be ?_ ?_|fail)<;>intros)
 refine Me 5 1 rfl rfl rfl (λc fc=>?_)
 refine Ai Ab ?_
 have hq:¬deep<1->∀(b:Nat) (U:St) (R:Au->St->Prop),(st.Aa c [.func g [] cs]).le U->Has U b s->Fb U b R (De (A (DW deep)) s)->PC 188 [.ptr b 0,.int .i64 (if 100<deep then 100 else deep),.ptr c 0] U R:=λhd b U R hle hs ht=>by
  have e:(if 100<deep then 100 else deep)=((DW deep:Nat):Int):=by unfold DW;split<;>omega
  rw [e]
  exact uu (hA _ (by unfold DW;split<;>omega) (by unfold DW;split<;>omega)) (hle.1 _ _ (St.Ah ..)) hs hm ht
 obtain ⟨n,s',e,hq3⟩:∃n s' e,Ck s deep (De (A (DW deep)) s)=(n,s',e):=⟨_,_,_,rfl⟩
 rw [hq3] at h
 have hcat:∀{K:Au->St->Prop},K (.ret (RN n s' e)) (st.Aa c [.func g [] cs])->PC 64 [DD s,.int .i64 deep,.func 188 [] [.ptr c 0]] (st.Aa c [.func g [] cs]) K:=λk=>dD (s:=s) (q:=De (A (DW deep)) s) hq (by rw [hq3];exact k)
 repeat' ((conv=>whnf);(first|refine Bb ?_|refine Bc ?_ ?_|refine Be ?_ ?_|refine hcat ?_)<;>intros)
 all_goals exact EJ (St.Af (St.le_refl _) fc.1 _) rfl h
theorem jZ {deep:Int} (hm:mu s<=100000000) (h:K (.ret (Ki (Ck s deep (De (LJ (DW deep)) s)))) st):PC 111 [DD s,.int .i64 deep] st K:=by
 refine pB Tryz.func111 ?_
 repeat' ((conv=>whnf);(first|refine Bb ?_|refine Bc ?_ ?_|refine Be ?_ ?_|refine qi (s:=s) (cs:=[]) (A:=LJ) (λd U h1=>cX U h1) hm ?_)<;>intros)
 all_goals exact AY rfl h
end
section
variable {st:St} {K:Au->St->Prop}
attribute [local irreducible] Go.Aw.Am
theorem iJ:AZ enc 220 (λb=>[pv b d]++[.Gi [.bool o] 0]) (G7 o):=by
 refine ⟨λ{st0 b s st rows K} U h=>?_⟩
 refine pB Tryz.func220 ?_
 repeat' ((conv=>whnf);first|(refine Bb ?_;intros)|(refine Bc ?_ ?_<;>intro e h)|(refine Be ?_ ?_<;>intro _)|refine AZ.go (UU (o:=o)) U h (λn s1 st1 hr hm U h=>?_) (λe s1 st1 U h=>?_)|exact CZ U h rfl|exact CZ U h Cd|exact BU U h|fail)
theorem kf (U:mu s<=100000000) (h:K (.ret (Ki (Ck s 1 (De (G7 o) s)))) st):PC 187 [DD s,.bool o] st K:=by
 refine AO Ab [] Tryz.func187 rfl Do rfl ?_
 refine Ag (Ai Ab ?_)
 repeat' ((conv=>whnf);first|(refine Bb ?_;intros)|(refine Bc ?_ ?_<;>intro e h)|(refine Be ?_ ?_<;>intro _)|fail)
 refine Qs 3 1 rfl rfl rfl ?_
 refine Ai Ab ?_
 repeat' ((conv=>whnf);first|(refine Bb ?_;intros)|(refine Bc ?_ ?_<;>intro e h)|(refine Be ?_ ?_<;>intro _)|refine qi (s:=s) (deep:=1) (cs:=[.Gi [.bool o] 0]) (A:=λ_=>G7 o) (λd h0 h1=>iJ) U ?_)
 all_goals exact AY rfl h
end
def Lq:Rd (List Nd):=.look λs=>if Bq s 9 XJ=true then .seq AR λm=>.seq (Dl [2,4]) λn=>.look λs=>
 if Bq s 15 [40]=true then .seq (G7 false) λx=>.seq (Bx 9 Ke) λw=>.ret ([m]++[n]++[x]++[w]) else .seq (Bx 9 Ke) λw=>.ret ([m]++[n]++[w])
 else .ret []
def eD (A:Rd Nd):Rd Nd:=.seq Lq λl=>.seq A λb=>.look λs=>if ((Ac s).1.kind==21)=true then .ret (Ar 53 (l++[b])) else Ow
def Ga (d:Nat):Rd Nd:=eD (LJ d)
theorem bG (h:Lq.run s=.inr (l,s')):l.length<=4:=by
 replace h:(if Bq s 9 XJ=true then .seq AR λm=>.seq (Dl [2,4]) λn=>.look λs=>
  if Bq s 15 [40]=true then .seq (G7 false) λx=>.seq (Bx 9 Ke) λw=>.ret ([m]++[n]++[x]++[w]) else .seq (Bx 9 Ke) λw=>.ret ([m]++[n]++[w])
 else .ret []:Rd (List Nd)).run s=.inr (l,s'):=h
 split at h
 .obtain ⟨m,s1,_,h⟩:=Bj h
  obtain ⟨n,s2,_,h⟩:=Bj h
  replace h:(if Bq s2 15 [40]=true then .seq (G7 false) λx=>.seq (Bx 9 Ke) λw=>.ret ([m]++[n]++[x]++[w]) else .seq (Bx 9 Ke) λw=>.ret ([m]++[n]++[w]):Rd (List Nd)).run s2=.inr (l,s'):=h
  split at h
  .obtain ⟨x,s3,_,h⟩:=Bj h
   obtain ⟨w,s4,_,h⟩:=Bj h
   cases h;simp
  .obtain ⟨w,s4,_,h⟩:=Bj h
   cases h;simp
 .cases h;simp
section
variable {st0 st:St} {b d:Nat} {s:Aj} {rows:List (AE×List Nd)} {K R:Au->St->Prop}
attribute [local irreducible] Go.Aw.Am
theorem dx {A:Rd Nd}:E8 (De A):=λs e s' U=>by
 unfold De at U
 split at U
 .rename_i p hp;cases U;exact p.1.2
 .cases U
theorem mO {x:Int} {A:Rd Nd} (U:∀(s:Aj),mu s<=100000000->∀(st:St) (R:Au->St->Prop),R (.ret (Ki (Ck s 1 (De A s)))) st->PC g [DD s,.int .i64 x] st R):
 AZ enc 110 (λb=>[.ptr b 0,.func g [] [],.int .i64 x]) A:=⟨λ{st0 b s st rows K} hc h=>by
 have ht:=Tv (A:=De A) (hle:=λs v s' e=>by
  unfold De at e
  split at e
  .cases e
  .rename_i p hp;cases e;exact A.le _ _ _ hp) dx hc (vG h)
 have U:=U s hc.mu
 unfold Ck at U
 simp only [show ¬(1:Int)<1 by decide,if_false] at U
 cases hq:De A s with
 |inr p=>
  rw [hq] at ht U
  exact Sk (n:=p.1) (s':=p.2) (e:=0) U hc.has (λ_=>ht) (λe=>absurd rfl e)
 |inl p=>
  rw [hq] at ht U
  have hne:=dx s p.1 p.2 hq
  exact Sk (n:=Gg) (s':=p.2) (e:=p.1) U hc.has (λe=>absurd e hne) (λ_=>ht)⟩
theorem nR {x:Int} (hm:mu s<=100000000) (h:K (.ret (Ki (Ck s 1 (De (G7 false) s)))) st):PC 152 [DD s,.int .i64 x] st K:=by
 obtain ⟨n,t,e,U⟩:∃n t e,Ck s 1 (De (G7 false) s)=(n,t,e):=⟨_,_,_,rfl⟩
 have hn:∀{st:St} {K:Au->St->Prop},K (.ret (RN n t e)) st->PC 187 [DD s,.bool false] st K:=λh=>kf hm (by rw [U];exact h)
 rw [U] at h
 refine pB Tryz.func152 ?_
 repeat' ((conv=>whnf);first|(refine AA ?_;intros)|(refine AB ?_ ?_<;>intro _)|refine hn ?_)
 all_goals exact AY rfl h
theorem cf:qw pd (λl=>l) 109 (λb=>[.ptr b 0]) Lq:=by
 refine ⟨λ{st0 b s st rows K} hc h=>?_⟩
 simp only [Lq,Rd.Aq,Rd.AK,Rd.wp_seq,Rd.wp_ret] at h
 have hmu:=hc.mu
 have hn:AZ enc 110 (λb=>[.ptr b 0,.func 152 [] [],.int .i64 0]) (G7 false):=mO λs hm st R h=>nR hm h
 refine pB Tryz.func109 ?_
 repeat' ((conv=>whnf);first|(refine AA ?_;intros)|(refine AB ?_ ?_<;>intro _)|refine B2 (λ_=>?_) ?_|(refine MV ?_;intro U hc)|(refine TI ?_ ?_<;>intro U hc e h)|(refine Kg ?_;intro s1 U hz hm hc h)|(refine JC ?_ ?_<;>(first|intro n s1 U hr hm hc h|intro e s1 U hc h))|exact Gm|(refine Qu ?_;intro own1 U hc)|refine Ae (λe1=>?_)|refine AZ.go (El (ks:=[2,4]) rfl) hc h (λn s1 U hr hm hc h=>?_) (λe s1 U hc h=>?_)|refine AZ.go hn hc h (λn s1 U hr hm hc h=>?_) (λe s1 U hc h=>?_)|refine Cx.Hh (l:=[_]) (hc.push [_]) (Nat.le_of_ble_eq_true rfl) (λown1 U hc=>?_)|exact fin (h .full _ (hc.push [])) rfl|fail)
theorem cd {Q:List Nd->Aj->Prop} (hc:Cx st0 b s st rows) (h:Rd.wp Lq s Q E)
 (k:∀l own1 s1 U,l.length<=4->mu s1<=mu s->Cx st0 b s1 U ((own1,l)::rows)->Q l s1->K (.ret (pd l own1)) U) (kb:∀e s1 U,Cy st0 b s1 U rows->E e s1->K (.B1 (fault e.1)) U):PC 109 [.ptr b 0] st K:=
 qw.go cf hc h (λl own1 s1 U hr hm hc h=>k l own1 s1 U (bG hr) hm hc h) kb
theorem cm (h0:1<=d) (h1:d<=100):AZ enc 65 (λb=>[.ptr b 0,.int .i64 (d:Int)]) (Ga d):=by
 refine ⟨λ{st0 b s st rows K} hc h=>?_⟩
 simp only [Ga,eD,Rd.Aq,Rd.AK,Rd.wp_seq,Rd.wp_ret] at h
 have hmu:=hc.mu
 have hb:AZ enc 110 (λb=>[.ptr b 0,.func 111 [] [],.int .i64 (d:Int)]) (LJ d):=mP (λs hm st R h=>jZ hm (by rw [RC h0 h1];exact h)) (λe=>by omega)
 refine pB Tryz.func65 ?_
 repeat' ((conv=>whnf);first|refine Gp h (λe h=>?_) (λe h=>?_)|(refine AA ?_;intros)|(refine AB ?_ ?_<;>intro _)|(refine MV ?_;intro U hc)|(refine Yt6 ?_;intro e s1 U hc h)|exact Gm|(refine Qu ?_;intro own1 U hc)|refine Ae (λe1=>?_)|refine cd hc h (λl own1 s1 U hl hm hc h=>?_) (λe s1 U hc h=>?_)|refine AZ.go hb hc h (λn s1 U hr hm hc h=>?_) (λe s1 U hc h=>?_)|refine Cx.Hh (l:=l) hc AC (λown1 U hc=>?_))
theorem jY {deep:Int} (hm:mu s<=100000000) (h:R (.ret (Ki (Ck s deep (De (Ga (DW deep)) s)))) st):PC 40 [DD s,.int .i64 deep] st R:=by
 obtain ⟨n,t,e,U⟩:∃n t e,Ck s deep (De (Ga (DW deep)) s)=(n,t,e):=⟨_,_,_,rfl⟩
 have hc:∀{K:Au->St->Prop},K (.ret (RN n t e)) st->PC 64 [DD s,.int .i64 deep,.func 65 [] []] st K:=λh=>Na (s:=s) (q:=De (Ga (DW deep)) s) (λhd b st5 R hs ht=>by
  have e:(if 100<deep then 100 else deep)=((DW deep:Nat):Int):=by unfold DW;split<;>omega
  rw [e]
  exact Tt (cm (by unfold DW;split<;>omega) (by unfold DW;split<;>omega)) hs hm ht) (by rw [U];exact h)
 rw [U] at h
 refine pB Tryz.func40 ?_
 repeat' ((conv=>whnf);first|(refine AA ?_;intros)|(refine AB ?_ ?_<;>intro _)|refine hc ?_)
 all_goals exact AY rfl h
end
end Go.Proofs.Z
namespace Go.Aw
open Go
abbrev fw (ro:Option Nat):Fence:={Fence.wide with round:=ro}
section
variable {P:Program} {n:Nat} {ro:Option Nat}
theorem lg {args:Array Value} {R:Ending->World->Prop} (h:Calls P f args w R):CallsIn (fw ro) n P f args w R:=callsIn_wide.2 h
theorem tK {row:String} {args:Array Value} {R:Value->World->Prop} (h:Rows P row args w R):RowsIn (fw ro) n P row args w R:=λc cs _=>let ⟨v,w',r,s⟩:=h c cs;⟨v,w',r,stepsIn_wide.2 s⟩
theorem vj {o:Oper} {a:Act} {next next':Act->World->Prop} {Q0 Q:Exit->Act->World->Prop} (nd:∀c,o.op≠.defer c) (h:o.wp P a w next Q0) (hn:∀a w,next a w->next' a w) (hq:∀e a w,e≠.normal->Q0 e a w->Q e a w):o.wpIn (fw ro) n P a w next' Q:=by
 refine ⟨λ_ _=>trivial,?_⟩
 rw [Oper.semAt_eq _ _ _ nd]
 unfold Oper.wp at h
 generalize (execOp a.eval o).run P w=r at h
 cases r with
 |ok x w'=>
  cases x<;>simp only [Oper.upon] at h<;>simp only [Oper.uponIn]
  all_goals first
   |exact hn _ _ h
   |exact ⟨λe=>(by cases e),(lg h).mono λe w'' U=>by cases e<;>first|exact hn _ _ U|exact hq _ _ _ GT U|exact U.imp λa U=>U.imp λw U=>hq _ _ _ GT U⟩
   |exact ⟨λe=>(by cases e),(tK h).mono λv w'' U=>hn _ _ U⟩
 |halt x w'=>cases x<;>simp only [Oper.upon] at h<;>simp only [Oper.uponIn]<;>exact hq _ _ _ GT h
theorem QL {ops:Array Oper} {Q0 Q:Exit->Act->World->Prop} (hl:¬LetsOut Q0) (hq:∀e a w,e≠.normal->Q0 e a w->Q e a w) {l2:List Oper} (hN:∀a w,Q0 .normal a w->wpListIn (fw ro) n P ops Q l2 a w):
 ∀(l1:List Oper) (a:Act) (w:World),(∀o ∈ l1,∀c,o.op≠.defer c)->wpList P ops Q0 l1 a w->wpListIn (fw ro) n P ops Q (l1++l2) a w
 |[],a,w,_,h=>hN a w h
 |o::r,a,w,nd,h=>by
  have ih:=QL hl hq hN r
  unfold wpList at h
  rw [List.cons_append]
  unfold wpListIn
  split
  .rename_i hw
   rw [if_pos hw] at h
   rcases h with h|h
   .exact vj (nd o List.mem_cons_self) h (λa w h=>ih a w (λo U=>nd o (List.mem_cons_of_mem _ U)) h) hq
   simp_all
  .rename_i hw
   rw [if_neg hw] at h
   exact ⟨λ_ _=>trivial,ih _ w (λo U=>nd o (List.mem_cons_of_mem _ U)) h⟩
theorem kB {ops:Array Oper} {md:Region.Mode} {Q0:Exit->Act->World->Prop} (hl:¬LetsOut Q0) (nd:∀o ∈ ops.toList,∀c,o.op≠.defer c):∀(fuel:Nat) (listed:Array Bool) (a:Act) (w:World),
 wpAny P md ops Q0 fuel listed a w->wpAnyIn (fw ro) n P md ops Q0 fuel listed a w
 |0,listed,a,w,h=>h
 |fuel+1,listed,a,w,h=>by
  have ih:=kB (md:=md) hl nd fuel
  refine ⟨h.1,λi hi=>?_⟩
  have U:=h.2 i hi
  unfold wpOp at U
  unfold wpOpIn
  split
  .simp_all
  .rename_i o ho
   rw [ho] at U
   dsimp only at U
   split
   .rename_i hw
    rw [if_pos hw] at U
    rcases U with U|U
    .exact vj (nd o (by grind)) U (λa w h=>ih _ a w h) (λ_ _ _ _ h=>h)
    simp_all
   .rename_i hw
    rw [if_neg hw] at U
    exact ⟨λ_ _=>trivial,ih _ _ _ U⟩
theorem NM {D:List Deferred} {I0:Mem} {w0:World} {Q:AG->Env->St->Prop}:¬LetsOut (Ca D I0 st0 w0 Q):=by
 rintro ⟨a,w,I,β,env,st,U,_,h,_⟩
 cases U<;>exact h
end
def QQ (l:List Oper):Bool:=l.all λo=>match o.op with| .defer _=>false|_=>true
theorem KQ {l:List Oper} (h:QQ l=true):∀o ∈ l,∀c,o.op≠.defer c:=λo U c e=>by
 have:=List.all_eq_true.1 h o U
 simp_all
def GQ:Code->Bool
 | .skip=>true
 | .region _ ops _=>QQ ops.toList
 | .seq x y=>GQ x&&GQ y
 | .cond _ x y=>GQ x&&GQ y
 | .block _ c=>GQ c
 |_=>false
section
variable {P:Program} {T:List (Nat×Ty)}
def AWr (P:Program) (ro:Option Nat) (c:Code) (Q:AG->Env->St->Prop) (env:Env) (st:St):Prop:=
 ∀n D I0 st0 w0 I β a w,Rel D I0 st0 w0 I β env st a w->c.wpIn (fw ro) n P (Ca D I0 st0 w0 Q) a w
theorem Ml (hP:T4 P T) (ro:Option Nat):∀(c:Code) {Q:AG->Env->St->Prop} {env:Env} {st:St},GQ c=true->Qw T (Ba P) c Q env st->AWr P ro c Q env st
 | .skip,Q,env,st,_,k=>λn D I0 st0 w0 I β a w h=>wpIn_skip ⟨I,β,env,st,.normal,h,trivial,k⟩
 | .region id ops true,Q,env,st,U,k=>λn D I0 st0 w0 I β a w h=>by
   have hC:=BF P
   have hM:∀f args st (R R':Au->St->Prop),(∀r s,R r s->R' r s)->Ba P f args st R->Ba P f args st R':=λ_ _ _ _ _ h k=>k.mono h
   have k:(HR env ops.toList ops.toList λk L=>(KC k ops.toList&&IK L)=true/\IE T (Ba P) ops.toList Q env env.boxes (Bl L env.boxes) ops.toList env st)\/∃(sched:List (Nat×Bool)) (L:List Nat),Kk sched ops.toList=true/\F9 T (Ba P) ops.toList sched L (Bl (L.map some) env.boxes) Q sched env st:=k
   refine wpIn_region_any hP.m (kB NM (KQ U) _ _ _ _ ?_)
   rcases k with k|⟨sched,L,k1,k2⟩
   .obtain ⟨h1,h2⟩:=JK.1 k
    have:=RE hP.t hC hM h1 h2 h
    omega
   .have:=Uz hP.t hC hM k1 k2 h
    omega
 | .region id ops false,Q,env,st,U,k=>λn D I0 st0 w0 I β a w h=>by
   have:=FK hP.t (BF P) h (show Ey T (Ba P) ops.toList Q ops.toList env st from k)
   have h2:=QL (ro:=ro) (n:=n) (l2:=[]) NM (λ_ _ _ _ h=>h) (λa w h=>h) ops.toList a w (KQ U) (by simpa using this)
   rw [List.append_nil] at h2
   exact wpIn_region_list h2
 | .seq x y,Q,env,st,U,k=>λn D I0 st0 w0 I β a w h=>by
   simp only [GQ,Bool.and_eq_true] at U
   refine wpIn_seq (wpIn_mono (Ml hP ro x U.1 (show Qw T (Ba P) x _ env st from k) n D I0 st0 w0 I β a w h) ?_)
   rintro e a w ⟨I,β,env,st,ae,h1,h2,h3⟩
   cases ae with
   |normal=>cases e<;>first|exact Ml hP ro y U.2 h3 n D I0 st0 w0 I β a w h1|exact h2.elim
   |exit i=>cases e<;>first|exact ⟨I,β,env,st,.exit i,h1,h2,h3⟩|exact h2.elim
   |goto i=>cases e<;>first|exact ⟨I,β,env,st,.goto i,h1,h2,h3⟩|exact h2.elim
   |ret=>cases e<;>first|exact ⟨I,β,env,st,.ret,h1,h2,h3⟩|exact h2.elim
   |B1 v=>cases e<;>first|exact ⟨I,β,env,st,.B1 v,h1,h2,h3⟩|exact h2.elim
 | .cond c x y,Q,env,st,U,k=>λn D I0 st0 w0 I β a w h=>by
   simp only [GQ,Bool.and_eq_true] at U
   have hc:=h.f.eval c
   have k:(match env.eval c with
    | .bool t=>lit t (Qw T (Ba P) x Q env st) (Qw T (Ba P) y Q env st)
    |_=>False):=k
   split at k
   .rename_i t he
    rw [he] at hc
    have hc:=Jn hc
    cases t with
    |true=>exact wpIn_cond_true hc (Ml hP ro x U.1 (show Qw T (Ba P) x Q env st from k) n D I0 st0 w0 I β a w h)
    |false=>exact wpIn_cond_false hc (Ml hP ro y U.2 (show Qw T (Ba P) y Q env st from k) n D I0 st0 w0 I β a w h)
   simp_all
 | .block id c,Q,env,st,U,k=>λn D I0 st0 w0 I β a w h=>by
   refine wpIn_block (wpIn_mono (Ml hP ro c U (show Qw T (Ba P) c _ env st from k) n D I0 st0 w0 I β a w h) ?_)
   rintro e a w ⟨I,β,env,st,ae,h1,h2,h3⟩
   cases ae with
   |normal=>cases e<;>first|exact ⟨I,β,env,st,.normal,h1,trivial,h3⟩|exact h2.elim
   |exit i=>
    cases e<;>try exact h2.elim
    rename_i i'
    have h2:i'=i:=h2
    subst h2
    simp only [Mn] at h3
    show (if i'=id then Ca D I0 st0 w0 Q .normal a w else Ca D I0 st0 w0 Q (.exit i') a w)
    by_cases hi:i'=id
    .subst hi
     rw [if_pos rfl]
     simp only [Nat.beq_refl,cond_true] at h3
     exact ⟨I,β,env,st,.normal,h1,trivial,h3⟩
    .rw [if_neg hi]
     have:Nat.beq i' id=false:=by
      cases hb:Nat.beq i' id with
      |false=>rfl
      |true=>simp_all
     rw [this] at h3
     exact ⟨I,β,env,st,.exit i',h1,rfl,h3⟩
   |goto i=>cases e<;>first|exact ⟨I,β,env,st,.goto i,h1,h2,h3⟩|exact h2.elim
   |ret=>cases e<;>first|exact ⟨I,β,env,st,.ret,h1,h2,h3⟩|exact h2.elim
   |B1 v=>cases e<;>first|exact ⟨I,β,env,st,.B1 v,h1,h2,h3⟩|exact h2.elim
 | .loop _,_,_,_,U,_| .exit _,_,_,_,U,_| .goto _,_,_,_,U,_| .label _,_,_,_,U,_| .ret,_,_,_,U,_| .rangeFunc ..,_,_,_,U,_| .scope _,_,_,_,U,_| .refuse _,_,_,_,U,_=>by cases U
end
section
variable {D:List Deferred} {P:Program} {T:List (Nat×Ty)} {I0 I:Mem} {st0 st:St} {w0 w:World} {β:Nat->Option Nat} {env:Env} {a:Act}
theorem tq {l:Nat} {o:Nat} {v:Value} (U:w.heap[l]? =some (.loop r)) (h:w.cell? ⟨b,o,none⟩=some v):b≠l:=by
 rintro rfl
 simp [World.cell?,U] at h
theorem Cv.put {l:Nat} {r':Loop} (h:Cv I st w) (hl:w.heap[l]? =some (.loop r)):Cv I st (w.putObj l (.loop r')):=by
 have ne:∀{b:Nat} {c:Array Value} {ty:TypeId},w.heap[b]? =some (.cells c ty (0,0))->b≠l:=λe=>by grind
 refine ⟨λb o v e=>?_,λb n e=>?_,λb cs e=>?_,h.Iz,λb n e=>?_,h.T0⟩
 .have e:=h.cell b o v e
  rw [Hi (World.putObj_heap_other (tq hl e))];exact e
 .obtain ⟨c,ty,U,h2⟩:=h.shape b n e
  exact ⟨c,ty,by rw [World.putObj_heap_other (ne U)];exact U,h2⟩
 .obtain ⟨vs,ty,U,h2⟩:=h.box b cs e
  exact ⟨vs,ty,by rw [World.putObj_heap_other (ne U)];exact U,h2⟩
 .rw [World.putObj_size];exact h.hw b n e
def Idle (l:Nat) (st:St):Prop:=st.box l=none/\st.hw l=none
theorem Idle.fr {l:Nat} {I':Mem} {st':St} (h:Idle l st) (hl:l<w.heap.size) (U:Fr I st w I' st' w'):Idle l st'/\w'.heap[l]? =w.heap[l]? :=by
 refine ⟨?_,U.IL l hl h.1 h.2⟩
 have:¬(st'.box l≠none\/st'.hw l≠none):=λe=>by
  rcases U.LQ l e with e|e|e
  .omega
  .exact e h.1
  .exact e h.2
 exact ⟨Classical.byContradiction λe=>this (.inl e),Classical.byContradiction λe=>this (.inr e)⟩
theorem JN {l:Nat} {o:Obj} (h:w.heap[l]? =some o):l<w.heap.size:=(Array.getElem?_eq_some_iff.1 h).1
def YS (P:Program) (l:Nat) (r:Loop) (Im:Mem) (vs:List V) (st:St) (K:St->Prop):Prop:=
 ∀n I w (U:List Value),Im.le I->Cv I st w->Ao I vs U->w.heap[l]? =some (.loop r)->Idle l st->
  YieldAt (fw none) n P l U.toArray w λe w'=>e=.returned (.bool true)/\∃I' st',Fr I st w I' st' w'/\Cv I' st' w'/\K st'
theorem YS.mono {l:Nat} {r:Loop} {Im:Mem} {vs:List V} {K K':St->Prop} (h:YS P l r Im vs st K) (k:∀st,K st->K' st):YS P l r Im vs st K':=λn I w U h1 h2 h3 h4 h5=>by
 obtain ⟨fn,tmps,assign,body,e,hr⟩:=h n I w U h1 h2 h3 h4 h5
 exact ⟨fn,tmps,assign,body,e,hr.mono λe w' ⟨e1,I',st',q1,q2,q3⟩=>⟨e1,I',st',q1,q2,k _ q3⟩⟩
def fj (P:Program) (T:List (Nat×Ty)) (assign body:Code) (env:Env) (st:St) (K:St->Prop):Prop:=
 Qw T (Ba P) assign (BW (λenv st=>(env.boxes=[]/\(env.tmps.all λp=>p.2.plain)=true)/\Qw T (Ba P) body (BW (λ_ st=>K st) qz) env st) qz) env st
theorem UL {v:V} {c:Value} (h:A2 I β v c) (U:v.plain=true):A2 I (λ_=>none) v c:=by
 cases v<;>first|exact h|cases U
theorem Rel.bare (h:Iw D w0.heap.size I β env st a w) (hb:env.boxes=[]) (hp:(env.tmps.all λp=>p.2.plain)=true) {st':St} {U:Mem} (hs:Cv U st' w') (hle:I.le U) {D':List Deferred}:Rel D' U st' w' U (λ_=>none) env st' {a with defers:=D'} w':=by
 refine ⟨Fr.refl,hs,⟨h.size,λt v e=>?_,λid cs e=>?_,(λid b e=>by cases e),(λi j b e=>by cases e),(λid b e=>by cases e),rfl⟩⟩
 .have hv:=List.all_eq_true.1 hp _ (Gn e)
  have:=UL (h.tmps t v e) hv
  have e2:v.plain=true:=hv
  cases v<;>first|exact AM.mono hle _ _ this|cases e2
 .rw [hb] at e;cases e
theorem qu (hP:T4 P T) {l:Nat} {wm:World} {stm:St} {B:Nat} (hF:Iw D B Im β env stm a wm) (hb:env.boxes=[]) (hp:(env.tmps.all λp=>p.2.plain)=true) {fn:FuncId} {p1 p2:Tmp} {assign body:Code} {df:Nat}
 (hr:r={state:=.ready,pending:=none,fn,tmps:=a.tmps,params:=#[p1,p2],assign,body,defers:=df}) (ok:(GQ assign&&GQ body)=true) (hlt:(Nat.blt p1 env.sz&&Nat.blt p2 env.sz)=true) {v1 v2:V} {K:St->Prop} (hv:(v1.plain&&v2.plain)=true)
 (h:fj P T assign body {env with tmps:=(p2,v2)::(p1,v1)::env.tmps} st K):YS P l r Im [v1,v2] st K:=by
 intro n I w cargs hle hs hargs hl hid
 simp only [Ao] at hargs
 obtain ⟨c1,r1,rfl,q1,c2,r2,rfl,q2,rfl⟩:=hargs
 simp only [Bool.and_eq_true] at ok hlt hv
 have hl1:p1<env.sz:=by simpa [Nat.blt_eq] using hlt.1
 have hl2:p2<env.sz:=by simpa [Nat.blt_eq] using hlt.2
 have hy:=run_yield (P:=P) (args:=#[c1,c2]) hl i7
 rw [hr] at hy
 have ht:(#[p1,p2].zip #[c1,c2]).foldl (λtmps (x:Nat×Value)=>match x with|(t,a)=>tmps.setIfInBounds t a) a.tmps=(a.tmps.setIfInBounds p1 c1).setIfInBounds p2 c2:=by
  simp [Array.zip]
 dsimp only at hy
 rw [ht] at hy
 refine ⟨fn,_,assign,body,hy,roundIn_of_wpIn trivial ?_⟩
 have hsz:=hF.size
 have r0:Rel [] I st w I (λ_=>none) {env with tmps:=(p2,v2)::(p1,v1)::env.tmps} st {tmps:=(a.tmps.setIfInBounds p1 c1).setIfInBounds p2 c2,defers:=[]} w:=by
  refine ⟨Fr.refl,hs,⟨i7,λt v e=>?_,λid cs e=>?_,λid b e=>(by cases e),λi j b e=>(by cases e),λid b e=>(by cases e),rfl⟩⟩
  .have key:∀{x:V} {c:Value},AM I x c->x.plain=true->A2 I (λ_=>none) x c:=λh _=>A2.of h
   rw [Bk] at e
   cases hb2:Nat.beq p2 t with
   |true=>
    simp_all
   |false=>
    rw [hb2] at e
    have hn2:p2≠t:=λx=>by simp_all
    simp only [cond_false] at e
    rw [Bk] at e
    cases hb1:Nat.beq p1 t with
    |true=>
     simp_all
    |false=>
     rw [hb1] at e
     have hn1:p1≠t:=λx=>by simp_all
     simp only [cond_false] at e
     have hpl:v.plain=true:=List.all_eq_true.1 hp _ (Gn e)
     have h0:=UL (hF.tmps t v e) hpl
     have:((a.tmps.setIfInBounds p1 c1).setIfInBounds p2 c2).getD t undef=a.tmps.getD t undef:=by
      simp [Array.getD_eq_getD_getElem?,Array.getElem?_setIfInBounds_ne hn2,Array.getElem?_setIfInBounds_ne hn1]
     rw [this]
     cases v<;>first|exact AM.mono hle _ _ h0|cases hpl
  .rw [show ({env with tmps:=(p2,v2)::(p1,v1)::env.tmps}:Env).boxes=[] from hb] at e;cases e
 have hltl:=JN hl
 refine wpIn_mono (Ml hP (some l) assign ok.1 h n [] I st w I _ _ w r0) ?_
 rintro e a1 w1 ⟨I1,β1,env1,st1,ae,r1,x1,k1⟩
 cases ae with
 |exit _|goto _|ret|B1 _=>exact k1.elim
 |normal=>
 cases e with
 |exit _|goto _|ret|panic _|outgrown=>exact x1.elim
 |normal=>
 obtain ⟨⟨b1,b2⟩,k1⟩:=k1
 obtain ⟨hid1,U⟩:=hid.fr hltl r1.fr
 rw [hl] at U
 have hrdy:r.state=.ready:=by rw [hr]
 refine ⟨_,run_beginRound U hrdy,?_⟩
 have hs2:Cv I1 st1 (w1.putObj l (.loop {r with state:=.busy})):=r1.s.put U
 have r2:=Rel.bare (D':=[]) r1.f b1 b2 hs2 (Mem.le_refl _)
 have hd1:a1={a1 with defers:=[]}:=by
  have:=r1.f.defers
  cases a1;simp_all
 rw [hd1]
 refine wpIn_mono (Ml hP (some l) body ok.2 k1 n [] I1 st1 _ I1 _ _ _ r2) ?_
 rintro e a3 w3 ⟨I3,β3,env3,st3,ae,r3,x3,k3⟩
 cases ae with
 |exit _|goto _|ret|B1 _=>exact k3.elim
 |normal=>
 cases e with
 |exit _|goto _|ret|panic _|outgrown=>exact x3.elim
 |normal=>
 have hlt1:l<w1.heap.size:=JN U
 obtain ⟨hid3,hl3⟩:=hid1.fr (w:=w1.putObj l (.loop {r with state:=.busy})) (by rw [World.putObj_size];omega) r3.fr
 rw [World.putObj_heap_same hlt1] at hl3
 refine ⟨_,_,run_endRound none hl3,?_⟩
 have hrr:({({r with state:=.busy}:Loop) with state:=if (none:Option Code).isNone then .ready else .done,pending:=none}:Loop)=r:=by rw [hr];rfl
 rw [hrr]
 refine ⟨rfl,I3,st3,?_,r3.s.put hl3,k3⟩
 have f1:=r1.fr
 have f3:=r3.fr
 have z1:(w1.putObj l (.loop {r with state:=.busy})).heap.size=w1.heap.size:=World.putObj_size
 have z3:(w3.putObj l (.loop r)).heap.size=w3.heap.size:=World.putObj_size
 have f13:Fr I1 st1 w1 I3 st3 (w3.putObj l (.loop r)):=by
  refine ⟨f3.os,f3.tape,f3.output,by rw [z3,<-z1];exact f3.size,λb hb h1 h2=>?_,f3.le,λb o h1 h2=>by rw [<-z1];exact f3.new b o h1 h2,λb h1 h2=>by rw [<-z1];exact f3.LU b h1 h2,λb h1=>by rw [<-z1];exact f3.LQ b h1⟩
  by_cases e:b=l
  .subst e
   rw [World.putObj_heap_same (JN hl3),U]
  .rw [World.putObj_heap_other e,f3.IL b AC h1 h2,World.putObj_heap_other e]
 exact f1.trans f13
def Q6 (P:Program) (l:Nat) (r:Loop) (Im:Mem) (c:Code) (Q:AG->Env->St->Prop) (env:Env) (st:St):Prop:=
 ∀D I0 st0 w0 I β a w,Im.le I0->w0.heap[l]? =some (.loop r)->Idle l st0->Rel D I0 st0 w0 I β env st a w->c.wp P (Ca D I0 st0 w0 Q) a w
variable {l:Nat} {r:Loop} {Im:Mem} {Q:AG->Env->St->Prop}
theorem Q6.of (h:AW P c Q env st):Q6 P l r Im c Q env st:=λD I0 st0 w0 I β a w _ _ _ U=>h D I0 st0 w0 I β a w U
theorem GI {x y:Code} (h:Q6 P l r Im x (BW (λenv st=>Q6 P l r Im y Q env st) Q) env st):Q6 P l r Im (.seq x y) Q env st:=λD I0 st0 w0 I β a w g1 g2 g3 hr=>by
 refine wp_seq (wp_mono (h D I0 st0 w0 I β a w g1 g2 g3 hr) ?_)
 rintro e a w ⟨I,β,env,st,ae,h1,U,h3⟩
 cases ae with
 |normal=>cases e<;>first|exact h3 D I0 st0 w0 I β a w g1 g2 g3 h1|exact U.elim
 |exit i=>cases e<;>first|exact ⟨I,β,env,st,.exit i,h1,U,h3⟩|exact U.elim
 |goto i=>cases e<;>first|exact ⟨I,β,env,st,.goto i,h1,U,h3⟩|exact U.elim
 |ret=>cases e<;>first|exact ⟨I,β,env,st,.ret,h1,U,h3⟩|exact U.elim
 |B1 v=>cases e<;>first|exact ⟨I,β,env,st,.B1 v,h1,U,h3⟩|exact U.elim
theorem T1 (h:Q6 P l r Im c (Mn id Q) env st):Q6 P l r Im (.block id c) Q env st:=λD I0 st0 w0 I β a w g1 g2 g3 hr=>by
 refine wp_block (wp_mono (h D I0 st0 w0 I β a w g1 g2 g3 hr) ?_)
 rintro e a w ⟨I,β,env,st,ae,h1,U,h3⟩
 cases ae with
 |normal=>cases e<;>first|exact ⟨I,β,env,st,.normal,h1,trivial,h3⟩|exact U.elim
 |exit i=>
  cases e<;>try exact U.elim
  rename_i i'
  have U:i'=i:=U
  subst U
  simp only [Mn] at h3
  show (if i'=id then Ca D I0 st0 w0 Q .normal a w else Ca D I0 st0 w0 Q (.exit i') a w)
  by_cases hi:i'=id
  .subst hi
   rw [if_pos rfl]
   simp only [Nat.beq_refl,cond_true] at h3
   exact ⟨I,β,env,st,.normal,h1,trivial,h3⟩
  .rw [if_neg hi]
   have:Nat.beq i' id=false:=by
    cases hb:Nat.beq i' id with
    |false=>rfl
    |true=>simp_all
   rw [this] at h3
   exact ⟨I,β,env,st,.exit i',h1,rfl,h3⟩
 |goto i=>cases e<;>first|exact ⟨I,β,env,st,.goto i,h1,U,h3⟩|exact U.elim
 |ret=>cases e<;>first|exact ⟨I,β,env,st,.ret,h1,U,h3⟩|exact U.elim
 |B1 v=>cases e<;>first|exact ⟨I,β,env,st,.B1 v,h1,U,h3⟩|exact U.elim
theorem kq (h:∃(α:Type) (E:α->Env) (S:α->St) (J:α->Prop) (μ:α->Nat) (x0:α),J x0/\(E x0).E4 env/\St.le (S x0) st/\
 ∀x,J x->Q6 P l r Im c (BW (λenv' st'=>∃y,J y/\μ y<μ x/\(E y).E4 env'/\St.le (S y) st') Q) (E x) (S x)):Q6 P l r Im (.loop c) Q env st:=λD I0 st0 w0 I β a w g1 g2 g3 hr=>by
 obtain ⟨α,E,S,J,μ,x0,h0,he,hs,round⟩:=h
 refine K9 (λn a w=>∃I β x,Rel D I0 st0 w0 I β (E x) (S x) a w/\J x/\n=μ x) (n0:=μ x0) ⟨I,_,x0,(hr.Hs hs).Ig (Env.Ip he),h0,rfl⟩ ?_
 rintro n a w ⟨I,β,x,h,hi,rfl⟩
 refine wp_mono (round x hi D I0 st0 w0 I β a w g1 g2 g3 h) ?_
 rintro e a w ⟨I,β,env,st,ae,h1,U,h3⟩
 cases ae with
 |normal=>
  cases e<;>try exact U.elim
  obtain ⟨y,q1,q2,q3,q4⟩:=h3
  exact ⟨μ y,q2,I,_,y,(h1.Hs q4).Ig (Env.Ip q3),q1,rfl⟩
 |exit i=>cases e<;>first|exact ⟨I,β,env,st,.exit i,h1,U,h3⟩|exact U.elim
 |goto i=>cases e<;>first|exact ⟨I,β,env,st,.goto i,h1,U,h3⟩|exact U.elim
 |ret=>cases e<;>first|exact ⟨I,β,env,st,.ret,h1,U,h3⟩|exact U.elim
 |B1 v=>cases e<;>first|exact ⟨I,β,env,st,.B1 v,h1,U,h3⟩|exact U.elim
theorem fI (hP:T4 P T) {all pre post:List Oper} {oc:Oper} {c:Call} {f:Operand} (hall:all=pre++oc::post) (hnd:QQ all=true) (hc:oc.op=.call c) (hf:c.callee=.value f) (hg:oc.guard=none)
 (h:Ey T (Ba P) all (BW (λenv st=>env.eval f=.kn l/\XO env c.args.toList λvs=>YS P l r Im vs st λst'=>env.go oc.dst (.bool true) λenv=>Ey T (Ba P) all Q post env st') Q) pre env st):
 Q6 P l r Im (.region id all.toArray false) Q env st:=λD I0 st0 w0 I β a w g1 g2 g3 hr=>by
 have hC:=BF P
 have nd:=KQ hnd
 rw [<-wpIn_wide (n:=1)]
 refine wpIn_region_list (F:=fw none) (n:=1) ?_
 rw [show all.toArray.toList=pre++oc::post by rw [hall]]
 have hpre:∀o ∈ pre,∀c,o.op≠.defer c:=λo ho=>nd o i7
 refine QL (ro:=none) (n:=1) (Q0:=Ca D I0 st0 w0 (BW (λenv st=>env.eval f=.kn l/\XO env c.args.toList λvs=>YS P l r Im vs st λst'=>env.go oc.dst (.bool true) λenv=>Ey T (Ba P) all Q post env st') Q)) NM ?_ ?_ pre a w hpre (FK hP.t hC hr h)
 .rintro e a w hne ⟨I,β,env,st,ae,U,h2,h3⟩
  cases ae with
  |normal=>cases e<;>first|exact absurd rfl hne|exact h2.elim
  |exit i=>exact ⟨I,β,env,st,.exit i,U,h2,h3⟩
  |goto i=>exact ⟨I,β,env,st,.goto i,U,h2,h3⟩
  |ret=>exact ⟨I,β,env,st,.ret,U,h2,h3⟩
  |B1 v=>exact ⟨I,β,env,st,.B1 v,U,h2,h3⟩
 .rintro a1 w1 ⟨I1,β1,env1,st1,ae,U,h2,h3⟩
  cases ae with
  |exit _|goto _|ret|B1 _=>exact h2.elim
  |normal=>
  obtain ⟨he,h3⟩:=h3
  have hfv:=U.f.eval f
  rw [he] at hfv
  have hfv':AM I1 (.kn l) (a1.eval f):=hfv
  simp only [AM] at hfv'
  obtain ⟨vs,q1,q2⟩:=Gr U.f h3
  obtain ⟨hid,hl⟩:=g3.fr (JN g2) U.fr
  rw [g2] at hl
  obtain ⟨fn,tmps,assign,body,hy,hround⟩:=q2 (1 - 1) I1 w1 _ (Mem.le_trans g1 U.fr.le) U.s q1 hl hid
  have harr:(c.args.toList.map a1.eval).toArray=c.args.map a1.eval:=by apply Array.ext';simp
  rw [harr] at hy
  have hrun:(execOp a1.eval oc).run P w1=.ok (.round l fn tmps assign body) w1:=by
   simp only [execOp,hc,resolve,hf,hfv',Deferred.ofValue,Sem.run_bind,Sem.run_pure,Result.andThen_ok,invoke]
   simpa using hy
  unfold wpListIn
  rw [if_pos (by simp [Region.wanted,hg])]
  refine ⟨λ_ _=>trivial,?_⟩
  rw [Oper.semAt_eq _ _ _ i7,hrun]
  refine ⟨λe=>(by cases e),hround.mono λe w' ⟨e1,I2,st2,f1,f2,k⟩=>?_⟩
  subst e1
  have r2:=U.called f1 f2
  obtain ⟨env3,r3,k3⟩:=Cj r2 (c:=.bool true) (A2.of H1) k
  have hpost:∀o ∈ post,∀c,o.op≠.defer c:=λo ho=>nd o i7
  have:=QL (ro:=none) (n:=1) (l2:=[]) NM (λ_ _ _ _ h=>h) (λa w h=>h) post _ w' hpost (FK hP.t hC r3 k3)
  simp_all
end
def bk:Obj->Bool
 | .loop _| .deferred _=>true
 |_=>false
section
variable {D:List Deferred} {P:Program} {T:List (Nat×Ty)} {I0 I:Mem} {st0 st:St} {w0 w:World} {β:Nat->Option Nat} {env:Env} {a:Act}
theorem qZ {l o:Nat} {x:Obj} {v:Value} (U:w.heap[l]? =some x) (hx:bk x=true) (h:w.cell? ⟨b,o,none⟩=some v):b≠l:=by
 rintro rfl
 cases x<;>first|(simp [World.cell?,U] at h;done)|cases hx
theorem Ro {l:Nat} {x:Obj} {c:Array Value} {ty:TypeId} (U:w.heap[l]? =some x) (hx:bk x=true) (h:w.heap[b]? =some (.cells c ty (0,0))):b≠l:=by
 rintro rfl
 rw [U] at h;cases h;cases hx
theorem Cv.iU {l:Nat} {x y:Obj} (h:Cv I st w) (hl:w.heap[l]? =some x) (hx:bk x=true):Cv I st (w.putObj l y):=by
 refine ⟨λb o v e=>?_,λb n e=>?_,λb cs e=>?_,h.Iz,λb n e=>?_,h.T0⟩
 .have e:=h.cell b o v e
  rw [Hi (World.putObj_heap_other (qZ hl hx e))];exact e
 .obtain ⟨c,ty,U,h2⟩:=h.shape b n e
  exact ⟨c,ty,by rw [World.putObj_heap_other (Ro hl hx U)];exact U,h2⟩
 .obtain ⟨vs,ty,U,h2⟩:=h.box b cs e
  exact ⟨vs,ty,by rw [World.putObj_heap_other (Ro hl hx U)];exact U,h2⟩
 .rw [World.putObj_size];exact h.hw b n e
theorem Fr.iU {l:Nat} {y:Obj} (h:Fr I0 st0 w0 I st w) (hl:w0.heap.size<=l):Fr I0 st0 w0 I st (w.putObj l y):=
 ⟨h.os,h.tape,h.output,by rw [World.putObj_size];exact h.size,λb hb U h2=>by rw [World.putObj_heap_other AC];exact h.IL b hb U h2,h.le,h.new,h.LU,h.LQ⟩
theorem Rel.iU {l:Nat} {x y:Obj} (h:Rel D I0 st0 w0 I β env st a w) (hl:w.heap[l]? =some x) (hx:bk x=true) (hw:w0.heap.size<=l):Rel D I0 st0 w0 I β env st a (w.putObj l y):=by
 refine ⟨h.fr.iU hw,h.s.iU hl hx,⟨h.f.size,h.f.tmps,λid cs e=>?_,h.f.Bs,h.f.inj,λid b e=>?_,h.f.defers⟩⟩
 .obtain ⟨b,h1,U⟩:=h.f.box id cs e
  refine ⟨b,h1,?_⟩
  have hne:b≠l:=by
   rintro rfl
   rcases U with ⟨vs,ty,U,_⟩|⟨s,pos,_,_,U⟩
   .exact Ro hl hx U rfl
   .rw [hl] at U;cases U;cases hx
  rw [World.putObj_heap_other hne];exact U
 .rw [World.putObj_size];exact h.f.sep id b e
theorem Cv.idle {l:Nat} (h:Cv I st w) (hl:w.heap.size<=l):Idle l st:=by
 refine ⟨?_,?_⟩
 .cases e:st.box l with
  |none=>rfl
  |some cs=>
   obtain ⟨vs,ty,U,_⟩:=h.box l cs e
   simp_all
 .cases e:st.hw l with
  |none=>rfl
  |some n=>have:=(h.hw l n e).1;omega
theorem Vk (hP:T4 P T) (hf:P.funcs[f]? =some fn) (hb:fn.body=some c) (hres:fn.results.toList=[]) {l:Nat} {K:St->Prop} (hle:Nat.ble args.length fn.ntmps=true)
 (h:Q6 P l r Im c (λae _ st=>(ae=.normal\/ae=.ret)/\K st) {tmps:=IP 0 args,boxes:=[],Bs:=0,sz:=fn.ntmps,gl:=[]} st) {U:List Value} (hm:Im.le I) (hs:Cv I st w) (hargs:Ao I args U) (hl:w.heap[l]? =some (.loop r)) (hi:Idle l st):
 Calls P f U.toArray w λe w'=>(∃v,e=.returned v)/\∃I' st',Fr I st w I' st' w'/\Cv I' st' w'/\K st':=by
 refine calls_of_wp hf hb (wp_mono (h [] I st w I _ _ w hm hl hi (GA [] hs hargs hle)) ?_)
 rintro e a w' ⟨I1,β1,env1,st1,ae,h1,h2,h3,h4⟩
 have hret:a.defers=[]/\∃v,(results fn a.tmps).run P w'=.ok v w'/\((∃v',Ending.returned v=.returned v')/\∃I' st',Fr I st w I' st' w'/\Cv I' st' w'/\K st'):=by
  obtain ⟨v,c,g1,g2,g3⟩:=Cu (P:=P) (fn:=fn) (R:=λ_ s=>K s) hP.t h1 (by rw [hres];exact h4)
  exact ⟨h1.f.defers,c,g1,⟨_,rfl⟩,I1,st1,h1.fr,h1.s,g3⟩
 rcases h3 with rfl|rfl<;>(cases e<;>first|exact hret|exact h2.elim)
def xw (P:Program) (T:List (Nat×Ty)) (fn:Func) (g:Operand) (ps:Array Tmp) (assign body rest:Code) (R:Au->St->Prop) (env:Env) (st:St):Prop:=
 (env.boxes=[]/\(env.tmps.all λp=>p.2.plain)=true)/\∃(gf:FuncId) (caps:List V) (K:St->Prop),(env.eval g=.func gf [] caps/\Plain P gf)/\
   (∀(D:List Deferred) (B:Nat) (Im:Mem) (β:Nat->Option Nat) (a:Act) (wm:World) (l df:Nat) (fi:FuncId),Iw D B Im β env st a wm->
     ∀(I:Mem) (w:World) (U:List Value),Im.le I->Cv I st w->Ao I caps U->w.heap[l]? =some (.loop {state:=.ready,pending:=none,fn:=fi,tmps:=a.tmps,params:=ps,assign,body,defers:=df})->Idle l st->
      Calls P gf (Value.func (.yield l) #[] #[]::U).toArray w λe w'=>(∃v,e=.returned v)/\∃I' st',Fr I st w I' st' w'/\Cv I' st' w'/\K st')/\
   ∀st',K st'->AW P rest (λae env st=>(ae=.normal\/ae=.ret)/\Xg T fn R env st) env st'
theorem Xa (hP:T4 P T) (gl:List Nat) {R:Au->St->Prop} (hf:P.funcs[f]? =some fn) {c0 c1 c2 assign body rest:Code} {bid:Nat} {g:Operand} {ps:Array Tmp}
 (hb : fn.body = some (.seq c0 (.seq c1 (.seq (.seq c2 (.block bid (.rangeFunc g ps assign body))) rest)))) (hn : (fn.name == "runtime.NumGoroutine") = false) (hle : Nat.ble args.length fn.ntmps = true)
 (h:AW P c0 (BW (λenv st=>AW P c1 (BW (λenv st=>AW P c2 (BW (ki (xw P T fn g ps assign body rest R)) qz) env st) qz) env st) qz) {tmps:=IP 0 args,boxes:=[],Bs:=0,sz:=fn.ntmps,gl} st):Ba P f args st R:=by
 refine ⟨?_,fn,hf,i7,hn⟩
 intro I w cargs hs hargs
 rw [<-callsIn_wide (n:=3)]
 refine callsIn_of_wp_marks hf hb trivial ?_
 have norm:∀{c:Code} {Q:Env->St->Prop} {n:Nat} {D:List Deferred} {I0:Mem} {st0:St} {w0:World} {X:Act->World->Prop} {Y:Exit->Act->World->Prop} {a:Act} {w:World},c.wp P (Ca D I0 st0 w0 (BW Q qz)) a w->
  (∀I β env st a w,Rel D I0 st0 w0 I β env st a w->Q env st->X a w)->c.wpIn Fence.wide n P (Exit.then X Y) a w:=λh k=>by
  refine wpIn_wide.2 (wp_mono h ?_)
  rintro e a w ⟨I,β,env,st,ae,h1,h2,h3⟩
  cases ae with
  |exit _|goto _|ret|B1 _=>exact h3.elim
  |normal=>
  cases e with
  |exit _|goto _|ret|panic _|outgrown=>exact h2.elim
  |normal=>exact k I β env st a w h1 h3
 refine wpIn_seq (norm (h [] I st w I _ _ w (GA gl hs hargs hle)) λI1 β1 env1 st1 a1 w1 r1 k1=>?_)
 refine wpIn_seq (norm (k1 [] I st w I1 β1 a1 w1 r1) λI2 β2 env2 st2 a2 w2 r2 k2=>?_)
 refine wpIn_seq (wpIn_seq (norm (k2 [] I st w I2 β2 a2 w2 r2) λI3 β3 env3 st3 a3 U r3 k3=>?_))
 refine wpIn_block ?_
 obtain ⟨I4,β4,env4,st4,r4,k4⟩:=k3 [] I st w I3 β3 a3 U r3
 obtain ⟨⟨b1,b2⟩,gf,caps,K,⟨hg,fg,q1,q2,q3⟩,hit,hrest⟩:=k4
 have hgv:=r4.f.eval g
 rw [hg] at hgv
 have hgv':AM I4 (.func gf [] caps) (a3.eval g):=hgv
 simp only [AM,Ao] at hgv'
 obtain ⟨az,lb,hge,haz,hlb⟩:=hgv'
 subst haz
 refine wpIn_rangeFunc λfi hfi=>?_
 obtain ⟨rec,hrec⟩:∃rec:Loop,rec={state:=.ready,pending:=none,fn:=fi,tmps:=a3.tmps,params:=ps,assign,body,defers:=U.heap.size}:=⟨_,rfl⟩
 obtain ⟨W1,hW1⟩:∃W1,(U.alloc (.deferred (some []))).alloc (.loop rec)=W1:=⟨_,rfl⟩
 have hL1:W1.heap[U.heap.size+1]? =some (.loop rec):=by
  rw [<-hW1];have:=World.alloc_heap_new (U.alloc (.deferred (some []))) (.loop rec);rwa [World.size_alloc] at this
 have hK1:W1.heap[U.heap.size]? =some (.deferred (some [])):=by
  rw [<-hW1];exact (RowKit.Below.heap_alloc _ _ _ GT).trans (World.alloc_heap_new U _)
 have r5:Rel [] I st w I4 β4 env4 st4 a3 W1:=by rw [<-hW1];exact (r4.HO (Et.alloc _ _)).HO (Et.alloc _ _)
 have hidL:Idle (U.heap.size+1) st4:=r4.s.idle AC
 have hidD:Idle U.heap.size st4:=r4.s.idle (Nat.le_refl _)
 have hsz:w.heap.size<=U.heap.size:=r4.fr.size
 have heg:∀args w,(callFunc gf args).run P w=.ok (.enter gf args) w:=λargs w=>by
  have hb:fg.body.isNone=false:=by cases hb:fg.body<;>simp_all
  simp only [callFunc,Sem.run_bind,Sem.run_pure,Result.andThen_ok,run_program,q1]
  rw [q3]
  simp [hb]
 refine ⟨U.heap.size+1,[{target:=.collected U.heap.size,args:=#[]}],W1,{target:=.fn (.func gf) lb.toArray,args:=#[.func (.yield (U.heap.size+1)) #[] #[]]},W1,gf,#[.func (.yield (U.heap.size+1)) #[] #[]]++lb.toArray,W1,?_,?_,λ_ _=>trivial,?_,λe=>(by cases e),?_⟩
 .rw [<-hW1,hrec];exact run_enterLoop_outer _ _ _ _ _
 .simp only [resolve,hge,Deferred.ofValue,Sem.run_pure]
  simp [Act.eval]
 .simp [invoke,heg]
 .have hcall:=hit [] w.heap.size I4 β4 a3 U (U.heap.size+1) U.heap.size fi r4.f I4 W1 lb (Mem.le_refl _) r5.s hlb i7 hidL
  have harr:(Value.func (.yield (U.heap.size+1)) #[] #[]::lb).toArray=#[.func (.yield (U.heap.size+1)) #[] #[]]++lb.toArray:=by apply Array.ext';simp
  rw [harr] at hcall
  refine (callsIn_wide.2 hcall).mono ?_
  rintro e W2 ⟨⟨v,rfl⟩,I6,st6,f6,s6,k6⟩
  have r6:=r5.called f6 s6
  obtain ⟨hidL6,hL6⟩:=hidL.fr (JN hL1) f6
  obtain ⟨hidD6,hD6⟩:=hidD.fr (JN hK1) f6
  rw [hL1] at hL6
  rw [hK1] at hD6
  refine ⟨none,W2.putObj (U.heap.size+1) (.loop {rec with state:=.exhausted}),by have:=run_endLoop (P:=P) hL6 (by grind);grind,?_⟩
  have r7:=r6.iU (y:=.loop {rec with state:=.exhausted}) hL6 rfl AC
  have hD7:(W2.putObj (U.heap.size+1) (.loop {rec with state:=.exhausted})).heap[U.heap.size]? =some (.deferred (some [])):=(World.putObj_heap_other AC).trans hD6
  generalize W2.putObj (U.heap.size+1) (.loop {rec with state:=.exhausted})=W3 at r7 hD7
  show rest.wpIn Fence.wide 3 P _ _ W3
  have r8:=Rel.bare (D':=[{target:=.collected U.heap.size,args:=#[]}]) r7.f b1 b2 r7.s (Mem.le_refl _)
  have hd0:a3.defers=[]:=r7.f.defers
  rw [hd0]
  refine wpIn_wide.2 (wp_mono (hrest st6 k6 _ I6 st6 W3 I6 _ _ W3 r8) ?_)
  rintro e a9 w9 ⟨I9,β9,env9,st9,ae,r9,x9,k9,q9⟩
  have hlast:LeavesInM Fence.wide 3 P fn a9.tmps (λe w'=>∃I' st' r,Fr I st w I' st' w'/\Cv I' st' w'/\Zo I' e r/\R r st') a9.defers .returning w9:=by
   rw [r9.f.defers]
   obtain ⟨_,hD9⟩:=hidD6.fr (JN hD7) r9.fr
   rw [hD7] at hD9
   refine ⟨GT,.inl ⟨_,_,rfl,run_takeDeferred hD9,?_⟩⟩
   have hle9:W3.heap.size<=w9.heap.size:=r9.fr.size
   have hfr:Fr I st w I9 st9 w9:=r7.fr.trans r9.fr
   have r10:Rel [{target:=.collected U.heap.size,args:=#[]}] I st w I9 β9 env9 st9 a9 w9:=⟨hfr,r9.s,⟨r9.f.size,r9.f.tmps,r9.f.box,r9.f.Bs,r9.f.inj,λid b e=>by
    obtain ⟨h1,h2⟩:=r9.f.sep id b e
    grind,r9.f.defers⟩⟩
   have r11:=r10.iU (y:=.deferred none) hD9 rfl hsz
   obtain ⟨v,c,g1,g2,g3⟩:=Cu (P:=P) hP.t r11 q9
   exact ⟨c,g1,I9,st9,.ret v,r11.fr,r11.s,g2,g3⟩
  rcases k9 with rfl|rfl
  .cases e<;>first|exact hlast|exact x9.elim
  .cases e<;>first|exact hlast|exact x9.elim
theorem dk (hP:T4 P T) {l:Nat} {Q:AG->Env->St->Prop} {all:List Oper} (k:Nat) {U:Oper} {c:Call} {f:Operand} (hk:all[k]? =some U) (hnd:QQ all=true) (hc:U.op=.call c) (hf:c.callee=.value f) (hg:U.guard=none)
 (h:Ey T (Ba P) all (BW (λenv st=>env.eval f=.kn l/\XO env c.args.toList λvs=>YS P l r Im vs st λst'=>env.go U.dst (.bool true) λenv=>Ey T (Ba P) all Q (all.drop (k+1)) env st') Q) (all.take k) env st):
 Q6 P l r Im (.region id all.toArray false) Q env st:=
 fI hP (by
  obtain ⟨h1,h2⟩:=List.getElem?_eq_some_iff.1 hk
  rw [<-h2,<-List.drop_eq_getElem_cons h1,List.take_append_drop]) hnd hc hf hg h
end
end Go.Aw
namespace Go.Proofs.Z
open Go Go.Aw
theorem ir {l:List (List UInt8)} {K:Nat->Prop} (k:l.length<4611686018427387904->K l.length):∀m,m=(strs l).length->m<DG->K m:=λm U h=>by
 rw [show (strs l).length=l.length by simp [strs]] at U;subst U;exact k h
theorem bX (s:List UInt8) (frm pos:Nat):(DY s frm pos).length<=s.length - pos+1:=by
 fun_induction DY s frm pos with
 |case1 frm pos U h2 ih=>rw [List.length_cons];omega
 |case2 frm pos U h2 ih=>omega
 |case3 frm pos U=>rw [List.length_singleton];omega
def SJ (t:Tk):Bool:=t.kind==9&&(t.text==[108,101,116]||t.text==[119,104,101,114,101]||t.text==[100,111]||t.text==[111,102])
def bI (t:Tk) (k:Int) (x:List UInt8):Bool:=t.kind==k&&t.text==x
def uZ (t:Tk):Int:=t.line+((DY t.text 0 0).length:Nat) - 1
def YX (p:Option Tk) (t:Tk):Int:=match p with
 |none=>if (bI t 9 [109,111,100,117,108,101]||bI t 15 [123])=true then 17 else 16
 |some p=>if (SJ p&& !bI t 15 [123])=true then 16 else if (!(t.line==p.line)&& !(t.line==uZ p))=true then 17 else 0
def markT (m:Int) (t:Tk):List Tk:=if m=0 then [t] else [⟨m,[],t.line,t.Cg⟩,t]
def En:Option Tk->List Tk->List Tk
 |_,[]=>[]
 |p,t::r=>markT (YX p t) t++En (some t) r
def Uy (l:List Tk):List Tk:=match l.getLast? with
 |none=>[⟨16,[],0,0⟩]
 |some t=>if SJ t=true then [⟨16,[],0,0⟩] else []
def Hg (l:List Tk):List Tk:=En none l++Uy l
def ahead (l:List Tk) (i:Nat):Option Tk:=if i=0 then none else l[i - 1]?
def F8 (l:List Tk) (i:Nat):Int:=match l[i]? with
 |some t=>YX (ahead l i) t
 |none=>0
section
variable {st:St} {K:Au->St->Prop}
theorem SK (h:K (.ret (.bool (SJ t))) st):PC 67 [F0 t] st K:=by
 refine pB Tryz.func67 ?_
 repeat' ((conv=>whnf);first|(refine AA ?_;intros)|(refine AB ?_ ?_<;>intro _)|fail)
 all_goals conv=>whnf
 all_goals (refine Av h ?_;clear h;simp_all [SJ])
theorem ve (h:K (.ret (.bool (bI t k x))) st):PC 115 [F0 t,.int .i64 k,.str x] st K:=by
 refine pB Tryz.func115 ?_
 repeat' ((conv=>whnf);first|(refine AA ?_;intros)|(refine AB ?_ ?_<;>intro _)|fail)
 all_goals conv=>whnf
 all_goals (refine Av h ?_;clear h;simp_all [bI])
theorem wx (U:t.text.length<=100000000) (h2: -1000000000<=t.line) (h3:t.line<=1000000000) (h:K (.ret (.int .i64 (uZ t))) st):PC 116 [F0 t] st K:=by
 refine pB Tryz.func116 ?_
 have hb:=bX t.text 0 0
 repeat' ((conv=>whnf);first|exact BH|(refine AA ?_;intros)|(refine BI ?_ ?_ ?_;rotate_left)|(refine AB ?_ ?_<;>intro _)|refine ey U (λown ho=>?_)|refine ir (λ_=>?_)|refine Ad [(0,true),(1,true),(2,true),(3,true),(4,false),(5,true),(6,true),(7,true),(8,true)] [] GE ?_|with_reducible refine WF ?_)
 all_goals conv=>whnf
 all_goals exact ⟨_,_,.inl rfl,AE.Bz ho,h⟩
theorem uc {l:List Tk} {own:AE} (h:∀c,st.fresh c->K (.ret (.func 114 [] [.ptr c 0])) (st.Aa c [.slice 4 (AV l) own])):PC 66 [.slice 4 (AV l) own] st K:=by
 refine AO Ab [] Tryz.func66 rfl Do rfl ?_
 refine Ag (Ai Ab ?_)
 repeat' ((conv=>whnf);first|(refine AA ?_;intros)|(refine AB ?_ ?_<;>intro _)|fail)
 refine Me 1 0 rfl rfl rfl (λc U=>?_)
 refine Ai Ab ?_
 repeat' ((conv=>whnf);first|(refine AA ?_;intros)|(refine AB ?_ ?_<;>intro _)|fail)
 all_goals conv=>whnf
 all_goals exact ⟨_,_,.inl rfl,St.le_refl _,h c U⟩
end
def ky (l:List Tk):Prop:=∀t ∈ l,t.text.length<=100000000/\ -1000000000<=t.line/\t.line<=1000000000
theorem ky.at {l:List Tk} (h:ky l) (e:l[i]? =some t):t.text.length<=100000000/\ -1000000000<=t.line/\t.line<=1000000000:=h t (List.mem_of_getElem? e)
theorem vH {L:Nat} {v:V} {m U:Int} {st:St} {K K':St->Prop} (h:YS Tryz.prog L r Im [v,.int .i64 U] st K) (e:U=m) (k:∀st,K st->K' st):YS Tryz.prog L r Im [v,.int .i64 m] st K':=by subst e;exact h.mono k
section
variable {st:St} {l:List Tk} {own:AE} {c L:Nat} {r:Loop} {Im:Mem}
attribute [local irreducible] Go.Aw.Am
theorem wP (hok:ky l) (hn:l.length<=100000000) {J:Nat->St->Prop} (hJ:∀i st,J i st->st.box c=some [.slice 4 (AV l) own]) (hY:∀i st,i<l.length->J i st->YS Tryz.prog L r Im [.int .i64 (i:Int),.int .i64 (F8 l i)] st (J (i+1))) (h0:J 0 st)
 {I:Mem} {cargs:List Value} (hm:Im.le I) (hs:Cv I st w) (U:Ao I [.ptr c 0] cargs) (hl:w.heap[L]? =some (.loop r)) (hi:Idle L st):
 Calls Tryz.prog 114 (Value.func (.yield L) #[] #[]::cargs).toArray w λe w'=>(∃v,e=.returned v)/\∃I' st',Fr I st w I' st' w'/\Cv I' st' w'/\J l.length st':=by
 refine Vk Ab Tryz.func114 rfl rfl (r:=r) (Im:=Im) (args:=[.kn L,.ptr c 0]) (K:=J l.length) rfl ?_ hm hs (by
  simp only [Ao] at U |-
  exact ⟨_,_,rfl,by simp only [AM],U⟩) hl hi
 have hb:=hJ 0 st h0
 refine GI (Q6.of (Ai Ab ?_))
 repeat' ((conv=>whnf);first|exact BH|(refine AA ?_;intros)|(refine BI ?_ ?_ ?_;rotate_left)|(refine AB ?_ ?_<;>intro _)|refine An hb ?_|with_reducible refine WF ?_)
 refine T1 ?_
 refine kq ?_
 refine SG (α:=Nat×St) (λx=>[(8,.int .i64 (x.1:Int))]) (λ_=>[]) [0,1,6,7] [] (λx=>x.2) (λx=>x.1<=l.length/\J x.1 x.2) (λx=>l.length - x.1) (0,st) ⟨Nat.zero_le _,h0⟩ Yl (St.le_refl _) ?_
 rintro ⟨i,st1⟩ ⟨hi1,hj⟩
 dsimp only at hi1 hj |-
 have hb1:=hJ i st1 hj
 refine GI (Q6.of (Ai Ab ?_))
 by_cases hlt:i<l.length
 .obtain ⟨t,ht⟩:∃t,l[(i:Int).toNat]? =some t:=⟨_,List.getElem?_eq_getElem AC⟩
  have ht':l[i]? =some t:=ht
  have hlt2:(i:Int)<(l.length:Int):=AC
  repeat' ((conv=>whnf);first|exact BH|(refine AA ?_;intros)|(refine BI ?_ ?_ ?_;rotate_left)|(refine AB ?_ ?_<;>intro _)|with_reducible refine WF ?_)
  refine GI (Q6.of (Ai Ab ?_))
  repeat' ((conv=>whnf);first|exact BH|(refine AA ?_;intros)|(refine BI ?_ ?_ ?_;rotate_left)|(refine AB ?_ ?_<;>intro _)|with_reducible refine WF ?_)
  refine GI ?_
  refine T1 ?_
  refine GI (Q6.of (Ai Ab ?_))
  repeat' ((conv=>whnf);first|exact BH|(refine AA ?_;intros)|(refine BI ?_ ?_ ?_;rotate_left)|(refine AB ?_ ?_<;>intro _)|with_reducible refine WF ?_)
  refine GI (Q6.of (Ai Ab ?_))
  repeat' ((conv=>whnf);first|exact BH|(refine AA ?_;intros)|(refine BI ?_ ?_ ?_;rotate_left)|(refine AB ?_ ?_<;>intro _)|with_reducible refine WF ?_)
  have hy:=hY i st1 hlt hj
  refine GI (Q6.of (Ai Ab ?_))
  have ho:=hok.at ht'
  clear hY U hs hm hl hi
  by_cases hz:i=0
  .subst hz
   have hma:F8 l 0=if (bI t 9 [109,111,100,117,108,101]||bI t 15 [123])=true then 17 else 16:=by unfold F8;rw [ht'];rfl
   repeat' ((conv=>whnf);first|exact BH|(refine AA ?_;intros)|(refine BI ?_ ?_ ?_;rotate_left)|(refine AB ?_ ?_<;>intro _)|refine ve ?_|with_reducible refine WF ?_)
   all_goals refine GI (dk Ab 3 rfl rfl rfl rfl rfl ?_)
   all_goals (repeat' ((conv=>whnf);first|exact BH|(refine AA ?_;intros)|(refine BI ?_ ?_ ?_;rotate_left)|(refine AB ?_ ?_<;>intro _)|refine ⟨rfl,?_⟩|refine vH hy (by rw [hma]<;>simp [*]) (λst2 hj2=>?_)|with_reducible refine WF ?_))
   all_goals refine Q6.of (Ai Ab ?_)
   all_goals (repeat' ((conv=>whnf);first|exact BH|(refine AA ?_;intros)|(refine BI ?_ ?_ ?_;rotate_left)|(refine AB ?_ ?_<;>intro _)|with_reducible refine WF ?_))
   all_goals refine Q6.of (Ai Ab ?_)
   all_goals (repeat' ((conv=>whnf);first|exact BH|(refine AA ?_;intros)|(refine BI ?_ ?_ ?_;rotate_left)|(refine AB ?_ ?_<;>intro _)|with_reducible refine WF ?_))
   all_goals conv=>whnf
   all_goals exact ⟨(0+1,st2),⟨hlt,hj2⟩,So,Yl,St.le_refl _⟩
  .obtain ⟨p,hp⟩:∃p,l[((i:Int) - 1).toNat]? =some p:=⟨_,List.getElem?_eq_getElem AC⟩
   have hp':l[i - 1]? =some p:=by rw [<-hp];congr 1;omega
   have hop:=hok.at hp'
   have hma:F8 l i=YX (some p) t:=by unfold F8 ahead;rw [ht',if_neg hz,hp']
   unfold YX at hma
   have hz2:¬(i:Int)=0:=AC
   repeat' ((conv=>whnf);first|exact BH|(refine AA ?_;intros)|(refine BI ?_ ?_ ?_;rotate_left)|(refine AB ?_ ?_<;>intro _)|refine An hb1 ?_|refine ve ?_|refine SK ?_|refine wx hop.1 hop.2.1 hop.2.2 ?_|refine Ad [(0,true),(1,true),(2,true),(3,true),(4,true),(5,true),(6,true),(7,true),(8,true),(9,true),(10,true),(11,true),(12,true),(13,true),(14,true),(15,true),(16,true),(17,false),(18,true),(19,true),(20,true)] [] GE ?_|with_reducible refine WF ?_)
   all_goals refine GI (dk Ab 3 rfl rfl rfl rfl rfl ?_)
   all_goals (repeat' ((conv=>whnf);first|exact BH|(refine AA ?_;intros)|(refine BI ?_ ?_ ?_;rotate_left)|(refine AB ?_ ?_<;>intro _)|refine ⟨rfl,?_⟩|refine vH hy (by rw [hma]<;>simp [*]) (λst2 hj2=>?_)|with_reducible refine WF ?_))
   all_goals refine Q6.of (Ai Ab ?_)
   all_goals (repeat' ((conv=>whnf);first|exact BH|(refine AA ?_;intros)|(refine BI ?_ ?_ ?_;rotate_left)|(refine AB ?_ ?_<;>intro _)|with_reducible refine WF ?_))
   all_goals refine Q6.of (Ai Ab ?_)
   all_goals (repeat' ((conv=>whnf);first|exact BH|(refine AA ?_;intros)|(refine BI ?_ ?_ ?_;rotate_left)|(refine AB ?_ ?_<;>intro _)|with_reducible refine WF ?_))
   all_goals conv=>whnf
   all_goals exact ⟨(i+1,st2),⟨hlt,hj2⟩,So,Yl,St.le_refl _⟩
 .have hlt2:¬(i:Int)<(l.length:Int):=AC
  obtain rfl:i=l.length:=AC
  repeat' ((conv=>whnf);first|exact BH|(refine AA ?_;intros)|(refine BI ?_ ?_ ?_;rotate_left)|(refine AB ?_ ?_<;>intro _)|with_reducible refine WF ?_)
  refine GI (Q6.of (Ai Ab ?_))
  repeat' ((conv=>whnf);first|exact BH|(refine AA ?_;intros)|(refine BI ?_ ?_ ?_;rotate_left)|(refine AB ?_ ?_<;>intro _)|with_reducible refine WF ?_)
  all_goals conv=>whnf
  all_goals exact ⟨.inl rfl,hj⟩
end
end Go.Proofs.Z
namespace Go.Aw
theorem AE.Pc {own:AE} {n:Nat}:(own.st S n).box=S.box:=by cases own<;>rfl
theorem AE.Xu {own:AE} {n:Nat}:(own.st S n).Aa b C=own.st (S.Aa b C) n:=by cases own<;>rfl
theorem ZP {own:AE} {n:Nat}:(own.st (S.Aa b C) n).box b=some C:=by rw [AE.Pc];simp [St.Aa]
theorem AE.Ja {own:AE} (h:own.BD S) (hb:S.box b≠none):own.BD (S.Aa b C):=by
 cases own with
 |any=>exact h
 |full=>exact trivial
 |tok t=>
  have h:S.fresh t:=h
  refine (show (S.Aa b C).fresh t from ⟨?_,h.2⟩)
  have:t≠b:=by rintro rfl;exact hb h.1
  simp only [St.Aa]
  rw [if_neg this];exact h.1
theorem AE.Se {own:AE} {D:List V} (h:own.BD (S.Aa b C)):own.BD (S.Aa b D):=by
 cases own with
 |any=>exact h
 |full=>exact trivial
 |tok t=>
  have h:(S.Aa b C).fresh t:=h
  refine (show (S.Aa b D).fresh t from ⟨?_,h.2⟩)
  have U:=h.1
  simp only [St.Aa] at U |-
  split at U
  .cases U
  .rename_i e;rw [if_neg e];exact U
end Go.Aw
namespace Go.Proofs.Z
open Go Go.Aw
theorem GK (l:List Tk):(AV l).length=l.length:=by unfold AV;rw [List.length_map]
theorem MW {l:List Tk} {x:Tk} {own:AE} {st:St} {K:V->St->Prop} (h:own.BD st) (hb:l.length+1<=1000000000)
 (k:∀U:AE,U.BD st->K (.slice 4 (AV (l++[x])) U) (U.st st ((l++[x]).length*4))):Am 4 40 (AV l) own [x.cells] (own.st st (l.length*4)) K:=by
 have:=EI (sz:=4) (bytes:=40) (es:=AV l) (new:=[x.cells]) (K:=K) h (by rw [GK];show (l.length+1)*40<=_;omega) (by rw [GK];show l.length+1<DG;simp only [DG];omega) rfl (λU ho=>by
  have:=k U ho
  rw [GK]
  have e:AV l++[x.cells].map (·.map V.JB)=AV (l++[x]):=by unfold AV;rw [List.map_append];rfl
  rw [e]
  rw [List.length_append] at this
  exact this)
 rw [GK] at this
 exact this
abbrev x8 (m:Int) (t:Tk):Tk:=⟨m,[],t.line,t.Cg⟩
theorem gn {st:St} {c:Bool} (U:∀(st:St) (K:Au->St->Prop),K (.ret (.bool c)) st->PC f args st K) (e:c=true) (k:K (.ret (.bool true)) st):PC f args st K:=U st K (by rw [e];exact k)
theorem kZ {st:St} {c:Bool} (U:∀(st:St) (K:Au->St->Prop),K (.ret (.bool c)) st->PC f args st K) (e:c=false) (k:K (.ret (.bool false)) st):PC f args st K:=U st K (by rw [e];exact k)
theorem IU {st:St} {c:Nat} (h:b≠c):(st.Aa b cs).box c=st.box c:=by simp [St.Aa,Ne.symm h]
theorem qK {l:List Tk} {x:Tk} {own:AE} {K:V->St->Prop} (h:own.BD (S.Aa b C)) (hb:l.length+1<=1000000000)
 (k:∀U:AE,U.BD (S.Aa b C)->K (.slice 4 (AV (l++[x])) U) (U.st (S.Aa b C) ((l++[x]).length*4))):Am 4 40 (AV l) own [x.cells] ((own.st S (l.length*4)).Aa b C) K:=by
 rw [AE.Xu];exact MW h hb k
theorem SI:∀(a:List Tk) (p:Option Tk) (t:Tk),En p (a++[t])=En p a++markT (YX (a.getLast?.or p) t) t
 |[],p,t=>by simp [En]
 |x::r,p,t=>by
  rw [List.cons_append,En,SI r (some x) t,En,List.append_assoc]
  congr 3
  cases r with
  |nil=>rfl
  |cons y r=>rw [List.getLast?_cons_cons];cases h:(y::r).getLast? with
   |none=>simp at h
   |some z=>rfl
theorem Lu:∀(a:List Tk) (p:Option Tk),(En p a).length<=2*a.length
 |[],p=>Nat.le_refl _
 |x::r,p=>by
  have:=Lu r (some x)
  rw [En,List.length_append,List.length_cons]
  unfold markT
  split<;>simp only [List.length_cons,List.length_nil]<;>omega
theorem bZ {l:List Tk} (h:l[i]? =some t):En none (l.take (i+1))=En none (l.take i)++markT (F8 l i) t:=by
 have U:=(List.getElem?_eq_some_iff.1 h).1
 have e:l.take (i+1)=l.take i++[t]:=by rw [List.take_add_one,h];rfl
 rw [e,SI]
 congr 3
 unfold F8 ahead
 rw [h]
 dsimp only
 congr 1
 cases i with
 |zero=>rfl
 |succ i=>
  rw [if_neg AC,List.getLast?_take,if_neg AC]
  have:l[i+1 - 1]? =some l[i]:=by rw [Nat.add_sub_cancel];exact List.getElem?_eq_getElem AC
  rw [this];rfl
section
variable {st:St} {l:List Tk} {own:AE} {K:Au->St->Prop}
attribute [local irreducible] Go.Aw.Am
theorem sW (hok:ky l) (hn:l.length<=100000000) (h:K (.ret (.slice 4 (AV (Hg l)) .any)) st):PC 41 [.slice 4 (AV l) own] st K:=by
 refine Ba.ends (Xa Ab [] Tryz.func41 rfl Do rfl ?_)
 refine Ai Ab ?_
 repeat' ((conv=>whnf);first|exact BH|(refine AA ?_;intros)|(refine BI ?_ ?_ ?_;rotate_left)|(refine AB ?_ ?_<;>intro _)|refine B2 (λ_=>?_) ?_|with_reducible refine WF ?_)
 refine Ai Ab ?_
 repeat' ((conv=>whnf);first|exact BH|(refine AA ?_;intros)|(refine BI ?_ ?_ ?_;rotate_left)|(refine AB ?_ ?_<;>intro _)|refine B2 (λ_=>?_) ?_|refine ⟨⟨AC,AC,AC,(by unfold DG<;>omega)⟩,.inl ⟨rfl,λb0 f0=>?_⟩⟩|with_reducible refine WF ?_)
 refine Ai Ab ?_
 repeat' ((conv=>whnf);first|exact BH|(refine AA ?_;intros)|(refine BI ?_ ?_ ?_;rotate_left)|(refine AB ?_ ?_<;>intro _)|refine B2 (λ_=>?_) ?_|refine uc (λc fc=>?_)|with_reducible refine WF ?_)
 conv=>whnf
 refine ki.pub 1 0 rfl rfl rfl (λb1 f1=>?_)
 refine ki.pub 3 1 rfl rfl rfl (λb3 f3=>?_)
 refine ki.here ?_
 obtain ⟨S,hS⟩:∃S,S=(st.Aa c [.slice 4 (AV l) own]).Aa b1 [.slice 4 (AV l) own]:=⟨_,rfl⟩
 have n0c:c≠b0:=by
  rintro rfl
  have:=fc.2
  simp [St.BZ] at this
 have n01:b1≠b0:=by
  rintro rfl
  have:=f1.2
  simp [St.BZ,St.Aa] at this
 have n03:b3≠b0:=by
  rintro rfl
  have:=f3.2
  simp [St.BZ,St.Aa] at this
 have nc1:b1≠c:=by
  rintro rfl
  have:=f1.1
  rw [St.Ah] at this;cases this
 have n31:b3≠b1:=by
  rintro rfl
  have:=f3.1
  rw [St.Ah] at this;cases this
 have n3c:b3≠c:=by
  rintro rfl
  have:=f3.1
  rw [IU (Ne.symm n31),St.Ah] at this;cases this
 have fc0:st.box c=none:=fc.1
 have f10:st.box b1=none:=by have:=f1.1;rw [IU (Ne.symm nc1)] at this;exact this
 have f30:st.box b3=none:=by have:=f3.1;rw [IU (Ne.symm n31),IU (Ne.symm n3c)] at this;exact this
 have hSc:S.box c=some [.slice 4 (AV l) own]:=by rw [hS,IU nc1,St.Ah]
 have hS1:S.box b1=some [.slice 4 (AV l) own]:=by rw [hS,St.Ah]
 have hle:∀X,st.le (S.Aa b3 X):=λX=>by
  rw [hS];exact St.Af (St.Af (St.Af (St.le_refl _) fc0 _) f10 _) f30 _
 have hgo:AE.BD (S.Aa b3 [.slice 4 [] (.tok b0)]) (.tok b0):=by
  refine (show (S.Aa b3 _).fresh b0 from ⟨?_,by rw [hS];exact f0.2⟩)
  rw [IU n03,hS,IU n01,IU n0c];exact f0.1
 obtain ⟨J,hJ⟩:∃J:Nat->St->Prop,J=λi st'=>∃o:AE,o.BD (S.Aa b3 [.slice 4 (AV (En none (l.take i))) o])/\st'=o.st (S.Aa b3 [.slice 4 (AV (En none (l.take i))) o]) ((En none (l.take i)).length*4):=⟨_,rfl⟩
 refine ⟨⟨rfl,rfl⟩,114,[.ptr c 0],J l.length,⟨rfl,⟨_,Tryz.func114,Do,Do⟩⟩,?_,?_⟩
 .intro D B Im β a wm L df fi hF I w cargs hm hs hargs hl hi
  refine wP (own:=own) hok hn (J:=J) (λi st1 hj=>?_) (λi st1 hlt hj=>?_) ?_ hm hs hargs hl hi
  .rw [hJ] at hj
   obtain ⟨o,_,rfl⟩:=hj
   rw [AE.Pc,IU n3c,hSc]
  .refine qu Ab hF rfl rfl rfl Do rfl rfl ?_
   rw [hJ] at hj
   obtain ⟨o,hgo,rfl⟩:=hj
   obtain ⟨t,ht⟩:∃t,l[(i:Int).toNat]? =some t:=⟨_,List.getElem?_eq_getElem AC⟩
   have htk:=bZ (l:=l) (i:=i) (t:=t) ht
   have hlen2:=Lu (l.take i) none
   have hti:(l.take i).length<=l.length:=NE
   generalize hout:En none (l.take i)=out at *
   have hb3:(o.st (S.Aa b3 [.slice 4 (AV out) o]) (out.length*4)).box b3=some [.slice 4 (AV out) o]:=by rw [AE.Pc,St.Ah]
   have hb1:(o.st (S.Aa b3 [.slice 4 (AV out) o]) (out.length*4)).box b1=some [.slice 4 (AV l) own]:=by rw [AE.Pc,IU n31,hS1]
   have hlo:out.length+1<=1000000000:=AC
   unfold fj
   by_cases hz:F8 l i=0
   .have hfin:∀o2:AE,o2.BD (S.Aa b3 [.slice 4 (AV out) o])->J (i+1) ((o2.st (S.Aa b3 [.slice 4 (AV out) o]) ((out++[t]).length*4)).Aa b3 [.slice 4 (AV (out++[t])) o2]):=λo2 h2=>by
     rw [hJ]
     refine ⟨o2,?_,?_⟩
     .rw [htk];unfold markT;rw [if_pos hz];exact AE.Se h2
     .rw [htk];unfold markT;rw [if_pos hz,AE.Xu,St.set_set]
    repeat' ((conv=>whnf);first|exact BH|(refine AA ?_;intros)|(refine BI ?_ ?_ ?_;rotate_left)|(refine AB ?_ ?_<;>intro _)|refine B2 (λ_=>?_) ?_|refine ⟨⟨rfl,rfl⟩,?_⟩|refine An hb3 ?_|refine An hb1 ?_|refine MW (x:=t) hgo hlo (λo2 h2=>?_)|refine An ZP ?_|exact hfin o2 h2|refine Ad [(0,true),(1,true),(2,true),(3,true),(4,true),(5,true),(6,true),(7,true),(8,true),(9,true),(10,true),(11,true),(12,true),(13,true),(14,false),(15,false)] [1] GE ?_|refine Ad [(0,true),(1,true),(2,true),(3,true),(4,true),(5,true),(6,false),(7,false)] [1] GE ?_|with_reducible refine WF ?_)
   .have hlo2:(out++[x8 (F8 l i) t]).length+1<=1000000000:=by rw [List.length_append,List.length_singleton];omega
    have hfin:∀o2 o3:AE,o2.BD (S.Aa b3 [.slice 4 (AV out) o])->o3.BD ((S.Aa b3 [.slice 4 (AV out) o]).Aa b3 [.slice 4 (AV (out++[x8 (F8 l i) t])) o2])->
     J (i+1) ((o3.st ((S.Aa b3 [.slice 4 (AV out) o]).Aa b3 [.slice 4 (AV (out++[x8 (F8 l i) t])) o2]) ((out++[x8 (F8 l i) t]++[t]).length*4)).Aa b3 [.slice 4 (AV (out++[x8 (F8 l i) t]++[t])) o3]):=λo2 o3 h2 h3=>by
     rw [hJ]
     refine ⟨o3,?_,?_⟩
     .rw [htk];unfold markT;rw [if_neg hz,St.set_set] at *;exact AE.Se h3
     .rw [htk];unfold markT;rw [if_neg hz,AE.Xu,St.set_set,St.set_set,List.append_assoc];rfl
    have hb1':∀(o2:AE) n C,((o2.st (S.Aa b3 [.slice 4 (AV out) o]) n).Aa b3 C).box b1=some [.slice 4 (AV l) own]:=λo2 n C=>by rw [IU n31,AE.Pc,IU n31,hS1]
    repeat' ((conv=>whnf);first|exact BH|(refine AA ?_;intros)|(refine BI ?_ ?_ ?_;rotate_left)|(refine AB ?_ ?_<;>intro _)|refine B2 (λ_=>?_) ?_|refine ⟨⟨rfl,rfl⟩,?_⟩|refine An hb3 ?_|refine An hb1 ?_|refine An (hb1' _ _ _) ?_|refine An (St.Ah ..) ?_|refine MW (x:=x8 (F8 l i) t) hgo hlo (λo2 h2=>?_)|refine qK (x:=t) (AE.Ja h2 (by rw [St.Ah]<;>simp)) hlo2 (λo3 h3=>?_)|refine An ZP ?_|exact hfin o2 o3 h2 h3|refine Ad [(0,true),(1,true),(2,true),(3,true),(4,true),(5,true),(6,true),(7,true),(8,true),(9,true),(10,true),(11,true),(12,true),(13,true),(14,false),(15,false)] [1] GE ?_|refine Ad [(0,true),(1,true),(2,true),(3,true),(4,true),(5,true),(6,false),(7,false)] [1] GE ?_|with_reducible refine WF ?_)
  .rw [hJ]
   exact ⟨.tok b0,hgo,by rw [hS];rfl⟩
 .intro st' hk
  rw [hJ,List.take_length] at hk
  obtain ⟨o,hgo,rfl⟩:=hk
  have hb3:(o.st (S.Aa b3 [.slice 4 (AV (En none l)) o]) ((En none l).length*4)).box b3=some [.slice 4 (AV (En none l)) o]:=ZP
  have hb1:(o.st (S.Aa b3 [.slice 4 (AV (En none l)) o]) ((En none l).length*4)).box b1=some [.slice 4 (AV l) own]:=by rw [AE.Pc,IU n31,hS1]
  have hlen2:=Lu l none
  have hlo:(En none l).length+1<=1000000000:=AC
  refine Ai Ab ?_
  have hle1:st.le (o.st (S.Aa b3 [.slice 4 (AV (En none l)) o]) ((En none l).length*4)):=St.le_trans (hle _) (AE.Bz hgo)
  have hle2:∀(o2:AE) (n:Nat) (C D:List V),o2.BD (S.Aa b3 C)->st.le ((o2.st (S.Aa b3 C) n).Aa b3 D):=λo2 n C D h2=>by
   rw [AE.Xu,St.set_set];exact St.le_trans (hle _) (AE.Bz (AE.Se h2))
  have U:∀x:List Tk,Uy l=x->K (.ret (.slice 4 (AV (En none l++x)) .any)) st:=λx e=>by
   have:=h;unfold Hg at this;rw [e] at this;exact this
  cases hlast:l.getLast? with
  |none=>
   obtain rfl:l=[]:=List.getLast?_eq_none_iff.1 hlast
   have U:=U [⟨16,[],0,0⟩] rfl
   have hz0:(([]:List Tk).length:Int)=0:=rfl
   repeat' ((conv=>whnf);first|exact BH|(refine AA ?_;intros)|(refine BI ?_ ?_ ?_;rotate_left)|(refine AB ?_ ?_<;>intro _)|refine B2 (λ_=>?_) ?_|refine An hb1 ?_|refine An hb3 ?_|refine MW (x:=⟨16,[],0,0⟩) hgo hlo (λo2 h2=>?_)|refine An ZP ?_|refine An (St.Ah ..) ?_|with_reducible refine WF ?_)
   all_goals conv=>whnf
   all_goals refine ⟨.inr rfl,?_⟩
   all_goals conv=>whnf
   all_goals exact ⟨_,_,.inr rfl,hle2 o2 _ _ _ h2,U⟩
  |some t=>
   have hpos:0<l.length:=List.length_pos_iff.2 (λe=>by rw [e] at hlast;cases hlast)
   have ht:l[((l.length:Nat) - 1:Int).toNat]? =some t:=by
    rw [List.getLast?_eq_getElem?] at hlast
    rw [<-hlast];congr 1;omega
   have hne:¬(l.length:Int)=0:=AC
   cases ho:SJ t with
   |true=>
    have U:=U [⟨16,[],0,0⟩] (by unfold Uy;rw [hlast];simp [ho])
    repeat' ((conv=>whnf);first|exact BH|(refine AA ?_;intros)|(refine BI ?_ ?_ ?_;rotate_left)|(refine AB ?_ ?_<;>intro _)|refine B2 (λ_=>?_) ?_|refine An hb1 ?_|refine An hb3 ?_|refine gn (λst K h=>SK h) ho ?_|refine MW (x:=⟨16,[],0,0⟩) hgo hlo (λo2 h2=>?_)|refine An ZP ?_|refine An (St.Ah ..) ?_|with_reducible refine WF ?_)
    all_goals conv=>whnf
    all_goals refine ⟨.inr rfl,?_⟩
    all_goals conv=>whnf
    all_goals exact ⟨_,_,.inr rfl,hle2 o2 _ _ _ h2,U⟩
   |false=>
    have U:=U [] (by unfold Uy;rw [hlast];simp [ho])
    rw [List.append_nil] at U
    repeat' ((conv=>whnf);first|exact BH|(refine AA ?_;intros)|(refine BI ?_ ?_ ?_;rotate_left)|(refine AB ?_ ?_<;>intro _)|refine B2 (λ_=>?_) ?_|refine An hb1 ?_|refine An hb3 ?_|refine kZ (λst K h=>SK h) ho ?_|with_reducible refine WF ?_)
    all_goals conv=>whnf
    all_goals refine ⟨.inr rfl,?_⟩
    all_goals conv=>whnf
    all_goals exact ⟨_,_,.inr rfl,hle1,U⟩
end
end Go.Proofs.Z
namespace Go.Aw
open Go
theorem pX (l:List UInt8):∀q,EC l=.inl q->q.1<=l.length:=by
 fun_induction EC l with
 |case1 l h=>intro q U;cases U
 |case2 l h e he=>intro q U;cases U;exact Nat.zero_le _
 |case3 l h p hp q' hq ih=>
  intro q U
  cases U
  have:=JT hp
  have:=ih _ hq
  rw [List.length_drop] at this
  dsimp only
  omega
 |case4 l h p hp n hn ih=>intro q U;cases U
theorem lq {l:List UInt8} {q:Nat×Int} (h:L3 l=.inl q):q.1<=l.length:=by
 unfold L3 at h
 split at h
 .cases h;exact Nat.zero_le _
 .split at h
  .cases h;exact Nat.zero_le _
  .rename_i p U
   have:=JT U
   split at h
   .cases h
   .cases h;exact this.2
theorem xv {s:List UInt8} {p:Nat} (h:(Ci s p).2.2≠0):0<=(Ci s p).2.1/\(Ci s p).2.1<=s.length:=by
 have key:∀c:Int,0<=c->A1 (s.drop p)=c->p<s.length:=λc hc e=>Cb (k:=p) AC
 unfold Ci at h |-
 split
 .rename_i U
  have hp:=key 34 Do U
  rw [if_pos U] at h
  split
  .rename_i q hq
   have:=pX _ _ hq
   rw [List.length_drop] at this
   dsimp only;omega
  .rename_i n hn;rw [hn] at h;exact absurd rfl h
 .rename_i U
  rw [if_neg U] at h
  split
  .rename_i h2
   have hp:=key 39 Do h2
   rw [if_pos h2] at h
   split
   .rename_i q hq
    have:=lq hq
    rw [List.length_drop] at this
    dsimp only;omega
   .rename_i n hn;rw [hn] at h;exact absurd rfl h
  .rename_i h2;rw [if_neg h2] at h;exact absurd rfl h
theorem sP {s:List UInt8} {p:Nat} (hp:p<=s.length) (h:(Cr s p).2.2≠0):0<=(Cr s p).2.1/\(Cr s p).2.1<=s.length:=by
 unfold Cr at h |-
 split
 .rename_i U;rw [if_pos U] at h;exact absurd rfl h
 .rename_i U
  rw [if_neg U] at h
  split
  .rename_i h2
   rw [if_pos h2] at h
   split
   .dsimp only;omega
   .rename_i h3;rw [if_neg h3] at h;exact absurd rfl h
  .rename_i h2;rw [if_neg h2] at h;exact xv h
end Go.Aw
namespace Go.Proofs.Z
open Go Go.Aw
theorem sN {s:List UInt8} {p:Nat} {x:Lx} {i e:Int} (h:GY s p x=.inl (i,e)):0<=i/\i<=s.length:=by
 fun_induction GY s p x with
 |case1 p x U h1=>cases h;omega
 |case2 p x U h1 h2 h3 ih=>exact ih h
 |case3 p x U h1 h2 h3=>cases h
 |case4 p x U h1 h2 h3=>cases h;exact sP (Nat.le_of_lt U) h3
 |case5 p x U h1 h2 h3 h4 ih=>exact ih h
 |case6 p x U h1 h2 h3 h4=>cases h
 |case7 p x U=>cases h
theorem sL {s:List UInt8} {i e:Int} (h:GX s=.inl (i,e)):0<=i/\i<=s.length:=by
 unfold GX at h
 split at h
 .cases h;omega
 .split at h
  .injection h with h
   have:=K2 Dk s
   unfold Nb at h
   split at h<;>(cases h;omega)
  .split at h
   .rename_i U
    cases h
    refine ⟨U,?_⟩
    unfold YE
    split<;>omega
   .exact sN h
theorem sO {s:List UInt8} {p:Nat} {x y:Lx} (h:∀t ∈ x.Ay,t.text.length<=s.length/\1<=t.line/\t.line<=1+s.length) (e:GY s p x=.inr y):∀t ∈ y.Ay,t.text.length<=s.length/\1<=t.line/\t.line<=1+s.length:=by
 fun_induction GY s p x with
 |case1 p x U h1=>cases e
 |case2 p x U h1 h2 h3 ih=>exact ih h e
 |case3 p x U h1 h2 h3=>injection e with e;subst e;exact h
 |case4 p x U h1 h2 h3=>cases e
 |case5 p x U h1 h2 h3 h4 ih=>
  refine ih (λt ht=>?_) e
  rcases List.mem_append.1 ht with ht|ht
  .exact h t ht
  .rw [List.mem_singleton.1 ht]
   have:=TC s.length s p (1,1) (Nat.le_refl _) Do
   refine ⟨?_,this.1,this.2.1⟩
   show (A0 s p _).length<=_
   unfold A0
   rw [List.length_drop,List.length_take]
   omega
 |case6 p x U h1 h2 h3 h4=>injection e with e;subst e;exact h
 |case7 p x U=>injection e with e;subst e;exact h
theorem nz {s:List UInt8} {y:Lx} (e:GX s=.inr y):∀t ∈ y.Ay,t.text.length<=s.length/\1<=t.line/\t.line<=1+s.length:=by
 unfold GX at e
 split at e
 .cases e
 .split at e
  .cases e
  .split at e
   .cases e
   .exact sO (λt U=>by cases U) e
theorem nA {s:List UInt8} {y:Lx} (hl:s.length<=90000000) (e:GX s=.inr y):ky y.Ay:=λt U=>by have:=nz e t U;omega
theorem iG (l:List Tk):(Hg l).length<=2*l.length+1:=by
 have h:=Lu l none
 have U:(Uy l).length<=1:=by
  unfold Uy
  split
  .exact Nat.le_refl _
  .split<;>simp
 unfold Hg
 rw [List.length_append]
 omega
def P8 (s:Aj):Int×Int:=if s.pos<s.Ay.length then (match s.Ay[s.pos.toNat]? with|some t=>(t.line,t.Cg)|none=>(0,0)) else (0,0)
end Go.Proofs.Z
namespace Go.Aw
open Go
section
variable {P:Program} {T:List (Nat×Ty)}
theorem Vp (hP:T4 P T) (gl:List Nat) {st:St} {R:St->Prop} (hf:P.funcs[g]? =some fn) (hb:fn.body=some c) (hle:Nat.ble args.length fn.ntmps=true)
 (h:AW P c (yy T fn R) {tmps:=IP 0 args,boxes:=[],Bs:=0,sz:=fn.ntmps,gl} st):HC P g args none st R:=by
 intro I w cargs u hs hargs hx
 have hx:u=.returning:=hx
 subst hx
 refine callsD_of_wpS hf hb (λc0 cs hu=>?_)
 refine wpS_of_wp (wp_mono (h [] I st w I _ _ w (GA (fn:=fn) gl hs hargs hle)) ?_)
 rintro e a5 w5 ⟨I5,β5,U,st5,ae,r5,x5,k5⟩
 have last:Xg T fn (λ_ st=>R st) U st5->a5.defers=[]/\∃u',c0::cs={c0 with mode:=u'}::cs/\∃v,(results fn a5.tmps).run P w5=.ok v w5/\((∃v',Ending.returned v=.returned v')/\settle u'=.returning/\∃I' st',Fr I st w I' st' w5/\Cv I' st' w5/\R st'):=λq=>by
  obtain ⟨v,c,g1,g2,g3⟩:=Cu (P:=P) (R:=λ_ st=>R st) hP.t r5 (show Fh T U st5 fn.results.toList _ from q)
  exact ⟨r5.f.defers,.returning,by rw [<-hu],c,g1,⟨_,rfl⟩,rfl,I5,st5,r5.fr,r5.s,g3⟩
 cases ae with
 |normal=>
  cases e with
  |normal=>exact last k5
  |_=>exact x5.elim
 |ret=>
  cases e with
  |ret=>exact last k5
  |_=>exact x5.elim
 |B1 v=>exact k5.elim
 |exit _=>exact k5.elim
 |goto _=>exact k5.elim
end
end Go.Aw
namespace Go.Proofs.Z
open Go Go.Aw
def shT (t:Tk):Tk:=⟨t.kind,t.text,t.line+1,t.Cg⟩
def shN (g:Int) (n:Nt):Nt:=⟨n.text,n.Ds+g,n.wh,n.line+1,n.Cg⟩
section
variable {h s:List UInt8} {pre:List Tk} {g:Int} {x y:Lx} {p q:Nat}
theorem Yd:(h++s).drop (h.length+p)=s.drop p:=List.drop_length_add_append _
theorem UH:A0 (h++s) (h.length+p) (h.length+q)=A0 s p q:=by
 rw [S2,S2,Yd,show h.length+q - (h.length+p)=q - p by omega]
theorem q8:DC (h++s) (h.length+q)=h.length+DC s q:=by unfold DC;rw [Yd];omega
def dn (h s:List UInt8):Prop:=∀p,Cs (h++s) (h.length+p)=((Cs s p).1+1,(Cs s p).2)
structure vN (pre:List Tk) (g:Int) (x y:Lx):Prop where
 tk:y.Ay=pre++x.Ay.map shT
 nt:y.notes=x.notes.map (shN g)
 gp:y.Ds=x.Ds+g
 jn:∀L:Int,1<=L->(y.j&&decide (y.ends=L+1))=(x.j&&decide (x.ends=L))
theorem Vr {a b:Int}:decide (a+1=b+1)=decide (a=b):=decide_eq_decide.2 AC
theorem vN.tok (U:dn h s) (H:vN pre g x y):vN pre g (Kt s p q k x) (Kt (h++s) (h.length+p) (h.length+q) k y):=by
 unfold Kt
 rw [UH,U,U]
 refine ⟨?_,H.nt,?_,λL hL=>?_⟩
 .dsimp only;rw [H.tk,List.map_append,List.append_assoc];rfl
 .dsimp only;rw [H.gp];split<;>omega
 .dsimp only;rw [Vr]
theorem qY (U:dn h s) (H:vN pre g x y):kT (h++s) (h.length+p) (h.length+q) y=kT s p q x:=by
 unfold kT
 rw [U,U]
 dsimp only
 rw [H.jn _ Mj.1,Vr]
theorem su (U:dn h s):TT (h++s) (h.length+p) (h.length+q)=TT s p q:=by
 unfold TT
 rw [q8,U,U]
 dsimp only
 rw [Vr,List.length_append]
 congr 1
 exact decide_eq_decide.2 AC
theorem vN.note (U:dn h s) (H:vN pre g x y):vN pre g (NW s p q x) (NW (h++s) (h.length+p) (h.length+q) y):=by
 unfold NW
 rw [UH,qY U H,su U,U,U]
 refine ⟨H.tk,?_,H.gp,λL hL=>?_⟩
 .dsimp only;rw [H.nt,H.gp,List.map_append];rfl
 .dsimp only;rw [Vr]
end
structure Jz (P:Aj->Prop):Prop where
 nx:∀{s:Aj},P s->(Ac s).2.2=0->P (Ac s).2.1
 cl:∀{s:Aj},P s->(CY s).2=true->P (CY s).1
section
variable {α β σ:Type} {P:Aj->Prop} {A B C D E F:Rd Nd}
def Cf (P:Aj->Prop) (A:Rd α):Prop:=∀s,P s->Rd.wp A s (λ_=>P) (λ_=>P)
theorem Cf.ret {v:α}:Cf P (.ret v):=λs h=>h
theorem Cf.fail {e:Er}:Cf P (.fail e:Rd α):=λs h=>h
theorem Cf.Ee {t:Aj} {e:Er} (h:P t):Cf P (.Ee t e:Rd α):=λs _=>h
theorem Cf.bad:Cf P (Ow:Rd α):=λs h=>h
theorem Cf.take (N:Jz P):Cf P AR:=λs h=>by
 unfold Rd.wp
 by_cases e:(Ac s).2.2=0
 .rw [C6 e];exact N.nx h e
 .rw [Ju e];exact h
theorem Cf.close (N:Jz P):Cf P Oy:=λs h=>by
 unfold Rd.wp Oy
 dsimp only
 by_cases e:(CY s).2=true
 .rw [if_pos e];exact N.cl h e
 .rw [if_neg e];exact h
theorem Cf.seq {m:Rd β} {k:β->Rd α} (h:Cf P m) (g:∀v,Cf P (k v)):Cf P (.seq m k):=λs U=>by
 rw [Rd.wp_seq]
 exact Rd.wp_mono (h s U) (λv s' _ h=>g v s' h) (λ_ _ _ h=>h)
theorem Cf.look {f:Aj->Rd α} (h:∀s,P s->Cf P (f s)):Cf P (.look f):=λs U=>h s U s U
theorem Cf.ite {c:Prop} [Decidable c] {a b:Rd α} (h:Cf P a) (g:Cf P b):Cf P (if c then a else b):=by split<;>assumption
theorem Cf.inl {A:Rd α} (h:Cf P A) {s s':Aj} {e:Er} (hs:P s) (U:A.run s=.inl (e,s')):P s':=by
 have:=h s hs
 unfold Rd.wp at this
 rw [U] at this;exact this
theorem Cf.inr {A:Rd α} (h:Cf P A) {s s':Aj} {v:α} (hs:P s) (U:A.run s=.inr (v,s')):P s':=by
 have:=h s hs
 unfold Rd.wp at this
 rw [U] at this;exact this
theorem et {body:σ->Rd (Sum σ β)} (h:∀x,Cf P (body x)) (x:σ) (s:Aj):P s->(∀e s',Rd.iter body x s=.inl (e,s')->P s')/\∀v s',Rd.iter body x s=.inr (v,s')->P s':=by
 fun_induction Rd.iter body x s with
 |case1 x s e h1=>intro U;exact ⟨λe' s' e=>by cases e;exact (h x).inl U h1,λv s' e=>by cases e⟩
 |case2 x s y s1 h1=>intro U;exact ⟨λe' s' e=>(by cases e),λv s' e=>by cases e;exact (h x).inr U h1⟩
 |case3 x s x' s1 h1 hlt ih=>intro U;exact ih ((h x).inr U h1)
 |case4 x s x' s1 h1 hlt=>intro U;exact ⟨λe' s' e=>by cases e;exact U,λv s' e=>by cases e⟩
theorem Cf.loop {body:σ->Rd (Sum σ β)} (h:∀x,Cf P (body x)) {x:σ}:Cf P (.loop body x):=λs U=>
 Rd.U4 (λv s' e=>(et h x s U).2 v s' e) (λe s' he=>(et h x s U).1 e s' he)
structure MT (P:Aj->Prop) (L:E9):Prop where
 atom:Cf P L.atom
 exp:Cf P L.exp
 ops:Cf P L.ops
 decls:Cf P L.decls
 stmts:Cf P L.stmts
 alts:Cf P L.alts
 Ff:∀n,Cf P (L.Ff n)
 list:∀n,Cf P (L.list n)
end
section
attribute [local irreducible] Cf Rd.ret Rd.seq Rd.look Rd.loop Rd.fail Rd.Ee
theorem wR {α β:Type} {P:Aj->Prop} {it:β->Rd α} (h:∀l,Cf P (it l)) {l:β}:Cf P (it l):=h l
theorem kp {p:Prop} (h:p:=by repeat' (first|assumption|(with_reducible first|exact Cf.ret|exact Cf.fail|exact Cf.bad|exact Cf.take ‹_›|exact Cf.close ‹_›|exact Cf.Ee ‹_›|exact MT.Ff ‹_› _|exact MT.list ‹_› _|exact wR ‹_›)|refine Cf.look ?_|refine Cf.ite ?_ ?_|refine Cf.seq ?_ ?_|refine Cf.loop ?_|intro _)):p:=h
section
variable {α:Type} {P:Aj->Prop} {A B C D E F:Rd Nd} {L:E9}
theorem MC (N:Jz P) (U:MT P L) (hA:Cf P A):Cf P (Ji L A):=by
 obtain ⟨h1,h2,h3,h4,h5,h6,h7,h8⟩:=id U;exact kp
theorem KL (N:Jz P) (U:MT P L):Cf P (MX L):=by
 obtain ⟨h1,h2,h3,h4,h5,h6,h7,h8⟩:=id U;exact kp
theorem bM (N:Jz P) (U:Cf P A):Cf P (cz A):=kp
theorem wS (N:Jz P) (U:Cf P A) (hB:Cf P B):Cf P (gR A B):=kp
theorem VV (N:Jz P) (U:Cf P A) (hB:Cf P B) (hC:Cf P C):Cf P (Fz A B C n):=kp
theorem sB (N:Jz P) (U:Cf P A) (hB:Cf P B):Cf P (SE A B n):=kp
theorem sD (N:Jz P) (U:MT P L) (hA:Cf P A):Cf P (UT L A):=by
 obtain ⟨h1,h2,h3,h4,h5,h6,h7,h8⟩:=id U;exact kp
theorem mX (N:Jz P) (U:MT P L) (hA:Cf P A) (hB:Cf P B) {m:List UInt8}:Cf P (cL L A B m):=by
 obtain ⟨h1,h2,h3,h4,h5,h6,h7,h8⟩:=id U;exact kp
theorem wQ (N:Jz P) (hL:MT P L) (hA:Cf P A) (U:Cf P B) (hC:Cf P C):Cf P (fR L A B C):=by
 have:=mX N hL U hC (m:=[45,62])
 exact kp
theorem sA (N:Jz P) (hL:MT P L) (hA:Cf P A) (hB:Cf P B) (U:Cf P C) (hD:Cf P D) (hE:Cf P E):Cf P (Ui L A B C D E):=by
 have:=mX N hL U hD (m:=[61])
 exact kp
theorem ib (N:Jz P) {p:Tk->Bool} {it:List Nd->Rd Nd} (U:∀l,Cf P (it l)):Cf P (M7 p it):=kp
theorem ND (N:Jz P) {p:Tk->Bool} (U:Cf P A):Cf P (FV p A):=kp
theorem sE (N:Jz P) (U:Cf P A) (hB:Cf P B) (hC:Cf P C) (hD:Cf P D) (hE:Cf P E) (hF:Cf P F):Cf P (qd A B C D E F):=kp
end
section
attribute [local semireducible] Cf
variable {α:Type} {P:Aj->Prop} {A B C D E F:Rd Nd} {L:E9}
def KpO {β:Type} (P:Aj->Prop) (q:Sum (Int×Aj) (β×Aj)):Prop:=match q with| .inl p=>P p.2| .inr p=>P p.2
def TH (P:Aj->Prop) (A:Aj->Rs):Prop:=∀s,P s->KpO P (A s)
def zA (P:Aj->Prop) (q:Ls):Prop:=KpO P q
variable {X Y:Aj->Rs}
theorem PS (N:Jz P) (hs:P s) (h:Bq s k x=true) (U:k≠0):P (Ac s).2.1:=N.nx hs (F6 h U)
theorem NI (N:Jz P):TH P Db:=λs U=>by
 unfold Db
 split
 .exact N.nx U ‹_›
 .exact U
theorem Cf.of {hle:∀s v s',X s=.inr (v,s')->mu s'<=mu s} (h:TH P X):Cf P (JR X hle):=λs hs=>by
 have U:=h s hs
 unfold Rd.wp JR
 dsimp only
 cases e:X s with
 |inl p=>
  rw [e] at U
  have U:P p.2:=U
  dsimp only
  by_cases h:p.1=0
  .rw [dif_pos h];exact U
  .rw [dif_neg h];exact U
 |inr p=>rw [e] at U;exact U
theorem sC (hX:TH P X) (l:List Nd) (s:Aj) (hs:P s):zA P (Ha X l s):=by
 fun_induction Ha X l s with
 |case1 l s h1 e1 U=>have:=hX s hs;rw [U] at this;exact this
 |case2 l s h1 p U h3 ih=>have:=hX s hs;rw [U] at this;exact ih this
 |case3 l s h1 p U h3=>exact hs
 |case4 l s h1=>exact hs
theorem NH (hX:TH P X):TH P (Hb X):=λs hs=>by
 have U:=hX s hs
 unfold Hb
 cases e:X s with
 |inl p=>rw [e] at U;exact U
 |inr p=>
  rw [e] at U
  have h2:=sC hX [p.1] p.2 U
  dsimp only
  cases e2:Ha X [p.1] p.2 with
  |inl q=>rw [e2] at h2;exact h2
  |inr q=>rw [e2] at h2;dsimp only;split<;>exact h2
theorem sy (N:Jz P) (hX:TH P X) (l:List Nd) (s:Aj) (hs:P s):zA P (HD X l s):=by
 fun_induction HD X l s with
 |case1 l s U e1 h2=>have:=NH hX _ (PS N hs U Do);rw [h2] at this;exact this
 |case2 l s U p h2 h3 ih=>have:=NH hX _ (PS N hs U Do);rw [h2] at this;exact ih this
 |case3 l s U p h2 h3=>exact hs
 |case4 l s U=>exact hs
theorem Ss (N:Jz P) (hX:TH P X):TH P (Ek X n):=λs hs=>by
 have U:=sy N hX [n] s hs
 unfold Ek
 cases e:HD X [n] s with
 |inl q=>rw [e] at U;exact U
 |inr q=>rw [e] at U;dsimp only;split<;>exact U
theorem OS (N:Jz P) (hX:TH P X):TH P (EG X):=λs hs=>by
 have U:=NH hX s hs
 unfold EG
 cases e:Hb X s with
 |inl p=>rw [e] at U;exact U
 |inr p=>rw [e] at U;exact Ss N hX _ U
theorem mY (N:Jz P) (hX:TH P X):TH P (He X):=λs hs=>by
 have U:=NH hX s hs
 unfold He
 cases e:Hb X s with
 |inl p=>rw [e] at U;exact U
 |inr p=>
  rw [e] at U
  dsimp only
  by_cases h2:Bq p.2 10 [61,62]=true
  .have h3:=OS N hX _ (PS N U h2 Do)
   rw [if_pos h2]
   cases e2:EG X (Ac p.2).2.1 with
   |inl q=>rw [e2] at h3;exact h3
   |inr q=>rw [e2] at h3;exact h3
  .rw [if_neg h2];exact Ss N hX _ U
theorem ij (N:Jz P) (hY:TH P Y) (l:List Nd) (s:Aj) (hs:P s):zA P (CQ Y l s):=by
 fun_induction CQ Y l s with
 |case1 l s U e1 h2=>have:=hY _ (PS N hs U Do);rw [h2] at this;exact this
 |case2 l s U p h2 h3 ih=>have:=hY _ (PS N hs U Do);rw [h2] at this;exact ih this
 |case3 l s U p h2 h3=>exact hs
 |case4 l s U=>exact hs
theorem ic (N:Jz P) (l:List Nd) (s:Aj) (hs:P s):P (DV l s).2:=by
 fun_induction DV l s with
 |case1 l s U h2 ih=>exact ih (PS N hs U Do)
 |case2 l s U h2=>exact hs
 |case3 l s U=>exact hs
theorem NG (N:Jz P):TH P (λs=>IY k l s x):=λs hs=>by
 have U:=NI N s hs
 dsimp only
 unfold IY Md fY
 by_cases h:Bq s 15 x=true
 .rw [if_pos h]
  cases e:Db s with
  |inl q=>rw [e] at U;exact U
  |inr q=>rw [e] at U;exact U
 .rw [if_neg h];exact hs
theorem ik (N:Jz P) (hY:TH P Y):TH P (G9 Y):=λs hs=>by
 have U:=NI N s hs
 unfold G9
 cases e:Db s with
 |inl p=>rw [e] at U;exact U
 |inr p=>
  rw [e] at U
  dsimp only
  split
  .exact NG N _ (PS N U ‹_› Do)
  .split
   .exact NG N _ U
   .split
    .exact NG N _ (ic N _ _ U)
    .have h2:=hY p.2 U
     cases e2:Y p.2 with
     |inl q=>rw [e2] at h2;exact h2
     |inr q=>
      rw [e2] at h2
      dsimp only
      have h3:=ij N hY [p.1,q.1] q.2 h2
      cases e3:CQ Y [p.1,q.1] q.2 with
      |inl r=>rw [e3] at h3;exact h3
      |inr r=>rw [e3] at h3;exact NG N _ h3
theorem bO (N:Jz P) (hY:TH P Y):TH P (Fy Y):=λs hs=>by
 have U:=NI N s hs
 unfold Fy
 cases e:Db s with
 |inl p=>rw [e] at U;exact U
 |inr p=>
  rw [e] at U
  dsimp only
  split
  .exact PS N U ‹_› Do
  .have h2:=hY p.2 U
   cases e2:Y p.2 with
   |inl q=>rw [e2] at h2;exact h2
   |inr q=>rw [e2] at h2;exact NG N _ h2
theorem Su (N:Jz P) (hY:TH P Y):TH P (DP Y):=λs U=>by
 have h1:=NI N s U
 have h2:=ik N hY s U
 have h3:=bO N hY s U
 unfold DP fY
 split
 .split
  .split<;>assumption
  .exact h1
 .exact U
theorem Sv (N:Jz P):∀d,TH P (DT d)
 |0=>λs U=>U
 |d+1=>OS N (Su N (Sv N d))
theorem Sq (N:Jz P) (d:Nat):Cf P (KH d):=.of (mY N (Su N (Sv N _)))
theorem Lt (N:Jz P) (hF:Cf P A) (U:MT P L):Cf P (RT A L):=wS N (MC N U (KL N U)) hF
theorem NF (N:Jz P) (hF:Cf P A) (U:MT P L):Cf P (Od A L):=sD N U (Lt N hF U)
theorem YI (N:Jz P) (hF:Cf P A) (U:MT P L):Cf P (Uh A L):=sA N U (KL N U) (bM N (MC N U (KL N U))) (Lt N hF U) (NF N hF U) hF
theorem yH (N:Jz P) (hF:Cf P A) (U:MT P L):MT P (zZ A L):=
 have ho:=MC N U (KL N U)
 ⟨KL N U,Lt N hF U,bM N ho,ND N (YI N hF U),ND N (NF N hF U),ND N (wQ N U (bM N ho) (Lt N hF U) (NF N hF U)),λn=>VV N ho hF (Lt N hF U),λn=>sB N (Lt N hF U) (NF N hF U)⟩
theorem mW (N:Jz P):∀d,MT P (iC d)
 |0=>⟨Cf.fail,Cf.fail,Cf.fail,Cf.fail,Cf.fail,Cf.fail,λ_=>Cf.fail,λ_=>Cf.fail⟩
 |d+1=>yH N (Sq N _) (mW N d)
theorem YH (N:Jz P) (d:Nat):Cf P (Ug d):=YI N (Sq N _) (mW N _)
theorem ie (N:Jz P):∀d,Cf P (Vs d)
 |0=>Cf.fail
 |d+1=>ND N (YH N _)
theorem bN (N:Jz P) (d:Nat):Cf P (LJ d):=by
 have U:=Su N (Sv N (d - 1))
 have ht:=sE N (Cf.of (hle:=λs v s' h=>Nat.le_of_lt (BM (Bw _) _ _ _ h)) U) (Cf.of (hle:=λs v s' h=>Nat.le_of_lt (FH (BM (Bw _)) _ _ _ h)) (NH U)) (Cf.of (hle:=λs v s' h=>Nat.le_of_lt (GS (BM (Bw _)) _ _ _ h)) (OS N U)) (Sq N d) (YH N d) (ie N (d - 1))
 refine ib N λl=>?_
 have ht:Cf P (uk d):=ht
 exact kp
end
end
abbrev opT:Tk:=⟨15,[40],0,0⟩
abbrev yq:Tk:=⟨15,[41],0,0⟩
abbrev enT:Tk:=⟨21,[],0,0⟩
structure Pl (s:Aj):Prop where
 tk:∀t ∈ s.Ay,0<t.kind/\t.kind<16
 p0:0<=s.pos
 p1:s.pos<=s.Ay.length
 op:∀x ∈ s.DN,x=0
 wt:s.wait=0
def Lm (s:Aj):Aj:=⟨opT::(s.Ay++[yq]),s.pos+1,s.DN,s.wait⟩
theorem Pl.top (h:Pl s):G2 s=0:=by
 unfold G2
 cases e:s.DN.getLast? with
 |none=>rfl
 |some x=>exact h.op x (List.mem_of_getLast? e)
theorem eM {l:List Int} (h:∀x ∈ l,x=0):(l.any λx=>decide (x<0))=false:=by grind
theorem Pl.may (h:Pl s):LR s=true:=by
 unfold LR
 rw [h.wt,eM h.op,decide_eq_true h.p0,decide_eq_true h.p1];rfl
theorem Pl.zP (h:Pl s):LR (Lm s)=true:=by
 unfold LR Lm
 have U:=h.p0
 have h1:=h.p1
 dsimp only
 rw [h.wt,eM h.op,decide_eq_true (show (0:Int)<=s.pos+1 by omega),decide_eq_true (show s.pos+1<=((opT::(s.Ay++[yq])).length:Int) by grind)];rfl
theorem Pl.next (h:Pl s) (U:s.Ay[s.pos.toNat]? =some t):Ac s=CL t s:=by
 have hk:=h.tk t (List.mem_of_getElem? U)
 unfold Ac
 rw [if_pos h.may,Jg U h.p0,if_neg AC,if_neg AC]
theorem Pl.og (h:Pl s) (hk:t.kind≠16/\t.kind≠17) (U:(Lm s).Ay[(Lm s).pos.toNat]? =some t):Ac (Lm s)=CL t (Lm s):=by
 have h0:=h.p0
 unfold Ac
 rw [if_pos h.zP,Jg U (show (0:Int)<=s.pos+1 by omega),if_neg AC,if_neg AC]
theorem lU (U:0<=s.pos) (ht:s.Ay[s.pos.toNat]? =some t):(Lm s).Ay[(Lm s).pos.toNat]? =some t:=by
 unfold Lm
 grind
theorem rL (U:0<=s.pos) (h:s.pos=s.Ay.length):(Lm s).Ay[(Lm s).pos.toNat]? =some yq:=by
 unfold Lm
 simp_all
theorem Pl.yo (h:Pl s) (ht:s.Ay[s.pos.toNat]? =some t) (hz:(CL t s).2.2=0):Pl (CL t s).2.1:=by
 have hl:=(List.getElem?_eq_some_iff.1 ht).1
 have h0:=h.p0
 unfold CL at hz |-
 split
 .exact ⟨h.tk,by grind,by show s.pos+1<=(s.Ay.length:Int);omega,λx U=>by
   rcases List.mem_append.1 U with U|U
   .exact h.op x U
   simp_all,h.wt⟩
 .rename_i e1
  rw [if_neg e1] at hz
  split
  .rename_i e2
   rw [if_pos e2] at hz
   split
   .omega
   .exact ⟨h.tk,by grind,by show s.pos+1<=(s.Ay.length:Int);omega,λx U=>h.op x ((List.dropLast_sublist _).subset U),h.wt⟩
  .exact ⟨h.tk,by grind,by grind,h.op,h.wt⟩
theorem Ue:CL t (Lm s)=((CL t s).1,Lm (CL t s).2.1,(CL t s).2.2):=by
 unfold CL
 have e:G2 (Lm s)=G2 s:=rfl
 rw [e]
 by_cases U:t.kind=15/\t.text=[123]
 .rw [if_pos U,if_pos U];rfl
 .rw [if_neg U,if_neg U]
  by_cases h2:t.kind=15/\t.text=[125]
  .rw [if_pos h2,if_pos h2]
   by_cases h3:s.DN=[]\/G2 s≠0
   .rw [if_pos h3,if_pos (show (Lm s).DN=[]\/G2 s≠0 from h3)]
   .rw [if_neg h3,if_neg (show ¬((Lm s).DN=[]\/G2 s≠0) from h3)];rfl
  .rw [if_neg h2,if_neg h2];rfl
theorem Pl.cases (h:Pl s):(∃t,s.Ay[s.pos.toNat]? =some t)\/s.pos=s.Ay.length:=by
 have U:=h.p0
 have h1:=h.p1
 by_cases e:s.pos=s.Ay.length
 .omega
 .exact .inl ⟨_,List.getElem?_eq_getElem (show s.pos.toNat<s.Ay.length by omega)⟩
theorem Pl.fin (h:Pl s) (e:s.pos=s.Ay.length):(Ac s).1=enT\/(Ac s).1=fB:=by
 unfold Ac
 rw [if_pos h.may,OZ AC h.p0]
 unfold EY
 split
 .simp_all
 .rw [if_neg (by rw [h.top];decide)];simp_all
theorem Pl.zH (h:Pl s) (e:s.pos=s.Ay.length):Ac (Lm s)=(yq,{Lm s with pos:=(Lm s).pos+1},0):=by
 rw [h.og Do (rL h.p0 e)];rfl
theorem Pl.test {p:Tk->Bool} (h:Pl s) (hp:Tst p):p (Ac (Lm s)).1=p (Ac s).1:=by
 rcases h.cases with ⟨t,ht⟩|e
 .have hk:=h.tk t (List.mem_of_getElem? ht)
  rw [h.next ht,h.og AC (lU h.p0 ht),Ue]
 .rw [h.zH e]
  show p yq=_
  rw [hp.c]
  rcases h.fin e with U|U
  .rw [U];exact hp.e.symm
  .rw [U];exact hp.z.symm
theorem Pl.has {p:Tk->Bool} (h:Pl s) (hp:Tst0 p) (e:p (Ac s).1=true):∃t,s.Ay[s.pos.toNat]? =some t:=by
 rcases h.cases with U|U
 .exact U
 .rcases h.fin U with h2|h2
  .rw [h2,hp.e] at e;cases e
  .rw [h2,hp.z] at e;cases e
theorem Pl.go (h:Pl s) (U:s.Ay[s.pos.toNat]? =some t):Ac (Lm s)=((Ac s).1,Lm (Ac s).2.1,(Ac s).2.2)/\((Ac s).2.2=0->Pl (Ac s).2.1):=by
 have hk:=h.tk t (List.mem_of_getElem? U)
 rw [h.next U,h.og AC (lU h.p0 U)]
 exact ⟨Ue,h.yo U⟩
theorem Pl.is (h:Pl s) (hk:k≠0/\k≠21) (U:¬(k=15/\x=[41])):Bq (Lm s) k x=Bq s k x:=h.test (p:=λt=>t.kind==k&&t.text==x) (xV hk U)
theorem Pl.mu {s:Aj} (h:Pl s):mu (Lm s)=mu s+4:=by
 have U:=h.p0
 have h1:=h.p1
 unfold Proofs.Z.mu Lm
 grind
def Jy {α:Type} (X:α->Aj->Prop) (a b:Rd α) (s:Aj):Prop:=∀v s',a.run s=.inr (v,s')->Pl s'/\(X v s'\/b.run (Lm s)=.inr (v,Lm s'))
abbrev zp {α:Type} (a b:Rd α) (s:Aj):Prop:=Jy (λ_ _=>False) a b s
def Em {α:Type} (a:Rd α):Prop:=∀s,Pl s->zp a a s
def Rl (s:Aj):Prop:=∃t,s.Ay[s.pos.toNat]? =some t
def Fa {α:Type} (A:Rd α) (s:Aj):Prop:=Rd.wp A s (λ_ _=>False) (λ_ _=>True)
section
variable {α β σ:Type} {s:Aj} {X:α->Aj->Prop} {Y:β->Aj->Prop}
theorem Fa.no {A:Rd α} {v:α} (h:Fa A s) (e:A.run s=.inr (v,s')):False:=by
 unfold Fa Rd.wp at h
 simp_all
theorem Fa.of {A:Rd α} (h:∀v s',A.run s≠.inr (v,s')):Fa A s:=Rd.U4 (λv s' e=>h v s' e) (λ_ _ _=>trivial)
theorem Fa.seq {m:Rd α} {k:α->Rd β} (h:Fa m s):Fa (.seq m k) s:=by
 unfold Fa
 rw [Rd.wp_seq]
 exact Rd.wp_mono h (λ_ _ _ f=>f.elim) (λ_ _ _ _=>trivial)
theorem Jy.fa {A B:Rd α} (h:Fa A s):Jy X A B s:=λv s' e=>(h.no e).elim
theorem Jy.ret {v:α} (h:Pl s):Jy X (.ret v) (.ret v) s:=λw s' e=>by cases e;exact ⟨h,.inr rfl⟩
theorem Jy.fail {e:Er} {b:Rd α}:Jy X (.fail e) b s:=λw s' h=>by cases h
theorem Jy.Ee {t:Aj} {e:Er} {b:Rd α}:Jy X (.Ee t e) b s:=λw s' h=>by cases h
theorem Jy.bad {b:Rd α}:Jy X Ow b s:=λw s' h=>by cases h
theorem Jy.wk {a b:Rd α} (h:zp a b s):Jy X a b s:=λv s' e=>by
 obtain ⟨h1,U|U⟩:=h v s' e
 .simp_all
 simp_all
theorem Jy.zU {m m':Rd α} {k k':α->Rd β} (h:zp m m' s) (hk:∀v s',m.run s=.inr (v,s')->Pl s'->Jy Y (k v) (k' v) s'):Jy Y (.seq m k) (.seq m' k') s:=λv s' e=>by
 unfold Rd.seq at e |-
 dsimp only at e |-
 cases U:m.run s with
 |inl p=>simp_all
 |inr p=>
  rw [U] at e
  obtain ⟨h1,h2|h2⟩:=h p.1 p.2 U
  .simp_all
  .rw [h2]
   exact hk p.1 p.2 U h1 v s' e
theorem Jy.seq {m m':Rd α} {k U:α->Rd β} (h:zp m m' s) (hk:∀v s',Pl s'->Jy Y (k v) (U v) s'):Jy Y (.seq m k) (.seq m' U) s:=Jy.zU h λv s' _=>hk v s'
theorem Jy.look {f U:Aj->Rd α} (h:Jy X (f s) (U (Lm s)) s):Jy X (.look f) (.look U) s:=h
theorem Jy.ite {c U:Prop} [Decidable c] [Decidable U] {a b a' b':Rd α} (h:U↔c) (h1:c->Jy X a a' s) (h2:¬c->Jy X b b' s):Jy X (if c then a else b) (if U then a' else b') s:=by grind
theorem Jy.zY {p:Tk->Bool} {a b U b':Rd α} (h:Pl s) (hp:Tst p) (h1:Rl s->p (Ac s).1=true->Jy X a U s) (h2:Jy X b b' s):Jy X (if p (Ac s).1=true then a else b) (if p (Ac (Lm s)).1=true then U else b') s:=by
 rw [h.test hp]
 by_cases e:p (Ac s).1=true
 .rw [if_pos e,if_pos e];exact h1 (h.has hp.toTst0 e) e
 simp_all
theorem Jy.is {k:Int} {x:List UInt8} {a b U b':Rd α} (h:Pl s) (hk:k≠0/\k≠21) (hc:¬(k=15/\x=[41])) (h1:Rl s->Jy X a U s) (h2:Jy X b b' s):Jy X (if Bq s k x=true then a else b) (if Bq (Lm s) k x=true then U else b') s:=
 Jy.ite (by rw [h.is hk hc]) (λe=>h1 (h.has (p:=λt=>t.kind==k&&t.text==x) (XE hk) e)) λ_=>h2
theorem Pl.same (h:Pl s) (r:Rl s):(Ac (Lm s)).1=(Ac s).1:=by
 obtain ⟨t,U⟩:=r
 rw [(h.go U).1]
theorem Jy.loop {body:σ->Rd (Sum σ α)} (h:∀x s,Pl s->Jy (λr s1=>∃x',r=.inl x'/\Fa (.loop body x') s1) (body x) (body x) s) (x:σ):Em (.loop body x):=λs=>by
 show Pl s->∀v s',Rd.iter body x s=.inr (v,s')->Pl s'/\(False\/Rd.iter body x (Lm s)=.inr (v,Lm s'))
 fun_induction Rd.iter body x s with
 |case1 x s p h1=>simp_all
 |case2 x s y s1 h1=>
  intro hs v s' e
  cases e
  obtain ⟨h2,⟨x',U,_⟩|U⟩:=h x s hs _ _ h1
  .cases U
  .refine ⟨h2,.inr ?_⟩
   rw [Rd.iter,U]
 |case3 x s x' s1 h1 hlt ih=>
  intro hs v s' e
  obtain ⟨h2,⟨x2,U,h4⟩|U⟩:=h x s hs _ _ h1
  .cases U
   exact (h4.no (v:=v) (s':=s') e).elim
  .obtain ⟨h4,h5⟩:=ih h2 v s' e
   refine ⟨h4,?_⟩
   rw [Rd.iter,U]
   dsimp only
   rw [if_pos (by rw [hs.mu,h2.mu];omega)]
   exact h5
 |case4 x s x' s1 h1 hlt=>simp_all
theorem Jy.tk {X:Nd->Aj->Prop} (h:Pl s) (r:Rl s):Jy X AR AR s:=λv s' U=>by
 obtain ⟨t,ht⟩:=r
 obtain ⟨h1,h2⟩:=h.go ht
 by_cases hz:(Ac s).2.2=0
 .rw [C6 hz] at U
  cases U
  refine ⟨h2 hz,.inr ?_⟩
  rw [C6 i7,h1]
 .rw [Ju hz] at U;cases U
end
def mv (L:List Tk) (k:Int) (s:Aj):Aj:=⟨L,s.pos+k,s.DN,s.wait⟩
theorem Pl.end (h:Pl s) (e:s.pos=s.Ay.length):Ac s=if s.DN=[] then (enT,s,0) else (fB,s,90):=by
 unfold Ac
 rw [if_pos h.may,OZ AC h.p0]
 unfold EY
 split
 .rfl
 .rw [if_neg (by rw [h.top];decide)]
theorem Pl.at {l:List Tk} (h:Pl s) (U:s.Ay=l) {u:Tk} (hu:s.Ay[s.pos.toNat]? =some u):l[s.pos.toNat]? =some u:=U ▸ hu
def tz (t:Tk):Tk:=⟨t.kind,t.text,0,t.Cg⟩
def Mv (L:List Tk) (k:Nat) (s:Aj):Prop:=0<=s.pos/\L.map tz=(L.take k).map tz++s.Ay.map tz/\k<=L.length
section
variable {L:List Tk} {k:Nat} {s:Aj}
theorem Mv.len (h:Mv L k s):L.length=s.Ay.length+k:=by
 have:=congrArg List.length h.2.1
 rw [List.length_append,List.length_map,List.length_map,List.length_map,List.length_take] at this
 have:=h.2.2
 omega
theorem Mv.tk (h:Mv L k s):(L[(mv L k s).pos.toNat]?).map tz=(s.Ay[s.pos.toNat]?).map tz:=by
 have U:=h.1
 have hk:=h.2.2
 show (L[(s.pos+(k:Int)).toNat]?).map tz=_
 rw [<-List.getElem?_map,h.2.1,List.getElem?_append_right (by rw [List.length_map,List.length_take];omega),List.length_map,List.length_take,List.getElem?_map]
 congr 2
 omega
theorem Mv.go (h:Mv L k s) {p:Int} {o:List Int} {w:Int} (U:0<=p):Mv L k ⟨s.Ay,p,o,w⟩:=⟨U,h.2⟩
end
theorem er (l:List Tk):Jz (λs=>s.Ay=l/\0<=s.pos) where
 nx:=@λs U h=>by
  have hg:∀n (s:Aj),s.Ay=l/\0<=s.pos->(DQ n s).2.1.Ay=l/\0<=(DQ n s).2.1.pos:=by
   intro n
   induction n with
   |zero=>intro s U;rw [DQ];unfold EY;split;exact U;split<;>exact U
   |succ n ih=>
    intro s U
    have h0:=U.2
    have h1:0<=s.pos+1:=AC
    rw [DQ]
    split
    .unfold EY;split;exact U;split<;>exact U
    .split
     .unfold Gq;split;exact U;split;exact ⟨U.1,h1⟩;exact U
     .split
      .split
       .rename_i hz;rw [FB hz];exact ih _ ⟨U.1,h1⟩
       .unfold D7;split;exact U;split;exact ⟨U.1,h1⟩;exact ⟨U.1,h1⟩
      .unfold CL;split;exact ⟨U.1,h1⟩;split;split;exact U;exact ⟨U.1,h1⟩;exact ⟨U.1,h1⟩
  unfold Ac at h |-
  split
  .exact hg _ s U
  .rename_i hm;rw [if_neg hm] at h;cases h
 cl:=@λs U h=>by
  unfold CY at h |-
  split
  .exact U
  .rename_i hc;rw [if_neg hc] at h;cases h
def sX (s:List UInt8) (notes:List Nt) (q:Nd×Aj×Int):Nd×List Nt×Int×Int×Int:=
 if q.2.2=0 then (q.1,notes,0,0,0) else if (P8 q.2.1).1=0 then (q.1,[],(Cs s s.length).1,(Cs s s.length).2,q.2.2) else (q.1,[],(P8 q.2.1).1,(P8 q.2.1).2,q.2.2)
def Ej (s:List UInt8):Nd×List Nt×Int×Int×Int:=match GX s with
 | .inl q=>(Gg,[],(Cs s q.1.toNat).1,(Cs s q.1.toNat).2,q.2)
 | .inr x=>sX s x.notes (Ck ⟨Hg x.Ay,0,[],0⟩ 100 (De (Ga 100) ⟨Hg x.Ay,0,[],0⟩))
section
attribute [local irreducible] Cf Rd.ret Rd.seq Rd.look Rd.loop Rd.fail Rd.Ee
theorem ig {P:Aj->Prop} (N:Jz P):Cf P Lq:=kp
theorem Sr {P:Aj->Prop} (N:Jz P) (d:Nat):Cf P (Ga d):=by
 have U:=ig N
 have h2:=bN N d
 unfold Ga
 exact kp
end
theorem sZ {l:List Tk} {t:Aj} {e:Int} (h:Ck ⟨l,0,[],0⟩ 100 (De (Ga 100) ⟨l,0,[],0⟩)=(n,t,e)):t.Ay=l/\0<=t.pos:=by
 unfold Ck at h
 rw [if_neg Do] at h
 unfold De at h
 cases U:(Ga 100).run ⟨l,0,[],0⟩ with
 |inl p=>
  rw [U] at h
  cases h
  exact (Sr (er l) 100).inl ⟨rfl,Int.le_refl _⟩ U
 |inr p=>
  rw [U] at h
  cases h
  exact (Sr (er l) 100).inr ⟨rfl,Int.le_refl _⟩ U
section
variable {st:St} {R:Au->St->Prop}
attribute [local irreducible] Go.Aw.Am
theorem S0 {b1 b3 b4 b5 b6 b7 n:Nat} {s:List UInt8} {e l c:Int} {w:AE} {es:List (List V)} {U:St->Prop} (hl:s.length<=16000) (hn:n<=s.length) (k6:st.box b6=some [.int .i64 e]) (k4:st.box b4=some [.int .i64 l]) (k1:st.box b1=some [.str s]) (k7:st.box b7=some [.int .i64 (n:Int)]) (k5:st.box b5=some [.int .i64 c]) (k3:st.box b3=some [.slice 5 es w])
 (n45:b4≠b5) (n43:b4≠b3) (n53:b5≠b3) (h0:e=0\/l≠0->U st) (h1:e≠0->l=0->U (((st.Aa b4 [.int .i64 (Cs s n).1]).Aa b5 [.int .i64 (Cs s n).2]).Aa b3 [.slice 5 [] .full])):
 HC Tryz.prog 38 [.ptr b6 0,.ptr b4 0,.ptr b1 0,.ptr b7 0,.ptr b5 0,.ptr b3 0] none st U:=by
 refine Vp Ab [] Tryz.func38 rfl rfl ?_
 have hof:∀{st:St} {R:Au->St->Prop},R (.ret (.Bp [.int .i64 (Cs s n).1,.int .i64 (Cs s n).2,.int .i64 0])) st->PC 39 [.str s,.int .i64 (n:Int)] st R:=λh=>yW AC hn h
 have k5':∀D,(st.Aa b4 D).box b5=some [.int .i64 c]:=λD=>by rw [St.Ak n45];exact k5
 have k3':∀D E,((st.Aa b4 D).Aa b5 E).box b3=some [.slice 5 es w]:=λD E=>by rw [St.Ak n53,St.Ak n43];exact k3
 refine Ai Ab ?_
 repeat' ((conv=>whnf);first|(refine AA ?_;intros)|(refine AB ?_ ?_<;>intro _)|refine B2 (λ_=>?_) ?_|refine hof ?_|refine An k6 ?_|refine An k4 ?_|refine An k1 ?_|refine An k7 ?_|refine An (k5' _) ?_|refine An (k3' _ _) ?_)
 all_goals conv=>whnf
 all_goals first|exact h1 ‹_› ‹_›|exact h1 AC (by omega)|exact h0 AC
theorem sY {s:List UInt8} {l:List Nt} {t:Aj}:sX s l (n,t,0)=(n,l,0,0,0):=if_pos rfl
structure PN (b1 b3 b4 b5 b6 b7:Nat):Prop where
 n13:b1≠b3
 n14:b1≠b4
 n15:b1≠b5
 n16:b1≠b6
 n17:b1≠b7
 n34:b3≠b4
 n35:b3≠b5
 n36:b3≠b6
 n37:b3≠b7
 n45:b4≠b5
 n46:b4≠b6
 xc:b4≠b7
 ya:b5≠b6
 xd:b5≠b7
 xe:b6≠b7
structure PB (st0 st:St) (b1 b3 b4 b5 b6 b7:Nat) (s:List UInt8) (es:List (List V)) (w:AE) (l c e n:Int):Prop where
 k1:st.box b1=some [.str s]
 k3:st.box b3=some [.slice 5 es w]
 k4:st.box b4=some [.int .i64 l]
 k5:st.box b5=some [.int .i64 c]
 k6:st.box b6=some [.int .i64 e]
 k7:st.box b7=some [.int .i64 n]
 le:st0.le st
 f3:st0.box b3=none
 f4:st0.box b4=none
 f5:st0.box b5=none
 f6:st0.box b6=none
 f7:st0.box b7=none
section
variable {st0 st st':St} {b1 b3 b4 b5 b6 b7:Nat} {s:List UInt8} {es:List (List V)} {w:AE} {l c e n:Int}
theorem PB.mono (h:PB st0 st b1 b3 b4 b5 b6 b7 s es w l c e n) (k:st.le st'):PB st0 st' b1 b3 b4 b5 b6 b7 s es w l c e n:=⟨k.1 _ _ h.k1,k.1 _ _ h.k3,k.1 _ _ h.k4,k.1 _ _ h.k5,k.1 _ _ h.k6,k.1 _ _ h.k7,St.le_trans h.le k,h.f3,h.f4,h.f5,h.f6,h.f7⟩
theorem PB.s3 (h:PB st0 st b1 b3 b4 b5 b6 b7 s es w l c e n) (N:PN b1 b3 b4 b5 b6 b7) {es2:List (List V)} {w2:AE}:PB st0 (st.Aa b3 [.slice 5 es2 w2]) b1 b3 b4 b5 b6 b7 s es2 w2 l c e n:=⟨by rw [St.Ak N.n13.symm];exact h.k1,St.Ah ..,by rw [St.Ak N.n34];exact h.k4,by rw [St.Ak N.n35];exact h.k5,by rw [St.Ak N.n36];exact h.k6,by rw [St.Ak N.n37];exact h.k7,St.Af h.le h.f3 _,h.f3,h.f4,h.f5,h.f6,h.f7⟩
theorem PB.s4 (h:PB st0 st b1 b3 b4 b5 b6 b7 s es w l c e n) (N:PN b1 b3 b4 b5 b6 b7) {x:Int}:PB st0 (st.Aa b4 [.int .i64 x]) b1 b3 b4 b5 b6 b7 s es w x c e n:=⟨by rw [St.Ak N.n14.symm];exact h.k1,by rw [St.Ak N.n34.symm];exact h.k3,St.Ah ..,by rw [St.Ak N.n45];exact h.k5,by rw [St.Ak N.n46];exact h.k6,by rw [St.Ak N.xc];exact h.k7,St.Af h.le h.f4 _,h.f3,h.f4,h.f5,h.f6,h.f7⟩
theorem PB.s5 (h:PB st0 st b1 b3 b4 b5 b6 b7 s es w l c e n) (N:PN b1 b3 b4 b5 b6 b7) {x:Int}:PB st0 (st.Aa b5 [.int .i64 x]) b1 b3 b4 b5 b6 b7 s es w l x e n:=⟨by rw [St.Ak N.n15.symm];exact h.k1,by rw [St.Ak N.n35.symm];exact h.k3,by rw [St.Ak N.n45.symm];exact h.k4,St.Ah ..,by rw [St.Ak N.ya];exact h.k6,by rw [St.Ak N.xd];exact h.k7,St.Af h.le h.f5 _,h.f3,h.f4,h.f5,h.f6,h.f7⟩
theorem PB.s6 (h:PB st0 st b1 b3 b4 b5 b6 b7 s es w l c e n) (N:PN b1 b3 b4 b5 b6 b7) {x:Int}:PB st0 (st.Aa b6 [.int .i64 x]) b1 b3 b4 b5 b6 b7 s es w l c x n:=⟨by rw [St.Ak N.n16.symm];exact h.k1,by rw [St.Ak N.n36.symm];exact h.k3,by rw [St.Ak N.n46.symm];exact h.k4,by rw [St.Ak N.ya.symm];exact h.k5,St.Ah ..,by rw [St.Ak N.xe];exact h.k7,St.Af h.le h.f6 _,h.f3,h.f4,h.f5,h.f6,h.f7⟩
theorem PB.s7 (h:PB st0 st b1 b3 b4 b5 b6 b7 s es w l c e n) (N:PN b1 b3 b4 b5 b6 b7) {x:Int}:PB st0 (st.Aa b7 [.int .i64 x]) b1 b3 b4 b5 b6 b7 s es w l c e x:=⟨by rw [St.Ak N.n17.symm];exact h.k1,by rw [St.Ak N.n37.symm];exact h.k3,by rw [St.Ak N.xc.symm];exact h.k4,by rw [St.Ak N.xd.symm];exact h.k5,by rw [St.Ak N.xe.symm];exact h.k6,St.Ah ..,St.Af h.le h.f7 _,h.f3,h.f4,h.f5,h.f6,h.f7⟩
end
noncomputable def tD:List Oper:=match Tryz.f16.body with|some (.seq _ (.seq _ (.seq _ (.seq _ (.seq (.seq _ (.cond _ (.seq _ (.seq (.region _ ops _) _)) _)) _)))))=>ops.toList|_=>[]
noncomputable def tE:List Oper:=match Tryz.f16.body with|some (.seq _ (.seq _ (.seq _ (.seq _ (.seq _ (.seq _ (.seq (.seq _ (.cond _ (.seq (.region _ ops _) _) _)) _)))))))=>ops.toList|_=>[]
noncomputable def oN:List Oper:=match Tryz.f16.body with|some (.seq _ (.seq _ (.seq _ (.seq _ (.seq _ (.seq _ (.seq _ (.seq _ (.seq (.region _ ops _) _)))))))))=>ops.toList|_=>[]
noncomputable def xp (nx:Nat) (ops:List Oper) (vs:List V) (b3 b4 b5 b6:Nat) (U:List V) (bs:List Bool):Env:=
 {tmps:=GZ [(2,.BO 0 0),(3,.ptr b3 0),(4,.ptr b4 0),(5,.ptr b5 0),(6,.ptr b6 0)] ops vs bs,boxes:=[(0,U)],Bs:=nx,sz:=63,gl:=[1,3,4,5,6,7]}
def oO:List (List Bool×Nat):=[([false,false,false,false,false,false,false],0),([false,false,false,false,false,false,false],1),([true,false,false,false,false,false,false],1),([true,false,false,false,false,false,false],2),([false,true,false,false,false,false,false],0),([true,true,false,false,false,false,false],2),([true,false,true,false,false,false,false],1),([true,false,true,false,false,false,false],3),([true,true,true,false,false,false,false],3),([true,false,true,true,false,false,false],1),([true,false,true,true,false,false,false],4),([true,true,true,true,false,false,false],4),([true,false,true,true,true,false,false],1),([true,false,true,true,true,false,false],5),([true,true,true,true,true,false,false],5),([true,false,true,true,true,true,false],1),([true,true,true,true,true,true,false],6)]
def oP:List (List Bool×Nat):=[([false,false,false,false,false,false,false,false],0),([false,false,false,false,false,false,false,false],1),([false,false,false,false,false,false,false,false],2),([true,false,false,false,false,false,false,false],1),([true,false,false,false,false,false,false,false],2),([true,false,false,false,false,false,false,false],3),([false,true,false,false,false,false,false,false],0),([false,true,false,false,false,false,false,false],2),([false,false,true,false,false,false,false,false],0),([false,false,true,false,false,false,false,false],1),([true,true,false,false,false,false,false,false],2),([true,true,false,false,false,false,false,false],3),([true,false,true,false,false,false,false,false],1),([true,false,true,false,false,false,false,false],3),([true,false,false,true,false,false,false,false],1),([true,false,false,true,false,false,false,false],2),([false,true,true,false,false,false,false,false],0),([true,true,true,false,false,false,false,false],3),([true,true,false,true,false,false,false,false],2),([true,true,false,true,false,false,false,false],4),([true,false,true,true,false,false,false,false],1),([true,true,true,true,false,false,false,false],4),([true,true,false,true,true,false,false,false],2),([true,true,false,true,true,false,false,false],5),([true,true,true,true,true,false,false,false],5),([true,true,false,true,true,true,false,false],2),([true,true,false,true,true,true,false,false],6),([true,true,true,true,true,true,false,false],6),([true,true,false,true,true,true,true,false],2),([true,true,true,true,true,true,true,false],7)]
def eW:List (List Bool×Nat):=[([false,false,false,false,false,false,false,false,false],0),([false,false,false,false,false,false,false,false,false],1),([false,false,false,false,false,false,false,false,false],2),([false,false,false,false,false,false,false,false,false],3),([true,false,false,false,false,false,false,false,false],1),([true,false,false,false,false,false,false,false,false],2),([true,false,false,false,false,false,false,false,false],3),([true,false,false,false,false,false,false,false,false],4),([false,true,false,false,false,false,false,false,false],0),([false,true,false,false,false,false,false,false,false],2),([false,true,false,false,false,false,false,false,false],3),([false,false,true,false,false,false,false,false,false],0),([false,false,true,false,false,false,false,false,false],1),([false,false,true,false,false,false,false,false,false],3),([false,false,false,true,false,false,false,false,false],0),([false,false,false,true,false,false,false,false,false],1),([false,false,false,true,false,false,false,false,false],2),([true,true,false,false,false,false,false,false,false],2),([true,true,false,false,false,false,false,false,false],3),([true,true,false,false,false,false,false,false,false],4),([true,false,true,false,false,false,false,false,false],1),([true,false,true,false,false,false,false,false,false],3),([true,false,true,false,false,false,false,false,false],4),([true,false,false,true,false,false,false,false,false],1),([true,false,false,true,false,false,false,false,false],2),([true,false,false,true,false,false,false,false,false],4),([true,false,false,false,true,false,false,false,false],1),([true,false,false,false,true,false,false,false,false],2),([true,false,false,false,true,false,false,false,false],3),([true,false,false,false,true,false,false,false,false],5),([false,true,true,false,false,false,false,false,false],0),([false,true,true,false,false,false,false,false,false],3),([false,true,false,true,false,false,false,false,false],0),([false,true,false,true,false,false,false,false,false],2),([false,false,true,true,false,false,false,false,false],0),([false,false,true,true,false,false,false,false,false],1),([true,true,true,false,false,false,false,false,false],3),([true,true,true,false,false,false,false,false,false],4),([true,true,false,true,false,false,false,false,false],2),([true,true,false,true,false,false,false,false,false],4),([true,true,false,false,true,false,false,false,false],2),([true,true,false,false,true,false,false,false,false],3),([true,true,false,false,true,false,false,false,false],5),([true,false,true,true,false,false,false,false,false],1),([true,false,true,true,false,false,false,false,false],4),([true,false,true,false,true,false,false,false,false],1),([true,false,true,false,true,false,false,false,false],3),([true,false,true,false,true,false,false,false,false],5),([true,false,false,true,true,false,false,false,false],1),([true,false,false,true,true,false,false,false,false],2),([true,false,false,true,true,false,false,false,false],5),([true,false,false,false,true,true,false,false,false],1),([true,false,false,false,true,true,false,false,false],2),([true,false,false,false,true,true,false,false,false],3),([false,true,true,true,false,false,false,false,false],0),([true,true,true,true,false,false,false,false,false],4),([true,true,true,false,true,false,false,false,false],3),([true,true,true,false,true,false,false,false,false],5),([true,true,false,true,true,false,false,false,false],2),([true,true,false,true,true,false,false,false,false],5),([true,true,false,false,true,true,false,false,false],2),([true,true,false,false,true,true,false,false,false],3),([true,true,false,false,true,true,false,false,false],6),([true,false,true,true,true,false,false,false,false],1),([true,false,true,true,true,false,false,false,false],5),([true,false,true,false,true,true,false,false,false],1),([true,false,true,false,true,true,false,false,false],3),([true,false,false,true,true,true,false,false,false],1),([true,false,false,true,true,true,false,false,false],2),([true,true,true,true,true,false,false,false,false],5),([true,true,true,false,true,true,false,false,false],3),([true,true,true,false,true,true,false,false,false],6),([true,true,false,true,true,true,false,false,false],2),([true,true,false,true,true,true,false,false,false],6),([true,true,false,false,true,true,true,false,false],2),([true,true,false,false,true,true,true,false,false],3),([true,false,true,true,true,true,false,false,false],1),([true,true,true,true,true,true,false,false,false],6),([true,true,true,false,true,true,true,false,false],3),([true,true,true,false,true,true,true,false,false],7),([true,true,false,true,true,true,true,false,false],2),([true,true,true,true,true,true,true,false,false],7),([true,true,true,false,true,true,true,true,false],3),([true,true,true,true,true,true,true,true,false],8)]
def xq (st:St) (b3:Nat) (bs:List Bool):St:=match bs[5]? with
 |some true=>st.Aa b3 [.slice 5 [] .full]
 |_=>st
theorem tC {s:List UInt8} (hl:s.length<=16000) (h:∀w st',st.le st'->R (.ret (.Bp [enc (Ej s).1,.slice 5 (GR (Ej s).2.1) w,.int .i64 (Ej s).2.2.1,.int .i64 (Ej s).2.2.2.1,.int .i64 (Ej s).2.2.2.2])) st'):PC 16 [.str s] st R:=by
 refine Ba.ends (JX Ab [1,3,4,5,6,7] Tryz.func16 rfl Do rfl rfl rfl rfl rfl rfl ⟨_,Tryz.func38,rfl,Do⟩ rfl ?_)
 repeat' ((conv=>whnf);first|exact BH|(refine AA ?_;intros)|(refine BI ?_ ?_ ?_;rotate_left)|(refine AB ?_ ?_<;>intro _)|refine B2 (λ_=>?_) ?_|refine DZ (λb6 f6=>?_)|with_reducible refine WF ?_)
 rename_i b1 f1 b3 f3 b4 f4 b5 f5
 obtain ⟨n13,f3a⟩:=AX f3
 obtain ⟨n34,f4a⟩:=AX f4
 obtain ⟨n14,f4b⟩:=AX f4a
 obtain ⟨n45,f5a⟩:=AX f5
 obtain ⟨n35,f5b⟩:=AX f5a
 obtain ⟨n15,f5c⟩:=AX f5b
 obtain ⟨ya,f6a⟩:=AX f6
 obtain ⟨n46,f6b⟩:=AX f6a
 obtain ⟨n36,f6c⟩:=AX f6b
 obtain ⟨n16,f6d⟩:=AX f6c
 have g1:(((((st.Aa b1 [.str s]).Aa b3 [.slice 5 [] .full]).Aa b4 [.int .i64 0]).Aa b5 [.int .i64 0]).Aa b6 [.int .i64 0]).box b1=some [.str s]:=by rw [St.Ak n16.symm,St.Ak n15.symm,St.Ak n14.symm,St.Ak n13.symm,St.Ah]
 repeat' ((conv=>whnf);first|exact BH|(refine AA ?_;intros)|(refine BI ?_ ?_ ?_;rotate_left)|(refine AB ?_ ?_<;>intro _)|refine B2 (λ_=>?_) ?_|refine An g1 ?_|refine WJ (λ_=>?_)|refine DZ (λb7 f7=>?_)|refine An (St.Ah ..) ?_|with_reducible refine WF ?_)
 obtain ⟨xe,f7a⟩:=AX f7
 obtain ⟨xd,f7b⟩:=AX f7a
 obtain ⟨xc,f7c⟩:=AX f7b
 obtain ⟨n37,f7d⟩:=AX f7c
 obtain ⟨n17,f7e⟩:=AX f7d
 have N:PN b1 b3 b4 b5 b6 b7:=⟨n13,n14,n15,n16,n17,n34,n35,n36,n37,n45,n46,xc,ya,xd,xe⟩
 conv=>whnf
 refine ⟨rfl,AH rfl ?_⟩
 generalize hst7:St.Aa _ b7 [V.int .i64 (s.length:Int)]=st7
 have H:PB st st7 b1 b3 b4 b5 b6 b7 s [] .full 0 0 0 s.length:=by
  subst hst7
  refine ⟨?_,?_,?_,?_,?_,St.Ah ..,?_,f3a.1,f4b.1,f5c.1,f6d.1,f7e.1⟩
  .rw [St.Ak n17.symm,St.Ak n17.symm];exact g1
  .rw [St.Ak n37.symm,St.Ak n37.symm,St.Ak n36.symm,St.Ak n35.symm,St.Ak n34.symm,St.Ah]
  .rw [St.Ak xc.symm,St.Ak xc.symm,St.Ak n46.symm,St.Ak n45.symm,St.Ah]
  .rw [St.Ak xd.symm,St.Ak xd.symm,St.Ak ya.symm,St.Ah]
  .rw [St.Ak xe.symm,St.Ak xe.symm,St.Ah]
  .exact St.Af (St.Af (St.Af (St.Af (St.Af (St.Af (St.Af (St.le_refl _) f1.1 _) f3a.1 _) f4b.1 _) f5c.1 _) f6d.1 _) f7e.1 _) f7e.1 _
 clear hst7 f1 f3 f3a f4 f4a f4b f5 f5a f5b f5c f6 f6a f6b f6c f6d f7 f7a f7b f7c f7d f7e g1 n13 n14 n15 n16 n17 n34 n35 n36 n37 n45 n46 xc ya xd xe
 cases hx:GX s with
 |inl q=>
  obtain ⟨i,e⟩:=q
  have he:=nw hx
  obtain ⟨hi0,hi1⟩:=sL hx
  obtain ⟨m,rfl⟩:∃m:Nat,i=m:=⟨i.toNat,AC⟩
  have hp:Ej s=(Gg,[],(Cs s m).1,(Cs s m).2,e):=by unfold Ej;rw [hx];rfl
  rw [hp] at h
  refine Ag (Ai Ab ?_)
  repeat' ((conv=>whnf);first|exact BH|(refine AA ?_;intros)|(refine BI ?_ ?_ ?_;rotate_left)|(refine AB ?_ ?_<;>intro _)|refine B2 (λ_=>?_) ?_|refine An H.k1 ?_|refine yM hx (λst1 hle1=>?_)|refine An (H.mono hle1).k3 ?_|refine An ((H.mono hle1).s3 N).k6 ?_|with_reducible refine WF ?_)
  have H8:=((H.mono hle1).s3 N (es2:=[]) (w2:=.full)).s6 N (x:=e)
  have U:=H8.s7 N (x:=(m:Int))
  refine Ag (Ag (Ai Ab ?_))
  repeat' ((conv=>whnf);first|exact BH|(refine AA ?_;intros)|(refine BI ?_ ?_ ?_;rotate_left)|(refine AB ?_ ?_<;>intro _)|refine B2 (λ_=>?_) ?_|refine An H8.k6 ?_|with_reducible refine WF ?_)
  refine U5 true rfl ?_
  rw [if_pos rfl]
  refine Ag (Ai Ab ?_)
  repeat' ((conv=>whnf);first|exact BH|(refine AA ?_;intros)|(refine BI ?_ ?_ ?_;rotate_left)|(refine AB ?_ ?_<;>intro _)|refine B2 (λ_=>?_) ?_|refine An H8.k7 ?_|with_reducible refine WF ?_)
  refine Ag (Ou Ab (BF _) (xp 1 tD [.agg CD,.int .i64 e,.BE,.BE,.BE,.BE,.BE] b3 b4 b5 b6 CD) (λ_=>_) oO GE Yl (St.le_refl _) ?_ ?_)
  .unfold oO
   repeat' (first|refine List.forall_mem_cons.2 ⟨?_,?_⟩|exact λ_ h=>nomatch h)
   repeat' ((conv=>whnf);first|exact BH|(refine AA ?_;intros)|(refine BI ?_ ?_ ?_;rotate_left)|(refine AB ?_ ?_<;>intro _)|refine B2 (λ_=>?_) ?_|refine An U.k6 ?_|refine An U.k3 ?_|refine An U.k4 ?_|refine An U.k5 ?_|with_reducible refine WF ?_)
   all_goals conv=>whnf
   all_goals (refine ⟨Yl,?_⟩)
   all_goals first|exact St.le_refl _|exact EM U.k3|exact EM U.k4|exact EM U.k5|exact EM U.k6
  .have H10:=((U.s4 N (x:=(Cs s m).1)).s5 N (x:=(Cs s m).2)).s3 N (es2:=[]) (w2:=.full)
   refine Ai Ab (S0 hl AC U.k6 U.k4 U.k1 U.k7 U.k5 U.k3 N.n45 N.n34.symm N.n35.symm (λh=>h.elim (λh=>absurd h he) (λh=>absurd rfl h)) (λ_ _=>?_))
   repeat' ((conv=>whnf);first|exact BH|(refine AA ?_;intros)|(refine BI ?_ ?_ ?_;rotate_left)|(refine AB ?_ ?_<;>intro _)|refine B2 (λ_=>?_) ?_|refine An H10.k3 ?_|refine An H10.k4 ?_|refine An H10.k5 ?_|refine An H10.k6 ?_|with_reducible refine WF ?_)
   all_goals exact AY rfl (h .any _ H10.le)
 |inr x=>
  have hlen:=(ny hx).1
  have hmk:=iG x.Ay
  obtain ⟨n,t,e,hc⟩:∃n t e,Ck ⟨Hg x.Ay,0,[],0⟩ 100 (De (Ga 100) ⟨Hg x.Ay,0,[],0⟩)=(n,t,e):=⟨_,_,_,rfl⟩
  have hp:Ej s=sX s x.notes (n,t,e):=by unfold Ej;rw [hx];dsimp only;rw [hc]
  obtain ⟨htk,hpos⟩:=sZ hc
  have hmu:mu ⟨Hg x.Ay,0,[],0⟩<=100000000:=by unfold mu;simp only [List.length_nil];omega
  have hmod:∀{st:St} {R:Au->St->Prop},R (.ret (RN n t e)) st->PC 40 [.agg [.slice 4 (AV (Hg x.Ay)) .any,.int .i64 0,.slice 1 [] .full,.int .i64 0],.int .i64 100] st R:=λh=>FL (args':=[DD ⟨Hg x.Ay,0,[],0⟩,.int .i64 100]) rfl (jY hmu (by rw [show DW 100=100 from rfl,hc];exact h))
  have hok:=nA AC hx
  refine Ag (Ai Ab ?_)
  repeat' ((conv=>whnf);first|exact BH|(refine AA ?_;intros)|(refine BI ?_ ?_ ?_;rotate_left)|(refine AB ?_ ?_<;>intro _)|refine B2 (λ_=>?_) ?_|refine An H.k1 ?_|refine yN hx (λw1 w2 st1 hle1=>?_)|refine An (H.mono hle1).k3 ?_|refine An ((H.mono hle1).s3 N).k6 ?_|with_reducible refine WF ?_)
  have H8:=((H.mono hle1).s3 N (es2:=GR x.notes) (w2:=w2)).s6 N (x:=0)
  refine Ag (Ai Ab ?_)
  repeat' ((conv=>whnf);first|exact BH|(refine AA ?_;intros)|(refine BI ?_ ?_ ?_;rotate_left)|(refine AB ?_ ?_<;>intro _)|refine B2 (λ_=>?_) ?_|refine An H8.k6 ?_|with_reducible refine WF ?_)
  refine Ag (Ai Ab ?_)
  repeat' ((conv=>whnf);first|exact BH|(refine AA ?_;intros)|(refine BI ?_ ?_ ?_;rotate_left)|(refine AB ?_ ?_<;>intro _)|refine B2 (λ_=>?_) ?_|refine sW hok AC ?_|refine hmod ?_|refine An H8.k6 ?_|with_reducible refine WF ?_)
  have U:=H8.s6 N (x:=e)
  by_cases he:e=0
  .subst he
   have hp2:Ej s=(n,x.notes,0,0,0):=hp.trans sY
   rw [hp2] at h
   refine Ag (Ag (Ai Ab ?_))
   repeat' ((conv=>whnf);first|exact BH|(refine AA ?_;intros)|(refine BI ?_ ?_ ?_;rotate_left)|(refine AB ?_ ?_<;>intro _)|refine B2 (λ_=>?_) ?_|refine An U.k6 ?_|with_reducible refine WF ?_)
   refine U5 true rfl ?_
   rw [if_pos rfl]
   refine Ag (Ou Ab (BF _) (xp 2 tE [.agg (Ax n),.slice 5 (GR x.notes) w2,.int .i64 0,.BE,.BE,.BE,.BE,.BE] b3 b4 b5 b6 (Ax n)) (λ_=>_) oP GE Yl (St.le_refl _) ?_ ?_)
   .unfold oP
    repeat' (first|refine List.forall_mem_cons.2 ⟨?_,?_⟩|exact λ_ h=>nomatch h)
    repeat' ((conv=>whnf);first|exact BH|(refine AA ?_;intros)|(refine BI ?_ ?_ ?_;rotate_left)|(refine AB ?_ ?_<;>intro _)|refine B2 (λ_=>?_) ?_|refine An U.k6 ?_|refine An U.k3 ?_|refine An U.k4 ?_|refine An U.k5 ?_|with_reducible refine WF ?_)
    all_goals conv=>whnf
    all_goals (refine ⟨Yl,?_⟩)
    all_goals first|exact St.le_refl _|exact EM U.k3|exact EM U.k4|exact EM U.k5|exact EM U.k6
   .refine Ai Ab (S0 hl (Nat.le_refl _) U.k6 U.k4 U.k1 U.k7 U.k5 U.k3 N.n45 N.n34.symm N.n35.symm (λ_=>?_) (λh=>absurd rfl h))
    repeat' ((conv=>whnf);first|exact BH|(refine AA ?_;intros)|(refine BI ?_ ?_ ?_;rotate_left)|(refine AB ?_ ?_<;>intro _)|refine B2 (λ_=>?_) ?_|refine An U.k3 ?_|refine An U.k4 ?_|refine An U.k5 ?_|refine An U.k6 ?_|with_reducible refine WF ?_)
    all_goals exact AY rfl (h .any _ U.le)
  .refine Ag (Ai Ab ?_)
   repeat' ((conv=>whnf);first|exact BH|(refine AA ?_;intros)|(refine BI ?_ ?_ ?_;rotate_left)|(refine AB ?_ ?_<;>intro _)|refine B2 (λ_=>?_) ?_|refine An U.k6 ?_|with_reducible refine WF ?_)
   refine FT (α:=Int×Int×St) (λ_=>[]) (λ_=>[]) [2,3,4,5,6] [0] (λp=>p.2.2) (λp=>PB st p.2.2 b1 b3 b4 b5 b6 b7 s (GR x.notes) w2 p.1 p.2.1 e s.length/\P8 t=(p.1,p.2.1)) (Ai Ab ?_) ?_
   .by_cases hlt:t.pos<(t.Ay.length:Int)
    .obtain ⟨u,hu⟩:∃u,t.Ay[t.pos.toNat]? =some u:=⟨_,List.getElem?_eq_getElem AC⟩
     have hs:P8 t=(u.line,u.Cg):=by unfold P8;rw [if_pos hlt,hu]
     have H11:=(U.s4 N (x:=u.line)).s5 N (x:=u.Cg)
     repeat' ((conv=>whnf);first|exact BH|(refine AA ?_;intros)|(refine BI ?_ ?_ ?_;rotate_left)|(refine AB ?_ ?_<;>intro _)|refine B2 (λ_=>?_) ?_|refine Wz (λ_=>?_)|refine WB hu AC ?_|refine An U.k4 ?_|refine An (U.s4 N).k5 ?_|refine Ad [(0,true),(1,true),(2,true),(3,true),(4,true),(5,true),(6,true),(7,true),(8,true),(9,true),(10,true),(11,true),(12,true),(13,true),(14,false),(15,false)] [] GE ?_|with_reducible refine WF ?_)
     all_goals exact ⟨(u.line,u.Cg,_),⟨H11,hs⟩,Yl,St.le_refl _⟩
    .have hs:P8 t=(0,0):=by unfold P8;rw [if_neg hlt]
     repeat' ((conv=>whnf);first|exact BH|(refine AA ?_;intros)|(refine BI ?_ ?_ ?_;rotate_left)|(refine AB ?_ ?_<;>intro _)|refine B2 (λ_=>?_) ?_|refine Wz (λ_=>?_)|with_reducible refine WF ?_)
     all_goals exact ⟨(0,0,_),⟨U,hs⟩,Yl,St.le_refl _⟩
   .rintro ⟨l,c,m⟩ ⟨Hm,hs⟩
    dsimp only at Hm hs
    have hp2:Ej s=if l=0 then (n,[],(Cs s s.length).1,(Cs s s.length).2,e) else (n,[],l,c,e):=by
     rw [hp]
     unfold sX
     rw [if_neg he,hs]
    rw [hp2] at h
    have Hn:=Hm.s3 N (es2:=[]) (w2:=.full)
    refine Ag (Ou Ab (BF _) (xp 2 oN [.agg (Ax n),.int .i64 l,.int .i64 c,.int .i64 e,.BE,.BE,.BE,.BE,.BE] b3 b4 b5 b6 (Ax n)) (xq m b3) eW GE Yl (St.le_refl _) ?_ ?_)
    .unfold eW
     repeat' (first|refine List.forall_mem_cons.2 ⟨?_,?_⟩|exact λ_ h=>nomatch h)
     repeat' ((conv=>whnf);first|exact BH|(refine AA ?_;intros)|(refine BI ?_ ?_ ?_;rotate_left)|(refine AB ?_ ?_<;>intro _)|refine B2 (λ_=>?_) ?_|refine An Hm.k6 ?_|refine An Hm.k3 ?_|refine An Hm.k4 ?_|refine An Hm.k5 ?_|refine An Hn.k6 ?_|refine An Hn.k4 ?_|refine An Hn.k5 ?_|with_reducible refine WF ?_)
     all_goals conv=>whnf
     all_goals (refine ⟨Yl,?_⟩)
     all_goals first|exact St.le_refl _|exact EM Hn.k4|exact EM Hn.k5|exact EM Hn.k6
    .refine Ai Ab (S0 hl (Nat.le_refl _) Hn.k6 Hn.k4 Hn.k1 Hn.k7 Hn.k5 Hn.k3 N.n45 N.n34.symm N.n35.symm (λhz=>?_) (λ_ hz=>?_))
     .rw [if_neg (hz.elim (λh=>absurd h he) id)] at h
      repeat' ((conv=>whnf);first|exact BH|(refine AA ?_;intros)|(refine BI ?_ ?_ ?_;rotate_left)|(refine AB ?_ ?_<;>intro _)|refine B2 (λ_=>?_) ?_|refine An Hn.k3 ?_|refine An Hn.k4 ?_|refine An Hn.k5 ?_|refine An Hn.k6 ?_|with_reducible refine WF ?_)
      all_goals exact AY rfl (h .any _ Hn.le)
     .rw [if_pos hz] at h
      have Ho:=((Hn.s4 N (x:=(Cs s s.length).1)).s5 N (x:=(Cs s s.length).2)).s3 N (es2:=[]) (w2:=.full)
      repeat' ((conv=>whnf);first|exact BH|(refine AA ?_;intros)|(refine BI ?_ ?_ ?_;rotate_left)|(refine AB ?_ ?_<;>intro _)|refine B2 (λ_=>?_) ?_|refine An Ho.k3 ?_|refine An Ho.k4 ?_|refine An Ho.k5 ?_|refine An Ho.k6 ?_|with_reducible refine WF ?_)
      all_goals exact AY rfl (h .any _ Ho.le)
end
section
variable {st:St} {R:Au->St->Prop}
attribute [local irreducible] Go.Aw.Am
theorem eP {s:List UInt8} {c:List Nt} {l e:Int} (U:s.length<=16000) (hp:Ej s=(n,c,l,k,e)) (h:∀w st',st.le st'->R (.ret (.Bp [enc n,.slice 5 (GR c) w,.int .i64 l,.int .i64 k,.int .i64 e])) st'):PC 16 [.str s] st R:=tC U λw st' hle=>by
 rw [hp];exact h w st' hle
end
end Go.Proofs.Z
