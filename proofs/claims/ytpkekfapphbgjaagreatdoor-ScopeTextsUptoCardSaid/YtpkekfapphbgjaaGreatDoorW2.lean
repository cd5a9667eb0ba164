/-
  Parts of a proof: lemmas that the last text uses.
-/
import Derived.Test.YtpkekfapphbgjaaGreatDoorW1
import Derived.KernelRfl
import Derived.Test.YtpkekfapphbgjaaGreatDoorProg
import Derived.Test.YtpkekfapphbgjaaGreatDoorRows
import Derived.WalkKit
import Derived.ProofKit
import Derived.OpenShut
import Derived.JoinedCond
import Derived.ReadAgain
import Derived.Test.YtpkekfapphbgjaaGreatDoorCards
import Derived.Test.YtpkekfapphbgjaaGreatDoorOtw
import Derived.Lib.LaidIn
import Derived.Lib.LaidU8T
import Derived.Lib.LaidTab
import Derived.Shelf.Vars
import Derived.LaidHandle
import Derived.Deep.DeepHandedRow
import Derived.Deep.DeepWitnessRowRef
import Derived.IntWalk
import Derived.Recover
open Go.Proofs.YtpkekfapphbgjaaGreatDoor
set_option linter.unusedVariables false
set_option linter.unusedSimpArgs false
set_option maxHeartbeats 16000000
variable {x:List UInt8} {Q:Go.Aw.AP->Go.Aw.Env->Go.Aw.St->Prop} {env:Go.Aw.Env} {c p A:Prop} {P:Go.Program} {f g:Go.FuncId} {args vs cs:List Go.Aw.V} {R:Go.Aw.As->Go.Aw.St->Prop} {U:List (Nat×Nat)} {I0 I:Go.Aw.Mem} {st0 st' s:Go.Aw.St} {w0 W:Go.World} {β:Nat->Option Nat} {K:List Go.Aw.V->Prop} {fn:Go.Func} {t e:Go.TypeId} {n b base m k rid:Nat} {v:Go.Value} {α:Type} {i:Int} {l:List Int} {es:List (List Go.Aw.V)} {T:List (Nat×Go.Aw.Ty)} {C:Go.FuncId->List Go.Aw.V->Go.Aw.St->(Go.Aw.As->Go.Aw.St->Prop)->Prop} {all:List Go.Oper} {o:Go.Oper} {b1:List (Nat×List Go.Aw.V)} {ih:(Go.Aw.AP->Go.Aw.Env->Go.Aw.St->Prop)->Go.Aw.Env->Go.Aw.St->Prop} {r r':Go.Aw.As} {rest:Go.Code}
namespace Go.Aw
open Go
section
variable {D:List Deferred} {P:Program} {T:List (Nat×Ty)} {C:FuncId->List V->St->(As->St->Prop)->Prop} {I0 I:Mem} {st0 st:St} {w0 w:World} {β:Nat->Option Nat} {env:Env} {a:Act}
variable {o:Oper} {K:V->Env->St->Prop} {Q:AP->Env->St->Prop} {next:Act->World->Prop} {Qc:Exit->Act->World->Prop}
theorem lD {x y:Code} {st:St} (h:AW P x (B2 (Qa T C y Q) Q) env st) (k:∀env st,Qa T C y Q env st->AW P y Q env st):AW P (.seq x y) Q env st:=λD I0 st0 w0 I β a w hr=>by
 refine wp_seq (wp_mono (h D I0 st0 w0 I β a w hr) ?_)
 rintro e a w ⟨I,β,env,st,U,h1,h2,h3⟩
 cases U with
 |normal=>cases e<;>first|exact k env st h3 D I0 st0 w0 I β a w h1|exact h2.elim
 |exit i=>cases e<;>first|exact ⟨I,β,env,st,.exit i,h1,h2,h3⟩|exact h2.elim
 |goto i=>cases e<;>first|exact ⟨I,β,env,st,.goto i,h1,h2,h3⟩|exact h2.elim
 |ret=>cases e<;>first|exact ⟨I,β,env,st,.ret,h1,h2,h3⟩|exact h2.elim
 |B7 v=>cases e<;>first|exact ⟨I,β,env,st,.B7 v,h1,h2,h3⟩|exact h2.elim
def BW (P:Program) (T:List (Nat×Ty)) (C:FuncId->List V->St->(As->St->Prop)->Prop) (c:Code):Prop:=
 ∀l f,(MW T C c).2 l=some f->∃rest,findLabel c l=some rest/\∀Q env st,f Q env st->AW P rest Q env st
theorem BW.none {c:Code} (h:∀l,(MW T C c).2 l=none):BW P T C c:=λl f e=>by simp_all
theorem RH (c:Code) (l:Nat) (h:(MW T C c).2 l=none):findLabel c l=none:=by
 induction c with
 |seq x y ihx ihy=>
  have e:yP ((MW T C x).2 l) (MW T C y).1 ((MW T C y).2 l)=none:=h
  cases U:(MW T C x).2 l with
  |some g=>rw [U] at e;cases e
  |none=>
   rw [U] at e
   simp [findLabel,ihx U,ihy e]
 |label l0=>
  have e:(bif Nat.beq l0 l then some λ(Q:AP->Env->St->Prop) env st=>Q .normal env st else none)=none:=h
  cases hb:Nat.beq l0 l with
  |true=>simp_all
  |false=>
   have:¬l0=l:=λx=>by simp_all
   simp [findLabel,this]
 |_=>simp [findLabel]
theorem D7 (hT:HD P T) (hm:P.follows .mixedOrders=true) (U:∀f args st R,C f args st R->DA P f args st R/\Plain P f) (hM:∀f args st (R R':As->St->Prop),(∀r s,R r s->R' r s)->C f args st R->C f args st R'):∀(c:Code),(∀{Q:AP->Env->St->Prop} {env:Env} {st:St},Qa T C c Q env st->AW P c Q env st)/\BW P T C c
 | .skip=>⟨λ{Q env st} k=>λD I0 st0 w0 I β a w h=>wp_skip ⟨I,β,env,st,.normal,h,trivial,k⟩,BW.none λ_=>rfl⟩
 | .region id ops true=>⟨λ{Q env st} k=>λD I0 st0 w0 I β a w h=>wp_region_any hm (by
    obtain ⟨sched,L,k1,k2⟩:=(show ∃(sched:List (Nat×Bool)) (L:List Nat),Ix sched ops.toList=true/\Fh T C ops.toList sched L (Bv (L.map some) env.boxes) Q sched env st from k)
    have:=Us hT U hM k1 k2 h
    omega),BW.none λ_=>rfl⟩
 | .region id ops false=>⟨λ{Q env st} k=>λD I0 st0 w0 I β a w h=>wp_region_list (by
    have:=FJ hT U h (show Iy T C ops.toList Q ops.toList env st from k)
    omega),BW.none λ_=>rfl⟩
 | .seq x y=>⟨λ{Q env st} k=>lD ((D7 hT hm U hM x).1 (show Qa T C x _ env st from k)) λenv st=>(D7 hT hm U hM y).1,λl f e=>by
    have e:yP ((MW T C x).2 l) (MW T C y).1 ((MW T C y).2 l)=some f:=e
    have hx:=(D7 hT hm U hM x).2 l
    have hy:=(D7 hT hm U hM y).2 l
    cases hl:(MW T C x).2 l with
    |none=>
     rw [hl] at e
     obtain ⟨rest,h1,h2⟩:=hy f e
     have hn:=RH x l hl
     exact ⟨rest,by simp [findLabel,hn,h1],h2⟩
    |some g=>
     rw [hl] at e
     cases e
     obtain ⟨rest,h1,h2⟩:=hx g hl
     exact ⟨.seq rest y,by simp [findLabel,h1],λQ env st k=>lD (h2 _ env st k) λenv st=>(D7 hT hm U hM y).1⟩⟩
 | .cond c x y=>⟨λ{Q env st} k=>λD I0 st0 w0 I β a w h=>by
   have hc:=h.f.eval c
   have k:(match env.eval c with
    | .bool t=>lit t (Qa T C x Q env st) (Qa T C y Q env st)
    |_=>False):=k
   split at k
   .rename_i t he
    rw [he] at hc
    have hc:=Jz hc
    cases t with
    |true=>exact wp_cond_true hc ((D7 hT hm U hM x).1 (show Qa T C x Q env st from k) D I0 st0 w0 I β a w h)
    |false=>exact wp_cond_false hc ((D7 hT hm U hM y).1 (show Qa T C y Q env st from k) D I0 st0 w0 I β a w h)
   simp_all,BW.none λ_=>rfl⟩
 | .block id c=>⟨λ{Q env st} k=>λD I0 st0 w0 I β a w h=>by
   refine wp_block (wp_mono ((D7 hT hm U hM c).1 (show Qa T C c _ env st from k) D I0 st0 w0 I β a w h) ?_)
   rintro e a w ⟨I,β,env,st,ae,h1,h2,h3⟩
   cases ae with
   |normal=>cases e<;>first|exact ⟨I,β,env,st,.normal,h1,trivial,h3⟩|exact h2.elim
   |exit i=>
    cases e<;>try exact h2.elim
    rename_i i'
    have h2:i'=i:=h2
    subst h2
    simp only [Mp] at h3
    show (if i'=id then Dn D I0 st0 w0 Q .normal a w else Dn D I0 st0 w0 Q (.exit i') a w)
    by_cases hi:i'=id
    .subst hi
     rw [if_pos rfl]
     simp only [Nat.beq_refl,cond_true] at h3
     exact ⟨I,β,env,st,.normal,h1,trivial,h3⟩
    .rw [if_neg hi]
     have:Nat.beq i' id=false:=by
      cases hb:Nat.beq i' id with
      |false=>rfl
      |true=>simp_all
     rw [this] at h3
     exact ⟨I,β,env,st,.exit i',h1,rfl,h3⟩
   |goto i=>cases e<;>first|exact ⟨I,β,env,st,.goto i,h1,h2,h3⟩|exact h2.elim
   |ret=>cases e<;>first|exact ⟨I,β,env,st,.ret,h1,h2,h3⟩|exact h2.elim
   |B7 v=>cases e<;>first|exact ⟨I,β,env,st,.B7 v,h1,h2,h3⟩|exact h2.elim,BW.none λ_=>rfl⟩
 | .loop c=>⟨λ{Q env st} k=>λD I0 st0 w0 I β a w h=>by
   obtain ⟨α,E,S,J,μ,x0,h0,he,hs,round⟩:=(show ∃(α:Type) (E:α->Env) (S:α->St) (J:α->Prop) (μ:α->Nat) (x0:α),J x0/\(E x0).E3 env/\St.le (S x0) st/\
    ∀x,J x->Qa T C c (B2 (λenv' st'=>∃y,J y/\μ y<μ x/\(E y).E3 env'/\St.le (S y) st') Q) (E x) (S x) from k)
   refine Lg (λn a w=>∃I β x,Rel D I0 st0 w0 I β (E x) (S x) a w/\J x/\n=μ x) (n0:=μ x0) ⟨I,_,x0,(h.H5 hs).Jf (Env.Js he),h0,rfl⟩ ?_
   rintro n a w ⟨I,β,x,h,hi,rfl⟩
   refine wp_mono ((D7 hT hm U hM c).1 (round x hi) D I0 st0 w0 I β a w h) ?_
   rintro e a w ⟨I,β,env,st,ae,h1,h2,h3⟩
   cases ae with
   |normal=>
    cases e<;>try exact h2.elim
    obtain ⟨y,g1,g2,g3,g4⟩:=h3
    exact ⟨μ y,g2,I,_,y,(h1.H5 g4).Jf (Env.Js g3),g1,rfl⟩
   |exit i=>cases e<;>first|exact ⟨I,β,env,st,.exit i,h1,h2,h3⟩|exact h2.elim
   |goto i=>cases e<;>first|exact ⟨I,β,env,st,.goto i,h1,h2,h3⟩|exact h2.elim
   |ret=>cases e<;>first|exact ⟨I,β,env,st,.ret,h1,h2,h3⟩|exact h2.elim
   |B7 v=>cases e<;>first|exact ⟨I,β,env,st,.B7 v,h1,h2,h3⟩|exact h2.elim,BW.none λ_=>rfl⟩
 | .exit id=>⟨λ{Q env st} k=>λD I0 st0 w0 I β a w h=>wp_exit ⟨I,β,env,st,.exit id,h,rfl,k⟩,BW.none λ_=>rfl⟩
 | .goto l=>⟨λ{Q env st} k=>λD I0 st0 w0 I β a w h=>wp_goto ⟨I,β,env,st,.goto l,h,rfl,k⟩,BW.none λ_=>rfl⟩
 | .label l0=>⟨λ{Q env st} k=>λD I0 st0 w0 I β a w h=>wp_label ⟨I,β,env,st,.normal,h,trivial,k⟩,λl f e=>by
    have e:(bif Nat.beq l0 l then some λ(Q:AP->Env->St->Prop) env st=>Q .normal env st else none)=some f:=e
    cases hb:Nat.beq l0 l with
    |false=>simp_all
    |true=>
     rw [hb] at e
     cases e
     have:=Nat.eq_of_beq_eq_true hb
     subst this
     exact ⟨.skip,by simp [findLabel],λQ env st k=>λD I0 st0 w0 I β a w h=>wp_skip ⟨I,β,env,st,.normal,h,trivial,k⟩⟩⟩
 | .ret=>⟨λ{Q env st} k=>λD I0 st0 w0 I β a w h=>wp_ret ⟨I,β,env,st,.ret,h,trivial,k⟩,BW.none λ_=>rfl⟩
 | .rangeFunc .. =>⟨λ{Q env st} k=>False.elim k,BW.none λ_=>rfl⟩
 | .scope c=>⟨λ{Q env st} k=>λD I0 st0 w0 I β a w h=>by
    obtain ⟨α,lab,E,S,J,μ,first,pass⟩:=(show QC (MW T C c).1 (MW T C c).2 Q env st from k)
    refine XI (λl n a w=>∃I β x,Rel D I0 st0 w0 I β (E x) (S x) a w/\J x/\lab x=l/\n=μ x) ?_ ?_
    .refine wp_mono ((D7 hT hm U hM c).1 first D I0 st0 w0 I β a w h) ?_
     rintro e a w ⟨I,β,env,st,ae,h1,h2,h3⟩
     cases ae with
     |goto i=>
      cases e<;>try exact h2.elim
      have h2:_=i:=h2
      subst h2
      obtain ⟨y,g1,g2,g3,g4⟩:=h3
      exact ⟨μ y,I,_,y,(h1.H5 g4).Jf (Env.Js g3),g2,g1,rfl⟩
     |normal=>cases e<;>first|exact ⟨I,β,env,st,.normal,h1,h2,h3⟩|exact h2.elim
     |exit i=>cases e<;>first|exact ⟨I,β,env,st,.exit i,h1,h2,h3⟩|exact h2.elim
     |ret=>cases e<;>first|exact ⟨I,β,env,st,.ret,h1,h2,h3⟩|exact h2.elim
     |B7 v=>cases e<;>first|exact ⟨I,β,env,st,.B7 v,h1,h2,h3⟩|exact h2.elim
    .rintro l n a w ⟨I,β,x,h,hi,rfl,rfl⟩
     obtain ⟨f,hf,hp⟩:=pass x hi
     obtain ⟨rest,hr,hs⟩:=(D7 hT hm U hM c).2 _ f hf
     refine ⟨rest,hr,wp_mono (hs _ _ _ hp D I0 st0 w0 I β a w h) ?_⟩
     rintro e a w ⟨I,β,env,st,ae,h1,h2,h3⟩
     cases ae with
     |goto i=>
      cases e<;>try exact h2.elim
      have h2:_=i:=h2
      subst h2
      obtain ⟨y,g1,g2,gm,g3,g4⟩:=h3
      exact ⟨μ y,gm,I,_,y,(h1.H5 g4).Jf (Env.Js g3),g2,g1,rfl⟩
     |normal=>cases e<;>first|exact ⟨I,β,env,st,.normal,h1,h2,h3⟩|exact h2.elim
     |exit i=>cases e<;>first|exact ⟨I,β,env,st,.exit i,h1,h2,h3⟩|exact h2.elim
     |ret=>cases e<;>first|exact ⟨I,β,env,st,.ret,h1,h2,h3⟩|exact h2.elim
     |B7 v=>cases e<;>first|exact ⟨I,β,env,st,.B7 v,h1,h2,h3⟩|exact h2.elim,BW.none λ_=>rfl⟩
 | .refuse _=>⟨λ{Q env st} k=>False.elim k,BW.none λ_=>rfl⟩
structure TU (P:Program) (T:List (Nat×Ty)):Prop where
 t:HD P T
 m:P.follows .mixedOrders=true
theorem Oj (hP:TU P T) (hC:∀f args st R,C f args st R->DA P f args st R/\Plain P f) (hM:∀f args st (R U:As->St->Prop),(∀r s,R r s->U r s)->C f args st R->C f args st U) (c:Code) {st:St} (h:Qa T C c Q env st):AW P c Q env st:=(D7 hP.t hP.m hC hM c).1 h
end
structure Bo (P:Program) (f:FuncId) (args:List V) (st:St) (R:As->St->Prop):Prop where
 a:DA P f args st R
 b:Plain P f
theorem Bo.mono {P:Program} {f:FuncId} {args:List V} {st:St} {R U:As->St->Prop} (h:Bo P f args st R) (k:∀r s,R r s->U r s):Bo P f args st U:=⟨h.a.mono k,h.b⟩
theorem Bq (P:Program):∀f args st R,Bo P f args st R->DA P f args st R/\Plain P f:=λ_ _ _ _ h=>⟨h.a,h.b⟩
section
variable {D:List Deferred} {P:Program} {T:List (Nat×Ty)} {I:Mem} {st:St} {w:World}
theorem QU:∀{l:List V} {k t:Nat} {v:V},assoc (Ja k l) t=some v->k<=t/\l[t - k]? =some v
 |[],k,t,v,h=>by cases h
 |u::r,k,t,v,h=>by
  rw [aP,Bs] at h
  cases hb:Nat.beq k t with
  |true=>
   simp_all
  |false=>
   rw [hb] at h
   obtain ⟨h1,h2⟩:=QU h
   grind
def Zu (tmps:Array Value):ResultVar->Sem Value
 | .tmp t=>pure (tmps.getD t undef)
 | .cell x t=>do loadVar t (<-asAddr (tmps.getD x undef))
theorem WQ (hT:HD P T) {a:Act} (h:Rel D I0 st0 w0 I β env st a w) {x:ResultVar} {K:V->Prop} (k:WI T env st x K):
 ∃v c,(Zu a.tmps x).run P w=.ok c w/\A3 I v c/\K v:=by
 cases x with
 |tmp t=>
  have k:(env.get t).force λv=>D6 v.plain (K v):=k
  obtain ⟨hp,k⟩:=Ay.1 (V.AZ.1 k)
  exact ⟨_,_,rfl,(h.f.get t).rep hp,k⟩
 |cell x t=>
  have hx:=h.f.get x
  have fin:∀{ad:Addr} {c:Value} {v:V},a.tmps.getD x undef=.pointer (some ad)->(loadVar t ad).run P w=.ok c w->A3 I v c->K v->
   ∃v c,(Zu a.tmps (.cell x t)).run P w=.ok c w/\A3 I v c/\K v:=by
   intro ad c v e1 e2 e3 k
   refine ⟨v,c,?_,e3,k⟩
   simp only [Zu,e1,asAddr,Sem.run_bind,Sem.run_pure,Result.andThen_ok,e2]
  simp only [WI] at k
  split at k
  .rename_i id off he
   rw [he] at hx
   obtain ⟨b,hb,hx⟩:=H3 hx
   split at k
   .rename_i cs U
    obtain ⟨b',h1,h2⟩:=h.f.box id cs U
    rw [hb] at h1
    injection h1 with h1
    subst h1
    obtain ⟨vs,ty,h2,h3⟩:=h2.cells (L9 k)
    obtain ⟨v,c,g1,g2,g3⟩:=Ez (b:=b) (o:=0) hT h3 (λj v e=>by simpa using Jo h2 e) k
    grind
   simp_all
  .rename_i b off he
   rw [he] at hx
   have hx:=NW hx
   obtain ⟨cs,U,k⟩:=k
   obtain ⟨vs,ty,h2,h3⟩:=h.s.box b cs U
   obtain ⟨v,c,g1,g2,g3⟩:=Ez (b:=b) (o:=0) hT h3 (λj v e=>by simpa using Jo h2 e) k
   grind
  simp_all
theorem KL (U:HD P T) {I0:Mem} {st0:St} {w0:World} {β:Nat->Option Nat} {env:Env} {a:Act} (h:Rel D I0 st0 w0 I β env st a w):∀{rs:List ResultVar} {K:List V->Prop},E9 T env st rs K->
 ∃vs cs,Ap I vs cs/\K vs/\(rs.mapM (Zu a.tmps)).run P w=.ok cs w
 |[],K,k=>⟨[],[],H1,k,rfl⟩
 |x::r,K,k=>by
  rw [TE] at k
  obtain ⟨v,c,e1,e2,k⟩:=WQ (P:=P) U h k
  obtain ⟨vs,cs,h1,h2,h3⟩:=KL U h k
  refine ⟨v::vs,c::cs,by simp only [Ap];grind,h2,?_⟩
  simp_all
theorem CK (hT:HD P T) {a:Act} (h:Rel D I0 st0 w0 I β env st a w)
 (k:E9 T env st fn.results.toList λvs=>match vs with|[v]=>R (.ret v) st|vs=>R (.ret (.Bc vs)) st):
 ∃v c,(results fn a.tmps).run P w=.ok c w/\A3 I v c/\R (.ret v) st:=by
 obtain ⟨vs,cs,h1,h2,h3⟩:=KL (P:=P) hT h k
 have hr:(results fn a.tmps).run P w=.ok (if hh:cs.toArray.size=1 then cs.toArray[0] else .tuple cs.toArray) w:=by
  have e:results fn a.tmps=(do let vs <-fn.results.mapM (Zu a.tmps);pure (if h:vs.size=1 then vs[0] else .tuple vs)):=by
   unfold results
   congr 1
  rw [e,Array.mapM_eq_mapM_toList]
  simp only [Sem.run_bind,Sem.run_map,h3,Result.andThen_ok,Sem.run_pure]
 have U:=Ap.length h1
 match vs,h1,h2,U with
 |[v],h1,h2,U=>
  simp only [Ap] at h1
  grind
 |[],h1,h2,U=>
  have hs:¬(cs.toArray.size=1):=by simp at U |-;omega
  rw [dif_neg hs] at hr
  exact ⟨_,_,hr,by simp only [A3];simp_all,h2⟩
 |x::y::z,h1,h2,U=>
  have hs:¬(cs.toArray.size=1):=by simp at U |-;omega
  rw [dif_neg hs] at hr
  exact ⟨_,_,hr,by simp only [A3];simp_all,h2⟩
theorem NP {a:Act} (U:CL I st w) (h1:a.tmps.size=env.sz) (h2:∀t v,assoc env.tmps t=some v->A3 I v (a.tmps.getD t undef)) (h3:env.boxes=[]) (h4:a.defers=D):
 Rel D I st w I (λ_=>none) env st a w:=
 ⟨Fr.refl,U,⟨h1,λt v e=>A6.of (h2 t v e),λid cs e=>(by rw [h3] at e;cases e),λid b e=>(by cases e),λi j b e=>(by cases e),λid b e=>(by cases e),h4⟩⟩
theorem QQ (hP:TU P T) (gl:List Nat) (hf:P.funcs[f]? =some fn)
 (h:Ve T (Bo P) fn gl args st λr st'=>∃r2 U,(r2=r\/r2=r.wk)/\St.le U st'/\R r2 U):DA P f args st R:=by
 intro I w cargs hs hargs
 unfold Ve at h
 cases hb:fn.body with
 |none=>simp_all
 |some c=>
  rw [hb] at h
  obtain ⟨hle,h⟩:=Ay.1 h
  have hle:=Nat.le_of_ble_eq_true hle
  have hlen:=Ap.length hargs
  refine calls_of_wp hf hb ?_
  have hrel:Rel [] I st w I (λ_=>none) {tmps:=Ja 0 args,boxes:=[],BU:=0,sz:=fn.ntmps,gl} st
   {tmps:=cargs.toArray++Array.replicate (fn.ntmps - cargs.toArray.size) undef,defers:=[]} w:=by
   refine NP hs (by grind) (λt v e=>?_) rfl rfl
   obtain ⟨_,e⟩:=QU e
   rw [Nat.sub_zero] at e
   obtain ⟨c',e1,e2⟩:=Ap.get hargs e
   have hlt:t<cargs.length:=by
    rcases Nat.lt_or_ge t cargs.length with h|h
    .exact h
    .simp_all
   have:(cargs.toArray++Array.replicate (fn.ntmps - cargs.toArray.size) undef).getD t undef=c':=by
    rw [List.getElem?_eq_getElem hlt] at e1
    injection e1 with e1
    subst e1
    simp [Array.getD,Array.getElem_append,hlt]
    omega
   rw [this]
   exact e2
  refine wp_mono (Oj hP (Bq P) (λ_ _ _ _ _ h k=>k.mono h) c h [] I st w I _ _ w hrel) ?_
  rintro e a w' ⟨I1,β1,env1,st1,ae,h1,h2,h3⟩
  have hret:(E9 T env1 st1 fn.results.toList λvs=>match vs with
   |[v]=>∃r2 U,(r2=.ret v\/r2=(As.ret v).wk)/\St.le U st1/\R r2 U
   |vs=>∃r2 U,(r2=.ret (.Bc vs)\/r2=(As.ret (.Bc vs)).wk)/\St.le U st1/\R r2 U)->
   a.defers=[]/\∃v,(results fn a.tmps).run P w'=.ok v w'/\∃I' st' r,Fr I st w I' st' w'/\CL I' st' w'/\kq I' (.returned v) r/\R r st':=by
   intro h3
   obtain ⟨v,c,g1,g2,r2,U,g3,g4,g5⟩:=CK (P:=P) (R:=λr s=>∃r2 U,(r2=r\/r2=r.wk)/\St.le U s/\R r2 U) hP.t h1 h3
   have h1':=h1.H5 g4
   refine ⟨h1.f.defers,c,g1,I1,U,r2,h1'.fr,h1'.s,?_,g5⟩
   rcases g3 with rfl|rfl
   .exact g2
   .exact g2.wk
  cases ae with
  |normal=>cases e<;>first|exact hret h3|exact h2.elim
  |exit i=>exact h3.elim
  |goto i=>exact h3.elim
  |ret=>cases e<;>first|exact hret h3|exact h2.elim
  |B7 v=>
   cases e<;>try exact h2.elim
   obtain ⟨r2,U,g3,g4,g5⟩:=h3
   obtain ⟨c',rfl,h2⟩:=h2
   have h1':=h1.H5 g4
   refine ⟨h1.f.defers,I1,U,r2,h1'.fr,h1'.s,?_,g5⟩
   rcases g3 with rfl|rfl
   .exact ⟨c',rfl,h2⟩
   .exact ⟨c',rfl,h2.wk⟩
theorem DP (hP : TU P T) (gl : List Nat) (hf : P.funcs[f]? = some fn) (hb : fn.body.isSome = true) (hn : (fn.name == "runtime.NumGoroutine") = false)
 (h:Ve T (Bo P) fn gl args st λr st'=>∃r2 U,(r2=r\/r2=r.wk)/\St.le U st'/\R r2 U):Bo P f args st R:=⟨QQ hP gl hf h,fn,hf,hb,hn⟩
end
section
variable {P:Program} {T:List (Nat×Ty)}
theorem wV (h:∀p ∈ T,Of P p.1 p.2):HD P T:=λt ty e=>h (t,ty) (Gi e)
def Pa:V->Value
 | .int k n=>.int k n
 | .bool b=>.bool b
 | .str s=>.string ⟨s.toArray⟩
 | .slice _ _ _=>.slice none 0 0
 | .Eu=>.pointer none
 | .Ax=>.nilFunc
 | .DI=>.nilIface
 |_=>undef
def isZero:V->Bool
 | .int _ _| .bool _| .Eu| .Ax| .DI=>true
 | .str []=>true
 | .slice (_+1) [] .full=>true
 |_=>false
theorem Zt {z:V} (h:isZero z=true):A3 I z (Pa z):=by
 unfold isZero at h
 split at h
 .rfl
 .rfl
 .rfl
 .rfl
 .rfl
 .simp [A3,Pa,DR]
 .exact Kc (Nat.succ_pos _) _ (.inl rfl)
 grind
theorem OO {I:Mem}:∀{z:List V},z.all isZero=true->Ap I z (z.map Pa)
 |[],_=>by rfl
 |v::r,h=>by
  simp only [List.all_cons,Bool.and_eq_true] at h
  simp only [Ap,List.map_cons]
  exact ⟨_,_,rfl,Zt h.1,OO h.2⟩
theorem rq {z:V} (h:isZero z=true):(Pa z).cells=#[Pa z]/\z.known=true/\z.cells=[z]:=by
 unfold isZero at h
 split at h
 all_goals first|(cases h;done)|exact ⟨rfl,rfl,rfl⟩
theorem Xaf {z:V} {d:TypeDesc} (hu:P.underlying t=some d) (ha:Tz d=false) (hz:isZero z=true)
 (hi:(P.info? t).map (λi=>(i.zero,i.size))=some (some (Pa z),1)) (hs:match z with| .str _=>d=.string| .DI=>∃U,d=.interface U| .int k _=>d=.int k| .bool _=>d=.bool|_=>∀U,d≠.interface U):Of P t (.sc z):=by
 cases hp:P.info? t with
 |none=>simp_all
 |some i=>
  rw [hp] at hi
  simp only [Option.map_some,Option.some.injEq,Prod.mk.injEq] at hi
  obtain ⟨h1,h2,h3⟩:=rq hz
  exact ⟨i,d,Pa z,hp,hu,ha,hi.2,hi.1,Zt hz,h1,h2,h3,hs⟩
theorem q8 {sz bytes:Nat} {c:Value} (hu:P.underlying t=some (.slice e)) (hi:(P.info? t).map (λi=>(i.zero,i.size))=some (some (.slice none 0 0),1))
 (U:(P.info? e).map (λi=>(i.zero,i.size,i.bytes))=some (some c,sz,bytes)) (h0:0<sz) (hc:c.cells.size=sz):Of P t (.slice e sz bytes):=by
 cases hp:P.info? t with
 |none=>simp_all
 |some i=>
  cases hq:P.info? e with
  |none=>simp_all
  |some j=>
   rw [hp] at hi
   rw [hq] at U
   simp only [Option.map_some,Option.some.injEq,Prod.mk.injEq] at hi U
   exact ⟨i,j,c,hp,hu,hi.2,hi.1,hq,U.2.1,U.2.2,h0,U.1,hc⟩
theorem lp {z:List V} {fields:Array Field} (hu:P.underlying t=some (.struct fields)) (hz:z.all isZero=true)
 (hi:(P.info? t).map (λi=>(i.zero,i.size))=some (some (.agg (z.map Pa).toArray),z.length))
 (hf:fields.toList.map (λf=>(f.offset,(P.info? f.type).map (·.size)))=U.map (λp=>(p.1,some p.2))) (he:(!eK z||eF P t z)=true) (h1:(fields.toList.all λf=>match P.info? f.type,P.underlying f.type with|some j,some d=>j.size !=1|| !Tz d|_,_=>false)=true):Of P t (.struct U z):=by
 cases hp:P.info? t with
 |none=>simp_all
 |some i=>
  rw [hp] at hi
  simp only [Option.map_some,Option.some.injEq,Prod.mk.injEq] at hi
  refine ⟨i,fields,z.map Pa,hp,hu,hi.2,hi.1,OO hz,?_,λn o s e=>?_,(λhfl=>by simp_all),λn o e=>?_⟩
  .have:=congrArg List.length hf
   grind
  .have h1:(U.map λp=>(p.1,some p.2))[n]? =some (o,some s):=by rw [List.getElem?_map,e];rfl
   grind
  .have h2:(U.map λp=>(p.1,some p.2))[n]? =some (o,some 1):=by rw [List.getElem?_map,e];rfl
   grind
theorem zb {sz:Nat} {z:List V} (hu:P.underlying t=some (.array n e)) (hz:z.all isZero=true)
 (hi:(P.info? t).map (λi=>(i.zero,i.size))=some (some (.agg (z.map Pa).toArray),z.length)) (hj:(P.info? e).map (·.size)=some sz) (hf:U=(List.range U.length).map λi=>(i*sz,sz)) (hn:U.length<=n):Of P t (.arr U z):=by
 cases hp:P.info? t with
 |none=>simp_all
 |some i=>
  cases hq:P.info? e with
  |none=>simp_all
  |some j=>
   rw [hp] at hi
   rw [hq] at hj
   simp only [Option.map_some,Option.some.injEq,Prod.mk.injEq] at hi hj
   refine ⟨i,n,e,j,z.map Pa,hp,hu,hi.2,hi.1,OO hz,hq,λk o s e=>?_⟩
   have hk:=(List.getElem?_eq_some_iff.1 e).1
   refine ⟨?_,?_,AC⟩<;>grind
def Ty.zv:Ty->Value×Nat
 | .sc z=>(Pa z,1)
 | .slice _ _ _=>(.slice none 0 0,1)
 | .struct _ z| .arr _ z=>(.agg (z.map Pa).toArray,z.length)
def wI:V->TypeDesc->Bool
 | .str _,.string=>true
 | .DI,.interface _=>true
 | .int k _,.int U=>decide (k=U)
 | .bool _,.bool=>true
 | .str _,_| .DI,_| .int _ _,_| .bool _,_|_,.interface _=>false
 |_,_=>true
def tyB (P:Program) (t:TypeId) (ty:Ty):Bool:=match ty,P.underlying t with
 | .sc z,some d=> !Tz d&&(isZero z&&wI z d)
 | .slice e sz bytes,some (.slice e')=>e==e'&&(match P.info? e with|some j=>(match j.zero with|some c=>c.cells.size==sz|none=>false)&&(j.size==sz&&(j.bytes==bytes&&decide (0<sz)))|none=>false)
 | .struct U z,some (.struct fields)=>z.all isZero&&(decide (fields.toList.map (λf=>(f.offset,(P.info? f.type).map (·.size)))=U.map (λp=>(p.1,some p.2)))&&((!eK z||eF P t z)&&
    fields.toList.all λf=>match P.info? f.type,P.underlying f.type with|some j,some d=>j.size !=1|| !Tz d|_,_=>false))
 | .arr U z,some (.array n e)=>z.all isZero&&decide (U.length<=n)&&(match P.info? e with|some j=>decide (U=(List.range U.length).map λi=>(i*j.size,j.size))|none=>false)
 |_,_=>false
theorem wU (h1:T.map (λp=>(P.info? p.1).map λi=>(i.zero,i.size))=T.map λp=>some (some p.2.zv.1,p.2.zv.2)) (h2:(T.all λp=>tyB P p.1 p.2)=true):HD P T:=wV λp hp=>by
 have e1:=List.map_inj_left.1 h1 p hp
 have U:=List.all_eq_true.1 h2 p hp
 obtain ⟨t,ty⟩:=p
 dsimp only at e1 U |-
 unfold tyB at U
 split at U
 .rename_i z d hu
  simp only [Bool.and_eq_true,Bool.not_eq_true'] at U
  refine Xaf hu U.1 U.2.1 e1 ?_
  have e3:=U.2.2
  unfold wI at e3
  split at e3<;>simp_all
 .rename_i e sz b e' hu
  simp only [Bool.and_eq_true,beq_iff_eq] at U
  obtain ⟨rfl,U⟩:=U
  cases hj:P.info? e with
  |none=>rw [hj] at U;cases U
  |some j=>
   rw [hj] at U
   cases hz:j.zero with
   |none=>simp [hz] at U
   |some c=>
    simp only [hz,Bool.and_eq_true,beq_iff_eq,decide_eq_true_eq] at U
    exact q8 (c:=c) hu e1 (by rw [hj];simp [hz,U]) U.2.2.2 U.1
 .rename_i offs z fields hu
  simp only [Bool.and_eq_true,decide_eq_true_eq] at U
  exact lp hu U.1 e1 U.2.1 U.2.2.1 U.2.2.2
 .rename_i offs z n e hu
  simp only [Bool.and_eq_true] at U
  cases hj:P.info? e with
  |none=>rw [hj] at U;cases U.2
  |some j=>
   rw [hj] at U
   exact zb hu U.1.1 e1 (by rw [hj];rfl) (of_decide_eq_true U.2) (of_decide_eq_true U.1.2)
 .cases U
end
theorem DQ {args':List V} {st:St} (e:args'=args.map V.wk) (h:Bo P f args' st R):Bo P f args st R:=by
 subst e
 exact ⟨λI w U hs ha=>h.a I w U hs (Ap.map (λ_ _ k=>k.wk) ha),h.b⟩
end Go.Aw
namespace Go.Proofs.Z
open Go Go.Aw
def zj:List (Nat×Ty):=[
 (1,.sc (.Ax)),
 (2,.sc (.int .i64 0)),
 (3,.sc (.int .i64 0)),
 (4,.sc (.bool false)),
 (5,.sc (.int .u8 0)),
 (9,.sc (.str [])),
 (12,.sc (.int .u64 0)),
 (15,.sc (.Eu)),
 (16,.sc (.Eu)),
 (20,.sc (.DI)),
 (21,.sc (.int .i32 0)),
 (22,.sc (.Ax)),
 (23,.slice 25 6 72),
 (24,.struct [(0,1),(1,1),(2,1),(3,1),(4,1),(5,1)] [.int .i64 0,.int .i64 0,.str [],.int .i64 0,.int .i64 0,.slice 6 [] .full]),
 (25,.struct [(0,1),(1,1),(2,1),(3,1),(4,1),(5,1)] [.int .i64 0,.int .i64 0,.str [],.int .i64 0,.int .i64 0,.slice 6 [] .full]),
 (26,.slice 31 5 48),
 (27,.sc (.int .i64 0)),
 (29,.sc (.Ax)),
 (30,.struct [(0,1),(1,1),(2,1),(3,1),(4,1)] [.str [],.int .i64 0,.int .i64 0,.int .i64 0,.int .i64 0]),
 (31,.struct [(0,1),(1,1),(2,1),(3,1),(4,1)] [.str [],.int .i64 0,.int .i64 0,.int .i64 0,.int .i64 0]),
 (32,.sc (.Ax)),
 (33,.sc (.Ax)),
 (34,.slice 40 4 40),
 (36,.sc (.Ax)),
 (37,.sc (.Ax)),
 (38,.sc (.Ax)),
 (39,.struct [(0,1),(1,1),(2,1),(3,1)] [.int .i64 0,.str [],.int .i64 0,.int .i64 0]),
 (40,.struct [(0,1),(1,1),(2,1),(3,1)] [.int .i64 0,.str [],.int .i64 0,.int .i64 0]),
 (41,.sc (.Ax)),
 (42,.sc (.Ax)),
 (43,.sc (.Ax)),
 (44,.sc (.Ax)),
 (45,.sc (.Ax)),
 (47,.sc (.Ax)),
 (48,.struct [(0,6),(6,4),(10,1)] [.int .i64 0,.int .i64 0,.str [],.int .i64 0,.int .i64 0,.slice 6 [] .full,.int .i64 0,.str [],.int .i64 0,.int .i64 0,.int .i64 0]),
 (49,.struct [(0,6),(6,4),(10,1)] [.int .i64 0,.int .i64 0,.str [],.int .i64 0,.int .i64 0,.slice 6 [] .full,.int .i64 0,.str [],.int .i64 0,.int .i64 0,.int .i64 0]),
 (50,.sc (.Ax)),
 (52,.sc (.Ax)),
 (53,.slice 3 1 8),
 (54,.struct [(0,1),(1,1),(2,1),(3,1)] [.slice 4 [] .full,.int .i64 0,.slice 1 [] .full,.int .i64 0]),
 (55,.struct [(0,1),(1,1),(2,1),(3,1)] [.slice 4 [] .full,.int .i64 0,.slice 1 [] .full,.int .i64 0]),
 (57,.sc (.Ax)),
 (58,.sc (.Ax)),
 (59,.sc (.Ax)),
 (61,.sc (.Ax)),
 (62,.sc (.Ax)),
 (63,.sc (.Ax)),
 (64,.sc (.Ax)),
 (65,.sc (.Eu)),
 (66,.struct [(0,1),(1,1),(2,1)] [.int .i64 0,.int .i64 0,.int .i64 0]),
 (67,.struct [(0,1),(1,1),(2,1)] [.int .i64 0,.int .i64 0,.int .i64 0]),
 (68,.struct [(0,1),(1,1)] [.int .i64 0,.bool false]),
 (69,.struct [(0,1),(1,1)] [.int .i64 0,.bool false]),
 (70,.struct [(0,1),(1,1),(2,3),(5,1),(6,1),(7,1),(8,2)] [.str [],.int .i64 0,.int .i64 0,.int .i64 0,.int .i64 0,.slice 4 [] .full,.slice 5 [] .full,.int .i64 0,.int .i64 0,.bool false]),
 (71,.struct [(0,1),(1,1),(2,3),(5,1),(6,1),(7,1),(8,2)] [.str [],.int .i64 0,.int .i64 0,.int .i64 0,.int .i64 0,.slice 4 [] .full,.slice 5 [] .full,.int .i64 0,.int .i64 0,.bool false]),
 (72,.sc (.Ax)),
 (73,.sc (.Ax)),
 (74,.struct [(0,1),(1,1),(2,1)] [.int .i64 0,.int .i64 0,.int .i64 0]),
 (75,.struct [(0,1),(1,1),(2,1)] [.int .i64 0,.int .i64 0,.int .i64 0]),
 (76,.sc (.Ax)),
 (77,.sc (.Ax)),
 (78,.sc (.Ax)),
 (79,.slice 9 1 16),
 (80,.sc (.Ax)),
 (81,.sc (.Ax)),
 (82,.sc (.Ax)),
 (83,.sc (.Ax)),
 (84,.sc (.Ax)),
 (85,.sc (.DI)),
 (86,.sc (.DI)),
 (88,.slice 186 3 32),
 (89,.slice 186 3 32),
 (90,.sc (.Ax)),
 (91,.sc (.Eu)),
 (92,.struct [(0,1),(1,1),(2,1)] [.int .i64 0,.int .i64 0,.int .i64 0]),
 (93,.struct [(0,1),(1,1),(2,1)] [.int .i64 0,.int .i64 0,.int .i64 0]),
 (94,.sc (.Ax)),
 (95,.sc (.Eu)),
 (96,.sc (.Ax)),
 (97,.struct [(0,1),(1,1),(2,1)] [.int .i64 0,.int .i64 0,.int .i64 0]),
 (98,.struct [(0,1),(1,1),(2,1)] [.int .i64 0,.int .i64 0,.int .i64 0]),
 (99,.sc (.Ax)),
 (100,.sc (.Ax)),
 (101,.sc (.Ax)),
 (102,.sc (.Ax)),
 (103,.sc (.Ax)),
 (104,.sc (.Ax)),
 (106,.sc (.Ax)),
 (107,.sc (.Ax)),
 (108,.sc (.Ax)),
 (109,.sc (.Ax)),
 (110,.sc (.Ax)),
 (112,.sc (.Ax)),
 (113,.sc (.Ax)),
 (114,.sc (.Eu)),
 (115,.slice 5 1 1),
 (116,.struct [(0,1),(1,1)] [.Eu,.slice 1 [] .full]),
 (117,.struct [(0,1),(1,1)] [.Eu,.slice 1 [] .full]),
 (119,.sc (.Ax)),
 (120,.sc (.Ax)),
 (122,.sc (.Ax)),
 (124,.sc (.Ax)),
 (126,.sc (.Ax)),
 (128,.sc (.Ax)),
 (129,.sc (.Ax)),
 (134,.sc (.Ax)),
 (137,.sc (.Ax)),
 (140,.sc (.Ax)),
 (141,.sc (.Ax)),
 (143,.sc (.Ax)),
 (144,.sc (.Ax)),
 (145,.sc (.Ax)),
 (146,.sc (.Ax)),
 (147,.sc (.Ax)),
 (148,.sc (.Ax)),
 (149,.sc (.Ax)),
 (150,.sc (.Ax)),
 (151,.sc (.Ax)),
 (152,.sc (.Eu)),
 (153,.struct [(0,4),(4,4),(8,4),(12,1),(13,1)] [.slice 4 [] .full,.int .i64 0,.slice 1 [] .full,.int .i64 0,.int .i64 0,.str [],.int .i64 0,.int .i64 0,.slice 4 [] .full,.int .i64 0,.slice 1 [] .full,.int .i64 0,.int .i64 0,.bool false]),
 (154,.struct [(0,4),(4,4),(8,4),(12,1),(13,1)] [.slice 4 [] .full,.int .i64 0,.slice 1 [] .full,.int .i64 0,.int .i64 0,.str [],.int .i64 0,.int .i64 0,.slice 4 [] .full,.int .i64 0,.slice 1 [] .full,.int .i64 0,.int .i64 0,.bool false]),
 (155,.struct [(0,1)] [.int .i64 0]),
 (156,.struct [(0,1)] [.int .i64 0]),
 (158,.sc (.Ax)),
 (159,.sc (.Ax)),
 (160,.sc (.Ax)),
 (161,.sc (.Ax)),
 (162,.sc (.Ax)),
 (163,.sc (.Ax)),
 (164,.sc (.Ax)),
 (165,.sc (.Ax)),
 (166,.sc (.Ax)),
 (167,.sc (.Ax)),
 (168,.sc (.Eu)),
 (169,.sc (.Eu)),
 (171,.sc (.Ax)),
 (172,.slice 175 2 16),
 (173,.struct [(0,1),(1,1),(2,1),(3,1),(4,1)] [.str [],.int .i64 0,.bool false,.slice 1 [] .full,.slice 2 [] .full]),
 (174,.struct [(0,1),(1,1),(2,1),(3,1),(4,1)] [.str [],.int .i64 0,.bool false,.slice 1 [] .full,.slice 2 [] .full]),
 (175,.arr [(0,1),(1,1)] [.int .i64 0,.int .i64 0]),
 (176,.sc (.Ax)),
 (177,.sc (.Ax)),
 (178,.sc (.Ax)),
 (179,.sc (.Eu)),
 (180,.sc (.Ax)),
 (181,.sc (.Ax)),
 (182,.sc (.Ax)),
 (183,.struct [(0,1),(1,1),(2,1),(3,1),(4,1)] [.Ax,.slice 6 [] .full,.bool false,.Ax,.Ax]),
 (184,.struct [(0,1),(1,1),(2,1),(3,1),(4,1)] [.Ax,.slice 6 [] .full,.bool false,.Ax,.Ax]),
 (185,.struct [(0,1),(1,1),(2,1)] [.str [],.int .i64 0,.int .i64 0]),
 (186,.struct [(0,1),(1,1),(2,1)] [.str [],.int .i64 0,.int .i64 0]),
 (188,.sc (.Ax)),
 (189,.sc (.Ax)),
 (192,.sc (.Eu)),
 (193,.sc (.Ax)),
 (194,.sc (.Ax)),
 (195,.sc (.Ax)),
 (196,.sc (.DI)),
 (198,.sc (.Ax)),
 (199,.sc (.DI)),
 (200,.sc (.Ax)),
 (201,.sc (.DI)),
 (202,.slice 86 1 16),
 (203,.sc (.Ax)),
 (205,.sc (.Ax)),
 (206,.struct [(0,6),(6,1),(7,1)] [.int .i64 0,.int .i64 0,.str [],.int .i64 0,.int .i64 0,.slice 6 [] .full,.slice 6 [] .full,.bool false]),
 (207,.struct [(0,6),(6,1),(7,1)] [.int .i64 0,.int .i64 0,.str [],.int .i64 0,.int .i64 0,.slice 6 [] .full,.slice 6 [] .full,.bool false]),
 (208,.sc (.Ax)),
 (209,.sc (.Ax)),
 (210,.sc (.Ax)),
 (211,.sc (.Ax)),
 (212,.sc (.Ax)),
 (213,.sc (.Ax)),
 (214,.sc (.Ax)),
 (215,.sc (.Ax)),
 (216,.struct [(0,1),(1,1)] [.Eu,.int .i64 0]),
 (217,.struct [(0,1),(1,1)] [.Eu,.int .i64 0]),
 (219,.sc (.int .u64 0)),
 (220,.struct [(0,1),(1,1)] [.int .u8 0,.int .u8 0]),
 (221,.struct [(0,1),(1,1)] [.int .u8 0,.int .u8 0]),
 (223,.sc (.Ax)),
 (227,.sc (.Ax)),
 (228,.sc (.Ax)),
 (229,.sc (.Eu)),
 (231,.sc (.Ax)),
 (233,.sc (.Ax)),
 (235,.sc (.Ax)),
 (236,.sc (.Ax)),
 (238,.sc (.Ax)),
 (240,.sc (.Ax)),
 (241,.sc (.Ax)),
 (242,.sc (.Ax)),
 (243,.sc (.Ax)),
 (245,.sc (.Ax)),
 (246,.sc (.Ax)),
 (247,.sc (.Ax)),
 (248,.sc (.Ax)),
 (249,.sc (.Ax)),
 (250,.sc (.Ax)),
 (252,.sc (.Ax)),
 (253,.sc (.Ax)),
 (254,.sc (.Ax)),
 (255,.sc (.Ax)),
 (256,.struct [(0,1),(1,1)] [.int .i64 0,.int .i64 0]),
 (257,.struct [(0,1),(1,1)] [.int .i64 0,.int .i64 0]),
 (259,.sc (.Ax)),
 (261,.sc (.Ax)),
 (262,.sc (.Ax)),
 (263,.sc (.Ax)),
 (264,.sc (.Ax)),
 (265,.sc (.Ax)),
 (266,.sc (.Ax)),
 (267,.struct [(0,1),(1,1),(2,1)] [.int .i64 0,.int .i64 0,.str []]),
 (268,.struct [(0,1),(1,1),(2,1)] [.int .i64 0,.int .i64 0,.str []]),
 (269,.slice 268 3 32),
 (270,.sc (.Ax)),
 (271,.sc (.Ax)),
 (272,.sc (.Ax)),
 (273,.sc (.Ax)),
 (274,.sc (.Ax)),
 (276,.sc (.Ax)),
 (277,.sc (.Ax)),
 (278,.sc (.Ax)),
 (279,.sc (.Ax)),
 (280,.sc (.Ax)),
 (281,.sc (.Ax)),
 (282,.sc (.Ax)),
 (283,.sc (.Ax)),
 (284,.sc (.Ax)),
 (285,.sc (.Ax)),
 (286,.sc (.Ax)),
 (287,.sc (.Ax)),
 (289,.sc (.Ax)),
 (290,.sc (.Ax)),
 (291,.sc (.Ax)),
 (292,.struct [(0,1),(1,1)] [.Eu,.int .i64 0]),
 (293,.struct [(0,1),(1,1)] [.Eu,.int .i64 0]),
 (294,.sc (.Ax)),
 (295,.sc (.Ax)),
 (296,.sc (.Ax)),
 (297,.sc (.Ax)),
 (298,.sc (.Ax)),
 (299,.sc (.Ax)),
 (300,.sc (.Ax)),
 (301,.sc (.Ax)),
 (302,.sc (.Ax)),
 (303,.sc (.Ax)),
 (304,.sc (.Ax)),
 (305,.sc (.Ax)),
 (306,.sc (.int .u32 0)),
 (308,.sc (.Ax)),
 (309,.slice 311 2 16),
 (310,.struct [(0,1),(1,1)] [.int .i64 0,.int .i64 0]),
 (311,.struct [(0,1),(1,1)] [.int .i64 0,.int .i64 0]),
 (312,.sc (.Ax)),
 (313,.sc (.Eu)),
 (314,.sc (.Ax)),
 (316,.sc (.Ax)),
 (317,.sc (.Ax)),
 (318,.sc (.Ax)),
 (319,.sc (.Ax)),
 (320,.sc (.Ax)),
 (321,.sc (.Ax)),
 (322,.sc (.Ax)),
 (323,.sc (.Ax)),
 (325,.sc (.Ax)),
 (326,.sc (.Ax)),
 (327,.slice 333 3 6),
 (328,.slice 336 3 12),
 (329,.struct [(0,1),(1,1),(2,1)] [.slice 3 [] .full,.slice 3 [] .full,.int .i64 0]),
 (330,.struct [(0,1),(1,1),(2,1)] [.slice 3 [] .full,.slice 3 [] .full,.int .i64 0]),
 (331,.sc (.int .u16 0)),
 (332,.struct [(0,1),(1,1),(2,1)] [.int .u16 0,.int .u16 0,.int .u16 0]),
 (333,.struct [(0,1),(1,1),(2,1)] [.int .u16 0,.int .u16 0,.int .u16 0]),
 (334,.sc (.Ax)),
 (335,.struct [(0,1),(1,1),(2,1)] [.int .u32 0,.int .u32 0,.int .u32 0]),
 (336,.struct [(0,1),(1,1),(2,1)] [.int .u32 0,.int .u32 0,.int .u32 0]),
 (337,.sc (.Ax)),
 (338,.sc (.Ax)),
 (339,.sc (.Ax)),
 (341,.sc (.Ax)),
 (342,.sc (.Ax)),
 (343,.sc (.Ax)),
 (344,.sc (.Ax)),
 (346,.sc (.Ax)),
 (347,.sc (.Eu)),
 (348,.sc (.Eu)),
 (350,.sc (.Ax)),
 (351,.sc (.Ax)),
 (352,.sc (.Ax)),
 (353,.sc (.Ax)),
 (354,.sc (.Ax)),
 (355,.sc (.Ax)),
 (357,.sc (.Ax)),
 (358,.sc (.Ax)),
 (359,.sc (.Ax)),
 (360,.sc (.Ax)),
 (373,.sc (.Ax)),
 (385,.sc (.Eu))]
theorem Ac:TU Tryz.prog zj:=⟨wU EQ EQ,EQ⟩
theorem pB {st : St} (hf : Tryz.prog.funcs[f]? = some fn) (h : Ve zj (Bo Tryz.prog) fn [] args st λr st2 => ∃ r2 U, (r2 = r \/ r2 = r.wk) /\ St.le U st2 /\ R r2 U) (hb : fn.body.isSome = true := by rfl) (hn : (fn.name == "runtime.NumGoroutine") = false := by decide) : Bo Tryz.prog f args st R := DP Ac [] hf hb hn h
end Go.Proofs.Z
namespace Go.Proofs.Z
open Go Go.Aw Go.ChangeShapes Go.WideShapes Go.ChangeAt Go.RowKit
def Dq (W:World):Mem:={cell:=λb o=>W.cell? ⟨b,o,none⟩,shape:=λb=>match W.heap[b]? with|some (.cells c _ (0,0))=>some c.size|_=>none}
def gI:St:=⟨λ_=>none,λ_=>none⟩
theorem pK (W:World) (g:iZ (Dq W).cell (Dq W).shape):CL (Dq W) gI W:=
 ⟨λb o v h=>h,λb n h=>(by
   simp only [Dq] at h
   grind),λb cs h=>(by cases h),λb h=>absurd rfl h,λb n h=>(by cases h),g⟩
structure Kept (W W':World):Prop where
 os:W'.os=W.os
 output:W'.output=W.output
 size:W.heap.size<=W'.heap.size
 Ie:∀b,b<W.heap.size->W'.heap[b]? =W.heap[b]?
theorem Yw {args:Array Value} (g:iZ (Dq W).cell (Dq W).shape) (h:Bo P f vs gI λr _=>r=.ret (.bool true)) (ha:Ap (Dq W) vs args.toList):
 Calls P f args W λe W'=>e=.returned (.bool true)/\Kept W W':=by
 have:=h.a (Dq W) W args.toList (pK W g) ha
 rw [Array.toArray_toList] at this
 refine this.mono λe W' ⟨U,st',r,k1,k2,k3,k4⟩=>?_
 subst k4
 refine ⟨?_,k1.os,k1.output,k1.size,λb hb=>k1.Ie b hb rfl rfl⟩
 cases e with
 |returned v=>
  have k3:A3 U (.bool true) v:=k3
  simp only [A3] at k3
  rw [k3]
 |panicked c=>exact k3.elim
 |outgrown=>exact k3.elim
section
variable {H:Type} {enc:TypeId×Value->H} {P:Program} {W W':World} {B:Nat}
theorem Kept.sameAt (h:Kept W W') {p:MemPlace} (U:p.block<W.heap.size):W.sameAt W' p:=by
 cases p with
 |cell b off=>
  have:=h.Ie b U
  show W'.cell? _=W.cell? _
  simp only [World.cell?,this]
 |map b=>exact h.Ie b U
theorem Kept.frozen (h:Kept W W') {b off:Nat} (hb:b<W.heap.size):W'.frozen? ⟨b,off,none⟩=W.frozen? ⟨b,off,none⟩:=by
 simp only [World.frozen?,h.Ie b hb]
theorem Kept.keptBut (h:Kept W W') (U:MemPlace->Prop):W.keptBut W' U:=by
 refine ⟨h.os,h.output,λi hi=>?_⟩
 rw [h.Ie i hi]
 grind
theorem Me (h:Kept W W') {base:Nat} {spare:Nat->Bool} {held:Bool}:∀{ts:List TypeId} {vs:List Value} {ds:List (DataW H)} {ps:List MemPlace},
 DataW.TrodAll enc P W base spare held ts vs ds ps->(∀p ∈ ps,p.block<W.heap.size)->DataW.TrodAll enc P W' base spare held ts vs ds ps
 |[],[],[],_,h0,_=>h0
 |_::_,_::_,_::_,_,⟨p,q,⟨n,h1⟩,h2,e⟩,U=>⟨p,q,⟨n,DataW.trod_carry n _ _ _ h1 λx hx=>h.sameAt (U x f9)⟩,
   Me h h2 (λx hx=>U x f9),e⟩
theorem Yx (hl:laidOutB P=true) (hm:mapsRowed P=true) (hz:((List.range P.types.size).all λt=>match P.underlying t with|some (.slice e)=>decide (0<P.cellsOf e)|_=>true)=true)
 {f:Func} {s:ChangeSpec} {apart fresh handsOn again:Bool} {args:Array Value} {ds gs:List (DataW H)} {before:List MemPlace} {tb:TypeId} (hr:f.resultTypes=#[tb]) (htb:P.underlying tb=some .bool)
 (hts:∀t ∈ f.params.toList,t<P.types.size) (hv:s.vars=[]) (hW:DataW.Whole enc P f.params.toList s.vars apart W args.toList ds gs before) (hfn:s.fn H ds={results:=[.lit (.bool true)],args:=ds}) (hk:Kept W W'):
 s.post enc P f apart fresh handsOn again W args (.bool true) W':=by
 have hlt:∀p ∈ before,p.block<W.heap.size:=λp hp=>hW.lt p hp
 have hW':=hW
 obtain ⟨p,q,hA,hV,rfl,hfz,hnd⟩:=hW
 rw [hv] at hV
 obtain ⟨rfl,rfl⟩:=ChangeShapes.trodVars_none hV
 simp only [List.append_nil] at *
 have hres:∀(b:Nat) (sp:Nat->Bool) (hd:Bool),DataW.TrodAll enc P W' b sp hd f.resultTypes.toList ((Value.bool true).resultList f.resultTypes.size) [.lit (.bool true)] []:=by
  intro b sp hd
  rw [hr]
  refine ⟨[],[],⟨1,?_⟩,rfl,rfl⟩
  rw [DataW.trod_step]
  simp [DataW.trodStep,htb]
  rfl
 have U:∀sp:Nat->Bool,(∀x ∈ p,sp x.block=true)->DataW.TrodAll enc P W' 0 sp true f.params.toList args.toList ds p:=λsp hsp=>
  Me hk (DataW.TrodAll.respare (kids_rows hl hm) (λt e ht hu=>slices_full_of P hz t e ht hu) hts hA hsp) hlt
 have hvars:∀sp:Nat->Bool,DataW.TrodVars enc P W' sp s.vars [] []:=λsp=>by rw [hv];rfl
 have hold:∀x ∈ p,(λb=>decide (b<W.heap.size)) x.block=true:=λx hx=>by simp_all
 refine ⟨ds,[],p,[],p,[],hW',?_,?_,?_,World.keptBut_mono (λx hx=>⟨hx,.inr (.inl hx)⟩) (hk.keptBut (· ∈ p)),λ_=>⟨?_,_,[],p,⟨[]++p,[],trodAll_append (U _ λ_ _=>rfl) (hres _ _ _),hvars _,GT,?_,λha=>hnd ha⟩,λx hx _=>hx⟩⟩
 .grind
 .simp_all
 .simp_all
 .exact RowKit.ok_one hr rfl (RowKit.okWide_bool_mk htb _)
 .intro b off hb
  rw [hk.frozen (b:=b) (hlt _ hb)]
  exact hfz b off hb
def dec (P:Program):Nat->TypeId->DataW H->Option (List V)
 |0,_,_=>none
 |n+1,t,d=>match P.underlying t,d with
  |some .bool,.lit (.bool b)=>some [.bool b]
  |some (.int k),.lit (.int _ m)=>some [.int k m]
  |some .string,.lit (.string s)=>some [.str s]
  |some (.slice e),.nil=>some [.slice (P.cellsOf e) [] .any]
  |some (.slice e),.slice elems _=>(elems.mapM (dec P n e)).map λes=>[.slice (P.cellsOf e) es .any]
  |some (.struct fs),.agg parts=>if parts.length=fs.size then ((fs.toList.zip parts).mapM λp=>dec P n p.1.type p.2).map List.flatten else none
  |_,_=>none
def Vj (P:Program) (S:List TypeId):Bool:=S.all λt=>decide (t<P.types.size)&&match P.underlying t with
 |some .bool|some (.int _)|some .string=>P.cellsOf t==1
 |some (.slice e)=>S.contains e&&decide (0<P.cellsOf e)&&P.cellsOf t==1
 |some (.struct fs)=>fs.toList.all λf=>S.contains f.type
 |_=>false
theorem one_le (d:DataW H):1<=Rows.uptoBulk d:=by
 cases d with
 |lit l=>cases l<;>simp [Rows.uptoBulk]
 |_=>simp [Rows.uptoBulk]
theorem WY {d:DataW H}:∀{l:List (DataW H)},d ∈ l->Rows.uptoBulk d<=Rows.uptoBulkAll l
 |x::r,h=>by
  simp only [Rows.uptoBulkAll]
  rcases List.mem_cons.1 h with rfl|h
  .omega
  .have:=WY h;omega
theorem length_le:∀(l:List (DataW H)),l.length<=Rows.uptoBulkAll l
 |[]=>by simp_all
 |x::r=>by have:=one_le x;have:=length_le r;simp only [Rows.uptoBulkAll,List.length_cons];omega
theorem fT {I:Mem} {b:Nat}:∀{vs:List V} {cs:List Value} {o:Nat},Ap I vs cs->(∀j c,cs[j]? =some c->I.cell b (o+j)=some c)->GW I b o vs
 |[],_,_,_,_=>by simp only [GW]
 |v::r,cs,o,h,k=>by
  simp only [Ap] at h
  obtain ⟨c,s,rfl,hv,hr⟩:=h
  simp only [GW]
  refine ⟨⟨c,by simpa using k 0 c rfl,hv⟩,fT hr λj U hj=>?_⟩
  have:=k (j+1) U f9
  grind
theorem mj {w:World} {a:Addr} {cs:List Value} (h:w.cells? 0 a n=some cs) (hs:a.spot=none):cs.length=n/\∀j c,cs[j]? =some c->w.cell? ⟨a.block,a.off+j,none⟩=some c:=by
 unfold World.cells? at h
 rw [if_pos (Nat.zero_le _)] at h
 have hl:=mapM_some_length h
 simp only [List.length_range] at hl
 refine ⟨hl,λj c U=>?_⟩
 have hjl:j<cs.length:=(List.getElem?_eq_some_iff.1 U).1
 have:=mapM_some_get h j j (List.getElem?_range AC)
 rw [U] at this
 obtain ⟨b,o,sp⟩:=a
 simp only at hs
 subst hs
 rw [CU] at this
 omega
theorem Q6 {w:World} {a:Addr} {cs:List Value} (h:w.cells? 0 a n=some cs) (hn:0<n):a.spot=none:=by
 unfold World.cells? at h
 rw [if_pos (Nat.zero_le _)] at h
 have hl:=mapM_some_length h
 simp only [List.length_range] at hl
 have:=mapM_some_get h 0 0 (List.getElem?_range AC)
 have U:cs[0]? =some cs[0]:=List.getElem?_eq_getElem AC
 rw [U] at this
 obtain ⟨b,o,sp⟩:=a
 cases sp with
 |none=>rfl
 |some s=>
  simp only [Addr.add,if_true,World.cell?] at this
  grind
theorem fU {I:Mem} {b sz:Nat}:∀{es:List (List V)} {o:Nat},(∀(i:Nat) (e:List V),es[i]? =some e->e.length=sz/\GW I b (o+i*sz) e)->CD I sz b o es
 |[],_,_=>by simp only [CD]
 |e::r,o,h=>by
  simp only [CD]
  refine ⟨by simpa using h 0 e rfl,fU λi e' U=>?_⟩
  have:=h (i+1) e' f9
  grind
theorem T7 {S:List TypeId} (K:Kids P (·<P.types.size)) (hS:Vj P S=true) (hB:B<DR):∀(n:Nat) (t:TypeId) (cs:List Value) (x:DataW H×List MemPlace),t ∈ S->Rows.uptoBulk x.1<=B->
 DataW.trod enc P W 0 (λ_=>true) true n t cs=some x->∃vs,dec P n t x.1=some vs/\vs.length=P.cellsOf t/\Ap (Dq W) vs cs:=by
 intro n
 induction n with
 |zero=>intro t cs x _ _ h;simp [DataW.trod] at h
 |succ n ih=>
  intro t cs x ht hb h
  rw [DataW.trod_step] at h
  have hc:=List.all_eq_true.1 hS t ht
  simp only [Bool.and_eq_true,decide_eq_true_eq] at hc
  obtain ⟨hts,hc⟩:=hc
  unfold DataW.trodStep at h
  unfold dec
  cases hu:P.underlying t with
  |none=>simp_all
  |some u=>
   rw [hu] at hc h
   cases u<;>simp only at hc h |-<;>try (cases hc;done)
   case bool=>
    split at h<;>simp_all
    subst h
    exact ⟨_,rfl,rfl,by simp only [Ap,A3];simp_all⟩
   case int k=>
    split at h<;>simp_all
    obtain ⟨⟨rfl,hw⟩,rfl⟩:=h
    exact ⟨_,rfl,rfl,by simp only [Ap,A3];simp_all⟩
   case string=>
    split at h<;>simp_all
    obtain ⟨h1,rfl⟩:=h
    refine ⟨_,rfl,rfl,?_⟩
    simp only [Ap,A3]
    refine ⟨_,_,rfl,⟨GT,?_⟩,rfl⟩
    simp only [Rows.uptoBulk] at hb
    omega
   case slice e=>
    simp only [Bool.and_eq_true,decide_eq_true_eq,beq_iff_eq] at hc
    obtain ⟨⟨he,U⟩,hone⟩:=hc
    have he:e ∈ S:=by simpa using he
    split at h<;>try (simp_all;done)
    .simp only [Option.some.injEq] at h
     subst h
     refine ⟨_,rfl,hone.symm,?_⟩
     simp only [Ap]
     exact ⟨_,_,rfl,Kc U _ (.inr rfl),rfl⟩
    .rename_i _ _ e' a len cap heq
     cases heq
     split at h
     .rename_i hcond
      simp only [Option.map_eq_some_iff,Option.bind_eq_some_iff] at h
      obtain ⟨elems,h1,rest,h2,rfl⟩:=h
      have hlen:elems.length=len:=by simpa using mapM_some_length h1
      simp only [Rows.uptoBulk] at hb
      have hl:=length_le (elems.map (·.1))
      simp only [List.length_map] at hl
      have one:∀(i:Nat) (y:DataW H×List MemPlace),elems[i]? =some y->∃cs,W.cells? 0 (a.add (i*P.cellsOf e)) (P.cellsOf e)=some cs/\∃vs,dec P n e y.1=some vs/\vs.length=P.cellsOf e/\Ap (Dq W) vs cs:=by
       intro i y hy
       have hi:i<len:=by rw [<-hlen];exact (List.getElem?_eq_some_iff.1 hy).1
       have:=mapM_some_get h1 i i (List.getElem?_range hi)
       rw [hy] at this
       obtain ⟨cs',hcs,hy'⟩:=Option.bind_eq_some_iff.1 this
       have hmem:y.1 ∈ elems.map (·.1):=List.mem_map_of_mem (List.mem_of_getElem? hy)
       have:=WY hmem
       exact ⟨cs',hcs,ih e cs' y he AC hy'⟩
      have hes:∃es:List (List V),(elems.map (·.1)).mapM (dec P n e)=some es/\es.length=len/\∀(i:Nat) (vs:List V),es[i]? =some vs->∃cs,W.cells? 0 (a.add (i*P.cellsOf e)) (P.cellsOf e)=some cs/\vs.length=P.cellsOf e/\Ap (Dq W) vs cs:=by
       have gen:∀(l:List (DataW H×List MemPlace)) (k:Nat),(∀(i:Nat) (y:DataW H×List MemPlace),l[i]? =some y->∃cs,W.cells? 0 (a.add ((k+i)*P.cellsOf e)) (P.cellsOf e)=some cs/\∃vs,dec P n e y.1=some vs/\vs.length=P.cellsOf e/\Ap (Dq W) vs cs)->
        ∃es:List (List V),(l.map (·.1)).mapM (dec P n e)=some es/\es.length=l.length/\∀(i:Nat) (vs:List V),es[i]? =some vs->∃cs,W.cells? 0 (a.add ((k+i)*P.cellsOf e)) (P.cellsOf e)=some cs/\vs.length=P.cellsOf e/\Ap (Dq W) vs cs:=by
        intro l
        induction l with
        |nil=>simp_all
        |cons y r ihl=>
         intro k hl
         obtain ⟨cs,g1,vs,g2,g3,g4⟩:=hl 0 y rfl
         obtain ⟨es,k1,k2,k3⟩:=ihl (k+1) (λi y hy=>by
          have:=hl (i+1) y (by grind)
          grind)
         refine ⟨vs::es,by grind,by simp [k2],λi us hi=>?_⟩
         grind
       obtain ⟨es,k1,k2,k3⟩:=gen elems 0 (λi y hy=>by grind)
       exact ⟨es,k1,k2.trans hlen,λi vs hi=>by simp_all⟩
      obtain ⟨es,k1,k2,k3⟩:=hes
      refine ⟨[.slice (P.cellsOf e) es .any],by
       simp_all,hone.symm,?_⟩
      simp only [Ap,A3]
      refine ⟨_,[],rfl,⟨some a,cap,by rw [k2],AC,AC,U,trivial,?_⟩,rfl⟩
      have hspot:cap=0\/a.spot=none:=by
       by_cases h0:cap=0
       .omega
       .right
        by_cases hl0:len=0
        .simp only [if_true] at h2
         have hrl:rest.length=cap - len:=by simpa using mapM_some_length h2
         have:=mapM_some_get h2 0 0 (List.getElem?_range AC)
         rw [List.getElem?_eq_getElem AC] at this
         obtain ⟨cs',hcs,_⟩:=Option.bind_eq_some_iff.1 this
         have hsp:=Q6 hcs U
         rw [hl0] at hsp
         simpa [Addr.add] using hsp
        .obtain ⟨cs,hcs,_⟩:=one 0 elems[0] (List.getElem?_eq_getElem AC)
         have hsp:=Q6 hcs U
         simpa [Addr.add] using hsp
      refine ⟨hspot,fU λi vs hi=>?_⟩
      obtain ⟨cs,g1,g2,g3⟩:=k3 i vs hi
      refine ⟨g2,fT g3 λj c hj=>?_⟩
      have hi':i<es.length:=(List.getElem?_eq_some_iff.1 hi).1
      obtain rfl|hne:=Nat.eq_zero_or_pos cap
      .omega
      .obtain ⟨b,o,sp⟩:=a
       have hsp:sp=none:=hspot.resolve_left AC
       subst hsp
       rw [CU] at g1
       exact (mj g1 rfl).2 j c hj
     grind
   case struct fs=>
    split at h
    .rename_i hlen
     simp only [Option.map_eq_some_iff] at h
     obtain ⟨xs,h1,rfl⟩:=h
     simp only [Rows.uptoBulk] at hb
     have hxl:xs.length=fs.size:=by have:=mapM_some_length h1;simpa using this
     obtain ⟨hT,hsum,hoff⟩:=K.struct hts hu
     have hct:∀f ∈ fs.toList,f.type ∈ S:=λf hf=>by grind
     have gen:∀(l:List Field) (ys:List (DataW H×List MemPlace)) (rs:List Value),l.length=ys.length->(∀f ∈ l,f.type ∈ S)->(∀y ∈ ys,Rows.uptoBulk y.1<=B)->
      rs.length=(l.map λf=>P.cellsOf f.type).sum->
      (∀(j:Nat) (f:Field) (y:DataW H×List MemPlace),l[j]? =some f->ys[j]? =some y->DataW.trod enc P W 0 (λ_=>true) true n f.type ((rs.drop ((l.take j).map λf=>P.cellsOf f.type).sum).take (P.cellsOf f.type))=some y)->
      ∃vs,(l.zip (ys.map (·.1))).mapM (λp=>dec P n p.1.type p.2)=some vs/\vs.flatten.length=(l.map λf=>P.cellsOf f.type).sum/\Ap (Dq W) vs.flatten rs:=by
      intro l
      induction l with
      |nil=>
       intro ys rs h0 _ _ hr _
       refine ⟨[],GT,rfl,?_⟩
       simp at hr
       subst hr
       rfl
      |cons f r ihl=>
       intro ys rs h0 hS' hB' hr hj
       cases ys with
       |nil=>grind
       |cons y ys=>
        simp only [List.map_cons,List.sum_cons] at hr
        obtain ⟨v,g1,g2,g3⟩:=ih f.type _ y (hS' f List.mem_cons_self) (hB' y List.mem_cons_self) (hj 0 f y rfl rfl)
        simp only [List.take_zero,List.map_nil,List.sum_nil,List.drop_zero] at g3
        obtain ⟨vs,k1,k2,k3⟩:=ihl ys (rs.drop (P.cellsOf f.type)) f9 (λf' hf=>hS' f' (List.mem_cons_of_mem _ hf)) (λy' hy=>hB' y' (List.mem_cons_of_mem _ hy)) f9 (λj f' y' hf hy=>by
         have:=hj (j+1) f' y' f9 f9
         simp_all)
        refine ⟨v::vs,f9,f9,?_⟩
        have:=Ap.append g3 k3
        simp_all
     obtain ⟨vs,g1,g2,g3⟩:=gen fs.toList xs cs f9 hct (λy hy=>by have:=WY (List.mem_map_of_mem (f:=(·.1)) hy);omega) AC (λj f y hf hy=>by
      have:=mapM_some_get h1 j f hf
      grind)
     simp_all
    grind
theorem gV {fs:Array Field} (U:P.underlying t=some (.struct fs)) (h:Value.okWide P W .any base t v):∃cs,v=.agg cs:=by
 unfold Value.okWide at h
 grind
theorem dd (U:∃cs,v=.agg cs) (h:Ap I vs v.cells.toList):A3 I (.agg vs) v:=by
 obtain ⟨cs,rfl⟩:=U
 simp only [A3]
 exact ⟨cs.toList,GT,h⟩
theorem uJ {u:V} (U:v.cells=#[v]) (h:Ap I [u] v.cells.toList):A3 I u v:=by
 rw [U] at h
 simp only [Ap] at h
 simp_all
theorem aX (U:P.underlying t=some .string\/(∃e,P.underlying t=some (.slice e))\/(∃k,P.underlying t=some (.int k))\/P.underlying t=some .bool) (h:Value.okWide P W .any base t v):v.cells=#[v]:=by
 cases v with
 |agg cs=>
  unfold Value.okWide at h
  rcases U with U|⟨e,U⟩|⟨k,U⟩|U<;>rw [U] at h<;>simp [Cell.okWide,Cell.ok,U] at h
 |_=>rfl
theorem Zs {u:V} (U:P.underlying t=some .string) (hv:Value.okWide P W .any base t v) (h:Ap I [u] v.cells.toList):A3 I u v:=uJ (aX (.inl U) hv) h
end
end Go.Proofs.Z
namespace Go.Proofs.Z
open Go Go.Aw Go.ChangeShapes Go.WideShapes Go.ChangeAt Go.RowKit Go.Lib
theorem own:ownKnob Tryz.prog.godebug=none:=EQ
noncomputable def listed : List (String × DataW Unit) := [("unicode/utf8.first", Lib.firstData), ("unicode/utf8.acceptRanges", Lib.acceptData), ("strings.asciiSpace", Lib.tabData .u8 Lib.asciiSpaceTab), ("unicode.White_Space", Lib.whiteData)]
def ren:Go.Shelf.Ren:=⟨λn=>n,λ|5=>5|119=>218|138=>221|139=>222|n=>n,λ|3=>1|4=>2|n=>n⟩
theorem zc:U8Types Tryz.prog ren:=⟨EQ,EQ,EQ,EQ⟩
theorem xz:U8Extra Tryz.prog ren:=⟨EQ,EQ,EQ,EQ,EQ,EQ,EQ⟩
def wR:Array Value:=(List.replicate 256 (Value.int .u8 0)).toArray
theorem dN:wR.size=256:=EQ
theorem z3:((begin Tryz.prog (λ_ _=>0) default).world.heap[4]?).bind Obj.row? =some (wR,218):=EQ
theorem z2:((begin Tryz.prog (λ_ _=>0) default).world.heap[3]?).bind Obj.row? =some (#[Value.int .i64 0],3):=EQ
abbrev xI:Value:=.iface 191 (.agg #[.pointer (some ⟨7,86,none⟩)])
theorem eQ (hL2:laidMet Tryz.prog listed W/\W.cell? ⟨0,0,none⟩=some xI) (U:W.ShapedOpen Tryz.prog):iZ (Dq W).cell (Dq W).shape:=by
 obtain ⟨hL,hH⟩:=hL2
 have h8:=utf8Tabs_of_readsT zc xz (Lib.laidMet.reads hL (by unfold listed;repeat (first|exact .head _|refine .tail _ ?_))) (Lib.laidMet.reads hL (by unfold listed;repeat (first|exact .head _|refine .tail _ ?_)))
 obtain ⟨g, t, cs, fuel, p, hg, hty, hvar, hd⟩ := Lib.laidMet.reads hL (n := "strings.asciiSpace") (by unfold listed; repeat (first | exact .head _ | refine .tail _ ?_))
 obtain rfl := Option.some.inj ((show Tryz.prog.globalNamed "strings.asciiSpace" = some 4 by kernel_rfl).symm.trans hg)
 obtain rfl:=Option.some.inj ((show (Tryz.prog.globals[4]?).map (·.type)=some 218 by kernel_rfl).symm.trans hty)
 have hcs:=cells_of_tab (n:=256) (e:=5) EQ EQ EQ EQ hd
 obtain ⟨cs3,hh3,hs3,_⟩:=U.1 4 _ _ (of_decide_eq_true EQ) z3
 refine ⟨h8.1,h8.2,?_,?_,?_,hH⟩
 .exact cell_of_shapedOpen_int U (of_decide_eq_true EQ) z2 EQ EQ EQ EQ
 .intro i hi
  show W.cell? ⟨4,i,none⟩=_
  rw [World.var?_cell hg hvar i,<-Array.getElem?_toList,hcs]
  have hl:Lib.asciiSpaceTab.length=256:=GE
  simp [List.getD,hl,hi]
 .have e:(Dq W).shape 4=some cs3.size:=by simp [Dq,hh3]
  rw [e,hs3,dN]
noncomputable def Iw : List (String × DataW Unit) := listed ++ [("errors.errorType", .iface "internal/reflectlite.rtype" (.agg [.ptr (.lit (.string [101, 114, 114, 111, 114]))]))]
theorem Xay : Tryz.prog.globalNamed "errors.errorType" = some 0 := by kernel_rfl
theorem Xaz : (Tryz.prog.cutTypes.find? (·.1 == "internal/reflectlite.rtype")).map (·.2) = some 191 := by kernel_rfl
theorem XaA:Tryz.prog.types.size=386:=EQ
theorem zJ:((List.range 386).filter λt=>Tryz.prog.rowNamed t [101,114,114,111,114])=[86]:=EQ
theorem eY {l:List (String×DataW Unit)} (e:l=Iw) (h:laidMetH Tryz.prog l W):laidMet Tryz.prog listed W/\W.cell? ⟨0,0,none⟩=some xI:=by
 subst e
 have U : laidMet Tryz.prog (Iw.filter λx => x.2.handleName?.isNone) W /\ handlesMet Tryz.prog [("errors.errorType", .iface "internal/reflectlite.rtype" (.agg [.ptr (.lit (.string [101, 114, 114, 111, 114]))]))] W := by
  unfold laidMetH at h
  rw [show (Iw.filter λx => x.2.handleName?.isSome) = [("errors.errorType", .iface "internal/reflectlite.rtype" (.agg [.ptr (.lit (.string [101, 114, 114, 111, 114]))]))] from by kernel_rfl] at h
  exact h
 rw [show (Iw.filter λx=>x.2.handleName?.isNone)=listed from by kernel_rfl] at U
 refine ⟨U.1,?_⟩
 obtain ⟨name,u,ty,e1,e2,e3,e4,e5⟩:=U.2 _ (List.mem_singleton.2 rfl)
 have en:name=[101,114,114,111,114]:=(Option.some.inj e1).symm
 subst en
 obtain rfl:=Option.some.inj (Xaz.symm.trans e2)
 have hm:ty ∈ (List.range 386).filter λt=>Tryz.prog.rowNamed t [101,114,114,111,114]:=List.mem_filter.2 ⟨List.mem_range.2 (by rw [<-XaA];exact e3),e4⟩
 rw [zJ] at hm
 obtain rfl:=List.mem_singleton.1 hm
 have hh:typeHandle Tryz.prog 86=.pointer (some ⟨7,86,none⟩):=EQ
 rw [hh] at e5
 simpa using World.var?_cell Xay e5 0
theorem eZ {l:List (String×DataW Unit)} (e:l=Iw) (h:laidMet Tryz.prog listed W/\(Iw.filter λx=>x.2.handleName?.isSome).all (handleAtB Tryz.prog W)=true):laidMetH Tryz.prog l W:=by
 subst e
 refine laidMetH_of_parts ?_ h.2
 rw [show (Iw.filter λx=>x.2.handleName?.isNone)=listed from by kernel_rfl]
 exact h.1
noncomputable def EN (os:Os):World:=
 let N:=(World.settled Tryz.prog os).heap.size
 let w0:=World.holding Tryz.prog os ⟨#[.cells (Lib.whiteT.map λ(z:Nat)=>Value.int .u16 (z:Int)).toArray 333,.cells #[.slice (some ⟨N,0,none⟩) 7 7,.slice none 0 0,.int .i64 2] 330],#[],[]⟩
 let put (h:Array Obj) (g:Nat) (cs:Array Value):Array Obj:=h.modify g fun
  | .cells _ t frozen=>.cells cs t frozen
  |o=>o
 let h1:=put w0.heap 1 (Lib.firstTab.map λz=>Value.int .u8 z).toArray
 let h2:=put h1 2 ((List.range 16).flatMap λi=>[Value.int .u8 (Lib.accLo i),Value.int .u8 (Lib.accHi i)]).toArray
 let h3:=put h2 4 (Lib.asciiSpaceTab.map λz=>Value.int .u8 z).toArray
 let h4:=put h3 5 #[.pointer (some ⟨N+1,0,none⟩)]
 let h5:=put h4 0 #[xI]
 {w0 with heap:=h5}
noncomputable abbrev wL:Nat:=(World.settled Tryz.prog default).heap.size
theorem nS (os:Os) (args:Array Value):laidMet Tryz.prog listed ((EN os).forCall (λ_ _=>0) ⟨#[],args,[]⟩).memory:=
 (LaidIn.of_run (l:=listed) [1,2,4,5,wL,wL+1] 10 EQ EQ EQ EQ).met
theorem eX (os:Os) (args:Array Value):laidMet Tryz.prog listed ((EN os).forCall (λ_ _=>0) ⟨#[],args,[]⟩).memory/\(Iw.filter λx=>x.2.handleName?.isSome).all (handleAtB Tryz.prog ((EN os).forCall (λ_ _=>0) ⟨#[],args,[]⟩).memory)=true:=
 ⟨nS os args,EQ⟩
end Go.Proofs.Z
namespace Go.Proofs.Z
open Go Go.Aw
section
variable {H:Type} {P:Program}
theorem Qf {k:IntKind} {d:DataW H} (U:P.underlying t=some (.int k)) (h:dec P n t d=some vs):∃m,vs=[.int k m]:=by
 cases n with
 |zero=>cases h
 |succ n=>
  unfold dec at h
  rw [U] at h
  split at h<;>simp_all
  exact ⟨_,h.symm⟩
theorem er {d:DataW H} (U:P.underlying t=some .string) (h:dec P n t d=some vs):∃s,vs=[.str s]/\s.length+1=Rows.uptoBulk d:=by
 cases n with
 |zero=>cases h
 |succ n=>
  unfold dec at h
  rw [U] at h
  split at h<;>simp_all
  exact ⟨_,h.symm,by simp [Rows.uptoBulk]⟩
theorem iD {d:DataW H} (U:P.underlying t=some (.slice e)) (h:dec P n t d=some vs):
 ∃(m:Nat) (es:List (List V)) (ds:List (DataW H)),n=m+1/\vs=[.slice (P.cellsOf e) es .any]/\ds.mapM (dec P m e)=some es/\Rows.uptoBulkAll ds+1<=Rows.uptoBulk d:=by
 cases n with
 |zero=>cases h
 |succ n=>
  unfold dec at h
  rw [U] at h
  split at h<;>try (simp_all;done)
  .rename_i heq
   cases heq
   cases h
   exact ⟨n,[],[],rfl,rfl,rfl,by simp [Rows.uptoBulk,Rows.uptoBulkAll]⟩
  .rename_i heq
   cases heq
   obtain ⟨es,h1,h2⟩:=Option.map_eq_some_iff.1 h
   exact ⟨n,es,_,rfl,h2.symm,h1,by simp only [Rows.uptoBulk];omega⟩
theorem bm {fs:Array Field} {d:DataW H} (U:P.underlying t=some (.struct fs)) (h:dec P n t d=some vs):
 ∃(m:Nat) (ds:List (DataW H)) (us:List (List V)),n=m+1/\ds.length=fs.size/\((fs.toList.zip ds).mapM λp=>dec P m p.1.type p.2)=some us/\vs=us.flatten/\Rows.uptoBulkAll ds+1=Rows.uptoBulk d:=by
 cases n with
 |zero=>cases h
 |succ n=>
  unfold dec at h
  rw [U] at h
  split at h<;>try (simp_all;done)
  rename_i heq
  cases heq
  split at h
  .obtain ⟨us,h1,h2⟩:=Option.map_eq_some_iff.1 h
   exact ⟨n,_,us,rfl,‹_›,h1,h2.symm,by simp only [Rows.uptoBulk]⟩
  .cases h
theorem Dg {β:Type} {f:α->Option β} {x:α} {l:List α} {r:List β} (h:(x::l).mapM f=some r):∃y U,f x=some y/\l.mapM f=some U/\r=y::U:=by
 simp only [List.mapM_cons] at h
 cases hx:f x with
 |none=>rw [hx] at h;cases h
 |some y=>
  cases hl:l.mapM f with
  |none=>rw [hx,hl] at h;cases h
  |some U=>
   rw [hx,hl] at h
   cases h
   exact ⟨y,U,rfl,rfl,rfl⟩
theorem X2 {α:Type} {f:α->List V} {w:α->Nat} {m:Nat} {e:TypeId} (one:∀(d:DataW H) (vs:List V),dec P m e d=some vs->∃a,vs=f a/\w a<=Rows.uptoBulk d):∀{ds:List (DataW H)} {es:List (List V)},
 ds.mapM (dec P m e)=some es->∃U:List α,es=U.map f/\(U.map w).sum<=Rows.uptoBulkAll ds
 |[],es,h=>by cases h;exact ⟨[],rfl,GT⟩
 |d::r,es,h=>by
  obtain ⟨y,ys,h1,h2,rfl⟩:=Dg h
  obtain ⟨a,rfl,k1⟩:=one d y h1
  obtain ⟨U,rfl,k2⟩:=X2 one h2
  exact ⟨a::U,rfl,by simp only [List.map_cons,List.sum_cons,Rows.uptoBulkAll];omega⟩
end
end Go.Proofs.Z
namespace Go.Aw
open Go
inductive Nd where
 |mk (kind form:Int) (text:List UInt8) (line BT:Int) (kids:List Nd)
namespace Nd
def kind:Nd->Int| .mk k _ _ _ _ _=>k
def form:Nd->Int| .mk _ f _ _ _ _=>f
def text:Nd->List UInt8| .mk _ _ t _ _ _=>t
def line:Nd->Int| .mk _ _ _ l _ _=>l
def BT:Nd->Int| .mk _ _ _ _ c _=>c
def kids:Nd->List Nd| .mk _ _ _ _ _ ks=>ks
end Nd
mutual
def encR:Nd->List V
 | .mk k f t l c ks=>[.int .i64 k,.int .i64 f,.str t,.int .i64 l,.int .i64 c,.slice 6 (Bg ks) .any]
def Bg:List Nd->List (List V)
 |[]=>[]
 |n::r=>encR n::Bg r
end
def AK (n:Nd):List V:=[.int .i64 n.kind,.int .i64 n.form,.str n.text,.int .i64 n.line,.int .i64 n.BT,.slice 6 (Bg n.kids) .any]
def enc (n:Nd):V:=.agg (AK n)
theorem sK (n:Nd):encR n=AK n:=by cases n;rfl
theorem BF (ks:List Nd):Bg ks=ks.map AK:=by
 induction ks with
 |nil=>rfl
 |cons n r ih=>simp only [Bg,sK,ih,List.map_cons]
theorem BL (ks:List Nd):(Bg ks).length=ks.length:=by rw [BF,List.length_map]
theorem X8 (ks:List Nd) (i:Nat):(Bg ks)[i]? =ks[i]?.map AK:=by rw [BF,List.getElem?_map]
theorem Ud (ks:List Nd) (i:Nat):(Bg ks).drop i=Bg (ks.drop i):=by rw [BF,BF,List.map_drop]
theorem iO (ks:List Nd) (i:Nat):(Bg ks).take i=Bg (ks.take i):=by rw [BF,BF,List.map_take]
theorem Pk (a b:List Nd):Bg (a++b)=Bg a++Bg b:=by rw [BF,BF,BF,List.map_append]
mutual
def Nd.size:Nd->Nat
 | .mk _ _ _ _ _ ks=>1+AD ks
def AD:List Nd->Nat
 |[]=>0
 |n::r=>n.size+AD r
end
theorem G5:∀{l:List Nd} {x:Nd},x ∈ l->x.size<=AD l
 |y::r,x,h=>by
  rw [AD]
  rcases List.mem_cons.1 h with rfl|h
  .omega
  .have:=G5 h;omega
theorem CC {n x:Nd} (h:x ∈ n.kids):x.size<n.size:=by
 cases n with
 |mk a b c d e ks=>
  have:=G5 (show x ∈ ks from h)
  rw [Nd.size];omega
theorem Wn {ks:List Nd} (h0:0<=i) (h1:i<ks.length) (k:∀x,ks[i.toNat]? =some x->x ∈ ks->K (AK x)):0<=i/\∃e,(Bg ks)[i.toNat]? =some e/\K e:=by
 have U:i.toNat<ks.length:=AC
 refine ⟨h0,AK ks[i.toNat],?_,k _ (List.getElem?_eq_getElem U) (List.getElem_mem U)⟩
 rw [X8,List.getElem?_eq_getElem U];rfl
theorem Wl {ks:List Nd} {K:Nat->Prop} (k:ks.length<4611686018427387904->K ks.length):∀m,m=(Bg ks).length->m<DR->K m:=λm U h=>by
 rw [BL] at U;subst U;exact k h
theorem Wp {ks:List Nd} {l h:Int} {K:List (List V)->Prop} (h0:0<=l) (h1:l<=h) (h2:h<=ks.length) (k:K (Bg ((ks.take h.toNat).drop l.toNat))):
 (0<=l/\l<=h/\h<=(Bg ks).length)/\∀U,U=(((Bg ks).take h.toNat).drop l.toNat)->K U:=by
 refine ⟨⟨h0,h1,by rw [BL];exact h2⟩,λU e=>?_⟩
 rw [iO,Ud] at e;simp_all
theorem Wo {ks:List Nd} {l:Int} {K:List (List V)->Prop} (h0:0<=l) (h1:l<=ks.length) (k:K (Bg (ks.drop l.toNat))):
 (0<=l/\l<=((Bg ks).length:Int)/\((Bg ks).length:Int)<=(Bg ks).length)/\∀U,U=(((Bg ks).take (((Bg ks).length:Int)).toNat).drop l.toNat)->K U:=by
 refine ⟨⟨h0,by rw [BL];exact h1,Int.le_refl _⟩,λU e=>?_⟩
 rw [Int.toNat_natCast,List.take_length,Ud] at e;simp_all
theorem LQ {a:Int} (h1: -9223372036854775808<=a) (h2:a<=9223372036854775807):IntKind.i64.wrap a=a:=IntWalk.i64_in _ ⟨h1,h2⟩
theorem Wq {a:Int} {K:Int->Prop} (h1: -9223372036854775808<=a) (h2:a<=9223372036854775807) (k:K a):∃r,r=IntKind.i64.wrap a/\K r:=⟨a,(LQ h1 h2).symm,k⟩
theorem Wf {a:Int} {q:Prop} (U:0<=a) (h:m=a.toNat->p) (k:¬m=a.toNat->q):Bw ((m:Int)==a) p q:=
 Wk (λe=>h (by grind)) (λe=>k (λx=>by grind))
theorem Wr {a b:Int} {K:Int->Prop} (hb:0<b) (U:0<=a) (h1:a<=4611686018427387904) (k:K (a / b)):b≠0/\∃r,r=IntKind.i64.wrap (a.tdiv b)/\K r:=by
 have e:a.tdiv b=a / b:=Int.tdiv_eq_ediv_of_nonneg U
 have h2:a / b<=a:=Int.ediv_le_self b U
 have h3:0<=a / b:=Int.ediv_nonneg U AC
 exact ⟨AC,_,(by rw [e,LQ AC AC]),k⟩
theorem Ws {b:Int} (h:b≠0) (k:p):b≠0/\p:=⟨h,k⟩
theorem Wm {ks:List Nd} {x:Nd} (h:ks[i.toNat]? =some x) (U:0<=i) (k:K (AK x)):0<=i/\∃e,(Bg ks)[i.toNat]? =some e/\K e:=
 ⟨U,AK x,by rw [X8,h];rfl,k⟩
theorem X7 {x:List V} (h:es[i.toNat]? =some x) (U:0<=i) (k:K x):0<=i/\∃e,es[i.toNat]? =some e/\K e:=⟨U,x,h,k⟩
theorem Ab {st:St} (sched:List (Nat×Bool)) (L:List Nat) (h:Ix sched all=true) (k:Fh T C all sched L (Bv (L.map some) env.boxes) Q sched env st):
 ∃(sched:List (Nat×Bool)) (L:List Nat),Ix sched all=true/\Fh T C all sched L (Bv (L.map some) env.boxes) Q sched env st:=⟨sched,L,h,k⟩
theorem Ao {st:St} (h:Ix ((List.range all.length).map λi=>(i,true)) all=true)
 (k:Fh T C all ((List.range all.length).map λi=>(i,true)) [] (Bv (([]:List Nat).map some) env.boxes) Q ((List.range all.length).map λi=>(i,true)) env st):
 ∃(sched:List (Nat×Bool)) (L:List Nat),Ix sched all=true/\Fh T C all sched L (Bv (L.map some) env.boxes) Q sched env st:=⟨_,[],h,k⟩
theorem W9 {U:List (Nat×List V)} {st:St} {K:V->Prop} {q:Prop} (v:V) (h:BN T C all o U env st v) (k:v.part K):
 ∃v,(BN T C all o U env st v\/(p/\BN T C all o b1 env st' v)\/(q/\BN T C all o b1 env st v))/\v.part K:=⟨v,.inl h,k⟩
theorem W8 {U:List (Nat×List V)} {st:St} {K:V->Prop} {q:Prop} (h0:p) (v:V) (h:BN T C all o b1 env st' v) (k:v.part K):
 ∃v,(BN T C all o U env st v\/(p/\BN T C all o b1 env st' v)\/(q/\BN T C all o b1 env st v))/\v.part K:=⟨v,.inr (.inl ⟨h0,h⟩),k⟩
theorem W0 {U:List (Nat×List V)} {st:St} {K:V->Prop} {q:Prop} (h0:q) (v:V) (h:BN T C all o b1 env st v) (k:v.part K):
 ∃v,(BN T C all o U env st v\/(p/\BN T C all o b1 env st' v)\/(q/\BN T C all o b1 env st v))/\v.part K:=⟨v,.inr (.inr ⟨h0,h⟩),k⟩
theorem Wa {v:V} {e:Env}:v=v/\e=e/\s=s:=⟨rfl,rfl,rfl⟩
theorem Wb {b:Bool} {e:Env}:Bw b (V.bool true=.bool b/\e=e/\s=s) (V.bool false=.bool b/\e=e/\s=s):=by
 cases b
 .exact Wj Wa
 .exact Wi Wa
theorem Wc {b:Bool} {e:Env}:Bw b (V.bool false=.bool (!b)/\e=e/\s=s) (V.bool true=.bool (!b)/\e=e/\s=s):=by
 cases b
 .exact Wj Wa
 .exact Wi Wa
noncomputable def Env.ts (env:Env) (U:List (Nat×V)) (keep:List Nat):List (Nat×V):=
 List.rec (motive:=λ_=>List (Nat×V)) (List.rec (motive:=λ_=>List (Nat×V)) [] (λt _ ih=>(t,env.get t)::ih) keep) (λp _ ih=>p::ih) U
noncomputable def Env.at (env:Env) (U:List (Nat×V)) (keep:List Nat):Env:=match env with
 |⟨ts,bs,n,sz,gl⟩=>⟨Env.ts ⟨ts,bs,n,sz,gl⟩ U keep,[],n,sz,gl⟩
theorem KU {st:St} (i:Nat) (keep:List Nat) (m:Nat) (J:Nat->Prop) (h0:J 0)
 (he:(env.at [(i,.int .i64 ((0:Nat):Int))] keep).E3 env)
 (hb:∀k:Nat,J k->ih (B2 (λenv' st'=>∃y,J y/\m - y<m - k/\(env.at [(i,.int .i64 (y:Int))] keep).E3 env'/\St.le st st') Q) (env.at [(i,.int .i64 (k:Int))] keep) st):
 ∃(α:Type) (E:α->Env) (S:α->St) (J:α->Prop) (U:α->Nat) (x0:α),J x0/\(E x0).E3 env/\St.le (S x0) st/\
  ∀x,J x->ih (B2 (λenv' st'=>∃y,J y/\U y<U x/\(E y).E3 env'/\St.le (S y) st') Q) (E x) (S x):=
 ⟨Nat,λk=>env.at [(i,.int .i64 (k:Int))] keep,λ_=>st,J,λk=>m - k,0,h0,he,St.le_refl _,hb⟩
theorem JI:(k:Int).tmod 2=1↔k % 2=1:=by grind
theorem GD:(k:Int).tmod 2=0↔k % 2=0:=by grind
theorem drop_at {l:List α} {x:α} (h:l[k]? =some x):l.drop k=x::l.drop (k+1):=by
 obtain ⟨U,rfl⟩:=List.getElem?_eq_some_iff.1 h
 simp_all
noncomputable def Env.bx (env:Env) (U:List Nat):List (Nat×List V):=
 List.rec (motive:=λ_=>List (Nat×List V)) [] (λid _ ih=>match assoc env.boxes id with|some cs=>(id,cs)::ih|none=>ih) U
noncomputable def Env.vN (env:Env) (U:List (Nat×V)) (keep kb:List Nat):Env:=match env with
 |⟨ts,bs,n,sz,gl⟩=>⟨Env.ts ⟨ts,bs,n,sz,gl⟩ U keep,Env.bx ⟨ts,bs,n,sz,gl⟩ kb,n,sz,gl⟩
theorem VZ {st:St} (i:Nat) (keep U:List Nat) (m:Nat) (J:Nat->Prop) (h0:J 0)
 (he:(env.vN [(i,.int .i64 ((0:Nat):Int))] keep U).E3 env)
 (hb:∀k:Nat,J k->ih (B2 (λenv' st'=>∃y,J y/\m - y<m - k/\(env.vN [(i,.int .i64 (y:Int))] keep U).E3 env'/\St.le st st') Q) (env.vN [(i,.int .i64 (k:Int))] keep U) st):
 ∃(α:Type) (E:α->Env) (S:α->St) (J:α->Prop) (μ:α->Nat) (x0:α),J x0/\(E x0).E3 env/\St.le (S x0) st/\
  ∀x,J x->ih (B2 (λenv' st'=>∃y,J y/\μ y<μ x/\(E y).E3 env'/\St.le (S y) st') Q) (E x) (S x):=
 ⟨Nat,λk=>env.vN [(i,.int .i64 (k:Int))] keep U,λ_=>st,J,λk=>m - k,0,h0,he,St.le_refl _,hb⟩
theorem OG {st:St} (f:α->List (Nat×V)) (keep kb:List Nat) (S:α->St) (J:α->Prop) (U:α->Nat) (x0:α) (h0:J x0)
 (he:(env.vN (f x0) keep kb).E3 env) (hs:St.le (S x0) st)
 (hb:∀x,J x->ih (B2 (λenv' st'=>∃y,J y/\U y<U x/\(env.vN (f y) keep kb).E3 env'/\St.le (S y) st') Q) (env.vN (f x) keep kb) (S x)):
 ∃(α:Type) (E:α->Env) (S:α->St) (J:α->Prop) (U:α->Nat) (x0:α),J x0/\(E x0).E3 env/\St.le (S x0) st/\
  ∀x,J x->ih (B2 (λenv' st'=>∃y,J y/\U y<U x/\(E y).E3 env'/\St.le (S y) st') Q) (E x) (S x):=
 ⟨α,λk=>env.vN (f k) keep kb,S,J,U,x0,h0,he,hs,hb⟩
def strs (l:List (List UInt8)):List (List V):=l.map λs=>[V.str s]
theorem PK {l new:List (List UInt8)} {own:AH} {st:St} {K:V->St->Prop} (h:own.BM st) (hb:l.length+new.length<=1000000000)
 (k:∀U:AH,U.BM st->K (.slice 1 (strs (l++new)) U) (U.st st (l++new).length)):Aj 1 16 (strs l) own (strs new) (own.st st l.length) K:=by
 have h0:∀l,(strs l).length=l.length:=λl=>by simp [strs]
 have h1:∀l,(strs l).map (·.map V.JK)=strs l:=λl=>by simp only [strs,List.map_map];rfl
 have:=EI (sz:=1) (bytes:=16) (es:=strs l) (new:=strs new) (K:=K) h (by grind) (by rw [h0,h0];simp only [DR];omega)
  (by simp [strs,V.sc]) (λU ho=>by
    have:=k U ho
    rw [h0,h0,h1]
    rw [List.length_append] at this
    rw [Nat.mul_one,show strs l++strs new=strs (l++new) by simp [strs]]
    omega)
 simp_all
def ints (l:List Int):List (List V):=l.map λn=>[V.int .i64 n]
theorem Wg [BEq α] [LawfulBEq α] {a b:α} {q:Prop} (h:a=b->p) (k:¬a=b->q):Bw (a==b) p q:=
 Wk (λe=>h (eq_of_beq e)) (λe=>k (λx=>by simp_all))
theorem Wh [Decidable c] {q:Prop} (h:c->p) (k:¬c->q):Bw (decide c) p q:=
 Wk (λe=>h (of_decide_eq_true e)) (λe=>k (of_decide_eq_false e))
section
variable {R:As->St->Prop} {st:St}
theorem fin (h:R r st) (e:r=r'):∃r2 U,(r2=r'\/r2=r'.wk)/\St.le U st/\R r2 U:=by subst e;exact ⟨r,st,.inl rfl,St.le_refl _,h⟩
theorem AB {b b':Bool} (h:R (.ret (.bool b)) st) (e:b=b'):∃r2 U,(r2=(.ret (.bool b'))\/r2=(As.ret (.bool b')).wk)/\St.le U st/\R r2 U:=by subst e;exact fin h rfl
theorem VG (h:R r st) (e:r=r'.wk):∃r2 U,(r2=r'\/r2=r'.wk)/\St.le U st/\R r2 U:=by subst e;exact ⟨_,st,.inr rfl,St.le_refl _,h⟩
theorem AF (e:r=r'.wk) (h:R r st):∃r2 U,(r2=r'\/r2=r'.wk)/\St.le U st/\R r2 U:=VG h e
end
theorem QO {P:Prop} (k:A) (h:A->P:=by intro k;with_reducible first|(show _/\_;first|  exact Wm ‹_› AC k|exact Wn AC AC k|exact Wo AC AC k|exact Wp AC AC AC k|exact Wr Do AC AC k|exact Ws Do k)|(show Bw _ _ _;first|exact Wi k|exact Wj k)|(intro x y z;exact Wl k x y z)|(show Exists _;first|exact Wq AC AC k)|fail):P:=h k
theorem L3 {P B:Prop} (k:A) (l:B) (h:A->B->P:=by intro k l;with_reducible first|(show Bw _ _ _;first|exact Wf Do k l|exact Wg k l|exact Wh k l|exact Wk k l)|fail):P:=h k l
theorem Yl {P:Prop} (h:P:=by refine ⟨rfl,?_,?_,rfl⟩<;>repeat' (first|exact trivial|exact rfl|refine And.intro ?_ ?_)):P:=h
section
variable {D:List Deferred} {P:Program} {T:List (Nat×Ty)} {C:FuncId->List V->St->(As->St->Prop)->Prop} {I0 I:Mem} {st0 st:St} {w0 w:World} {β:Nat->Option Nat} {env:Env} {a:Act}
def vP:Nat->Nat->List Bool
 |0,_=>[]
 |n+1,m=>(m % 2==1)::vP n (m / 2)
def yq (n:Nat):List Nat->List (List Bool×Nat)
 |[]=>[]
 |x::r=>(vP n (x / 32),x % 32)::yq n r
def Ik (all:List Oper) (U:List (List Bool×Nat)):Bool:=
 ((List.range all.length).all λj=> !(BO all (List.replicate all.length false) j)||U.contains (List.replicate all.length false,j))&&
 ((List.replicate all.length false==List.replicate all.length true)||(List.range all.length).any λj=>BO all (List.replicate all.length false) j)&&
 U.all λp=>(p.1.length==all.length)&&((List.range all.length).all λj=> !(BO all (p.1.set p.2 true) j)||U.contains (p.1.set p.2 true,j))&&
  ((p.1.set p.2 true==List.replicate all.length true)||(List.range all.length).any λj=>BO all (p.1.set p.2 true) j)
def qx (T:List (Nat×Ty)) (C:FuncId->List V->St->(As->St->Prop)->Prop) (all:List Oper) (Q:AP->Env->St->Prop) (E:List Bool->Env) (S:List Bool->St) (p:List Bool×Nat):Prop:=
 match all[p.2]? with
 |some o=>BA all o (E p.1) (Gt T C o (E p.1) (S p.1) (λv env st=>env.go o.dst v λenv=>(E (p.1.set p.2 true)).E3 env/\St.le (S (p.1.set p.2 true)) st) Q)
   ((E p.1).go o.dst (.Bc []) λenv=>(E (p.1.set p.2 true)).E3 env/\St.le (S (p.1.set p.2 true)) (S p.1))
 |none=>True
theorem gZ (hT:HD P T) (hC:∀f args st R,C f args st R->DA P f args st R/\Plain P f) {E:List Bool->Env} {S:List Bool->St} {PL:List (List Bool×Nat)}
 (hc:Ik all PL=true) (step:∀p ∈ PL,qx T C all Q E S p) (fin:Q .normal (E (List.replicate all.length true)) (S (List.replicate all.length true))):
 ∀(fuel:Nat) (bs:List Bool) (listed:Array Bool) (I:Mem) (β:Nat->Option Nat) (a:Act) (w:World),bs.length=all.length->listed.toList=bs->bs.count false<=fuel->
  (∀j,j<all.length->BO all bs j=true->(bs,j) ∈ PL)->(bs=List.replicate all.length true\/∃j,j<all.length/\BO all bs j=true)->
  Rel D I0 st0 w0 I β (E bs) (S bs) a w->wpAny P .any all.toArray (Dn D I0 st0 w0 Q) fuel listed a w:=by
 have full:∀{bs:List Bool},bs.length=all.length->bs.count false=0->bs=List.replicate all.length true:=λ{bs} hb h0=>by
  rw [List.eq_replicate_iff]
  grind
 have noready:∀{j:Nat},BO all (List.replicate all.length true) j=true->j<all.length->False:=λ{j} h hj=>by
  unfold BO at h
  simp_all
 simp only [Ik,Bool.and_eq_true,List.all_eq_true] at hc
 intro fuel
 induction fuel with
 |zero=>
  intro bs listed I β a w hb U hf hp hr h
  have:=full hb AC
  subst this
  refine ⟨?_,⟨I,β,_,_,.normal,h,trivial,fin⟩⟩
  rw [List.eq_nil_iff_forall_not_mem]
  intro j hj
  obtain ⟨h1,h2⟩:=(EP U hb).1 hj
  grind
 |succ fuel ih=>
  intro bs listed I β a w hb U hf hp hr h
  refine ⟨λh0=>?_,λi hi=>?_⟩
  .rcases hr with rfl|⟨j,h1,h2⟩
   .exact ⟨I,β,_,_,.normal,h,trivial,fin⟩
   .have:=(EP U hb).2 ⟨h1,h2⟩
    simp_all
  .obtain ⟨h1,h2⟩:=(EP U hb).1 hi
   have hm:=hp i h1 h2
   have hs:=step _ hm
   unfold qx at hs
   have ho:all[i]? =some all[i]:=List.getElem?_eq_getElem h1
   simp only [ho] at hs
   obtain ⟨⟨c1,c2⟩,c3⟩:=hc.2 _ hm
   refine MP hT hC (Q:=Q) ho (λ{I β env st a w} h k=>?_) h hs (K:=λenv st=>(E (bs.set i true)).E3 env/\St.le (S (bs.set i true)) st)
   .have hbi:i<bs.length:=AC
    refine ih (bs.set i true) _ I _ a w f9 (by simp [U]) ?_ (λj hj hr=>?_) ?_ ((h.H5 k.2).Jf (Env.Js k.1))
    .have:=List.count_set (a:=true) (i:=i) (l:=bs) (b:=false) hbi
     unfold BO at h2
     grind
    .grind
    grind
theorem Mn (hP:TU P T) (hC:∀f args st R,C f args st R->DA P f args st R/\Plain P f) {id:Nat} {ops:Array Oper} (E:List Bool->Env) (S:List Bool->St) (PL:List (List Bool×Nat))
 (hc:Ik ops.toList PL=true) (h0:(E (List.replicate ops.toList.length false)).E3 env) (s0:St.le (S (List.replicate ops.toList.length false)) st) (step:∀p ∈ PL,qx T C ops.toList Q E S p)
 (fin:Q .normal (E (List.replicate ops.toList.length true)) (S (List.replicate ops.toList.length true))):AW P (.region id ops true) Q env st:=λD I0 st0 w0 I β a w h=>
 wp_region_any hP.m (by
  have U:=hc
  simp only [Ik,Bool.and_eq_true,List.all_eq_true] at U
  have:=gZ (D:=D) hP.t hC hc step fin ops.size (List.replicate ops.toList.length false) (Array.replicate ops.size false) I _ a _ GT GT GT (λj hj hr=>?_) ?_ (((h.Ic (Gb.drew w)).H5 s0).Jf (Env.Js h0))
  .simp_all
  .grind
  simp_all)
end
def V.eS:V->Bool
 | .ptr _ _=>true
 |_=>false
theorem Ap.yw {I J:Mem}:∀{vs:List V} {cs:List Value},Ap I vs cs->vs.all V.eS=true->Ap J vs cs
 |[],cs,h,_=>by simpa only [Ap] using h
 |v::vs,cs,h,k=>by
  simp only [Ap] at h |-
  obtain ⟨c,r,rfl,h1,h2⟩:=h
  simp only [List.all_cons,Bool.and_eq_true] at k
  refine ⟨c,r,rfl,?_,Ap.yw h2 k.2⟩
  cases v<;>first|(simp only [A3] at h1 |-;exact h1)|exact absurd k.1 (by simp [V.eS])
def HM (P:Program) (g:FuncId) (args:List V) (x:Option V) (st:St) (R:St->Prop):Prop:=
 ∀(I:Mem) (w:World) (U:List Value) (u:FrameMode),CL I st w->Ap I args U->
  (match x with|none=>u=.returning|some v=>∃c,u=.panicking [{v:=c,recovered:=false}]/\A3 I v c)->
  CallsD P g U.toArray u w λe u' w'=>(∃v,e=.returned v)/\settle u'=.returning/\∃I' st',Fr I st w I' st' w'/\CL I' st' w'/\R st'
section
variable {D:List Deferred} {P:Program} {T:List (Nat×Ty)} {I0 I:Mem} {st0 st:St} {w0 w:World} {β:Nat->Option Nat} {env:Env} {a:Act}
theorem Rel.defer (h:Rel D I0 st0 w0 I β env st a w) (d:Deferred):Rel (d::D) I0 st0 w0 I β env st {a with defers:=d::a.defers} w:=
 ⟨h.fr,h.s,⟨h.f.size,h.f.tmps,h.f.box,h.f.BU,h.f.inj,h.f.sep,by rw [<-h.f.defers]⟩⟩
def Xc (T:List (Nat×Ty)) (fn:Func) (R:As->St->Prop) (env:Env) (st:St):Prop:=
 E9 T env st fn.results.toList λvs=>match vs with|[v]=>R (.ret v) st|vs=>R (.ret (.Bc vs)) st
def cn (P:Program) (T:List (Nat×Ty)) (g:FuncId) (U:List V) (fn:Func) (R:As->St->Prop):AP->Env->St->Prop
 | .normal,env,st| .ret,env,st=>HM P g U none st λst'=>Xc T fn R env st'
 | .B7 v,env,st=>HM P g U (some v) st λst'=>Xc T fn R env st'
 |_,_,_=>False
def rB:AP->Env->St->Prop:=λ_ _ _=>False
theorem Gz {U:List Value} (gl:List Nat) (hs:CL I st w) (hargs:Ap I args U) (hle:Nat.ble args.length fn.ntmps=true):
 Rel [] I st w I (λ_=>none) {tmps:=Ja 0 args,boxes:=[],BU:=0,sz:=fn.ntmps,gl} st
  {tmps:=U.toArray++Array.replicate (fn.ntmps - U.toArray.size) undef,defers:=[]} w:=by
 have hle:=Nat.le_of_ble_eq_true hle
 have hlen:=Ap.length hargs
 refine NP hs (by grind) (λt v e=>?_) rfl rfl
 obtain ⟨_,e⟩:=QU e
 rw [Nat.sub_zero] at e
 obtain ⟨c',e1,e2⟩:=Ap.get hargs e
 have hlt:t<U.length:=by
  rcases Nat.lt_or_ge t U.length with h|h
  .exact h
  .simp_all
 have:(U.toArray++Array.replicate (fn.ntmps - U.toArray.size) undef).getD t undef=c':=by
  rw [List.getElem?_eq_getElem hlt] at e1
  injection e1 with e1
  subst e1
  simp [Array.getD,Array.getElem_append,hlt]
  omega
 simp_all
theorem J7 (hP:TU P T) (gl:List Nat) (hf:P.funcs[f]? =some fn) {c0 c1:Code} {mk U:Oper}
 (hb : fn.body = some (.seq c0 (.seq c1 (.seq (.region rid #[mk, U] false) rest)))) (hn : (fn.name == "runtime.NumGoroutine") = false) {cap : Array Operand} {tf : Nat}
 (h1:mk.op=.makeFunc (.func g) #[] cap) (h2:mk.dst=some tf) (h3:mk.guard=none) (h4:U.op=.defer {callee:=.value (.tmp tf),args:=#[],argTypes:=#[]}) (h5:U.guard=none) (h6:U.dst=none)
 (hg:Plain P g) (hle:Nat.ble args.length fn.ntmps=true)
 (h:Qa T (Bo P) c0 (B2 (Qa T (Bo P) c1 (B2 (λenv st=>XJ env cap.toList λvs=>vs.all V.eS=true/\env.go (some tf) (.func g [] vs) λenv=>
   AW P rest (cn P T g vs fn R) env st) rB)) rB) {tmps:=Ja 0 args,boxes:=[],BU:=0,sz:=fn.ntmps,gl} st):Bo P f args st R:=by
 refine ⟨?_,fn,hf,f9,hn⟩
 intro I w cargs hs hargs
 refine calls_of_wp_defers hf hb ?_
 have hsd:=λc {Q env st} k=>Oj (Q:=Q) (env:=env) (st:=st) hP (Bq P) (λ_ _ _ _ _ h k=>k.mono h) c k
 refine wp_seq (wp_mono (hsd c0 h [] I st w I _ _ w (Gz gl hs hargs hle)) ?_)
 rintro e a w1 ⟨I1,β1,env1,st1,ae,r1,x1,k1⟩
 cases ae with
 |exit _|goto _|ret|B7 _=>exact k1.elim
 |normal=>
 cases e with
 |exit _|goto _|ret|panic _|outgrown=>exact x1.elim
 |normal=>
 refine wp_seq (wp_mono (hsd c1 k1 [] I st w I1 _ _ w1 r1) ?_)
 rintro e a w2 ⟨I2,β2,env2,st2,ae,r2,x2,k2⟩
 cases ae with
 |exit _|goto _|ret|B7 _=>exact k2.elim
 |normal=>
 cases e with
 |exit _|goto _|ret|panic _|outgrown=>exact x2.elim
 |normal=>
 refine wp_seq (wp_region_list ?_)
 show wpList P #[mk,U] _ [mk,U] a w2
 unfold wpList
 rw [if_pos (by simp [Region.wanted,h3])]
 left
 obtain ⟨vs,hv,kp,kg⟩:=Gl r2.f (show XJ env2 cap.toList _ from k2)
 have hcv:A3 I2 (.func g [] vs) (.func (.func g) #[] (cap.map a.eval)):=by
  simp only [A3]
  exact ⟨[],cap.toList.map a.eval,by congr 1;grind,H1,hv⟩
 obtain ⟨env3,r3,k3⟩:=CY r2 (A6.of hcv) kg
 have htf:tf<a.tmps.size:=by
  rw [r2.f.size]
  exact (IK kg).1 tf rfl
 unfold Oper.wp
 rw [show (execOp a.eval mk).run P w2=.ok (.value (.func (.func g) #[] (cap.map a.eval))) w2 by simp only [execOp,h1,Array.map_empty];rfl]
 show wpList P #[mk,U] _ [U] (a.put mk.dst _) w2
 rw [h2]
 unfold wpList
 rw [if_pos (by simp [Region.wanted,h5])]
 left
 have hev:(a.put (some tf) (.func (.func g) #[] (cap.map a.eval))).eval (.tmp tf)=.func (.func g) #[] (cap.map a.eval):=by
  simp [Act.put,Act.eval,htf]
 unfold Oper.wp
 rw [show (execOp (a.put (some tf) (.func (.func g) #[] (cap.map a.eval))).eval U).run P w2=.ok (.defer {target:=.fn (.func g) (cap.map a.eval),args:=#[]}) w2 by
  simp only [execOp,h4,resolve,hev,Deferred.ofValue,Array.map_empty,Array.empty_append];rfl]
 rw [Oper.upon_defer]
 rw [h6]
 unfold wpList
 show rest.wp P _ _ _
 have r4:=r3.defer {target:=.fn (.func g) (cap.map a.eval),args:=#[]}
 refine wp_mono (k3 _ I st w I2 _ _ w2 r4) ?_
 rintro e a5 w5 ⟨I5,β5,env5,st5,ae,r5,x5,k5⟩
 have hd:=r5.f.defers
 obtain ⟨fn2,p1,p2,p3⟩:=hg
 have hinv:(invoke (.fn (.func g) (cap.map a.eval)) #[]).run P w5=.ok (.enter g (cap.toList.map a.eval).toArray) w5:=by
  have hb:fn2.body.isNone=false:=by cases hb:fn2.body<;>simp_all
  simp only [invoke,callFunc,Sem.run_bind,Sem.run_pure,Result.andThen_ok,run_program,p1]
  rw [p3]
  simp [hb]
  apply Array.ext';simp
 have last:∀{u:FrameMode} {x:Option V},u≠.run->(match x with|none=>u=.returning|some v=>∃c,u=.panicking [{v:=c,recovered:=false}]/\A3 I5 v c)->HM P g vs x st5 (λst'=>Xc T fn R env5 st')->
  Leaves P fn a5.tmps (λe w'=>∃I' st' r,Fr I st w I' st' w'/\CL I' st' w'/\kq I' e r/\R r st') a5.defers u w5:=by
  intro u x hu hx k
  rw [hd]
  refine leaves_cons hu hinv ((k I5 w5 _ u r5.s (Ap.yw hv kp) hx).mono ?_)
  rintro e u' w6 ⟨⟨v,rfl⟩,hset,I6,st6,q1,q2,q3⟩
  show Leaves P fn a5.tmps _ [] (settle u') w6
  rw [hset]
  have r6:=r5.called q1 q2
  obtain ⟨v,c,g1,g2,g3⟩:=CK (P:=P) hP.t r6 q3
  exact ⟨c,g1,I6,st6,.ret v,r6.fr,r6.s,g2,g3⟩
 cases ae with
 |normal=>
  cases e with
  |normal=>exact last (x:=none) GT rfl k5
  |_=>exact x5.elim
 |ret=>
  cases e with
  |ret=>exact last (x:=none) GT rfl k5
  |_=>exact x5.elim
 |B7 v=>
  cases e with
  |panic chain=>
   obtain ⟨c,rfl,hc⟩:=x5
   exact last (x:=some v) GT ⟨c,rfl,hc⟩ k5
  |_=>exact x5.elim
 |exit _=>exact k5.elim
 |goto _=>exact k5.elim
def yC:Option V->V
 |none=>.DI
 |some v=>v
def zD (T:List (Nat×Ty)) (fn:Func) (R:St->Prop):AP->Env->St->Prop
 | .normal,env,st| .ret,env,st=>Xc T fn (λ_ st=>R st) env st
 |_,_,_=>False
theorem FW (hP:TU P T) (gl:List Nat) {x:Option V} {st:St} {R:St->Prop} (hf:P.funcs[g]? =some fn) {ro ao:Oper}
 (hb:fn.body=some (.seq (.region rid #[ro,ao] false) rest)) {t1 t2:Nat} {zj:Array TypeId} (h1:ro.op=.call {callee:=.builtin .recover,args:=#[],argTypes:=zj}) (h2:ro.dst=some t1) (h3:ro.guard=none)
 (h4:ao.op=.assign (.tmp t1)) (h5:ao.dst=some t2) (h6:ao.guard=none) (hle:Nat.ble args.length fn.ntmps=true)
 (h:∀env0:Env,env0={tmps:=Ja 0 args,boxes:=[],BU:=0,sz:=fn.ntmps,gl}->env0.go (some t1) (yC x) λenv=>env.go (some t2) (yC x) λenv=>AW P rest (zD T fn R) env st):HM P g args x st R:=by
 intro I w U u hs hargs hx
 refine callsD_of_wpS hf hb (λc0 cs hu=>?_)
 refine wpS_seq (wpS_region ?_)
 obtain ⟨c,cs',u',hrec,hrep,hcs,hset⟩:∃(c:Value) (cs':List Frame) (u':FrameMode),(match recoverD (c0::cs) with|some (v,cs1)=>c=v/\cs'=cs1|none=>c=.nilIface/\cs'=c0::cs)/\A3 I (yC x) c/\cs'={c0 with mode:=u'}::cs/\settle u'=.returning:=by
  cases x with
  |none=>
   have hx:u=.returning:=hx
   rw [hx] at hu
   refine ⟨.nilIface,c0::cs,.returning,?_,H1,?_,rfl⟩
   .simp only [recoverD,hu,and_self]
   .rw [<-hu]
  |some v=>
   obtain ⟨c,hx,hc⟩:=hx
   rw [hx] at hu
   refine ⟨c,{c0 with mode:=.panicking [{v:=c,recovered:=true}]}::cs,.panicking [{v:=c,recovered:=true}],?_,hc,rfl,rfl⟩
   simp only [recoverD,hu,and_self]
 have r0:=Gz (fn:=fn) gl hs hargs hle
 obtain ⟨env1,r1,k1⟩:=CY r0 (A6.of hrep) (h _ rfl)
 obtain ⟨env2,r2,k2⟩:=CY r1 (A6.of hrep) k1
 have hlt:t1<(U.toArray++Array.replicate (fn.ntmps - U.toArray.size) undef).size:=by
  have:=(IK (h _ rfl)).1 t1 rfl
  rw [r0.f.size]
  exact this
 show wpOpsS P #[ro,ao] _ [0,1] _ _ _
 unfold wpOpsS
 simp only [List.getElem?_toArray,List.getElem?_cons_zero]
 rw [if_pos (by simp [Region.wanted,h3])]
 rw [show ∀ρ,(execOp ρ ro).run P w=.ok .recover w from λρ=>by simp only [execOp,h1];rfl]
 dsimp only
 have next:∀(b:Act) (tail:Act->List Frame->World->Prop),tail (b.put (some t1) c) cs' w->(match recoverD (c0::cs) with|some (v,cs1)=>tail (b.put ro.dst v) cs1 w|none=>tail (b.put ro.dst .nilIface) (c0::cs) w):=λb tail ht=>by grind
 refine next _ (λa cs w=>wpOpsS P #[ro,ao] _ [1] a cs w) ?_
 unfold wpOpsS
 simp only [List.getElem?_toArray,List.getElem?_cons_succ,List.getElem?_cons_zero]
 rw [if_pos (by simp [Region.wanted,h6])]
 have hev:∀tm:Act,t1<tm.tmps.size->(tm.put (some t1) c).eval (.tmp t1)=c:=λtm ht=>by simp [Act.put,Act.eval,ht]
 rw [show ∀ρ,(execOp ρ ao).run P w=.ok (.value (ρ (.tmp t1))) w from λρ=>by simp only [execOp,h4];rfl]
 dsimp only
 rw [Oper.upon_value,hev _ hlt,h5]
 unfold wpOpsS
 show rest.wpS P _ _ cs' w
 refine wpS_of_wp (wp_mono (k2 [] I st w I _ _ w r2) ?_)
 rintro e a5 w5 ⟨I5,β5,env5,st5,ae,r5,x5,k5⟩
 have last:Xc T fn (λ_ st=>R st) env5 st5->a5.defers=[]/\∃u',cs'={c0 with mode:=u'}::cs/\∃v,(results fn a5.tmps).run P w5=.ok v w5/\((∃v',Ending.returned v=.returned v')/\settle u'=.returning/\∃I' st',Fr I st w I' st' w5/\CL I' st' w5/\R st'):=λq=>by
  obtain ⟨v,c,g1,g2,g3⟩:=CK (P:=P) (R:=λ_ st=>R st) hP.t r5 (show E9 T env5 st5 fn.results.toList _ from q)
  exact ⟨r5.f.defers,u',hcs,c,g1,⟨_,rfl⟩,hset,I5,st5,r5.fr,r5.s,g3⟩
 cases ae with
 |normal=>
  cases e with
  |normal=>exact last k5
  |_=>exact x5.elim
 |ret=>
  cases e with
  |ret=>exact last k5
  |_=>exact x5.elim
 |B7 v=>exact k5.elim
 |exit _=>exact k5.elim
 |goto _=>exact k5.elim
end
end Go.Aw
namespace Go.Aw
theorem Wt [BEq α] [LawfulBEq α] {a b:α} {q:Prop} (e:a=b) (h:p):Bw (a==b) p q:=Wg (λ_=>h) (λn=>absurd e n)
theorem Wu [BEq α] [LawfulBEq α] {a b:α} {q:Prop} (e:¬a=b) (h:q):Bw (a==b) p q:=Wg (λn=>absurd n e) (λ_=>h)
theorem Wv [Decidable c] {q:Prop} (e:c) (h:p):Bw (decide c) p q:=Wh (λ_=>h) (λn=>absurd e n)
theorem Ww [Decidable c] {q:Prop} (e:¬c) (h:q):Bw (decide c) p q:=Wh (λn=>absurd n e) (λ_=>h)
end Go.Aw
namespace Go.Proofs.Z
open Go Go.Aw
abbrev PC (f:FuncId) (args:List V) (st:St) (R:As->St->Prop):Prop:=Bo Tryz.prog f args st R
structure Tk where
 kind:Int
 text:List UInt8
 line:Int
 BT:Int
structure An where
 AL:List Tk
 pos:Int
 Ev:List Int
 wait:Int
def Tk.cells (t:Tk):List V:=[.int .i64 t.kind,.str t.text,.int .i64 t.line,.int .i64 t.BT]
def FX (t:Tk):V:=.agg t.cells
def AU (l:List Tk):List (List V):=l.map Tk.cells
def An.cells (s:An):List V:=[.slice 4 (AU s.AL) .any,.int .i64 s.pos,.slice 1 (ints s.Ev) .any,.int .i64 s.wait]
def D9 (s:An):V:=.agg s.cells
def TR:Tk:=⟨0,[],0,0⟩
def Fk:An:=⟨[],0,[],0⟩
theorem IB (l:List Tk):(AU l).length=l.length:=by simp [AU]
theorem C4 (l:List Int):(ints l).length=l.length:=by simp [ints]
theorem Wz {l:List Tk} {K:Nat->Prop} (k:l.length<4611686018427387904->K l.length):∀m,m=(AU l).length->m<DR->K m:=λm U h=>by
 rw [IB] at U;subst U;exact k h
theorem WA {K:Nat->Prop} (k:l.length<4611686018427387904->K l.length):∀m,m=(ints l).length->m<DR->K m:=λm U h=>by
 rw [C4] at U;subst U;exact k h
theorem WC {l:List Tk} (h0:0<=i) (h1:i<l.length) (k:∀x,l[i.toNat]? =some x->K x.cells):0<=i/\∃e,(AU l)[i.toNat]? =some e/\K e:=by
 have U:i.toNat<l.length:=AC
 exact ⟨h0,l[i.toNat].cells,by simp [AU,U],k _ (List.getElem?_eq_getElem U)⟩
theorem WB {l:List Tk} {x:Tk} (h:l[i.toNat]? =some x) (U:0<=i) (k:K x.cells):0<=i/\∃e,(AU l)[i.toNat]? =some e/\K e:=
 ⟨U,x.cells,by simp [AU,h],k⟩
theorem WD (h0:0<=i) (h1:i<l.length) (k:∀x,l[i.toNat]? =some x->K [.int .i64 x]):0<=i/\∃e,(ints l)[i.toNat]? =some e/\K e:=by
 have U:i.toNat<l.length:=AC
 exact ⟨h0,[.int .i64 l[i.toNat]],by simp [ints,U],k _ (List.getElem?_eq_getElem U)⟩
theorem WE {a b:Int} {K:List (List V)->Prop} (h0:0<=a) (h1:a<=b) (h2:b<=l.length) (k:K (ints ((l.take b.toNat).drop a.toNat))):
 (0<=a/\a<=b/\b<=(ints l).length)/\∀U,U=(((ints l).take b.toNat).drop a.toNat)->K U:=by
 refine ⟨⟨h0,h1,by rw [C4];exact h2⟩,λU e=>?_⟩
 have:((ints l).take b.toNat).drop a.toNat=ints ((l.take b.toNat).drop a.toNat):=by simp [ints,List.map_drop,List.map_take]
 rw [this] at e;subst e;exact k
theorem Wx {K:Bool->Prop} (h:es=[]->K true) (k:K false):∀b,(b=true->es=[])->K b
 |true,e=>h (e rfl)
 |false,_=>k
theorem QS {new:List Int} {own:AH} {st:St} {K:V->St->Prop} (h:own.BM st) (hb:l.length+new.length<=1000000000)
 (k:∀U:AH,U.BM st->K (.slice 1 (ints (l++new)) U) (U.st st (l++new).length)):Aj 1 8 (ints l) own (ints new) (own.st st l.length) K:=by
 have hw:(ints new).map (·.map V.JK)=ints new:=by
  simp only [ints,List.map_map]
  exact List.map_congr_left λx _=>rfl
 have hsc:((ints new).all λv=>v.all V.sc)=true:=by
  simp only [ints,List.all_map,List.all_eq_true]
  exact λx _=>rfl
 have:=EI (sz:=1) (bytes:=8) (es:=ints l) (new:=ints new) (K:=K) h (by rw [C4,C4];omega) (by rw [C4,C4];simp only [DR];omega) hsc (λU ho=>by
  have:=k U ho
  rw [C4,C4,hw,<-show ints (l++new)=ints l++ints new from by simp [ints],<-List.length_append,Nat.mul_one]
  exact this)
 rw [C4,Nat.mul_one] at this
 exact this
section
variable {st:St} {R:As->St->Prop}
theorem EK (hs:st.le st') (e:r=r'.wk) (h:R r st):∃r2 U,(r2=r'\/r2=r'.wk)/\St.le U st'/\R r2 U:=⟨r,st,.inr e,hs,h⟩
end
theorem Bi {P:Prop} (h:P:=by with_reducible first|(show _/\_;first|exact Wa)|(show Bw _ _ _;first|exact Wb|exact Wc)|fail):P:=h
theorem AE {P:Prop} (k:A) (h:A->P:=by intro k;with_reducible first|(show _/\_;first|  exact Wm ‹_› AC k|exact Wn AC AC k|exact Wo AC AC k|exact Wp AC AC AC k|exact Wr Do AC AC k|exact Ws Do k|exact WB ‹_› AC k|exact WC AC AC k|exact WD AC AC k|exact WE AC AC AC k)|(show Bw _ _ _;first|exact Wt H9 k|exact Wu H9 k|exact Wv AC k|exact Ww AC k|exact Wi k|exact Wj k)|(intro x y z;exact Wl k x y z)|(intro x y z;exact Wz k x y z)|(intro x y z;exact WA k x y z)|(show Exists _;first|exact Wq AC AC k)|fail):P:=h k
theorem Bj {P:Prop} {B C:V->Prop} (k:V) (l:B k) (m:C k) (h:∀k,B k->C k->P:=by intro k l m;with_reducible first|(show Exists _;first|  exact W8 GE k l m|exact W0 GE k l m|exact W9 k l m)|fail):P:=h k l m
theorem Bb {P B:Prop} (k:A) (l:B) (h:A->B->P:=by intro k l;with_reducible first|(show Bw _ _ _;first|exact Wf Do k l|exact Wg k l|exact Wh k l|exact Wk k l)|fail):P:=h k l
theorem wW {P B:Prop} (k:A) (l:B) (h:A->B->P:=by intro k l;with_reducible first|(intro x y;exact Wx k l x y)|(intro x y;exact Wy k l x y)|fail):P:=h k l
end Go.Proofs.Z
namespace Go.Aw
open Go Go.ChangeShapes
theorem Yc {s:ChangeSpec} {c:OpenClaim}
 (a1:(c.wf (OpenSpec.ofChange s)&&laidOutB P&&mapsRowed P&&fn.params.all (P.readableRec ·)&&namedTie P c.named s.vars&&(c.stops==[])&&(P.stops==[])&&(c.knobs==[])&&(P.stopKnobs==[]))=true)
 (a2:(c.inPlace==P.inPlace f)=true) (a3:(c.unfollowed==P.unfollowed f)=true) (a4:(c.recurses==P.recurses f)=true) (a5:(c.named==P.varsNamed f)=true)
 (a6:((c.maps==(fn.params.toList++s.plain.varTypes P).any (P.mapsRec ·))&&(c.ifaces==(fn.params.toList++s.plain.varTypes P).any (P.ifacesRec ·))&&(c.mapsOut==P.mapsAmong fn.resultTypes.toList)&&(c.loops==(fn.params.toList++s.plain.varTypes P).any (P.loopsFrom ·))&&(c.wideKeys==(fn.params.toList++s.plain.varTypes P++fn.resultTypes.toList).any (P.wideKeysFrom ·))&&s.vars.all (P.varReadable ·)&&fn.resultTypes.all (λt=>P.readableRec t&&decide (t<P.types.size))&&(c.ifacesOut==fn.resultTypes.toList.any (P.ifacesRec ·))&&(c.loopsOut==fn.resultTypes.toList.any (P.loopsFrom ·))&&(c.plainKeys==P.plainKeys)&&c.shortTexts.isNone)=true)
 (a7:P.stopsHeard=true) (a8:P.mayEnter=true) (a9:(c.lifted==P.liftsFinal)=true) (a10:(P.make==some c.make)=true)
 (U:((c.kinds==(if c.domain.isEmpty then [] else fn.params.toList.map λt=>match P.underlying t with|some (.int k)=>some k|_=>none))&&(c.pinned==c.pinnedBy)&&(c.veiled==(fn.params.toList++s.plain.varTypes P++fn.resultTypes.toList).any (P.veiledRec ·))&&c.veiledFits P fn.params.toList (fn.params.toList++s.plain.varTypes P++fn.resultTypes.toList))=true):
 joinedFacts P f fn s c=true:=by
 unfold joinedFacts
 simp only [Bool.and_eq_true] at a1 a6 U |-
 obtain ⟨⟨⟨⟨⟨⟨⟨⟨b1,b2⟩,b3⟩,b4⟩,b5⟩,b6⟩,b7⟩,b8⟩,b9⟩:=a1
 obtain ⟨⟨⟨⟨⟨⟨⟨⟨⟨⟨d1,d2⟩,d3⟩,d4⟩,d5⟩,d6⟩,d7⟩,d8⟩,d9⟩,d10⟩,d11⟩:=a6
 obtain ⟨⟨⟨g1,g2⟩,g3⟩,g4⟩:=U
 exact ⟨⟨⟨⟨⟨⟨⟨⟨⟨⟨⟨⟨⟨⟨⟨⟨⟨⟨⟨⟨⟨⟨⟨⟨⟨⟨⟨⟨⟨⟨⟨b1,b2⟩,b3⟩,b4⟩,b5⟩,b6⟩,b7⟩,b8⟩,b9⟩,a2⟩,a3⟩,a4⟩,a5⟩,d1⟩,d2⟩,d3⟩,d4⟩,d5⟩,d6⟩,d7⟩,d8⟩,d9⟩,d10⟩,d11⟩,a7⟩,a8⟩,a9⟩,a10⟩,g1⟩,g2⟩,g3⟩,g4⟩
theorem Uk {c:OpenClaim} (h:P.funcs.toList.all (λf=> !f.goes)=true) (hs:c.start=.entering):false=c.goesBy P:=by
 have hall:∀f ∈ P.funcs,Func.goes f=false:=by
  intro f hf
  have:=List.all_eq_true.1 h f (by simpa using hf)
  simpa using this
 have hp:∀g,P.goes g=false:=by
  intro g
  unfold Program.goes
  have h1:((P.closure g).any λg=>(P.funcs[g]?).any Func.goes)=false:=by
   rw [Bool.eq_false_iff]
   intro hc
   obtain ⟨x, -,U⟩:=List.any_eq_true.1 hc
   cases hq:P.funcs[x]? with
   |none=>rw [hq] at U;simp at U
   |some f=>rw [hq] at U;simp only [Option.any_some] at U;rw [hall f (Array.mem_of_getElem? hq)] at U;cases U
  have h2:P.funcs.any Func.goes=false:=by
   rw [Bool.eq_false_iff]
   intro hc
   obtain ⟨i,hi,U⟩:=Array.any_eq_true.1 hc
   rw [hall _ (Array.getElem_mem hi)] at U;cases U
  rw [h1,h2];simp
 unfold OpenClaim.goesBy Program.goesAt Program.goesFrom
 rw [hs]
 cases hq:P.funcNamed c.func<;>simp [hp]
end Go.Aw
namespace Go.Proofs.Z
open Go Go.Aw Go.ChangeShapes Go.WideShapes Go.ChangeAt Go.RowKit
set_option maxRecDepth 100000
theorem Uh:Tryz.prog.stopsHeard=true:=EQ
theorem Ug:Tryz.prog.mayEnter=true:=EQ
theorem Ui:(false==Tryz.prog.liftsFinal)=true:=EQ
theorem Yh:(Tryz.prog.make==some .cut)=true:=EQ
theorem Yg:Tryz.prog.funcs.toList.all (λf=> !f.goes)=true:=EQ
theorem Nl:laidOutB Tryz.prog=true:=EQ
theorem Nn:mapsRowed Tryz.prog=true:=EQ
theorem Yf:((List.range Tryz.prog.types.size).all λt=>match Tryz.prog.underlying t with|some (.slice e)=>decide (0<Tryz.prog.cellsOf e)|_=>true)=true:=EQ
end Go.Proofs.Z
namespace Go.Proofs.Z
open Go Go.Aw
def Kj (s:An):Int:=(s.Ev.getLast?).getD 0
theorem qX {s:An} (h:¬(s.Ev.length:Int)>0):Kj s=0:=by
 have:s.Ev=[]:=List.length_eq_zero_iff.1 AC
 simp [Kj,this]
theorem lj {s:An} {x:Int} (h:s.Ev[((s.Ev.length:Int) - 1).toNat]? =some x):Kj s=x:=by
 have e:((s.Ev.length:Int) - 1).toNat=s.Ev.length - 1:=AC
 rw [e] at h
 simp [Kj,List.getLast?_eq_getElem?,h]
section
variable {st:St} {R:As->St->Prop}
theorem PQ {s:An} (h:R (.ret (.int .i64 (Kj s))) st):PC 291 [D9 s] st R:=by
 refine pB Tryz.func291 ?_
 repeat' ((conv=>whnf);first|(refine AE ?_;intros)|(refine Bb ?_ ?_<;>intro _)|fail)
 .exact fin h (by rw [lj ‹_›])
 .exact fin h (by rw [qX AC])
def Tj (k:Int) (t:Tk):Tk:=⟨k,[],t.line,t.BT⟩
theorem PR {k:Int} {t:Tk} (h:R (.ret (FX (Tj k t))) st):PC 290 [.int .i64 k,FX t] st R:=by
 refine pB Tryz.func290 ?_
 repeat' ((conv=>whnf);first|  fail)
 all_goals exact fin h rfl
attribute [local irreducible] Go.Aw.Aj
theorem ei {own:AH} (hb:l.length<=1000000000) (h:∀U:AH,U.BM st->R (.ret (.slice 1 (ints l) U)) (U.st st l.length)):PC 331 [.slice 1 (ints l) own] st R:=by
 refine pB Tryz.func331 ?_
 repeat' ((conv=>whnf);first|  refine wW (λ_=>?_) ?_|fail)
 .have:l=[]:=by simpa [ints] using ‹ints l=[]›
  subst this
  exact fin (h .full trivial) rfl
 .exact QS (l:=[]) (own:=.full) trivial f9 λU ho=>fin (h U ho) rfl
theorem sn {l':List Int} {own:AH} (e:l'=l) (hb:l.length<=1000000000) (h:∀U:AH,U.BM st->R (.ret (.slice 1 (ints l) U)) (U.st st l.length)):PC 331 [.slice 1 (ints l') own] st R:=e ▸ ei hb h
def NR (s:An) (c:Int):An:={s with Ev:=s.Ev++[c]}
theorem Zf {s:An} {c:Int} (hb:s.Ev.length<=500000000) (h:R (.ret (D9 (NR s c))) st):PC 292 [D9 s,.int .i64 c] st R:=by
 refine pB Tryz.func292 ?_
 have U:s.Ev.length+[c].length<=1000000000:=by simp only [List.length_singleton];omega
 repeat' ((conv=>whnf);first|  refine ei AC (λown ho=>?_)|refine QS (new:=[c]) ho U (λown' ho'=>?_))
 all_goals exact EK (AH.Bz ho') rfl h
def FU (s:An):An:={s with Ev:=s.Ev.dropLast}
theorem M9 {s:An} (h0:s.Ev≠[]) (hb:s.Ev.length<=500000000) (h:R (.ret (D9 (FU s))) st):PC 293 [D9 s] st R:=by
 refine pB Tryz.func293 ?_
 have hl:0<s.Ev.length:=List.length_pos_iff.2 h0
 have hd:(s.Ev.take (((s.Ev.length:Int) - 1).toNat)).drop (0:Int).toNat=s.Ev.dropLast:=by
  rw [show (0:Int).toNat=0 from rfl,List.drop_zero,List.dropLast_eq_take]
  congr 1
  omega
 have U:s.Ev.dropLast.length<=1000000000:=by rw [List.length_dropLast];omega
 repeat' ((conv=>whnf);first|(refine AE ?_;intros)|refine sn hd U (λown ho=>?_))
 all_goals exact EK (AH.Bz ho) rfl h
end
theorem mD {l:List α} {x:α} (h:l[k]? =some x):l.drop k=x::l.drop (k+1):=by
 obtain ⟨h1,h2⟩:=List.getElem?_eq_some_iff.1 h
 rw [<-h2,List.drop_eq_getElem_cons h1]
section
variable {st:St} {R:As->St->Prop}
attribute [local irreducible] Go.Aw.Aj
def Po (p:Int->Bool):List Int->Int->Int
 |[],_=> -1
 |y::r,i=>if p y then i else Po p r (i+1)
theorem Yq {p:Int->Bool}:∀{l:List Int} {i:Int},0<=i->(0<=Po p l i↔l.any p=true)
 |[],i,h=>by simp [Po]
 |y::r,i,h=>by
  simp only [Po,List.any_cons]
  split
  .simp_all
  .rename_i e
   rw [Yq AC]
   simp [e]
theorem Yr {p:Int->Bool} {own:AH} (hf:∀x (st:St) (R:As->St->Prop),R (.ret (.bool (p x))) st->PC f [.int .i64 x] st R) (h:R (.ret (.int .i64 (Po p l 0))) st):
 PC 330 [.slice 1 (ints l) own,.func f [] []] st R:=by
 refine pB Tryz.func330 ?_
 repeat' ((conv=>whnf);first|(refine AE ?_;intros)|(refine Bb ?_ ?_<;>intro _)|fail)
 refine KU 8 [7,0,1] l.length (λk=>k<=l.length/\(Po p l 0=Po p (l.drop k) k)) ⟨Nat.zero_le _,rfl⟩ Yl ?_
 rintro k ⟨U,hi⟩
 repeat' ((conv=>whnf);first|(refine AE ?_;intros)|(refine Bb ?_ ?_<;>intro _)|refine hf _ _ _ ?_)
 all_goals conv=>whnf
 all_goals try (have e:=mD ‹l[Int.toNat k]? =some _›;rw [Int.toNat_natCast] at e;rw [e,Po] at hi;clear e)
 all_goals first
  |(refine ⟨k+1,⟨AC,?_⟩,AC,Yl,St.le_refl _⟩;clear h;simp_all)
  |(refine fin h ?_;clear h;simp_all;done)
  |(refine fin h ?_;rw [hi,List.drop_eq_nil_of_le AC];rfl)
theorem Q9 {p:Int->Bool} {own:AH} (hf:∀x (st:St) (R:As->St->Prop),R (.ret (.bool (p x))) st->PC f [.int .i64 x] st R) (h:R (.ret (.bool (l.any p))) st):
 PC 288 [.slice 1 (ints l) own,.func f [] []] st R:=by
 refine pB Tryz.func288 ?_
 refine Yr hf ?_
 have key:=Yq (p:=p) (l:=l) (i:=0) AC
 refine Wh (λh1=>?_) (λh1=>?_)
 .exact AB h (key.1 h1)
 .refine AB h ?_
  simp_all
theorem ye (x:Int) (st:St) (R:As->St->Prop) (h:R (.ret (.bool (decide (x<0)))) st):PC 289 [.int .i64 x] st R:=by
 refine pB Tryz.func289 ?_
 repeat' ((conv=>whnf);first|  (refine Bb ?_ ?_<;>intro _)|fail)
 all_goals exact AB h f9
def PZ (s:An):Bool:=
 decide (0<=s.pos)&&decide (s.pos<=s.AL.length)&&decide (0<=s.wait)&&decide (s.wait<=2)&&
 (decide (s.wait<=0)||(match s.AL[s.pos.toNat]? with|some t=>t.kind==16|none=>false))&& !(s.Ev.any λx=>decide (x<0))
theorem YY {s:An} (h:R (.ret (.bool (PZ s))) st):PC 235 [D9 s] st R:=by
 refine pB Tryz.func235 ?_
 repeat' ((conv=>whnf);first|(refine AE ?_;intros)|(refine Bb ?_ ?_<;>intro _)|refine Q9 (λx st R h=>ye x st R h) ?_)
 all_goals conv=>whnf
 all_goals refine AB h ?_
 all_goals clear h
 all_goals unfold PZ
 all_goals first
  |(rw [show decide (0<=s.pos)=false from decide_eq_false AC];simp only [Bool.false_and];done)
  |(rw [show decide (s.pos<=s.AL.length)=false from decide_eq_false AC];simp only [Bool.false_and,Bool.and_false];done)
  |(rw [show decide (0<=s.wait)=false from decide_eq_false AC];simp only [Bool.false_and,Bool.and_false];done)
  |(rw [show decide (s.wait<=2)=false from decide_eq_false AC];simp only [Bool.false_and,Bool.and_false];done)
  |(have hn:s.AL[s.pos.toNat]? =none:=List.getElem?_eq_none AC
    rw [hn,show decide (s.wait<=0)=false from decide_eq_false AC];simp only [Bool.false_and,Bool.and_false,Bool.or_false];done)
  |(rw [show decide (0<=s.pos)=true from decide_eq_true AC,show decide (s.pos<=s.AL.length)=true from decide_eq_true AC,show decide (0<=s.wait)=true from decide_eq_true AC,show decide (s.wait<=2)=true from decide_eq_true AC]
    first
     |(rw [show decide (s.wait<=0)=true from decide_eq_true AC];simp_all;done)
     |(rw [show decide (s.wait<=0)=false from decide_eq_false AC];simp_all;done))
 all_goals trace_state
def FR (t:Tk) (s:An):Tk×An:=
 if s.wait=1 then (Tj 20 t,{s with wait:=2})
 else if Kj s<t.BT then (Tj 18 t,{NR s t.BT with pos:=s.pos+1})
 else (Tj 18 t,{s with wait:=1})
def vR (p:Tk×An):V:=.Bc [FX p.1,D9 p.2]
theorem rX {t:Tk} {s:An} (U:0<=s.pos/\s.pos<=4611686018427387904) (hb:s.Ev.length<=500000000) (h:R (.ret (vR (FR t s))) st):PC 236 [FX t,D9 s] st R:=by
 refine pB Tryz.func236 ?_
 repeat' ((conv=>whnf);first|exact Bi|(refine AE ?_;intros)|(refine Bj ?_ ?_ ?_;rotate_left)|(refine Bb ?_ ?_<;>intro _)|refine PR (t:=t) ?_|refine PQ (s:=s) ?_|refine Zf (s:=s) hb ?_|refine Wq (a:=s.pos+1) AC AC ?_|refine Ab [(0,true),(2,true),(1,false),(3,false),(4,false)] [2,3] GE ?_|refine Ab [(0,true),(1,true),(2,true),(3,false),(4,true),(5,true)] [] GE ?_|refine Ab [(0,true),(2,true),(1,false),(3,false),(4,false)] [2,3] GE ?_|fail)
 all_goals unfold FR at h
 .rw [if_pos AC] at h;exact AF rfl h
 .rw [if_neg AC,if_pos AC] at h;exact AF rfl h
 .rw [if_neg AC,if_neg AC] at h;exact AF rfl h
def DU (t:Tk) (s:An):Tk×An:=
 if 0<Kj s/\t.BT<Kj s then (Tj 20 t,FU s)
 else if 0<Kj s/\t.BT=Kj s then (Tj 19 t,{s with pos:=s.pos+1,wait:=0})
 else (TR,{s with pos:=s.pos+1,wait:=0})
theorem UQ {s:An} (h:0<Kj s):s.Ev≠[]:=λe=>by simp [Kj,e] at h
theorem xY {t:Tk} {s:An} (U:0<=s.pos/\s.pos<=4611686018427387904) (hb:s.Ev.length<=500000000) (h:R (.ret (vR (DU t s))) st):PC 237 [FX t,D9 s] st R:=by
 refine pB Tryz.func237 ?_
 repeat' ((conv=>whnf);first|exact Bi|(refine AE ?_;intros)|(refine Bj ?_ ?_ ?_;rotate_left)|(refine Bb ?_ ?_<;>intro _)|refine PR (t:=t) ?_|refine PQ (s:=s) ?_|refine M9 (s:=s) (UQ AC) hb ?_|refine Wq (a:=s.pos+1) AC AC ?_|refine Ab [(0,true),(2,true),(1,false),(3,false),(4,false),(5,false)] [2,3] GE ?_|refine Ab [(0,true),(2,true),(1,false),(3,false),(4,false)] [2,3] GE ?_|refine Ab [(0,true),(1,true),(2,false),(3,false)] [2,3] GE ?_|fail)
 all_goals unfold DU at h
 all_goals first
  |(rw [if_pos ⟨AC,AC⟩] at h;exact AF rfl h)
  |(rw [if_neg AC,if_pos ⟨AC,AC⟩] at h;exact AF rfl h)
  |(rw [if_neg AC,if_neg AC] at h;exact AF rfl h)
 all_goals trace_state
def Fv (t:Tk) (s:An):Tk×An×Int:=
 if t.kind=15/\t.text=[123] then (t,{NR s 0 with pos:=s.pos+1},0)
 else if t.kind=15/\t.text=[125] then
  if s.Ev=[]\/Kj s≠0 then (TR,s,90) else (t,{FU s with pos:=s.pos+1},0)
 else (t,{s with pos:=s.pos+1},0)
def bz (p:Tk×An×Int):V:=.Bc [FX p.1,D9 p.2.1,.int .i64 p.2.2]
theorem Jt (h:¬l.length=Int.toNat 0):l≠[]:=λe=>h (by grind)
theorem pb (h:l.length=Int.toNat 0):l=[]:=List.length_eq_zero_iff.1 AC
theorem sj {t:Tk} {s:An} (U:0<=s.pos/\s.pos<=4611686018427387904) (hb:s.Ev.length<=500000000) (h:R (.ret (bz (Fv t s))) st):PC 238 [FX t,D9 s] st R:=by
 refine pB Tryz.func238 ?_
 repeat' ((conv=>whnf);first|exact Bi|(refine AE ?_;intros)|(refine Bj ?_ ?_ ?_;rotate_left)|(refine Bb ?_ ?_<;>intro _)|refine PQ (s:=s) ?_|refine Zf (s:=s) hb ?_|refine M9 (s:=s) (Jt ‹_›) hb ?_|refine Wq (a:=s.pos+1) AC AC ?_|refine Ab [(0,true),(1,true),(2,false),(3,false),(4,true)] [2,3] GE ?_|refine Ab [(0,true),(1,true),(2,false),(3,false),(4,true)] [2,3] GE ?_|fail)
 all_goals unfold Fv at h
 all_goals first
  |(rw [if_pos ⟨FS,FS⟩] at h;exact AF rfl h)
  |(rw [if_neg (λe=>absurd e.2 ‹_›),if_pos ⟨FS,FS⟩,if_pos (.inl (pb ‹_›))] at h;exact AF rfl h)
  |(rw [if_neg (λe=>absurd e.2 ‹_›),if_pos ⟨FS,FS⟩,if_pos (.inr ‹_›)] at h;exact AF rfl h)
  |(rw [if_neg (λe=>absurd e.2 ‹_›),if_pos ⟨FS,FS⟩,if_neg (λe=>e.elim (Jt ‹_›) (λe=>e ‹_›))] at h;exact AF rfl h)
  |(rw [if_neg (λe=>absurd e.1 ‹_›),if_neg (λe=>absurd e.1 ‹_›)] at h;exact AF rfl h)
  |(rw [if_neg (λe=>absurd e.2 ‹_›),if_neg (λe=>absurd e.2 ‹_›)] at h;exact AF rfl h)
 all_goals trace_state
def EX (s:An):Tk×An×Int:=
 if s.Ev=[] then (⟨21,[],0,0⟩,s,0) else if 0<Kj s then (⟨20,[],0,0⟩,FU s,0) else (TR,s,90)
theorem xv {s:An} (hb:s.Ev.length<=500000000) (h:R (.ret (bz (EX s))) st):PC 239 [D9 s] st R:=by
 refine pB Tryz.func239 ?_
 repeat' ((conv=>whnf);first|exact Bi|(refine AE ?_;intros)|(refine Bj ?_ ?_ ?_;rotate_left)|(refine Bb ?_ ?_<;>intro _)|refine PQ (s:=s) ?_|refine M9 (s:=s) (Jt ‹_›) hb ?_|refine Ab [(0,true),(1,true),(2,false),(3,false),(4,true)] [1,2] GE ?_|refine Ab [(0,true),(1,true),(2,false),(3,false),(4,true)] [1,2] GE ?_|fail)
 all_goals unfold EX at h
 all_goals first
  |(rw [if_pos (pb ‹_›)] at h;exact AF rfl h)
  |(rw [if_neg (Jt ‹_›),if_pos ‹_›] at h;exact AF rfl h)
  |(rw [if_neg (Jt ‹_›),if_neg ‹_›] at h;exact AF rfl h)
 all_goals trace_state
end
end Go.Proofs.Z
namespace Go.Aw
noncomputable def Env.ath (env:Env) (ch:List (Nat×V)) (keep:List Nat) (U:List (Nat×List V)) (kb:List Nat):Env:=match env with
 |⟨ts,bs,n,sz,gl⟩=>⟨Env.ts ⟨ts,bs,n,sz,gl⟩ ch keep,U++Env.bx ⟨ts,bs,n,sz,gl⟩ kb,n,sz,gl⟩
theorem B5 {st:St} (f:α->List (Nat×V)) (keep:List Nat) (g:α->List (Nat×List V)) (kb:List Nat) (S:α->St) (J:α->Prop) (U:α->Nat) (x0:α) (h0:J x0)
 (he:(env.ath (f x0) keep (g x0) kb).E3 env) (hs:St.le (S x0) st)
 (hb:∀x,J x->ih (B2 (λenv' st'=>∃y,J y/\U y<U x/\(env.ath (f y) keep (g y) kb).E3 env'/\St.le (S y) st') Q) (env.ath (f x) keep (g x) kb) (S x)):
 ∃(α:Type) (E:α->Env) (S:α->St) (J:α->Prop) (U:α->Nat) (x0:α),J x0/\(E x0).E3 env/\St.le (S x0) st/\
  ∀x,J x->ih (B2 (λenv' st'=>∃y,J y/\U y<U x/\(E y).E3 env'/\St.le (S y) st') Q) (E x) (S x):=
 ⟨α,λk=>env.ath (f k) keep (g k) kb,S,J,U,x0,h0,he,hs,hb⟩
theorem ZJ {T:List (Nat×Ty)} {C:FuncId->List V->St->(As->St->Prop)->Prop} {w:CW} {U:Nat->Option CW} {st:St}
 (h:w (eP (λl env' st'=>∃y:Nat,y=l/\False/\env.E3 env'/\St.le st st') Q) env st):QC w U Q env st:=
 ⟨Nat,λy=>y,λ_=>env,λ_=>st,λ_=>False,λ_=>0,h,λx e=>e.elim⟩
end Go.Aw
namespace Go.Proofs.Z
open Go Go.Aw
def Di:Nat->An->Tk×An×Int
 |0,s=>EX s
 |n+1,s=>match s.AL[s.pos.toNat]? with
  |none=>EX s
  |some t=>if t.kind=16/\s.wait<2 then ((FR t s).1,(FR t s).2,0)
   else if t.kind=16\/t.kind=17 then
    if (DU t s).1.kind=0 then Di n (DU t s).2 else ((DU t s).1,(DU t s).2,0)
   else Fv t s
def J2 (s:An):Tk×An×Int:=Di (s.AL.length - s.pos.toNat) s
def Ae (s:An):Tk×An×Int:=if PZ s then J2 s else (TR,Fk,1)
theorem D3 {t:Tk} {s:An} (h:(DU t s).1.kind=0):(DU t s).2={s with pos:=s.pos+1,wait:=0}:=by
 unfold DU at h |-
 split
 .rename_i e;rw [if_pos e] at h;exact absurd h (by simp [Tj])
 grind
theorem jJ {s:An} (h:¬s.pos<s.AL.length) (U:0<=s.pos):J2 s=EX s:=by
 have:s.AL.length - s.pos.toNat=0:=AC
 rw [J2,this,Di]
theorem NN {s:An} {t:Tk} (h:s.AL[s.pos.toNat]? =some t) (h0:0<=s.pos):J2 s=if t.kind=16/\s.wait<2 then ((FR t s).1,(FR t s).2,0)
 else if t.kind=16\/t.kind=17 then
  if (DU t s).1.kind=0 then J2 (DU t s).2 else ((DU t s).1,(DU t s).2,0)
 else Fv t s:=by
 obtain ⟨U,_⟩:=List.getElem?_eq_some_iff.1 h
 obtain ⟨n,hn⟩:∃n,s.AL.length - s.pos.toNat=n+1:=⟨s.AL.length - s.pos.toNat - 1,AC⟩
 rw [J2,hn,Di,h]
 dsimp only
 split
 .rfl
 .split
  .split
   .rename_i e
    rw [J2,D3 e]
    grind
   .rfl
  .rfl
section
variable {st:St} {R:As->St->Prop}
attribute [local irreducible] Go.Aw.Aj
theorem uu {s:An} (hb:s.Ev.length<=500000000) (h:R (.ret (bz (Ae s))) st):PC 193 [D9 s] st R:=by
 refine pB Tryz.func193 ?_
 conv=>whnf
 refine ZJ (T:=zj) (C:=Bo Tryz.prog) ?_
 unfold Ae at h
 repeat' ((conv=>whnf);first|exact Bi|(refine AE ?_;intros)|(refine Bj ?_ ?_ ?_;rotate_left)|(refine Bb ?_ ?_<;>intro _)|refine YY (s:=s) ?_|refine Ab [(0,true),(1,true),(2,false),(3,false),(4,true)] [1,2] GE ?_|refine Ab [(0,true),(1,true),(2,false),(3,false),(4,true)] [1,2] GE ?_|fail)
 .rename_i e
  rw [e] at h
  have hm:=e
  unfold PZ at hm
  simp only [Bool.and_eq_true,decide_eq_true_eq] at hm
  refine B5 (α:=An) (λx=>[]) [1,2,3,4] (λx=>[(0,x.cells)]) [1,2] (λ_=>st) (λx=>x.AL=s.AL/\x.Ev=s.Ev/\0<=x.pos/\x.pos<=x.AL.length/\J2 x=J2 s) (λx=>x.AL.length - x.pos.toNat) s ⟨rfl,rfl,AC,AC,rfl⟩ Yl (St.le_refl _) ?_
  rintro x ⟨x1,x2,x3,x4,x5⟩
  rw [<-x5] at h
  have U:x.Ev.length<=500000000:=by rw [x2];exact hb
  repeat' ((conv=>whnf);first|exact Bi|(refine AE ?_;intros)|(refine Bj ?_ ?_ ?_;rotate_left)|(refine Bb ?_ ?_<;>intro _)|refine rX (s:=x) ⟨AC,AC⟩ U ?_|refine xY (s:=x) ⟨AC,AC⟩ U ?_|refine sj (s:=x) ⟨AC,AC⟩ U ?_|refine xv (s:=x) U ?_|refine Ab [(0,true),(1,true),(2,false),(3,false),(4,true)] [1,2] GE ?_|refine Ab [(0,true),(1,true),(2,false),(3,false),(4,true)] [1,2] GE ?_|fail)
  all_goals rw [if_pos rfl] at h
  all_goals first
   |(rw [NN ‹_› x3,if_pos AC] at h;exact AF rfl h)
   |(rw [NN ‹_› x3,if_neg AC,if_pos AC,if_neg AC] at h;exact AF rfl h)
   |(rw [NN ‹_› x3,if_neg AC,if_neg AC] at h;exact AF rfl h)
   |(rw [jJ AC x3] at h;exact AF rfl h)
   |(have hz:(DU ‹Tk› x).1.kind=0:=by assumption
     refine ⟨(DU ‹Tk› x).2,?_,?_,Yl,St.le_refl _⟩
     .rw [D3 hz]
      refine ⟨x1,x2,by show 0<=x.pos+1;omega,by show x.pos+1<=x.AL.length;omega,?_⟩
      rw [<-x5,NN (s:=x) ‹_› x3,if_neg AC,if_pos AC,if_pos hz,D3 hz]
     .rw [D3 hz]
      show x.AL.length - (x.pos+1).toNat<_
      omega)
  all_goals trace_state
 .rename_i e
  rw [e] at h
  exact AF rfl h
end
end Go.Proofs.Z
namespace Go.Aw
theorem St.Ai (st:St) (b:Nat) (cs:List V):(st.Aa b cs).box b=some cs:=by simp [St.Aa]
theorem St.set_set (st:St) (b:Nat) (cs cs':List V):(st.Aa b cs).Aa b cs'=st.Aa b cs':=by
 simp only [St.Aa,St.mk.injEq,and_true]
 simp_all
theorem St.K4 {st:St} (h:st.box b=some cs):st.Aa b cs=st:=by
 cases st with
 |mk box hw=>
  simp only [St.Aa,St.mk.injEq,and_true]
  grind
theorem Am {st:St} (h:st.box b=some cs) (k:K cs):∃cs,st.box b=some cs/\K cs:=⟨cs,h,k⟩
end Go.Aw
namespace Go.Proofs.Z
open Go Go.Aw
def C9 (s:An):List V:=[.slice 4 (AU s.AL) .any,.int .i64 s.pos,.slice 1 (ints s.Ev) .any,.int .i64 s.wait,
 .int .i64 (Ae s).1.kind,.str (Ae s).1.text,.int .i64 (Ae s).1.line,.int .i64 (Ae s).1.BT,
 .slice 4 (AU (Ae s).2.1.AL) .any,.int .i64 (Ae s).2.1.pos,.slice 1 (ints (Ae s).2.1.Ev) .any,.int .i64 (Ae s).2.1.wait,.int .i64 (Ae s).2.2,.bool true]
def Yo (s:An) (t:Tk) (u:An) (o1 o2:AH) (e:Int):List V:=[.slice 4 (AU s.AL) .any,.int .i64 s.pos,.slice 1 (ints s.Ev) .any,.int .i64 s.wait,
 .int .i64 t.kind,.str t.text,.int .i64 t.line,.int .i64 t.BT,.slice 4 (AU u.AL) o1,.int .i64 u.pos,.slice 1 (ints u.Ev) o2,.int .i64 u.wait,.int .i64 e,.bool false]
def Has (st:St) (b:Nat) (s:An):Prop:=st.box b=some (C9 s)\/∃t u o1 o2 e,st.box b=some (Yo s t u o1 o2 e)
def Ii (st st':St) (b:Nat) (s:An):Prop:=Has st' b s/\∃cs,st'=st.Aa b cs
theorem Ii.trans {st U st2:St} {s1 s2:An} (h:Ii st U b s1) (k:Ii U st2 b s2):Ii st st2 b s2:=by
 obtain ⟨_,c1,e1⟩:=h
 obtain ⟨h2,c2,e2⟩:=k
 subst e1
 rw [St.set_set] at e2
 exact ⟨h2,c2,e2⟩
theorem A8 {st:St} {s:An}:Ii st (st.Aa b (C9 s)) b s:=⟨.inl (St.Ai ..),_,rfl⟩
def fault (e:Int):V:=.iface 156 (.agg [.int .i64 e])
section
variable {st:St} {R:As->St->Prop}
attribute [local irreducible] Go.Aw.Aj
theorem bP (e:r=r'.wk) (es:st'=st) (h:R r st):∃r2 U,(r2=r'\/r2=r'.wk)/\St.le U st'/\R r2 U:=by subst es;exact ⟨r,st',.inr e,St.le_refl _,h⟩
theorem oz {s:An} (U:Has st b s) (hb:s.Ev.length<=500000000) (h:R (.ret (.Bc [])) (st.Aa b (C9 s))):PC 157 [.ptr b 0] st R:=by
 refine pB Tryz.func157 ?_
 rcases U with U|⟨t,u,o1,o2,e,U⟩
 .rw [St.K4 U] at h
  repeat' ((conv=>whnf);first|  refine Am U ?_)
  all_goals exact fin h rfl
 .skip
  repeat' ((conv=>whnf);first|  refine Am U ?_|refine Am (St.Ai ..) ?_|refine uu (s:=s) hb ?_)
  all_goals exact bP rfl (by simp only [St.set_set];rfl) h
theorem Hd {s:An} (U:Has st b s) (hb:s.Ev.length<=500000000) (h:R (.ret (FX (Ae s).1)) (st.Aa b (C9 s))):PC 112 [.ptr b 0] st R:=by
 refine pB Tryz.func112 ?_
 repeat' ((conv=>whnf);first|  refine Am (St.Ai ..) ?_|refine oz U hb ?_)
 all_goals exact AF rfl h
theorem Ct {v:V} {e:Int} (h:R (.B7 (fault e)) st):PC 108 [v,.int .i64 e] st R:=by
 refine pB Tryz.func108 ?_
 repeat' ((conv=>whnf);first|  fail)
 all_goals exact fin h rfl
def Va (s:An):Int:=if (Ae s).2.2=0 then 110 else (Ae s).2.2
theorem lW {s:An} (U:Has st b s) (hb:s.Ev.length<=500000000) (h:R (.B7 (fault (Va s))) (st.Aa b (C9 s))):PC 113 [.ptr b 0] st R:=by
 refine pB Tryz.func113 ?_
 unfold Va at h
 repeat' ((conv=>whnf);first|  (refine Bb ?_ ?_<;>intro _)|refine Am (St.Ai ..) ?_|refine oz U hb ?_|refine Ct ?_)
 all_goals first
  |(rw [if_pos ‹_›] at h;exact fin h rfl)
  |(rw [if_neg ‹_›] at h;exact fin h rfl)
theorem tc {s s':An} (U:st.box b=some (C9 s)) (h:∀st',Ii st st' b s'->R (.ret (.Bc [])) st'):PC 154 [.ptr b 0,D9 s'] st R:=by
 refine pB Tryz.func154 ?_
 have h:=h (st.Aa b (Yo s' (Ae s).1 (Ae s).2.1 .any .any (Ae s).2.2)) ⟨.inr ⟨_,_,_,_,_,St.Ai ..⟩,_,rfl⟩
 repeat' ((conv=>whnf);first|  refine Am U ?_|refine Am (St.Ai ..) ?_)
 all_goals exact bP rfl (by simp only [St.set_set];rfl) h
theorem s9 {s s':An} {t:Tk} {u:An} {o1 o2:AH} {e:Int} (U:st.box b=some (Yo s t u o1 o2 e)) (h:∀st',Ii st st' b s'->R (.ret (.Bc [])) st'):PC 154 [.ptr b 0,D9 s'] st R:=by
 refine pB Tryz.func154 ?_
 have h:=h (st.Aa b (Yo s' t u o1 o2 e)) ⟨.inr ⟨_,_,_,_,_,St.Ai ..⟩,_,rfl⟩
 repeat' ((conv=>whnf);first|  refine Am U ?_|refine Am (St.Ai ..) ?_)
 all_goals exact bP rfl (by simp only [St.set_set];rfl) h
theorem s8 {s s':An} (U:Has st b s) (h:∀st',Ii st st' b s'->R (.ret (.Bc [])) st'):PC 154 [.ptr b 0,D9 s'] st R:=by
 rcases U with U|⟨t,u,o1,o2,e,U⟩
 .exact tc U h
 .exact s9 U h
theorem Xl {s:An} (U:Has st b s) (hb:s.Ev.length<=500000000) (h:(Ae s).2.2=0->∀st',Ii st st' b (Ae s).2.1->R (.ret (FX (Ae s).1)) st')
 (k:¬(Ae s).2.2=0->R (.B7 (fault (Ae s).2.2)) (st.Aa b (C9 s))):PC 186 [.ptr b 0] st R:=by
 refine pB Tryz.func186 ?_
 repeat' ((conv=>whnf);first|  (refine Bb ?_ ?_<;>intro _)|refine Am (St.Ai ..) ?_|refine Hd U hb ?_|refine Ct ?_|refine s8 (s':=(Ae s).2.1) (.inl (St.Ai st b (C9 s))) (λst' hu=>?_))
 .exact AF rfl (h AC st' (A8.trans hu))
 .exact fin (k AC) rfl
def BP (t:Tk):Nd:=.mk 1 t.kind t.text t.line t.BT []
theorem xV {t:Tk} (h:R (.ret (enc (BP t))) st):PC 185 [FX t] st R:=by
 refine pB Tryz.func185 ?_
 repeat' ((conv=>whnf);first|  fail)
 all_goals exact AF rfl h
def BB (s:An) (k:Int) (x:List UInt8):Bool:=(Ae s).1.kind==k&&(Ae s).1.text==x
theorem bZ {s:An} {k:Int} (U:Has st b s) (hb:s.Ev.length<=500000000) (h:R (.ret (.bool (BB s k x))) (st.Aa b (C9 s))):PC 149 [.ptr b 0,.int .i64 k,.str x] st R:=by
 refine pB Tryz.func149 ?_
 repeat' ((conv=>whnf);first|  (refine Bb ?_ ?_<;>intro _)|refine Hd U hb ?_)
 all_goals (refine AB h ?_;clear h;simp_all [BB])
theorem MK {s:An} (U:Has st b s) (hb:s.Ev.length<=500000000) (h:(Ae s).2.2=0->∀st',Ii st st' b (Ae s).2.1->R (.ret (enc (BP (Ae s).1))) st')
 (k:¬(Ae s).2.2=0->R (.B7 (fault (Ae s).2.2)) (st.Aa b (C9 s))):PC 150 [.ptr b 0] st R:=by
 refine pB Tryz.func150 ?_
 repeat' ((conv=>whnf);first|  refine Xl U hb (λe st' hu=>?_) (λe=>?_)|refine xV (t:=(Ae s).1) ?_)
 .exact AF rfl (h e st' hu)
 .exact fin (k e) rfl
theorem rj {s:An} {k:Int} (hs:Has st b s) (hb:s.Ev.length<=500000000) (h:BB s k x=true->(Ae s).2.2=0->∀st',Ii st st' b (Ae s).2.1->R (.ret (enc (BP (Ae s).1))) st')
 (k1:BB s k x=true->¬(Ae s).2.2=0->R (.B7 (fault (Ae s).2.2)) (st.Aa b (C9 s))) (k2:BB s k x=false->R (.B7 (fault (Va s))) (st.Aa b (C9 s))):PC 153 [.ptr b 0,.int .i64 k,.str x] st R:=by
 refine pB Tryz.func153 ?_
 have U:Has (st.Aa b (C9 s)) b s:=.inl (St.Ai ..)
 repeat' ((conv=>whnf);first|  (refine Bb ?_ ?_<;>intro _)|refine bZ hs hb ?_|refine MK U hb (λe st' hu=>?_) (λe=>?_)|refine lW U hb ?_)
 .exact AF rfl (h AC e st' (A8.trans hu))
 .exact bP rfl (by rw [St.set_set]) (k1 AC e)
 .exact bP rfl (by rw [St.set_set]) (k2 AC)
def Rl (n:Nd) (s:An) (e:Int):V:=.Bc [enc n,D9 s,.int .i64 e]
theorem RY {s s':An} {n:Nd} {e d:Int} (hf:∀(st:St) (R:As->St->Prop),R (.ret (Rl n s' e)) st->PC f [D9 s,.int .i64 d] st R) (U:Has st b s)
 (h:e=0->∀st',Ii st st' b s'->R (.ret (enc n)) st') (k:¬e=0->∀st',Ii st st' b s'->R (.B7 (fault e)) st'):PC 110 [.ptr b 0,.func f [] [],.int .i64 d] st R:=by
 refine pB Tryz.func110 ?_
 rcases U with U|⟨t,u,o1,o2,e',U⟩
 .skip
  repeat' ((conv=>whnf);first|  (refine Bb ?_ ?_<;>intro _)|refine Am U ?_|refine hf _ _ ?_|refine Ct ?_|refine s8 (s':=s') (.inl U) (λst' hu=>?_))
  .exact AF rfl (h AC st' hu)
  .exact fin (k AC st' hu) rfl
 .skip
  repeat' ((conv=>whnf);first|  (refine Bb ?_ ?_<;>intro _)|refine Am U ?_|refine hf _ _ ?_|refine Ct ?_|refine s8 (s':=s') (.inr ⟨t,u,o1,o2,e',U⟩) (λst' hu=>?_))
  .exact AF rfl (h AC st' hu)
  .exact fin (k AC st' hu) rfl
end
end Go.Proofs.Z
namespace Go.Aw
open Go
section
variable {P:Program}
theorem Ad {x y:Code} {st:St} (h:AW P x (B2 (λenv st=>AW P y Q env st) Q) env st):AW P (.seq x y) Q env st:=λD I0 st0 w0 I β a w hr=>by
 refine wp_seq (wp_mono (h D I0 st0 w0 I β a w hr) ?_)
 rintro e a w ⟨I,β,env,st,U,h1,h2,h3⟩
 cases U with
 |normal=>cases e<;>first|exact h3 D I0 st0 w0 I β a w h1|exact h2.elim
 |exit i=>cases e<;>first|exact ⟨I,β,env,st,.exit i,h1,h2,h3⟩|exact h2.elim
 |goto i=>cases e<;>first|exact ⟨I,β,env,st,.goto i,h1,h2,h3⟩|exact h2.elim
 |ret=>cases e<;>first|exact ⟨I,β,env,st,.ret,h1,h2,h3⟩|exact h2.elim
 |B7 v=>cases e<;>first|exact ⟨I,β,env,st,.B7 v,h1,h2,h3⟩|exact h2.elim
theorem Af (U:TU P T) {c:Code} {st:St} (h:Qa T (Bo P) c Q env st):AW P c Q env st:=
 Oj U (Bq P) (λ_ _ _ _ _ h k=>k.mono h) c h
def Ends (R:As->St->Prop) (r:As) (st:St):Prop:=∃r2 U,(r2=r\/r2=r.wk)/\St.le U st/\R r2 U
theorem Bo.ends {st:St} (h:Bo P f args st (Ends R)):Bo P f args st R:=by
 refine ⟨λI w U hs ha=>(h.a I w U hs ha).mono ?_,h.b⟩
 rintro e w' ⟨I',st',r,k1,k2,k3,r2,st2,k4,k5,k6⟩
 have hr:Rel [] I st w I' (λ_=>none) {tmps:=[],boxes:=[],BU:=0,sz:=0,gl:=[]} st' {tmps:=#[],defers:=[]} w':=
  ⟨k1,k2,⟨rfl,λt v e=>(by cases e),λid cs e=>(by cases e),λid b e=>(by cases e),λi j b e=>(by cases e),λid b e=>(by cases e),rfl⟩⟩
 have hr':=hr.H5 k5
 refine ⟨I',st2,r2,hr'.fr,hr'.s,?_,k6⟩
 rcases k4 with rfl|rfl
 .exact k3
 .cases e with
  |returned c=>
   cases r with
   |ret v=>exact A3.wk k3
   |B7 v=>exact k3.elim
  |panicked chain=>
   cases r with
   |ret v=>exact k3.elim
   |B7 v=>
    obtain ⟨c,h1,h2⟩:=k3
    exact ⟨c,h1,A3.wk h2⟩
  |outgrown=>cases r<;>exact k3.elim
end
end Go.Aw
namespace Go.Proofs.Z
open Go Go.Aw
def Qe:List (List Bool×Nat):=yq 8 [0,1,33,37,64,66,98,101,1057,192,195,227,229,1122,448,452,484,485,1251,960,997,1508,2022,4071]
def ej:List (List Bool×Nat):=yq 10 [0,1,5,33,37,64,66,69,1024,1025,1030,98,101,1057,1062,192,195,197,1088,1090,1094,3072,3073,227,229,1122,1126,3105,448,452,453,1216,1219,1222,3136,3138,484,485,1251,1254,3170,960,965,1472,1476,1478,3264,3267,997,999,1508,1510,3299,1984,1990,3520,3524,2022,2023,5093,5096,3556,4032,4071,6118,6120,13285,8168,14310,16361]
section
variable {st:St} {R:As->St->Prop}
attribute [local irreducible] Go.Aw.Aj
def Hv:Nd:=.mk 0 0 [] 0 0 []
def CX:List V:=[.int .i64 0,.int .i64 0,.str [],.int .i64 0,.int .i64 0,.slice 6 [] .full]
theorem Q7 {bp bn ba be:Nat} {U:St->Prop} (h:U st):HM Tryz.prog 107 [.ptr bp 0,.ptr bn 0,.ptr ba 0,.ptr be 0] none st U:=by
 refine FW Ac [] Tryz.func107 rfl rfl rfl rfl rfl rfl rfl rfl (λenv0 he=>?_)
 subst he
 conv=>whnf
 refine Ad (Af Ac ?_)
 repeat' ((conv=>whnf);first|  fail)
 all_goals exact h
theorem St.Ak {st:St} {c:Nat} (h:b≠c):(st.Aa b cs).box c=st.box c:=by simp [St.Aa,Ne.symm h]
noncomputable def mw:List Oper:=match Tryz.f107.body with|some (.seq _ (.seq _ (.seq _ (.seq _ (.region _ ops _)))))=>ops.toList|_=>[]
noncomputable def xo (bs:List Bool) (bp bn ba be U:Nat) (sc:List V) (e:Int):Env:=
 {tmps:=jY [(6,.bool true),(14,.bool true),(13,.agg [.int .i64 e]),(5,.Ch 0 0),(4,fault e),(0,.ptr bp 0),(1,.ptr bn 0),(2,.ptr ba 0),(3,.ptr be 0)]
   mw
   [.agg CX,.ptr U 0,.ptr U 0,.ptr U 0,.agg sc,.Ch 0 0,.int .i64 e,.BR,.BR,.BR] bs,boxes:=[(0,[.int .i64 e])],BU:=1,sz:=25,gl:=[]}
def xp (st:St) (U ba be:Nat) (sc:List V) (e:Int) (bs:List Bool):St:=
 match bs[7]?,bs[8]?,bs[9]? with
 |_,_,some true=>((st.Aa U CX).Aa ba sc).Aa be [.int .i64 e]
 |_,some true,_=>(st.Aa U CX).Aa ba sc
 |some true,_,_=>st.Aa U CX
 |_,_,_=>st
theorem JO {bp bn U be br:Nat} {s:An} {e:Int} {RS:St->Prop} (hp:st.box bp=some [.ptr br 0]) (hr:Has st br s) {n0:Nd} {s0:An} {o1 o2 o3:AH} {e0:Int}
 (hn:st.box bn=some [.int .i64 n0.kind,.int .i64 n0.form,.str n0.text,.int .i64 n0.line,.int .i64 n0.BT,.slice 6 (Bg n0.kids) o1])
 (ha:st.box U=some [.slice 4 (AU s0.AL) o2,.int .i64 s0.pos,.slice 1 (ints s0.Ev) o3,.int .i64 s0.wait]) (he:st.box be=some [.int .i64 e0])
 (d1:bn≠bp) (d2:bn≠br) (d3:bn≠U) (d4:bn≠be) (d5:U≠bp) (d6:U≠br) (d7:U≠be)
 (h:RS (((st.Aa bn CX).Aa U s.cells).Aa be [.int .i64 e])):HM Tryz.prog 107 [.ptr bp 0,.ptr bn 0,.ptr U 0,.ptr be 0] (some (fault e)) st RS:=by
 refine FW Ac [] Tryz.func107 rfl rfl rfl rfl rfl rfl rfl rfl (λenv0 he=>?_)
 subst he
 conv=>whnf
 refine Ad (Af Ac ?_)
 repeat' ((conv=>whnf);first|  fail)
 refine Ad (Af Ac ?_)
 repeat' ((conv=>whnf);first|  fail)
 refine Ad (Af Ac ?_)
 repeat' ((conv=>whnf);first|  fail)
 have ha':(st.Aa bn CX).box U=some [.slice 4 (AU s0.AL) o2,.int .i64 s0.pos,.slice 1 (ints s0.Ev) o3,.int .i64 s0.wait]:=by rw [St.Ak d3];exact ha
 have he':((st.Aa bn CX).Aa U s.cells).box be=some [.int .i64 e0]:=by rw [St.Ak d7,St.Ak d4];exact he
 refine Mn Ac (Bq _) (λbs=>xo bs bp bn U be br s.cells e) (xp st bn U be s.cells e) ej GE Yl (St.le_refl _) ?_ h
 unfold ej
 rcases hr with hr|⟨t,u,q1,q2,q3,hr⟩
 all_goals repeat' (first|refine List.forall_mem_cons.2 ⟨?_,?_⟩|exact λ_ h=>nomatch h)
 repeat' ((conv=>whnf);first|  refine Am hp ?_|refine Am hr ?_|refine Am hn ?_|refine Am ha' ?_|refine Am he' ?_|fail)
 all_goals conv=>whnf
 all_goals (refine ⟨Yl,?_⟩)
 all_goals exact St.le_refl _
end
end Go.Proofs.Z
