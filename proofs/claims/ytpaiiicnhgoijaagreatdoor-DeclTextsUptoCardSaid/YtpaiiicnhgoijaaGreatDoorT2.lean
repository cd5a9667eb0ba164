/-
  Parts of a proof: lemmas that the last text uses.
-/
import Derived.Test.YtpaiiicnhgoijaaGreatDoorT1
import Derived.KernelRfl
import Derived.Test.YtpaiiicnhgoijaaGreatDoorProg
import Derived.Test.YtpaiiicnhgoijaaGreatDoorRows
import Derived.WalkKit
import Derived.ProofKit
import Derived.OpenShut
import Derived.JoinedCond
import Derived.ReadAgain
import Derived.Test.YtpaiiicnhgoijaaGreatDoorCards
import Derived.Test.YtpaiiicnhgoijaaGreatDoorTie
import Derived.Lib.LaidIn
import Derived.Lib.LaidU8T
import Derived.Lib.LaidTab
import Derived.Shelf.Vars
import Derived.Deep.DeepHandedRow
import Derived.Deep.DeepWitnessRowRef
import Derived.IntWalk
import Derived.Recover
open Go.Proofs.YtpaiiicnhgoijaaGreatDoor
set_option linter.unusedVariables false
set_option linter.unusedSimpArgs false
set_option maxHeartbeats 16000000
variable {x:List UInt8} {Q:Go.Aw.AG->Go.Aw.Env->Go.Aw.St->Prop} {env:Go.Aw.Env} {P p A:Prop} {f g:Go.FuncId} {args vs:List Go.Aw.V} {R:Go.Aw.AD->Go.Aw.St->Prop} {I0 I:Go.Aw.Mem} {st0 st' s:Go.Aw.St} {w0 W:Go.World} {β:Nat->Option Nat} {K:List Go.Aw.V->Prop} {fn:Go.Func} {t e:Go.TypeId} {U:List (Nat×Nat)} {n b base m rid:Nat} {cs:List Go.Value} {v:Go.Value} {α:Type} {i:Int} {l:List Int} {es:List (List Go.Aw.V)} {T:List (Nat×Go.Aw.Ty)} {C:Go.FuncId->List Go.Aw.V->Go.Aw.St->(Go.Aw.AD->Go.Aw.St->Prop)->Prop} {all:List Go.Oper} {o:Go.Oper} {ih:(Go.Aw.AG->Go.Aw.Env->Go.Aw.St->Prop)->Go.Aw.Env->Go.Aw.St->Prop} {r r':Go.Aw.AD} {rest:Go.Code}
namespace Go.Aw
open Go
section
variable {D:List Deferred} {P:Program} {T:List (Nat×Ty)} {C:FuncId->List V->St->(AD->St->Prop)->Prop} {I0 I:Mem} {st0 st:St} {w0 w:World} {β:Nat->Option Nat} {env:Env} {a:Act}
variable {o:Oper} {K:V->Env->St->Prop} {Q:AG->Env->St->Prop} {next:Act->World->Prop} {Qc:Exit->Act->World->Prop}
theorem jV {x y:Code} {st:St} (h:AW P x (Bz (Qx T C y Q) Q) env st) (k:∀env st,Qx T C y Q env st->AW P y Q env st):AW P (.seq x y) Q env st:=λD I0 st0 w0 I β a w hr=>by
 refine wp_seq (wp_mono (h D I0 st0 w0 I β a w hr) ?_)
 rintro e a w ⟨I,β,env,st,ae,h1,U,h3⟩
 cases ae with
 |normal=>cases e<;>first|exact k env st h3 D I0 st0 w0 I β a w h1|exact U.elim
 |exit i=>cases e<;>first|exact ⟨I,β,env,st,.exit i,h1,U,h3⟩|exact U.elim
 |goto i=>cases e<;>first|exact ⟨I,β,env,st,.goto i,h1,U,h3⟩|exact U.elim
 |ret=>cases e<;>first|exact ⟨I,β,env,st,.ret,h1,U,h3⟩|exact U.elim
 |Ci v=>cases e<;>first|exact ⟨I,β,env,st,.Ci v,h1,U,h3⟩|exact U.elim
def Cb (P:Program) (T:List (Nat×Ty)) (C:FuncId->List V->St->(AD->St->Prop)->Prop) (c:Code):Prop:=
 ∀l f,(NH T C c).2 l=some f->∃rest,findLabel c l=some rest/\∀Q env st,f Q env st->AW P rest Q env st
theorem Cb.none {c:Code} (h:∀l,(NH T C c).2 l=none):Cb P T C c:=λl f e=>by simp_all
theorem Sd (c:Code) (l:Nat) (h:(NH T C c).2 l=none):findLabel c l=none:=by
 induction c with
 |seq x y ihx ihy=>
  have e:wN ((NH T C x).2 l) (NH T C y).1 ((NH T C y).2 l)=none:=h
  cases U:(NH T C x).2 l with
  |some g=>rw [U] at e;cases e
  |none=>
   rw [U] at e
   simp [findLabel,ihx U,ihy e]
 |label l0=>
  have e:(bif Nat.beq l0 l then some λ(Q:AG->Env->St->Prop) env st=>Q .normal env st else none)=none:=h
  cases hb:Nat.beq l0 l with
  |true=>simp_all
  |false=>
   have:¬l0=l:=λx=>by simp_all
   simp [findLabel,this]
 |_=>simp [findLabel]
theorem Ew (hT:HG P T) (hm:P.follows .mixedOrders=true) (hC:∀f args st R,C f args st R->DE P f args st R/\Plain P f) (hM:∀f args st (R R':AD->St->Prop),(∀r s,R r s->R' r s)->C f args st R->C f args st R'):∀(c:Code),(∀{Q:AG->Env->St->Prop} {env:Env} {st:St},Qx T C c Q env st->AW P c Q env st)/\Cb P T C c
 | .skip=>⟨λ{Q env st} k=>λD I0 st0 w0 I β a w h=>wp_skip ⟨I,β,env,st,.normal,h,trivial,k⟩,Cb.none λ_=>rfl⟩
 | .region id ops true=>⟨λ{Q env st} k=>λD I0 st0 w0 I β a w h=>wp_region_any hm (by
    obtain ⟨sched,L,k1,k2⟩:=(show ∃(sched:List (Nat×Bool)) (L:List Nat),F5 sched ops.toList=true/\Ee T C ops.toList sched L (Bm (L.map some) env.boxes) Q sched env st from k)
    have:=T9 hT hC hM k1 k2 h
    omega),Cb.none λ_=>rfl⟩
 | .region id ops false=>⟨λ{Q env st} k=>λD I0 st0 w0 I β a w h=>wp_region_list (by
    have:=F6 hT hC h (show IZ T C ops.toList Q ops.toList env st from k)
    omega),Cb.none λ_=>rfl⟩
 | .seq x y=>⟨λ{Q env st} k=>jV ((Ew hT hm hC hM x).1 (show Qx T C x _ env st from k)) λenv st=>(Ew hT hm hC hM y).1,λl f e=>by
    have e:wN ((NH T C x).2 l) (NH T C y).1 ((NH T C y).2 l)=some f:=e
    have hx:=(Ew hT hm hC hM x).2 l
    have hy:=(Ew hT hm hC hM y).2 l
    cases hl:(NH T C x).2 l with
    |none=>
     rw [hl] at e
     obtain ⟨rest,h1,U⟩:=hy f e
     have hn:=Sd x l hl
     exact ⟨rest,by simp [findLabel,hn,h1],U⟩
    |some g=>
     rw [hl] at e
     cases e
     obtain ⟨rest,h1,U⟩:=hx g hl
     exact ⟨.seq rest y,by simp [findLabel,h1],λQ env st k=>jV (U _ env st k) λenv st=>(Ew hT hm hC hM y).1⟩⟩
 | .cond c x y=>⟨λ{Q env st} k=>λD I0 st0 w0 I β a w h=>by
   have hc:=h.f.eval c
   have k:(match env.eval c with
    | .bool t=>lit t (Qx T C x Q env st) (Qx T C y Q env st)
    |_=>False):=k
   split at k
   .rename_i t he
    rw [he] at hc
    have hc:=J1 hc
    cases t with
    |true=>exact wp_cond_true hc ((Ew hT hm hC hM x).1 (show Qx T C x Q env st from k) D I0 st0 w0 I β a w h)
    |false=>exact wp_cond_false hc ((Ew hT hm hC hM y).1 (show Qx T C y Q env st from k) D I0 st0 w0 I β a w h)
   simp_all,Cb.none λ_=>rfl⟩
 | .block id c=>⟨λ{Q env st} k=>λD I0 st0 w0 I β a w h=>by
   refine wp_block (wp_mono ((Ew hT hm hC hM c).1 (show Qx T C c _ env st from k) D I0 st0 w0 I β a w h) ?_)
   rintro e a w ⟨I,β,env,st,ae,h1,U,h3⟩
   cases ae with
   |normal=>cases e<;>first|exact ⟨I,β,env,st,.normal,h1,trivial,h3⟩|exact U.elim
   |exit i=>
    cases e<;>try exact U.elim
    rename_i i'
    have U:i'=i:=U
    subst U
    simp only [MY] at h3
    show (if i'=id then DH D I0 st0 w0 Q .normal a w else DH D I0 st0 w0 Q (.exit i') a w)
    by_cases hi:i'=id
    .subst hi
     rw [if_pos rfl]
     simp only [Nat.beq_refl,cond_true] at h3
     exact ⟨I,β,env,st,.normal,h1,trivial,h3⟩
    .rw [if_neg hi]
     have:Nat.beq i' id=false:=by
      cases hb:Nat.beq i' id with
      |false=>rfl
      |true=>simp_all
     rw [this] at h3
     exact ⟨I,β,env,st,.exit i',h1,rfl,h3⟩
   |goto i=>cases e<;>first|exact ⟨I,β,env,st,.goto i,h1,U,h3⟩|exact U.elim
   |ret=>cases e<;>first|exact ⟨I,β,env,st,.ret,h1,U,h3⟩|exact U.elim
   |Ci v=>cases e<;>first|exact ⟨I,β,env,st,.Ci v,h1,U,h3⟩|exact U.elim,Cb.none λ_=>rfl⟩
 | .loop c=>⟨λ{Q env st} k=>λD I0 st0 w0 I β a w h=>by
   obtain ⟨α,E,S,J,μ,x0,h0,he,hs,round⟩:=(show ∃(α:Type) (E:α->Env) (S:α->St) (J:α->Prop) (μ:α->Nat) (x0:α),J x0/\(E x0).C3 env/\St.le (S x0) st/\
    ∀x,J x->Qx T C c (Bz (λenv' st'=>∃y,J y/\μ y<μ x/\(E y).C3 env'/\St.le (S y) st') Q) (E x) (S x) from k)
   refine LO (λn a w=>∃I β x,Rel D I0 st0 w0 I β (E x) (S x) a w/\J x/\n=μ x) (n0:=μ x0) ⟨I,_,x0,(h.Iw hs).JF (Env.JS he),h0,rfl⟩ ?_
   rintro n a w ⟨I,β,x,h,hi,rfl⟩
   refine wp_mono ((Ew hT hm hC hM c).1 (round x hi) D I0 st0 w0 I β a w h) ?_
   rintro e a w ⟨I,β,env,st,ae,h1,U,h3⟩
   cases ae with
   |normal=>
    cases e<;>try exact U.elim
    obtain ⟨y,g1,g2,g3,g4⟩:=h3
    exact ⟨μ y,g2,I,_,y,(h1.Iw g4).JF (Env.JS g3),g1,rfl⟩
   |exit i=>cases e<;>first|exact ⟨I,β,env,st,.exit i,h1,U,h3⟩|exact U.elim
   |goto i=>cases e<;>first|exact ⟨I,β,env,st,.goto i,h1,U,h3⟩|exact U.elim
   |ret=>cases e<;>first|exact ⟨I,β,env,st,.ret,h1,U,h3⟩|exact U.elim
   |Ci v=>cases e<;>first|exact ⟨I,β,env,st,.Ci v,h1,U,h3⟩|exact U.elim,Cb.none λ_=>rfl⟩
 | .exit id=>⟨λ{Q env st} k=>λD I0 st0 w0 I β a w h=>wp_exit ⟨I,β,env,st,.exit id,h,rfl,k⟩,Cb.none λ_=>rfl⟩
 | .goto l=>⟨λ{Q env st} k=>λD I0 st0 w0 I β a w h=>wp_goto ⟨I,β,env,st,.goto l,h,rfl,k⟩,Cb.none λ_=>rfl⟩
 | .label l0=>⟨λ{Q env st} k=>λD I0 st0 w0 I β a w h=>wp_label ⟨I,β,env,st,.normal,h,trivial,k⟩,λl f e=>by
    have e:(bif Nat.beq l0 l then some λ(Q:AG->Env->St->Prop) env st=>Q .normal env st else none)=some f:=e
    cases hb:Nat.beq l0 l with
    |false=>simp_all
    |true=>
     rw [hb] at e
     cases e
     have:=Nat.eq_of_beq_eq_true hb
     subst this
     exact ⟨.skip,by simp [findLabel],λQ env st k=>λD I0 st0 w0 I β a w h=>wp_skip ⟨I,β,env,st,.normal,h,trivial,k⟩⟩⟩
 | .ret=>⟨λ{Q env st} k=>λD I0 st0 w0 I β a w h=>wp_ret ⟨I,β,env,st,.ret,h,trivial,k⟩,Cb.none λ_=>rfl⟩
 | .rangeFunc .. =>⟨λ{Q env st} k=>False.elim k,Cb.none λ_=>rfl⟩
 | .scope c=>⟨λ{Q env st} k=>λD I0 st0 w0 I β a w h=>by
    obtain ⟨α,lab,E,S,J,μ,first,pass⟩:=(show QZ (NH T C c).1 (NH T C c).2 Q env st from k)
    refine Xi (λl n a w=>∃I β x,Rel D I0 st0 w0 I β (E x) (S x) a w/\J x/\lab x=l/\n=μ x) ?_ ?_
    .refine wp_mono ((Ew hT hm hC hM c).1 first D I0 st0 w0 I β a w h) ?_
     rintro e a w ⟨I,β,env,st,ae,h1,U,h3⟩
     cases ae with
     |goto i=>
      cases e<;>try exact U.elim
      have U:_=i:=U
      subst U
      obtain ⟨y,g1,g2,g3,g4⟩:=h3
      exact ⟨μ y,I,_,y,(h1.Iw g4).JF (Env.JS g3),g2,g1,rfl⟩
     |normal=>cases e<;>first|exact ⟨I,β,env,st,.normal,h1,U,h3⟩|exact U.elim
     |exit i=>cases e<;>first|exact ⟨I,β,env,st,.exit i,h1,U,h3⟩|exact U.elim
     |ret=>cases e<;>first|exact ⟨I,β,env,st,.ret,h1,U,h3⟩|exact U.elim
     |Ci v=>cases e<;>first|exact ⟨I,β,env,st,.Ci v,h1,U,h3⟩|exact U.elim
    .rintro l n a w ⟨I,β,x,h,hi,rfl,rfl⟩
     obtain ⟨f,hf,hp⟩:=pass x hi
     obtain ⟨rest,hr,hs⟩:=(Ew hT hm hC hM c).2 _ f hf
     refine ⟨rest,hr,wp_mono (hs _ _ _ hp D I0 st0 w0 I β a w h) ?_⟩
     rintro e a w ⟨I,β,env,st,ae,h1,U,h3⟩
     cases ae with
     |goto i=>
      cases e<;>try exact U.elim
      have U:_=i:=U
      subst U
      obtain ⟨y,g1,g2,gm,g3,g4⟩:=h3
      exact ⟨μ y,gm,I,_,y,(h1.Iw g4).JF (Env.JS g3),g2,g1,rfl⟩
     |normal=>cases e<;>first|exact ⟨I,β,env,st,.normal,h1,U,h3⟩|exact U.elim
     |exit i=>cases e<;>first|exact ⟨I,β,env,st,.exit i,h1,U,h3⟩|exact U.elim
     |ret=>cases e<;>first|exact ⟨I,β,env,st,.ret,h1,U,h3⟩|exact U.elim
     |Ci v=>cases e<;>first|exact ⟨I,β,env,st,.Ci v,h1,U,h3⟩|exact U.elim,Cb.none λ_=>rfl⟩
 | .refuse _=>⟨λ{Q env st} k=>False.elim k,Cb.none λ_=>rfl⟩
structure TK (P:Program) (T:List (Nat×Ty)):Prop where
 t:HG P T
 m:P.follows .mixedOrders=true
theorem ON (U:TK P T) (hC:∀f args st R,C f args st R->DE P f args st R/\Plain P f) (hM:∀f args st (R R':AD->St->Prop),(∀r s,R r s->R' r s)->C f args st R->C f args st R') (c:Code) {st:St} (h:Qx T C c Q env st):AW P c Q env st:=(Ew U.t U.m hC hM c).1 h
end
structure Bp (P:Program) (f:FuncId) (args:List V) (st:St) (R:AD->St->Prop):Prop where
 a:DE P f args st R
 b:Plain P f
theorem Bp.mono {P:Program} {f:FuncId} {args:List V} {st:St} {R R':AD->St->Prop} (h:Bp P f args st R) (k:∀r s,R r s->R' r s):Bp P f args st R':=⟨h.a.mono k,h.b⟩
theorem BX (P:Program):∀f args st R,Bp P f args st R->DE P f args st R/\Plain P f:=λ_ _ _ _ h=>⟨h.a,h.b⟩
section
variable {D:List Deferred} {P:Program} {T:List (Nat×Ty)} {I:Mem} {st:St} {w:World}
theorem Rn:∀{l:List V} {k t:Nat} {v:V},assoc (KR k l) t=some v->k<=t/\l[t - k]? =some v
 |[],k,t,v,h=>by cases h
 |u::r,k,t,v,h=>by
  rw [aH,BF] at h
  cases hb:Nat.beq k t with
  |true=>
   simp_all
  |false=>
   rw [hb] at h
   obtain ⟨U,h2⟩:=Rn h
   grind
def Y4 (tmps:Array Value):ResultVar->Sem Value
 | .tmp t=>pure (tmps.getD t undef)
 | .cell x t=>do loadVar t (<-asAddr (tmps.getD x undef))
theorem VW (hT:HG P T) {a:Act} (h:Rel D I0 st0 w0 I β env st a w) {x:ResultVar} {K:V->Prop} (k:VV T env st x K):
 ∃v c,(Y4 a.tmps x).run P w=.ok c w/\A0 I v c/\K v:=by
 cases x with
 |tmp t=>
  have k:(env.get t).force λv=>Ev v.plain (K v):=k
  obtain ⟨hp,k⟩:=AE.1 (V.AY.1 k)
  exact ⟨_,_,rfl,(h.f.get t).rep hp,k⟩
 |cell x t=>
  have hx:=h.f.get x
  have fin:∀{ad:Addr} {c:Value} {v:V},a.tmps.getD x undef=.pointer (some ad)->(loadVar t ad).run P w=.ok c w->A0 I v c->K v->
   ∃v c,(Y4 a.tmps (.cell x t)).run P w=.ok c w/\A0 I v c/\K v:=by
   intro ad c v e1 e2 e3 k
   refine ⟨v,c,?_,e3,k⟩
   simp only [Y4,e1,asAddr,Sem.run_bind,Sem.run_pure,Result.andThen_ok,e2]
  simp only [VV] at k
  split at k
  .rename_i id off he
   rw [he] at hx
   obtain ⟨b,hb,hx⟩:=It hx
   split at k
   .rename_i cs U
    obtain ⟨b',h1,h2⟩:=h.f.box id cs U
    rw [hb] at h1
    injection h1 with h1
    subst h1
    obtain ⟨vs,ty,h2,h3⟩:=h2.cells (MH k)
    obtain ⟨v,c,g1,g2,g3⟩:=EU (b:=b) (o:=0) hT h3 (λj v e=>by simpa using JO h2 e) k
    grind
   simp_all
  .rename_i b off he
   rw [he] at hx
   have hx:=Om hx
   obtain ⟨cs,U,k⟩:=k
   obtain ⟨vs,ty,h2,h3⟩:=h.s.box b cs U
   obtain ⟨v,c,g1,g2,g3⟩:=EU (b:=b) (o:=0) hT h3 (λj v e=>by simpa using JO h2 e) k
   grind
  simp_all
theorem Ln (U:HG P T) {I0:Mem} {st0:St} {w0:World} {β:Nat->Option Nat} {env:Env} {a:Act} (h:Rel D I0 st0 w0 I β env st a w):∀{rs:List ResultVar} {K:List V->Prop},Gm T env st rs K->
 ∃vs cs,Ar I vs cs/\K vs/\(rs.mapM (Y4 a.tmps)).run P w=.ok cs w
 |[],K,k=>⟨[],[],PP,k,rfl⟩
 |x::r,K,k=>by
  rw [TA] at k
  obtain ⟨v,c,e1,e2,k⟩:=VW (P:=P) U h k
  obtain ⟨vs,cs,h1,h2,h3⟩:=Ln U h k
  refine ⟨v::vs,c::cs,by simp only [Ar];grind,h2,?_⟩
  simp_all
theorem Dz (hT:HG P T) {a:Act} (h:Rel D I0 st0 w0 I β env st a w)
 (k:Gm T env st fn.results.toList λvs=>match vs with|[v]=>R (.ret v) st|vs=>R (.ret (.Bl vs)) st):
 ∃v c,(results fn a.tmps).run P w=.ok c w/\A0 I v c/\R (.ret v) st:=by
 obtain ⟨vs,cs,U,h2,h3⟩:=Ln (P:=P) hT h k
 have hr:(results fn a.tmps).run P w=.ok (if hh:cs.toArray.size=1 then cs.toArray[0] else .tuple cs.toArray) w:=by
  have e:results fn a.tmps=(do let vs <-fn.results.mapM (Y4 a.tmps);pure (if h:vs.size=1 then vs[0] else .tuple vs)):=by
   unfold results
   congr 1
  rw [e,Array.mapM_eq_mapM_toList]
  simp only [Sem.run_bind,Sem.run_map,h3,Result.andThen_ok,Sem.run_pure]
 have hl:=Ar.length U
 match vs,U,h2,hl with
 |[v],U,h2,hl=>
  simp only [Ar] at U
  grind
 |[],U,h2,hl=>
  have hs:¬(cs.toArray.size=1):=by simp at hl |-;omega
  rw [dif_neg hs] at hr
  exact ⟨_,_,hr,by simp only [A0];simp_all,h2⟩
 |x::y::z,U,h2,hl=>
  have hs:¬(cs.toArray.size=1):=by simp at hl |-;omega
  rw [dif_neg hs] at hr
  exact ⟨_,_,hr,by simp only [A0];simp_all,h2⟩
theorem SC {a:Act} (hs:Db I st w) (U:a.tmps.size=env.sz) (h2:∀t v,assoc env.tmps t=some v->A0 I v (a.tmps.getD t undef)) (h3:env.boxes=[]) (h4:a.defers=D):
 Rel D I st w I (λ_=>none) env st a w:=
 ⟨Fr.refl,hs,⟨U,λt v e=>Bg.of (h2 t v e),λid cs e=>(by rw [h3] at e;cases e),λid b e=>(by cases e),λi j b e=>(by cases e),λid b e=>(by cases e),h4⟩⟩
theorem Rj (hP:TK P T) (gl:List Nat) (hf:P.funcs[f]? =some fn)
 (h:U5 T (Bp P) fn gl args st λr st'=>∃r2 U,(r2=r\/r2=r.wk)/\St.le U st'/\R r2 U):DE P f args st R:=by
 intro I w cargs hs hargs
 unfold U5 at h
 cases hb:fn.body with
 |none=>simp_all
 |some c=>
  rw [hb] at h
  obtain ⟨hle,h⟩:=AE.1 h
  have hle:=Nat.le_of_ble_eq_true hle
  have hlen:=Ar.length hargs
  refine calls_of_wp hf hb ?_
  have hrel:Rel [] I st w I (λ_=>none) {tmps:=KR 0 args,boxes:=[],BS:=0,sz:=fn.ntmps,gl} st
   {tmps:=cargs.toArray++Array.replicate (fn.ntmps - cargs.toArray.size) undef,defers:=[]} w:=by
   refine SC hs GT (λt v e=>?_) rfl rfl
   obtain ⟨_,e⟩:=Rn e
   rw [Nat.sub_zero] at e
   obtain ⟨c',e1,e2⟩:=Ar.get hargs e
   have hlt:t<cargs.length:=by
    rcases Nat.lt_or_ge t cargs.length with h|h
    .exact h
    .simp_all
   have:(cargs.toArray++Array.replicate (fn.ntmps - cargs.toArray.size) undef).getD t undef=c':=by
    rw [List.getElem?_eq_getElem hlt] at e1
    injection e1 with e1
    subst e1
    simp [Array.getD,Array.getElem_append,hlt]
    omega
   rw [this]
   exact e2
  refine wp_mono (ON hP (BX P) (λ_ _ _ _ _ h k=>k.mono h) c h [] I st w I _ _ w hrel) ?_
  rintro e a w' ⟨I1,β1,env1,st1,ae,h1,h2,h3⟩
  have hret:(Gm T env1 st1 fn.results.toList λvs=>match vs with
   |[v]=>∃r2 U,(r2=.ret v\/r2=(AD.ret v).wk)/\St.le U st1/\R r2 U
   |vs=>∃r2 U,(r2=.ret (.Bl vs)\/r2=(AD.ret (.Bl vs)).wk)/\St.le U st1/\R r2 U)->
   a.defers=[]/\∃v,(results fn a.tmps).run P w'=.ok v w'/\∃I' st' r,Fr I st w I' st' w'/\Db I' st' w'/\Y3 I' (.returned v) r/\R r st':=by
   intro h3
   obtain ⟨v,c,g1,g2,r2,U,g3,g4,g5⟩:=Dz (P:=P) (R:=λr s=>∃r2 U,(r2=r\/r2=r.wk)/\St.le U s/\R r2 U) hP.t h1 h3
   have h1':=h1.Iw g4
   refine ⟨h1.f.defers,c,g1,I1,U,r2,h1'.fr,h1'.s,?_,g5⟩
   rcases g3 with rfl|rfl
   .exact g2
   .exact g2.wk
  cases ae with
  |normal=>cases e<;>first|exact hret h3|exact h2.elim
  |exit i=>exact h3.elim
  |goto i=>exact h3.elim
  |ret=>cases e<;>first|exact hret h3|exact h2.elim
  |Ci v=>
   cases e<;>try exact h2.elim
   obtain ⟨r2,U,g3,g4,g5⟩:=h3
   obtain ⟨c',rfl,h2⟩:=h2
   have h1':=h1.Iw g4
   refine ⟨h1.f.defers,I1,U,r2,h1'.fr,h1'.s,?_,g5⟩
   rcases g3 with rfl|rfl
   .exact ⟨c',rfl,h2⟩
   .exact ⟨c',rfl,h2.wk⟩
theorem SG (hP : TK P T) (gl : List Nat) (hf : P.funcs[f]? = some fn) (hb : fn.body.isSome = true) (hn : (fn.name == "runtime.NumGoroutine") = false)
 (h:U5 T (Bp P) fn gl args st λr st'=>∃r2 U,(r2=r\/r2=r.wk)/\St.le U st'/\R r2 U):Bp P f args st R:=⟨Rj hP gl hf h,fn,hf,hb,hn⟩
end
section
variable {P:Program} {T:List (Nat×Ty)}
theorem uP (h:∀p ∈ T,OJ P p.1 p.2):HG P T:=λt ty e=>h (t,ty) (GO e)
def PJ:V->Value
 | .int k n=>.int k n
 | .bool b=>.bool b
 | .str s=>.string ⟨s.toArray⟩
 | .slice _ _ _=>.slice none 0 0
 | .GK=>.pointer none
 | .AM=>.nilFunc
 | .Ht=>.nilIface
 |_=>undef
def isZero:V->Bool
 | .int _ _| .bool _| .GK| .AM| .Ht=>true
 | .str []=>true
 | .slice (_+1) [] .full=>true
 |_=>false
theorem Y2 {z:V} (h:isZero z=true):A0 I z (PJ z):=by
 unfold isZero at h
 split at h
 .rfl
 .rfl
 .rfl
 .rfl
 .rfl
 .simp [A0,PJ,Fk]
 .exact KL (Nat.succ_pos _) _ (.inl rfl)
 grind
theorem Pl {I:Mem}:∀{z:List V},z.all isZero=true->Ar I z (z.map PJ)
 |[],_=>by rfl
 |v::r,h=>by
  simp only [List.all_cons,Bool.and_eq_true] at h
  simp only [Ar,List.map_cons]
  exact ⟨_,_,rfl,Y2 h.1,Pl h.2⟩
theorem pQ {z:V} (h:isZero z=true):(PJ z).cells=#[PJ z]/\z.known=true/\z.cells=[z]:=by
 unfold isZero at h
 split at h
 all_goals first|(cases h;done)|exact ⟨rfl,rfl,rfl⟩
theorem yi {z:V} {d:TypeDesc} (hu:P.underlying t=some d) (ha:Tt d=false) (hz:isZero z=true)
 (hi:(P.info? t).map (λi=>(i.zero,i.size))=some (some (PJ z),1)) (hs:match z with| .str _=>d=.string| .Ht=>∃U,d=.interface U| .int k _=>d=.int k| .bool _=>d=.bool|_=>∀U,d≠.interface U):OJ P t (.sc z):=by
 cases hp:P.info? t with
 |none=>simp_all
 |some i=>
  rw [hp] at hi
  simp only [Option.map_some,Option.some.injEq,Prod.mk.injEq] at hi
  obtain ⟨h1,h2,h3⟩:=pQ hz
  exact ⟨i,d,PJ z,hp,hu,ha,hi.2,hi.1,Y2 hz,h1,h2,h3,hs⟩
theorem ph {sz bytes:Nat} {c:Value} (hu:P.underlying t=some (.slice e)) (hi:(P.info? t).map (λi=>(i.zero,i.size))=some (some (.slice none 0 0),1))
 (U:(P.info? e).map (λi=>(i.zero,i.size,i.bytes))=some (some c,sz,bytes)) (h0:0<sz) (hc:c.cells.size=sz):OJ P t (.slice e sz bytes):=by
 cases hp:P.info? t with
 |none=>simp_all
 |some i=>
  cases hq:P.info? e with
  |none=>simp_all
  |some j=>
   rw [hp] at hi
   rw [hq] at U
   simp only [Option.map_some,Option.some.injEq,Prod.mk.injEq] at hi U
   exact ⟨i,j,c,hp,hu,hi.2,hi.1,hq,U.2.1,U.2.2,h0,U.1,hc⟩
theorem jy {z:List V} {fields:Array Field} (hu:P.underlying t=some (.struct fields)) (hz:z.all isZero=true)
 (hi:(P.info? t).map (λi=>(i.zero,i.size))=some (some (.agg (z.map PJ).toArray),z.length))
 (hf:fields.toList.map (λf=>(f.offset,(P.info? f.type).map (·.size)))=U.map (λp=>(p.1,some p.2))) (he:(!dR z||dM P t z)=true) (h1:(fields.toList.all λf=>match P.info? f.type,P.underlying f.type with|some j,some d=>j.size !=1|| !Tt d|_,_=>false)=true):OJ P t (.struct U z):=by
 cases hp:P.info? t with
 |none=>simp_all
 |some i=>
  rw [hp] at hi
  simp only [Option.map_some,Option.some.injEq,Prod.mk.injEq] at hi
  refine ⟨i,fields,z.map PJ,hp,hu,hi.2,hi.1,Pl hz,?_,λn o s e=>?_,(λhfl=>by simp_all),λn o e=>?_⟩
  .have:=congrArg List.length hf
   grind
  .have h1:(U.map λp=>(p.1,some p.2))[n]? =some (o,some s):=by rw [List.getElem?_map,e];rfl
   grind
  .have h2:(U.map λp=>(p.1,some p.2))[n]? =some (o,some 1):=by rw [List.getElem?_map,e];rfl
   grind
theorem wX {sz:Nat} {z:List V} (hu:P.underlying t=some (.array n e)) (hz:z.all isZero=true)
 (hi:(P.info? t).map (λi=>(i.zero,i.size))=some (some (.agg (z.map PJ).toArray),z.length)) (hj:(P.info? e).map (·.size)=some sz) (hf:U=(List.range U.length).map λi=>(i*sz,sz)) (hn:U.length<=n):OJ P t (.arr U z):=by
 cases hp:P.info? t with
 |none=>simp_all
 |some i=>
  cases hq:P.info? e with
  |none=>simp_all
  |some j=>
   rw [hp] at hi
   rw [hq] at hj
   simp only [Option.map_some,Option.some.injEq,Prod.mk.injEq] at hi hj
   refine ⟨i,n,e,j,z.map PJ,hp,hu,hi.2,hi.1,Pl hz,hq,λk o s e=>?_⟩
   have hk:=(List.getElem?_eq_some_iff.1 e).1
   refine ⟨?_,?_,H1⟩<;>grind
def Ty.zv:Ty->Value×Nat
 | .sc z=>(PJ z,1)
 | .slice _ _ _=>(.slice none 0 0,1)
 | .struct _ z| .arr _ z=>(.agg (z.map PJ).toArray,z.length)
def uB:V->TypeDesc->Bool
 | .str _,.string=>true
 | .Ht,.interface _=>true
 | .int k _,.int U=>decide (k=U)
 | .bool _,.bool=>true
 | .str _,_| .Ht,_| .int _ _,_| .bool _,_|_,.interface _=>false
 |_,_=>true
def zp (P:Program) (t:TypeId) (ty:Ty):Bool:=match ty,P.underlying t with
 | .sc z,some d=> !Tt d&&(isZero z&&uB z d)
 | .slice e sz bytes,some (.slice e')=>e==e'&&(match P.info? e with|some j=>(match j.zero with|some c=>c.cells.size==sz|none=>false)&&(j.size==sz&&(j.bytes==bytes&&decide (0<sz)))|none=>false)
 | .struct U z,some (.struct fields)=>z.all isZero&&(decide (fields.toList.map (λf=>(f.offset,(P.info? f.type).map (·.size)))=U.map (λp=>(p.1,some p.2)))&&((!dR z||dM P t z)&&
    fields.toList.all λf=>match P.info? f.type,P.underlying f.type with|some j,some d=>j.size !=1|| !Tt d|_,_=>false))
 | .arr U z,some (.array n e)=>z.all isZero&&decide (U.length<=n)&&(match P.info? e with|some j=>decide (U=(List.range U.length).map λi=>(i*j.size,j.size))|none=>false)
 |_,_=>false
theorem uO (h1:T.map (λp=>(P.info? p.1).map λi=>(i.zero,i.size))=T.map λp=>some (some p.2.zv.1,p.2.zv.2)) (h2:(T.all λp=>zp P p.1 p.2)=true):HG P T:=uP λp hp=>by
 have e1:=List.map_inj_left.1 h1 p hp
 have U:=List.all_eq_true.1 h2 p hp
 obtain ⟨t,ty⟩:=p
 dsimp only at e1 U |-
 unfold zp at U
 split at U
 .rename_i z d hu
  simp only [Bool.and_eq_true,Bool.not_eq_true'] at U
  refine yi hu U.1 U.2.1 e1 ?_
  have e3:=U.2.2
  unfold uB at e3
  split at e3<;>simp_all
 .rename_i e sz b e' hu
  simp only [Bool.and_eq_true,beq_iff_eq] at U
  obtain ⟨rfl,U⟩:=U
  cases hj:P.info? e with
  |none=>rw [hj] at U;cases U
  |some j=>
   rw [hj] at U
   cases hz:j.zero with
   |none=>simp [hz] at U
   |some c=>
    simp only [hz,Bool.and_eq_true,beq_iff_eq,decide_eq_true_eq] at U
    exact ph (c:=c) hu e1 (by rw [hj];simp [hz,U]) U.2.2.2 U.1
 .rename_i offs z fields hu
  simp only [Bool.and_eq_true,decide_eq_true_eq] at U
  exact jy hu U.1 e1 U.2.1 U.2.2.1 U.2.2.2
 .rename_i offs z n e hu
  simp only [Bool.and_eq_true] at U
  cases hj:P.info? e with
  |none=>rw [hj] at U;cases U.2
  |some j=>
   rw [hj] at U
   exact wX hu U.1.1 e1 (by rw [hj];rfl) (of_decide_eq_true U.2) (of_decide_eq_true U.1.2)
 .cases U
end
theorem JW {P:Program} {args':List V} {st:St} (e:args'=args.map V.wk) (h:Bp P f args' st R):Bp P f args st R:=by
 subst e
 exact ⟨λI w U hs ha=>h.a I w U hs (Ar.map (λ_ _ k=>k.wk) ha),h.b⟩
end Go.Aw
namespace Go.Proofs.Z
open Go Go.Aw
def xh:List (Nat×Ty):=[
 (1,.sc (.AM)),
 (2,.sc (.int .i64 0)),
 (3,.sc (.int .i64 0)),
 (4,.sc (.bool false)),
 (5,.sc (.int .u8 0)),
 (9,.sc (.str [])),
 (12,.sc (.int .u64 0)),
 (15,.sc (.GK)),
 (16,.sc (.GK)),
 (20,.sc (.Ht)),
 (21,.sc (.int .i32 0)),
 (22,.slice 51 4 40),
 (23,.slice 3 1 8),
 (24,.struct [(0,1),(1,1),(2,1),(3,1)] [.slice 4 [] .full,.int .i64 0,.slice 1 [] .full,.int .i64 0]),
 (25,.struct [(0,1),(1,1),(2,1),(3,1)] [.slice 4 [] .full,.int .i64 0,.slice 1 [] .full,.int .i64 0]),
 (26,.sc (.AM)),
 (27,.sc (.AM)),
 (28,.slice 30 6 72),
 (29,.struct [(0,1),(1,1),(2,1),(3,1),(4,1),(5,1)] [.int .i64 0,.int .i64 0,.str [],.int .i64 0,.int .i64 0,.slice 6 [] .full]),
 (30,.struct [(0,1),(1,1),(2,1),(3,1),(4,1),(5,1)] [.int .i64 0,.int .i64 0,.str [],.int .i64 0,.int .i64 0,.slice 6 [] .full]),
 (31,.sc (.int .i64 0)),
 (33,.sc (.AM)),
 (34,.sc (.AM)),
 (35,.struct [(0,6),(6,4),(10,1)] [.int .i64 0,.int .i64 0,.str [],.int .i64 0,.int .i64 0,.slice 6 [] .full,.slice 4 [] .full,.int .i64 0,.slice 1 [] .full,.int .i64 0,.int .i64 0]),
 (36,.struct [(0,6),(6,4),(10,1)] [.int .i64 0,.int .i64 0,.str [],.int .i64 0,.int .i64 0,.slice 6 [] .full,.slice 4 [] .full,.int .i64 0,.slice 1 [] .full,.int .i64 0,.int .i64 0]),
 (37,.sc (.AM)),
 (38,.sc (.AM)),
 (39,.sc (.AM)),
 (40,.sc (.AM)),
 (41,.sc (.AM)),
 (42,.sc (.AM)),
 (43,.sc (.AM)),
 (44,.sc (.AM)),
 (45,.sc (.AM)),
 (46,.sc (.AM)),
 (47,.slice 138 5 48),
 (49,.sc (.AM)),
 (50,.struct [(0,1),(1,1),(2,1),(3,1)] [.int .i64 0,.str [],.int .i64 0,.int .i64 0]),
 (51,.struct [(0,1),(1,1),(2,1),(3,1)] [.int .i64 0,.str [],.int .i64 0,.int .i64 0]),
 (52,.sc (.AM)),
 (53,.sc (.AM)),
 (54,.sc (.AM)),
 (55,.sc (.AM)),
 (56,.sc (.AM)),
 (57,.sc (.AM)),
 (58,.sc (.AM)),
 (59,.sc (.GK)),
 (60,.struct [(0,1),(1,1)] [.GK,.int .i64 0]),
 (61,.struct [(0,1),(1,1)] [.GK,.int .i64 0]),
 (62,.sc (.AM)),
 (63,.sc (.AM)),
 (65,.sc (.AM)),
 (66,.sc (.AM)),
 (68,.sc (.AM)),
 (69,.sc (.AM)),
 (70,.sc (.AM)),
 (71,.sc (.AM)),
 (72,.sc (.AM)),
 (73,.sc (.AM)),
 (75,.sc (.AM)),
 (76,.sc (.AM)),
 (78,.sc (.AM)),
 (79,.sc (.AM)),
 (81,.sc (.AM)),
 (82,.sc (.AM)),
 (83,.sc (.AM)),
 (84,.sc (.AM)),
 (85,.sc (.GK)),
 (86,.struct [(0,1),(1,1),(2,1)] [.int .i64 0,.int .i64 0,.int .i64 0]),
 (87,.struct [(0,1),(1,1),(2,1)] [.int .i64 0,.int .i64 0,.int .i64 0]),
 (88,.struct [(0,1),(1,1)] [.int .i64 0,.bool false]),
 (89,.struct [(0,1),(1,1)] [.int .i64 0,.bool false]),
 (90,.struct [(0,1),(1,1),(2,3),(5,1),(6,1),(7,1),(8,2)] [.str [],.int .i64 0,.int .i64 0,.int .i64 0,.int .i64 0,.slice 4 [] .full,.slice 5 [] .full,.int .i64 0,.int .i64 0,.bool false]),
 (91,.struct [(0,1),(1,1),(2,3),(5,1),(6,1),(7,1),(8,2)] [.str [],.int .i64 0,.int .i64 0,.int .i64 0,.int .i64 0,.slice 4 [] .full,.slice 5 [] .full,.int .i64 0,.int .i64 0,.bool false]),
 (92,.sc (.AM)),
 (93,.sc (.AM)),
 (94,.struct [(0,1),(1,1),(2,1)] [.int .i64 0,.int .i64 0,.int .i64 0]),
 (95,.struct [(0,1),(1,1),(2,1)] [.int .i64 0,.int .i64 0,.int .i64 0]),
 (96,.sc (.AM)),
 (97,.sc (.AM)),
 (98,.sc (.AM)),
 (99,.sc (.AM)),
 (100,.sc (.AM)),
 (101,.sc (.AM)),
 (102,.sc (.AM)),
 (103,.struct [(0,4),(4,4),(8,4),(12,1),(13,1)] [.slice 4 [] .full,.int .i64 0,.slice 1 [] .full,.int .i64 0,.int .i64 0,.str [],.int .i64 0,.int .i64 0,.slice 4 [] .full,.int .i64 0,.slice 1 [] .full,.int .i64 0,.int .i64 0,.bool false]),
 (104,.struct [(0,4),(4,4),(8,4),(12,1),(13,1)] [.slice 4 [] .full,.int .i64 0,.slice 1 [] .full,.int .i64 0,.int .i64 0,.str [],.int .i64 0,.int .i64 0,.slice 4 [] .full,.int .i64 0,.slice 1 [] .full,.int .i64 0,.int .i64 0,.bool false]),
 (105,.sc (.AM)),
 (106,.sc (.AM)),
 (107,.sc (.AM)),
 (109,.sc (.AM)),
 (111,.sc (.AM)),
 (112,.sc (.AM)),
 (113,.sc (.AM)),
 (114,.sc (.AM)),
 (115,.sc (.AM)),
 (116,.sc (.AM)),
 (117,.sc (.AM)),
 (118,.sc (.AM)),
 (119,.sc (.AM)),
 (120,.sc (.AM)),
 (121,.sc (.AM)),
 (122,.sc (.AM)),
 (124,.sc (.AM)),
 (125,.sc (.AM)),
 (126,.sc (.AM)),
 (127,.sc (.AM)),
 (128,.sc (.AM)),
 (129,.sc (.AM)),
 (131,.sc (.AM)),
 (132,.sc (.AM)),
 (133,.sc (.AM)),
 (134,.sc (.AM)),
 (136,.sc (.AM)),
 (137,.struct [(0,1),(1,1),(2,1),(3,1),(4,1)] [.str [],.int .i64 0,.int .i64 0,.int .i64 0,.int .i64 0]),
 (138,.struct [(0,1),(1,1),(2,1),(3,1),(4,1)] [.str [],.int .i64 0,.int .i64 0,.int .i64 0,.int .i64 0]),
 (139,.struct [(0,1)] [.int .i64 0]),
 (140,.struct [(0,1)] [.int .i64 0]),
 (142,.sc (.AM)),
 (143,.sc (.AM)),
 (144,.sc (.AM)),
 (145,.sc (.AM)),
 (146,.sc (.AM)),
 (147,.sc (.AM)),
 (148,.sc (.AM)),
 (149,.sc (.AM)),
 (150,.sc (.AM)),
 (151,.struct [(0,1),(1,1)] [.GK,.int .i64 0]),
 (152,.struct [(0,1),(1,1)] [.GK,.int .i64 0]),
 (153,.sc (.AM)),
 (154,.sc (.AM)),
 (155,.sc (.AM)),
 (156,.sc (.AM)),
 (157,.sc (.AM)),
 (158,.sc (.AM)),
 (159,.sc (.AM)),
 (160,.sc (.AM)),
 (161,.sc (.AM)),
 (163,.sc (.AM)),
 (165,.sc (.AM)),
 (167,.sc (.AM)),
 (168,.sc (.AM)),
 (169,.sc (.AM)),
 (170,.sc (.AM)),
 (171,.sc (.AM)),
 (172,.slice 9 1 16),
 (173,.sc (.AM)),
 (175,.sc (.AM)),
 (176,.sc (.AM)),
 (177,.sc (.AM)),
 (178,.sc (.AM)),
 (179,.sc (.AM)),
 (180,.sc (.AM)),
 (181,.sc (.AM)),
 (182,.sc (.AM)),
 (183,.sc (.AM)),
 (184,.sc (.AM)),
 (185,.sc (.AM)),
 (186,.sc (.AM)),
 (188,.sc (.AM)),
 (189,.sc (.AM)),
 (191,.sc (.int .u64 0)),
 (192,.struct [(0,1),(1,1)] [.int .u8 0,.int .u8 0]),
 (193,.struct [(0,1),(1,1)] [.int .u8 0,.int .u8 0]),
 (195,.sc (.AM)),
 (199,.sc (.AM)),
 (200,.sc (.AM)),
 (201,.sc (.GK)),
 (202,.sc (.AM)),
 (203,.struct [(0,1),(1,1),(2,1)] [.int .i64 0,.int .i64 0,.int .i64 0]),
 (204,.struct [(0,1),(1,1),(2,1)] [.int .i64 0,.int .i64 0,.int .i64 0]),
 (205,.sc (.AM)),
 (206,.sc (.AM)),
 (207,.sc (.GK)),
 (209,.sc (.AM)),
 (210,.slice 260 2 16),
 (211,.struct [(0,1),(1,1),(2,1),(3,1),(4,1)] [.str [],.int .i64 0,.bool false,.slice 1 [] .full,.slice 2 [] .full]),
 (212,.struct [(0,1),(1,1),(2,1),(3,1),(4,1)] [.str [],.int .i64 0,.bool false,.slice 1 [] .full,.slice 2 [] .full]),
 (214,.sc (.AM)),
 (215,.sc (.AM)),
 (217,.sc (.AM)),
 (218,.sc (.AM)),
 (219,.sc (.AM)),
 (221,.sc (.AM)),
 (222,.sc (.AM)),
 (223,.sc (.AM)),
 (224,.sc (.AM)),
 (225,.sc (.AM)),
 (226,.sc (.AM)),
 (227,.sc (.AM)),
 (228,.sc (.AM)),
 (229,.sc (.AM)),
 (230,.sc (.AM)),
 (231,.struct [(0,1),(1,1)] [.int .i64 0,.int .i64 0]),
 (232,.struct [(0,1),(1,1)] [.int .i64 0,.int .i64 0]),
 (234,.sc (.AM)),
 (235,.sc (.AM)),
 (236,.sc (.AM)),
 (237,.sc (.AM)),
 (239,.sc (.AM)),
 (240,.sc (.AM)),
 (241,.sc (.AM)),
 (242,.sc (.AM)),
 (243,.sc (.AM)),
 (244,.sc (.AM)),
 (245,.sc (.AM)),
 (246,.sc (.AM)),
 (247,.sc (.AM)),
 (248,.sc (.AM)),
 (249,.sc (.AM)),
 (250,.sc (.AM)),
 (251,.sc (.AM)),
 (252,.sc (.AM)),
 (253,.sc (.AM)),
 (254,.sc (.AM)),
 (255,.sc (.int .u32 0)),
 (257,.sc (.AM)),
 (258,.sc (.AM)),
 (259,.sc (.AM)),
 (260,.arr [(0,1),(1,1)] [.int .i64 0,.int .i64 0]),
 (262,.sc (.AM)),
 (263,.sc (.AM)),
 (265,.sc (.AM)),
 (266,.sc (.AM)),
 (267,.slice 269 2 16),
 (268,.struct [(0,1),(1,1)] [.int .i64 0,.int .i64 0]),
 (269,.struct [(0,1),(1,1)] [.int .i64 0,.int .i64 0]),
 (270,.sc (.AM)),
 (271,.sc (.GK)),
 (272,.slice 278 3 6),
 (273,.slice 281 3 12),
 (274,.struct [(0,1),(1,1),(2,1)] [.slice 3 [] .full,.slice 3 [] .full,.int .i64 0]),
 (275,.struct [(0,1),(1,1),(2,1)] [.slice 3 [] .full,.slice 3 [] .full,.int .i64 0]),
 (276,.sc (.int .u16 0)),
 (277,.struct [(0,1),(1,1),(2,1)] [.int .u16 0,.int .u16 0,.int .u16 0]),
 (278,.struct [(0,1),(1,1),(2,1)] [.int .u16 0,.int .u16 0,.int .u16 0]),
 (279,.sc (.AM)),
 (280,.struct [(0,1),(1,1),(2,1)] [.int .u32 0,.int .u32 0,.int .u32 0]),
 (281,.struct [(0,1),(1,1),(2,1)] [.int .u32 0,.int .u32 0,.int .u32 0]),
 (282,.sc (.AM)),
 (283,.sc (.GK)),
 (284,.sc (.GK)),
 (285,.sc (.AM)),
 (294,.sc (.GK))]
theorem Ac:TK Tryz.prog xh:=⟨uO M2 M2,M2⟩
theorem pB {st : St} (hf : Tryz.prog.funcs[f]? = some fn) (h : U5 xh (Bp Tryz.prog) fn [] args st λr st2 => ∃ r2 U, (r2 = r \/ r2 = r.wk) /\ St.le U st2 /\ R r2 U) (hb : fn.body.isSome = true := by rfl) (hn : (fn.name == "runtime.NumGoroutine") = false := by decide) : Bp Tryz.prog f args st R := SG Ac [] hf hb hn h
end Go.Proofs.Z
namespace Go.Proofs.Z
open Go Go.Aw Go.ChangeShapes Go.WideShapes Go.ChangeAt Go.RowKit
def CR (W:World):Mem:={cell:=λb o=>W.cell? ⟨b,o,none⟩,shape:=λb=>match W.heap[b]? with|some (.cells c _ (0,0))=>some c.size|_=>none}
def ZU:St:=⟨λ_=>none,λ_=>none⟩
theorem nF (W:World) (g:gP (CR W).cell (CR W).shape):Db (CR W) ZU W:=
 ⟨λb o v h=>h,λb n h=>(by
   simp only [CR] at h
   grind),λb cs h=>(by cases h),λb h=>absurd rfl h,λb n h=>(by cases h),g⟩
structure Kept (W W':World):Prop where
 os:W'.os=W.os
 output:W'.output=W.output
 size:W.heap.size<=W'.heap.size
 NB:∀b,b<W.heap.size->W'.heap[b]? =W.heap[b]?
theorem Sl {P:Program} {args:Array Value} (g:gP (CR W).cell (CR W).shape) (h:Bp P f vs ZU λr _=>r=.ret (.bool true)) (ha:Ar (CR W) vs args.toList):
 Calls P f args W λe W'=>e=.returned (.bool true)/\Kept W W':=by
 have:=h.a (CR W) W args.toList (nF W g) ha
 rw [Array.toArray_toList] at this
 refine this.mono λe W' ⟨I',st',r,k1,k2,U,k4⟩=>?_
 subst k4
 refine ⟨?_,k1.os,k1.output,k1.size,λb hb=>k1.NB b hb rfl rfl⟩
 cases e with
 |returned v=>
  have U:A0 I' (.bool true) v:=U
  simp only [A0] at U
  rw [U]
 |panicked c=>exact U.elim
 |outgrown=>exact U.elim
section
variable {H:Type} {enc:TypeId×Value->H} {P:Program} {W W':World} {B:Nat}
theorem Kept.sameAt (h:Kept W W') {p:MemPlace} (U:p.block<W.heap.size):W.sameAt W' p:=by
 cases p with
 |cell b off=>
  have:=h.NB b U
  show W'.cell? _=W.cell? _
  simp only [World.cell?,this]
 |map b=>exact h.NB b U
theorem Kept.frozen (h:Kept W W') {b off:Nat} (hb:b<W.heap.size):W'.frozen? ⟨b,off,none⟩=W.frozen? ⟨b,off,none⟩:=by
 simp only [World.frozen?,h.NB b hb]
theorem Kept.keptBut (h:Kept W W') (U:MemPlace->Prop):W.keptBut W' U:=by
 refine ⟨h.os,h.output,λi hi=>?_⟩
 rw [h.NB i hi]
 grind
theorem MO (h:Kept W W') {base:Nat} {spare:Nat->Bool} {held:Bool}:∀{ts:List TypeId} {vs:List Value} {ds:List (DataW H)} {U:List MemPlace},
 DataW.TrodAll enc P W base spare held ts vs ds U->(∀p ∈ U,p.block<W.heap.size)->DataW.TrodAll enc P W' base spare held ts vs ds U
 |[],[],[],_,h0,_=>h0
 |_::_,_::_,_::_,_,⟨p,q,⟨n,h1⟩,h2,e⟩,hp=>⟨p,q,⟨n,DataW.trod_carry n _ _ _ h1 λx hx=>h.sameAt (hp x lm)⟩,
   MO h h2 (λx hx=>hp x lm),e⟩
theorem Sm (hl:laidOutB P=true) (hm:mapsRowed P=true) (hz:((List.range P.types.size).all λt=>match P.underlying t with|some (.slice e)=>decide (0<P.cellsOf e)|_=>true)=true)
 {f:Func} {s:ChangeSpec} {apart fresh handsOn again:Bool} {args:Array Value} {ds gs:List (DataW H)} {before:List MemPlace} {tb:TypeId} (hr:f.resultTypes=#[tb]) (htb:P.underlying tb=some .bool)
 (hts:∀t ∈ f.params.toList,t<P.types.size) (hv:s.vars=[]) (hW:DataW.Whole enc P f.params.toList s.vars apart W args.toList ds gs before) (hfn:s.fn H ds={results:=[.lit (.bool true)],args:=ds}) (hk:Kept W W'):
 s.post enc P f apart fresh handsOn again W args (.bool true) W':=by
 have hlt:∀p ∈ before,p.block<W.heap.size:=λp hp=>hW.lt p hp
 have hW':=hW
 obtain ⟨p,q,hA,hV,rfl,hfz,hnd⟩:=hW
 rw [hv] at hV
 obtain ⟨rfl,rfl⟩:=ChangeShapes.trodVars_none hV
 simp only [List.append_nil] at *
 have hres:∀(b:Nat) (sp:Nat->Bool) (hd:Bool),DataW.TrodAll enc P W' b sp hd f.resultTypes.toList ((Value.bool true).resultList f.resultTypes.size) [.lit (.bool true)] []:=by
  intro b sp hd
  rw [hr]
  refine ⟨[],[],⟨1,?_⟩,rfl,rfl⟩
  rw [DataW.trod_step]
  simp [DataW.trodStep,htb]
  rfl
 have U:∀sp:Nat->Bool,(∀x ∈ p,sp x.block=true)->DataW.TrodAll enc P W' 0 sp true f.params.toList args.toList ds p:=λsp hsp=>
  MO hk (DataW.TrodAll.respare (kids_rows hl hm) (λt e ht hu=>slices_full_of P hz t e ht hu) hts hA hsp) hlt
 have hvars:∀sp:Nat->Bool,DataW.TrodVars enc P W' sp s.vars [] []:=λsp=>by rw [hv];rfl
 have hold:∀x ∈ p,(λb=>decide (b<W.heap.size)) x.block=true:=λx hx=>by simp_all
 refine ⟨ds,[],p,[],p,[],hW',?_,?_,?_,World.keptBut_mono (λx hx=>⟨hx,.inr (.inl hx)⟩) (hk.keptBut (· ∈ p)),λ_=>⟨?_,_,[],p,⟨[]++p,[],trodAll_append (U _ λ_ _=>rfl) (hres _ _ _),hvars _,Pi,?_,λha=>hnd ha⟩,λx hx _=>hx⟩⟩
 .grind
 .simp_all
 .simp_all
 .exact RowKit.ok_one hr rfl (RowKit.okWide_bool_mk htb _)
 .intro b off hb
  rw [hk.frozen (b:=b) (hlt _ hb)]
  exact hfz b off hb
def dec (P:Program):Nat->TypeId->DataW H->Option (List V)
 |0,_,_=>none
 |n+1,t,d=>match P.underlying t,d with
  |some .bool,.lit (.bool b)=>some [.bool b]
  |some (.int k),.lit (.int _ m)=>some [.int k m]
  |some .string,.lit (.string s)=>some [.str s]
  |some (.slice e),.nil=>some [.slice (P.cellsOf e) [] .any]
  |some (.slice e),.slice elems _=>(elems.mapM (dec P n e)).map λes=>[.slice (P.cellsOf e) es .any]
  |some (.struct fs),.agg parts=>if parts.length=fs.size then ((fs.toList.zip parts).mapM λp=>dec P n p.1.type p.2).map List.flatten else none
  |_,_=>none
def QE (P:Program) (S:List TypeId):Bool:=S.all λt=>decide (t<P.types.size)&&match P.underlying t with
 |some .bool|some (.int _)|some .string=>P.cellsOf t==1
 |some (.slice e)=>S.contains e&&decide (0<P.cellsOf e)&&P.cellsOf t==1
 |some (.struct fs)=>fs.toList.all λf=>S.contains f.type
 |_=>false
theorem one_le (d:DataW H):1<=Rows.uptoBulk d:=by
 cases d with
 |lit l=>cases l<;>simp [Rows.uptoBulk]
 |_=>simp [Rows.uptoBulk]
theorem VZ {d:DataW H}:∀{l:List (DataW H)},d ∈ l->Rows.uptoBulk d<=Rows.uptoBulkAll l
 |x::r,h=>by
  simp only [Rows.uptoBulkAll]
  rcases List.mem_cons.1 h with rfl|h
  .omega
  .have:=VZ h;omega
theorem length_le:∀(l:List (DataW H)),l.length<=Rows.uptoBulkAll l
 |[]=>by simp_all
 |x::r=>by have:=one_le x;have:=length_le r;simp only [Rows.uptoBulkAll,List.length_cons];omega
theorem eP {I:Mem} {b:Nat}:∀{vs:List V} {cs:List Value} {o:Nat},Ar I vs cs->(∀j c,cs[j]? =some c->I.cell b (o+j)=some c)->Hn I b o vs
 |[],_,_,_,_=>by simp only [Hn]
 |v::r,cs,o,h,k=>by
  simp only [Ar] at h
  obtain ⟨c,s,rfl,hv,hr⟩:=h
  simp only [Hn]
  refine ⟨⟨c,by simpa using k 0 c rfl,hv⟩,eP hr λj U hj=>?_⟩
  have:=k (j+1) U lm
  grind
theorem kV {w:World} {a:Addr} (h:w.cells? 0 a n=some cs) (hs:a.spot=none):cs.length=n/\∀j c,cs[j]? =some c->w.cell? ⟨a.block,a.off+j,none⟩=some c:=by
 unfold World.cells? at h
 rw [if_pos (Nat.zero_le _)] at h
 have hl:=mapM_some_length h
 simp only [List.length_range] at hl
 refine ⟨hl,λj c U=>?_⟩
 have hjl:j<cs.length:=(List.getElem?_eq_some_iff.1 U).1
 have:=mapM_some_get h j j (List.getElem?_range H1)
 rw [U] at this
 obtain ⟨b,o,sp⟩:=a
 simp only at hs
 subst hs
 rw [Di] at this
 omega
theorem Rz {w:World} {a:Addr} (h:w.cells? 0 a n=some cs) (hn:0<n):a.spot=none:=by
 unfold World.cells? at h
 rw [if_pos (Nat.zero_le _)] at h
 have hl:=mapM_some_length h
 simp only [List.length_range] at hl
 have:=mapM_some_get h 0 0 (List.getElem?_range H1)
 have U:cs[0]? =some cs[0]:=List.getElem?_eq_getElem H1
 rw [U] at this
 obtain ⟨b,o,sp⟩:=a
 cases sp with
 |none=>rfl
 |some s=>
  simp only [Addr.add,if_true,World.cell?] at this
  grind
theorem eQ {I:Mem} {b sz:Nat}:∀{es:List (List V)} {o:Nat},(∀(i:Nat) (e:List V),es[i]? =some e->e.length=sz/\Hn I b (o+i*sz) e)->CQ I sz b o es
 |[],_,_=>by simp only [CQ]
 |e::r,o,h=>by
  simp only [CQ]
  refine ⟨by simpa using h 0 e rfl,eQ λi e' U=>?_⟩
  have:=h (i+1) e' lm
  grind
theorem HW {S:List TypeId} (K:Kids P (·<P.types.size)) (hS:QE P S=true) (hB:B<Fk):∀(n:Nat) (t:TypeId) (cs:List Value) (x:DataW H×List MemPlace),t ∈ S->Rows.uptoBulk x.1<=B->
 DataW.trod enc P W 0 (λ_=>true) true n t cs=some x->∃vs,dec P n t x.1=some vs/\vs.length=P.cellsOf t/\Ar (CR W) vs cs:=by
 intro n
 induction n with
 |zero=>intro t cs x _ _ h;simp [DataW.trod] at h
 |succ n ih=>
  intro t cs x ht hb h
  rw [DataW.trod_step] at h
  have hc:=List.all_eq_true.1 hS t ht
  simp only [Bool.and_eq_true,decide_eq_true_eq] at hc
  obtain ⟨hts,hc⟩:=hc
  unfold DataW.trodStep at h
  unfold dec
  cases hu:P.underlying t with
  |none=>simp_all
  |some u=>
   rw [hu] at hc h
   cases u<;>simp only at hc h |-<;>try (cases hc;done)
   case bool=>
    split at h<;>simp_all
    subst h
    exact ⟨_,rfl,rfl,by simp only [Ar,A0];simp_all⟩
   case int k=>
    split at h<;>simp_all
    obtain ⟨⟨rfl,hw⟩,rfl⟩:=h
    exact ⟨_,rfl,rfl,by simp only [Ar,A0];simp_all⟩
   case string=>
    split at h<;>simp_all
    obtain ⟨h1,rfl⟩:=h
    refine ⟨_,rfl,rfl,?_⟩
    simp only [Ar,A0]
    refine ⟨_,_,rfl,⟨Pi,?_⟩,rfl⟩
    simp only [Rows.uptoBulk] at hb
    omega
   case slice e=>
    simp only [Bool.and_eq_true,decide_eq_true_eq,beq_iff_eq] at hc
    obtain ⟨⟨he,U⟩,hone⟩:=hc
    have he:e ∈ S:=by simpa using he
    split at h<;>try (simp_all;done)
    .simp only [Option.some.injEq] at h
     subst h
     refine ⟨_,rfl,hone.symm,?_⟩
     simp only [Ar]
     exact ⟨_,_,rfl,KL U _ (.inr rfl),rfl⟩
    .rename_i _ _ e' a len cap heq
     cases heq
     split at h
     .rename_i hcond
      simp only [Option.map_eq_some_iff,Option.bind_eq_some_iff] at h
      obtain ⟨elems,h1,rest,h2,rfl⟩:=h
      have hlen:elems.length=len:=by simpa using mapM_some_length h1
      simp only [Rows.uptoBulk] at hb
      have hl:=length_le (elems.map (·.1))
      simp only [List.length_map] at hl
      have one:∀(i:Nat) (y:DataW H×List MemPlace),elems[i]? =some y->∃cs,W.cells? 0 (a.add (i*P.cellsOf e)) (P.cellsOf e)=some cs/\∃vs,dec P n e y.1=some vs/\vs.length=P.cellsOf e/\Ar (CR W) vs cs:=by
       intro i y hy
       have hi:i<len:=by rw [<-hlen];exact (List.getElem?_eq_some_iff.1 hy).1
       have:=mapM_some_get h1 i i (List.getElem?_range hi)
       rw [hy] at this
       obtain ⟨cs',hcs,hy'⟩:=Option.bind_eq_some_iff.1 this
       have hmem:y.1 ∈ elems.map (·.1):=List.mem_map_of_mem (List.mem_of_getElem? hy)
       have:=VZ hmem
       exact ⟨cs',hcs,ih e cs' y he H1 hy'⟩
      have hes:∃es:List (List V),(elems.map (·.1)).mapM (dec P n e)=some es/\es.length=len/\∀(i:Nat) (vs:List V),es[i]? =some vs->∃cs,W.cells? 0 (a.add (i*P.cellsOf e)) (P.cellsOf e)=some cs/\vs.length=P.cellsOf e/\Ar (CR W) vs cs:=by
       have gen:∀(l:List (DataW H×List MemPlace)) (k:Nat),(∀(i:Nat) (y:DataW H×List MemPlace),l[i]? =some y->∃cs,W.cells? 0 (a.add ((k+i)*P.cellsOf e)) (P.cellsOf e)=some cs/\∃vs,dec P n e y.1=some vs/\vs.length=P.cellsOf e/\Ar (CR W) vs cs)->
        ∃es:List (List V),(l.map (·.1)).mapM (dec P n e)=some es/\es.length=l.length/\∀(i:Nat) (vs:List V),es[i]? =some vs->∃cs,W.cells? 0 (a.add ((k+i)*P.cellsOf e)) (P.cellsOf e)=some cs/\vs.length=P.cellsOf e/\Ar (CR W) vs cs:=by
        intro l
        induction l with
        |nil=>simp_all
        |cons y r ihl=>
         intro k hl
         obtain ⟨cs,g1,vs,g2,g3,g4⟩:=hl 0 y rfl
         obtain ⟨es,k1,k2,k3⟩:=ihl (k+1) (λi y hy=>by
          have:=hl (i+1) y GT
          grind)
         refine ⟨vs::es,GT,by simp [k2],λi us hi=>?_⟩
         grind
       obtain ⟨es,k1,k2,k3⟩:=gen elems 0 (λi y hy=>by grind)
       exact ⟨es,k1,k2.trans hlen,λi vs hi=>by simp_all⟩
      obtain ⟨es,k1,k2,k3⟩:=hes
      refine ⟨[.slice (P.cellsOf e) es .any],by
       simp_all,hone.symm,?_⟩
      simp only [Ar,A0]
      refine ⟨_,[],rfl,⟨some a,cap,by rw [k2],H1,H1,U,trivial,?_⟩,rfl⟩
      have hspot:cap=0\/a.spot=none:=by
       by_cases h0:cap=0
       .omega
       .right
        by_cases hl0:len=0
        .simp only [if_true] at h2
         have hrl:rest.length=cap - len:=by simpa using mapM_some_length h2
         have:=mapM_some_get h2 0 0 (List.getElem?_range H1)
         rw [List.getElem?_eq_getElem H1] at this
         obtain ⟨cs',hcs,_⟩:=Option.bind_eq_some_iff.1 this
         have hsp:=Rz hcs U
         rw [hl0] at hsp
         simpa [Addr.add] using hsp
        .obtain ⟨cs,hcs,_⟩:=one 0 elems[0] (List.getElem?_eq_getElem H1)
         have hsp:=Rz hcs U
         simpa [Addr.add] using hsp
      refine ⟨hspot,eQ λi vs hi=>?_⟩
      obtain ⟨cs,g1,g2,g3⟩:=k3 i vs hi
      refine ⟨g2,eP g3 λj c hj=>?_⟩
      have hi':i<es.length:=(List.getElem?_eq_some_iff.1 hi).1
      obtain rfl|hne:=Nat.eq_zero_or_pos cap
      .omega
      .obtain ⟨b,o,sp⟩:=a
       have hsp:sp=none:=hspot.resolve_left H1
       subst hsp
       rw [Di] at g1
       exact (kV g1 rfl).2 j c hj
     grind
   case struct fs=>
    split at h
    .rename_i hlen
     simp only [Option.map_eq_some_iff] at h
     obtain ⟨xs,h1,rfl⟩:=h
     simp only [Rows.uptoBulk] at hb
     have hxl:xs.length=fs.size:=by have:=mapM_some_length h1;simpa using this
     obtain ⟨hT,hsum,hoff⟩:=K.struct hts hu
     have hct:∀f ∈ fs.toList,f.type ∈ S:=λf hf=>by grind
     have gen:∀(l:List Field) (ys:List (DataW H×List MemPlace)) (rs:List Value),l.length=ys.length->(∀f ∈ l,f.type ∈ S)->(∀y ∈ ys,Rows.uptoBulk y.1<=B)->
      rs.length=(l.map λf=>P.cellsOf f.type).sum->
      (∀(j:Nat) (f:Field) (y:DataW H×List MemPlace),l[j]? =some f->ys[j]? =some y->DataW.trod enc P W 0 (λ_=>true) true n f.type ((rs.drop ((l.take j).map λf=>P.cellsOf f.type).sum).take (P.cellsOf f.type))=some y)->
      ∃vs,(l.zip (ys.map (·.1))).mapM (λp=>dec P n p.1.type p.2)=some vs/\vs.flatten.length=(l.map λf=>P.cellsOf f.type).sum/\Ar (CR W) vs.flatten rs:=by
      intro l
      induction l with
      |nil=>
       intro ys rs h0 _ _ hr _
       refine ⟨[],Pi,rfl,?_⟩
       simp at hr
       subst hr
       rfl
      |cons f r ihl=>
       intro ys rs h0 hS' hB' hr hj
       cases ys with
       |nil=>grind
       |cons y ys=>
        simp only [List.map_cons,List.sum_cons] at hr
        obtain ⟨v,g1,g2,g3⟩:=ih f.type _ y (hS' f List.mem_cons_self) (hB' y List.mem_cons_self) (hj 0 f y rfl rfl)
        simp only [List.take_zero,List.map_nil,List.sum_nil,List.drop_zero] at g3
        obtain ⟨vs,k1,k2,k3⟩:=ihl ys (rs.drop (P.cellsOf f.type)) lm (λf' hf=>hS' f' (List.mem_cons_of_mem _ hf)) (λy' hy=>hB' y' (List.mem_cons_of_mem _ hy)) lm (λj f' y' hf hy=>by
         have:=hj (j+1) f' y' lm lm
         simp_all)
        refine ⟨v::vs,lm,lm,?_⟩
        have:=Ar.append g3 k3
        simp_all
     obtain ⟨vs,g1,g2,g3⟩:=gen fs.toList xs cs lm hct (λy hy=>by have:=VZ (List.mem_map_of_mem (f:=(·.1)) hy);omega) H1 (λj f y hf hy=>by
      have:=mapM_some_get h1 j f hf
      grind)
     simp_all
    grind
theorem TL {fs:Array Field} (U:P.underlying t=some (.struct fs)) (h:Value.okWide P W .any base t v):∃cs,v=.agg cs:=by
 unfold Value.okWide at h
 grind
theorem SO (U:∃cs,v=.agg cs) (h:Ar I vs v.cells.toList):A0 I (.agg vs) v:=by
 obtain ⟨cs,rfl⟩:=U
 simp only [A0]
 exact ⟨cs.toList,Pi,h⟩
theorem eS {u:V} (U:v.cells=#[v]) (h:Ar I [u] v.cells.toList):A0 I u v:=by
 rw [U] at h
 simp only [Ar] at h
 simp_all
theorem Ry (U:P.underlying t=some .string\/(∃e,P.underlying t=some (.slice e))\/(∃k,P.underlying t=some (.int k))\/P.underlying t=some .bool) (h:Value.okWide P W .any base t v):v.cells=#[v]:=by
 cases v with
 |agg cs=>
  unfold Value.okWide at h
  rcases U with U|⟨e,U⟩|⟨k,U⟩|U<;>rw [U] at h<;>simp [Cell.okWide,Cell.ok,U] at h
 |_=>rfl
theorem Y1 {u:V} (U:P.underlying t=some .string) (hv:Value.okWide P W .any base t v) (h:Ar I [u] v.cells.toList):A0 I u v:=eS (Ry (.inl U) hv) h
theorem LC {u:V} {k:IntKind} (U:P.underlying t=some (.int k)) (hv:Value.okWide P W .any base t v) (h:Ar I [u] v.cells.toList):A0 I u v:=eS (Ry (.inr (.inr (.inl ⟨k,U⟩))) hv) h
end
end Go.Proofs.Z
namespace Go.Proofs.Z
open Go Go.Aw Go.ChangeShapes Go.WideShapes Go.ChangeAt Go.RowKit Go.Lib
theorem own:ownKnob Tryz.prog.godebug=none:=M2
noncomputable def listed : List (String × DataW Unit) := [("unicode/utf8.acceptRanges", Lib.acceptData), ("unicode.White_Space", Lib.whiteData), ("strings.asciiSpace", Lib.tabData .u8 Lib.asciiSpaceTab), ("unicode/utf8.first", Lib.firstData)]
def zo:Go.Shelf.Ren:=⟨λn=>n,λ|5=>5|119=>190|138=>193|139=>194|n=>n,λ|3=>0|4=>1|n=>n⟩
theorem wY:U8Types Tryz.prog zo:=⟨M2,M2,M2,M2⟩
theorem vl:U8Extra Tryz.prog zo:=⟨M2,M2,M2,M2,M2,M2,M2⟩
def uK:Array Value:=(List.replicate 256 (Value.int .u8 0)).toArray
theorem de:uK.size=256:=M2
theorem z3:((begin Tryz.prog (λ_ _=>0) default).world.heap[3]?).bind Obj.row? =some (uK,190):=M2
theorem z2:((begin Tryz.prog (λ_ _=>0) default).world.heap[2]?).bind Obj.row? =some (#[Value.int .i64 0],3):=M2
theorem Vw (hL:laidMet Tryz.prog listed W) (U:W.ShapedOpen Tryz.prog):gP (CR W).cell (CR W).shape:=by
 have h8:=utf8Tabs_of_readsT wY vl (Lib.laidMet.reads hL (by unfold listed;repeat (first|exact .head _|refine .tail _ ?_))) (Lib.laidMet.reads hL (by unfold listed;repeat (first|exact .head _|refine .tail _ ?_)))
 obtain ⟨g, t, cs, fuel, p, hg, hty, hvar, hd⟩ := Lib.laidMet.reads hL (n := "strings.asciiSpace") (by unfold listed; repeat (first | exact .head _ | refine .tail _ ?_))
 obtain rfl := Option.some.inj ((show Tryz.prog.globalNamed "strings.asciiSpace" = some 3 by kernel_rfl).symm.trans hg)
 obtain rfl:=Option.some.inj ((show (Tryz.prog.globals[3]?).map (·.type)=some 190 by kernel_rfl).symm.trans hty)
 have hcs:=cells_of_tab (n:=256) (e:=5) M2 M2 M2 M2 hd
 obtain ⟨cs3,hh3,hs3,_⟩:=U.1 3 _ _ (of_decide_eq_true M2) z3
 refine ⟨h8.1,h8.2,?_,?_,?_⟩
 .exact cell_of_shapedOpen_int U (of_decide_eq_true M2) z2 M2 M2 M2 M2
 .intro i hi
  show W.cell? ⟨3,i,none⟩=_
  rw [World.var?_cell hg hvar i,<-Array.getElem?_toList,hcs]
  have hl:Lib.asciiSpaceTab.length=256:=NE
  simp [List.getD,hl,hi]
 .have e:(CR W).shape 3=some cs3.size:=by simp [CR,hh3]
  rw [e,hs3,de]
theorem VA {l:List (String×DataW Unit)} (e:l=listed) (h:laidMetH Tryz.prog l W):laidMet Tryz.prog listed W:=by
 subst e
 unfold laidMetH at h
 rw [show listed.filter (λx=>x.2.handleName?.isSome)=[] from by kernel_rfl] at h
 exact h
theorem VB {l:List (String×DataW Unit)} (e:l=listed) (h:laidMet Tryz.prog listed W):laidMetH Tryz.prog l W:=by
 subst e
 unfold laidMetH
 rw [show listed.filter (λx=>x.2.handleName?.isSome)=[] from by kernel_rfl]
 exact h
noncomputable def EE (os:Os):World:=
 let N:=(World.settled Tryz.prog os).heap.size
 let w0:=World.holding Tryz.prog os ⟨#[.cells (Lib.whiteT.map λ(z:Nat)=>Value.int .u16 (z:Int)).toArray 278,.cells #[.slice (some ⟨N,0,none⟩) 7 7,.slice none 0 0,.int .i64 2] 275],#[],[]⟩
 let put (h:Array Obj) (g:Nat) (cs:Array Value):Array Obj:=h.modify g fun
  | .cells _ t frozen=>.cells cs t frozen
  |o=>o
 let U:=put w0.heap 0 (Lib.firstTab.map λz=>Value.int .u8 z).toArray
 let h2:=put U 1 ((List.range 16).flatMap λi=>[Value.int .u8 (Lib.accLo i),Value.int .u8 (Lib.accHi i)]).toArray
 let h3:=put h2 3 (Lib.asciiSpaceTab.map λz=>Value.int .u8 z).toArray
 let h4:=put h3 4 #[.pointer (some ⟨N+1,0,none⟩)]
 {w0 with heap:=h4}
noncomputable abbrev uD:Nat:=(World.settled Tryz.prog default).heap.size
theorem Vz (os:Os) (args:Array Value):laidMet Tryz.prog listed ((EE os).forCall (λ_ _=>0) ⟨#[],args,[]⟩).memory:=
 (LaidIn.of_run (l:=listed) [1,4,uD,uD+1,3,0] 10 M2 M2 M2 M2).met
end Go.Proofs.Z
namespace Go.Proofs.Z
open Go Go.Aw
section
variable {H:Type} {P:Program}
theorem HJ {k:IntKind} {d:DataW H} (U:P.underlying t=some (.int k)) (h:dec P n t d=some vs):∃m,vs=[.int k m]:=by
 cases n with
 |zero=>cases h
 |succ n=>
  unfold dec at h
  rw [U] at h
  split at h<;>simp_all
  exact ⟨_,h.symm⟩
theorem dC {d:DataW H} (U:P.underlying t=some .string) (h:dec P n t d=some vs):∃s,vs=[.str s]/\s.length+1=Rows.uptoBulk d:=by
 cases n with
 |zero=>cases h
 |succ n=>
  unfold dec at h
  rw [U] at h
  split at h<;>simp_all
  exact ⟨_,h.symm,by simp [Rows.uptoBulk]⟩
theorem TX {d:DataW H} (hu:P.underlying t=some (.slice e)) (h:dec P n t d=some vs):
 ∃(m:Nat) (es:List (List V)) (ds:List (DataW H)),n=m+1/\vs=[.slice (P.cellsOf e) es .any]/\ds.mapM (dec P m e)=some es/\Rows.uptoBulkAll ds+1<=Rows.uptoBulk d:=by
 cases n with
 |zero=>cases h
 |succ n=>
  unfold dec at h
  rw [hu] at h
  split at h<;>try (simp_all;done)
  .rename_i heq
   cases heq
   cases h
   exact ⟨n,[],[],rfl,rfl,rfl,by simp [Rows.uptoBulk,Rows.uptoBulkAll]⟩
  .rename_i heq
   cases heq
   obtain ⟨es,U,h2⟩:=Option.map_eq_some_iff.1 h
   exact ⟨n,es,_,rfl,h2.symm,U,by simp only [Rows.uptoBulk];omega⟩
theorem RF {fs:Array Field} {d:DataW H} (hu:P.underlying t=some (.struct fs)) (h:dec P n t d=some vs):
 ∃(m:Nat) (ds:List (DataW H)) (us:List (List V)),n=m+1/\ds.length=fs.size/\((fs.toList.zip ds).mapM λp=>dec P m p.1.type p.2)=some us/\vs=us.flatten/\Rows.uptoBulkAll ds+1=Rows.uptoBulk d:=by
 cases n with
 |zero=>cases h
 |succ n=>
  unfold dec at h
  rw [hu] at h
  split at h<;>try (simp_all;done)
  rename_i heq
  cases heq
  split at h
  .obtain ⟨us,U,h2⟩:=Option.map_eq_some_iff.1 h
   exact ⟨n,_,us,rfl,‹_›,U,h2.symm,by simp only [Rows.uptoBulk]⟩
  .cases h
theorem CE {β:Type} {f:α->Option β} {x:α} {l:List α} {r:List β} (h:(x::l).mapM f=some r):∃y U,f x=some y/\l.mapM f=some U/\r=y::U:=by
 simp only [List.mapM_cons] at h
 cases hx:f x with
 |none=>rw [hx] at h;cases h
 |some y=>
  cases hl:l.mapM f with
  |none=>rw [hx,hl] at h;cases h
  |some U=>
   rw [hx,hl] at h
   cases h
   exact ⟨y,U,rfl,rfl,rfl⟩
theorem RE {α:Type} {f:α->List V} {w:α->Nat} {m:Nat} {e:TypeId} (one:∀(d:DataW H) (vs:List V),dec P m e d=some vs->∃a,vs=f a/\w a<=Rows.uptoBulk d):∀{ds:List (DataW H)} {es:List (List V)},
 ds.mapM (dec P m e)=some es->∃U:List α,es=U.map f/\(U.map w).sum<=Rows.uptoBulkAll ds
 |[],es,h=>by cases h;exact ⟨[],rfl,Pi⟩
 |d::r,es,h=>by
  obtain ⟨y,ys,h1,h2,rfl⟩:=CE h
  obtain ⟨a,rfl,k1⟩:=one d y h1
  obtain ⟨U,rfl,k2⟩:=RE one h2
  exact ⟨a::U,rfl,by simp only [List.map_cons,List.sum_cons,Rows.uptoBulkAll];omega⟩
end
end Go.Proofs.Z
namespace Go.Aw
open Go
inductive Nd where
 |mk (kind form:Int) (text:List UInt8) (line Da:Int) (kids:List Nd)
namespace Nd
def kind:Nd->Int| .mk k _ _ _ _ _=>k
def form:Nd->Int| .mk _ f _ _ _ _=>f
def text:Nd->List UInt8| .mk _ _ t _ _ _=>t
def line:Nd->Int| .mk _ _ _ l _ _=>l
def Da:Nd->Int| .mk _ _ _ _ c _=>c
def kids:Nd->List Nd| .mk _ _ _ _ _ ks=>ks
end Nd
mutual
def encR:Nd->List V
 | .mk k f t l c ks=>[.int .i64 k,.int .i64 f,.str t,.int .i64 l,.int .i64 c,.slice 6 (Co ks) .any]
def Co:List Nd->List (List V)
 |[]=>[]
 |n::r=>encR n::Co r
end
def Ap (n:Nd):List V:=[.int .i64 n.kind,.int .i64 n.form,.str n.text,.int .i64 n.line,.int .i64 n.Da,.slice 6 (Co n.kids) .any]
def enc (n:Nd):V:=.agg (Ap n)
theorem qN (n:Nd):encR n=Ap n:=by cases n;rfl
theorem BV (ks:List Nd):Co ks=ks.map Ap:=by
 induction ks with
 |nil=>rfl
 |cons n r ih=>simp only [Co,qN,ih,List.map_cons]
theorem Dw (ks:List Nd):(Co ks).length=ks.length:=by rw [BV,List.length_map]
theorem XT (ks:List Nd) (i:Nat):(Co ks)[i]? =ks[i]?.map Ap:=by rw [BV,List.getElem?_map]
theorem T1 (ks:List Nd) (i:Nat):(Co ks).drop i=Co (ks.drop i):=by rw [BV,BV,List.map_drop]
theorem gH (ks:List Nd) (i:Nat):(Co ks).take i=Co (ks.take i):=by rw [BV,BV,List.map_take]
theorem XS (a b:List Nd):Co (a++b)=Co a++Co b:=by rw [BV,BV,BV,List.map_append]
mutual
def Nd.size:Nd->Nat
 | .mk _ _ _ _ _ ks=>1+D0 ks
def D0:List Nd->Nat
 |[]=>0
 |n::r=>n.size+D0 r
end
theorem Zt:∀{l:List Nd} {x:Nd},x ∈ l->x.size<=D0 l
 |y::r,x,h=>by
  rw [D0]
  rcases List.mem_cons.1 h with rfl|h
  .omega
  .have:=Zt h;omega
theorem Dl {n x:Nd} (h:x ∈ n.kids):x.size<n.size:=by
 cases n with
 |mk a b c d e ks=>
  have:=Zt (show x ∈ ks from h)
  rw [Nd.size];omega
theorem Wn {ks:List Nd} (h0:0<=i) (h1:i<ks.length) (k:∀x,ks[i.toNat]? =some x->x ∈ ks->K (Ap x)):0<=i/\∃e,(Co ks)[i.toNat]? =some e/\K e:=by
 have U:i.toNat<ks.length:=H1
 refine ⟨h0,Ap ks[i.toNat],?_,k _ (List.getElem?_eq_getElem U) (List.getElem_mem U)⟩
 rw [XT,List.getElem?_eq_getElem U];rfl
theorem Wl {ks:List Nd} {K:Nat->Prop} (k:ks.length<4611686018427387904->K ks.length):∀m,m=(Co ks).length->m<Fk->K m:=λm U h=>by
 rw [Dw] at U;subst U;exact k h
theorem Wp {ks:List Nd} {l h:Int} {K:List (List V)->Prop} (h0:0<=l) (h1:l<=h) (h2:h<=ks.length) (k:K (Co ((ks.take h.toNat).drop l.toNat))):
 (0<=l/\l<=h/\h<=(Co ks).length)/\∀U,U=(((Co ks).take h.toNat).drop l.toNat)->K U:=by
 refine ⟨⟨h0,h1,by rw [Dw];exact h2⟩,λU e=>?_⟩
 rw [gH,T1] at e;simp_all
theorem Wo {ks:List Nd} {l:Int} {K:List (List V)->Prop} (h0:0<=l) (h1:l<=ks.length) (k:K (Co (ks.drop l.toNat))):
 (0<=l/\l<=((Co ks).length:Int)/\((Co ks).length:Int)<=(Co ks).length)/\∀U,U=(((Co ks).take (((Co ks).length:Int)).toNat).drop l.toNat)->K U:=by
 refine ⟨⟨h0,by rw [Dw];exact h1,Int.le_refl _⟩,λU e=>?_⟩
 rw [Int.toNat_natCast,List.take_length,T1] at e;simp_all
theorem Mr {a:Int} (U: -9223372036854775808<=a) (h2:a<=9223372036854775807):IntKind.i64.wrap a=a:=IntWalk.i64_in _ ⟨U,h2⟩
theorem Wq {a:Int} {K:Int->Prop} (U: -9223372036854775808<=a) (h2:a<=9223372036854775807) (k:K a):∃r,r=IntKind.i64.wrap a/\K r:=⟨a,(Mr U h2).symm,k⟩
theorem Wf {a:Int} {q:Prop} (U:0<=a) (h:m=a.toNat->p) (k:¬m=a.toNat->q):BG ((m:Int)==a) p q:=
 Wk (λe=>h GT) (λe=>k (λx=>by grind))
theorem Wr {a b:Int} {K:Int->Prop} (hb:0<b) (U:0<=a) (h1:a<=4611686018427387904) (k:K (a / b)):b≠0/\∃r,r=IntKind.i64.wrap (a.tdiv b)/\K r:=by
 have e:a.tdiv b=a / b:=Int.tdiv_eq_ediv_of_nonneg U
 have h2:a / b<=a:=Int.ediv_le_self b U
 have h3:0<=a / b:=Int.ediv_nonneg U H1
 exact ⟨H1,_,(by rw [e,Mr H1 H1]),k⟩
theorem Ws {b:Int} (h:b≠0) (k:p):b≠0/\p:=⟨h,k⟩
theorem Wm {ks:List Nd} {x:Nd} (h:ks[i.toNat]? =some x) (U:0<=i) (k:K (Ap x)):0<=i/\∃e,(Co ks)[i.toNat]? =some e/\K e:=
 ⟨U,Ap x,by rw [XT,h];rfl,k⟩
theorem XQ {x:List V} (h:es[i.toNat]? =some x) (U:0<=i) (k:K x):0<=i/\∃e,es[i.toNat]? =some e/\K e:=⟨U,x,h,k⟩
theorem xE {st:St} (sched:List (Nat×Bool)) (L:List Nat) (h:F5 sched all=true) (k:Ee T C all sched L (Bm (L.map some) env.boxes) Q sched env st):
 ∃(sched:List (Nat×Bool)) (L:List Nat),F5 sched all=true/\Ee T C all sched L (Bm (L.map some) env.boxes) Q sched env st:=⟨sched,L,h,k⟩
/-- a schedule in the order of the text;F:those that have effects -/
def y8 (n:Nat) (F:List Nat):List (Nat×Bool):=(List.range n).map λi=>(i,F.all λj=> !Nat.beq i j)
def y7 (l:List Nat):List (Nat×Bool):=l.map λi=>(i / 2,Nat.beq (i % 2) 1)
theorem Ad {st:St} (n:Nat) (F L:List Nat) (k:Ee T C all (y8 n F) L (Bm (L.map some) env.boxes) Q (y8 n F) env st) (h:F5 (y8 n F) all=true:=by decide +kernel):
 ∃(sched:List (Nat×Bool)) (L:List Nat),F5 sched all=true/\Ee T C all sched L (Bm (L.map some) env.boxes) Q sched env st:=⟨_,L,h,k⟩
theorem Az {st:St} (l L:List Nat) (k:Ee T C all (y7 l) L (Bm (L.map some) env.boxes) Q (y7 l) env st) (h:F5 (y7 l) all=true:=by decide +kernel):
 ∃(sched:List (Nat×Bool)) (L:List Nat),F5 sched all=true/\Ee T C all sched L (Bm (L.map some) env.boxes) Q sched env st:=⟨_,L,h,k⟩
theorem Au {st:St} (h:F5 ((List.range all.length).map λi=>(i,true)) all=true)
 (k:Ee T C all ((List.range all.length).map λi=>(i,true)) [] (Bm (([]:List Nat).map some) env.boxes) Q ((List.range all.length).map λi=>(i,true)) env st):
 ∃(sched:List (Nat×Bool)) (L:List Nat),F5 sched all=true/\Ee T C all sched L (Bm (L.map some) env.boxes) Q sched env st:=⟨_,[],h,k⟩
theorem W9 {U b1:List (Nat×List V)} {st:St} {K:V->Prop} {q:Prop} (v:V) (h:BZ T C all o U env st v) (k:v.part K):
 ∃v,(BZ T C all o U env st v\/(p/\BZ T C all o b1 env st' v)\/(q/\BZ T C all o b1 env st v))/\v.part K:=⟨v,.inl h,k⟩
theorem W8 {b0 U:List (Nat×List V)} {st:St} {K:V->Prop} {q:Prop} (h0:p) (v:V) (h:BZ T C all o U env st' v) (k:v.part K):
 ∃v,(BZ T C all o b0 env st v\/(p/\BZ T C all o U env st' v)\/(q/\BZ T C all o U env st v))/\v.part K:=⟨v,.inr (.inl ⟨h0,h⟩),k⟩
theorem W0 {b0 U:List (Nat×List V)} {st:St} {K:V->Prop} {q:Prop} (h0:q) (v:V) (h:BZ T C all o U env st v) (k:v.part K):
 ∃v,(BZ T C all o b0 env st v\/(p/\BZ T C all o U env st' v)\/(q/\BZ T C all o U env st v))/\v.part K:=⟨v,.inr (.inr ⟨h0,h⟩),k⟩
theorem Wa {v:V} {e:Env}:v=v/\e=e/\s=s:=⟨rfl,rfl,rfl⟩
theorem Wb {b:Bool} {e:Env}:BG b (V.bool true=.bool b/\e=e/\s=s) (V.bool false=.bool b/\e=e/\s=s):=by
 cases b
 .exact Wj Wa
 .exact Wi Wa
theorem Wc {b:Bool} {e:Env}:BG b (V.bool false=.bool (!b)/\e=e/\s=s) (V.bool true=.bool (!b)/\e=e/\s=s):=by
 cases b
 .exact Wj Wa
 .exact Wi Wa
noncomputable def Env.ts (env:Env) (U:List (Nat×V)) (keep:List Nat):List (Nat×V):=
 List.rec (motive:=λ_=>List (Nat×V)) (List.rec (motive:=λ_=>List (Nat×V)) [] (λt _ ih=>(t,env.get t)::ih) keep) (λp _ ih=>p::ih) U
noncomputable def Env.at (env:Env) (U:List (Nat×V)) (keep:List Nat):Env:=match env with
 |⟨ts,bs,n,sz,gl⟩=>⟨Env.ts ⟨ts,bs,n,sz,gl⟩ U keep,[],n,sz,gl⟩
theorem Lr {st:St} (i:Nat) (keep:List Nat) (m:Nat) (J:Nat->Prop) (h0:J 0)
 (he:(env.at [(i,.int .i64 ((0:Nat):Int))] keep).C3 env)
 (hb:∀k:Nat,J k->ih (Bz (λenv' st'=>∃y,J y/\m - y<m - k/\(env.at [(i,.int .i64 (y:Int))] keep).C3 env'/\St.le st st') Q) (env.at [(i,.int .i64 (k:Int))] keep) st):
 ∃(α:Type) (E:α->Env) (S:α->St) (J:α->Prop) (U:α->Nat) (x0:α),J x0/\(E x0).C3 env/\St.le (S x0) st/\
  ∀x,J x->ih (Bz (λenv' st'=>∃y,J y/\U y<U x/\(E y).C3 env'/\St.le (S y) st') Q) (E x) (S x):=
 ⟨Nat,λk=>env.at [(i,.int .i64 (k:Int))] keep,λ_=>st,J,λk=>m - k,0,h0,he,St.le_refl _,hb⟩
theorem Kc {k:Nat}:(k:Int).tmod 2=1↔k % 2=1:=GT
theorem G7 {k:Nat}:(k:Int).tmod 2=0↔k % 2=0:=GT
theorem drop_at {l:List α} {k:Nat} {x:α} (h:l[k]? =some x):l.drop k=x::l.drop (k+1):=by
 obtain ⟨U,rfl⟩:=List.getElem?_eq_some_iff.1 h
 simp_all
noncomputable def Env.bx (env:Env) (U:List Nat):List (Nat×List V):=
 List.rec (motive:=λ_=>List (Nat×List V)) [] (λid _ ih=>match assoc env.boxes id with|some cs=>(id,cs)::ih|none=>ih) U
noncomputable def Env.jT (env:Env) (U:List (Nat×V)) (keep kb:List Nat):Env:=match env with
 |⟨ts,bs,n,sz,gl⟩=>⟨Env.ts ⟨ts,bs,n,sz,gl⟩ U keep,Env.bx ⟨ts,bs,n,sz,gl⟩ kb,n,sz,gl⟩
theorem L9 {st:St} (i:Nat) (keep U:List Nat) (m:Nat) (J:Nat->Prop) (h0:J 0)
 (he:(env.jT [(i,.int .i64 ((0:Nat):Int))] keep U).C3 env)
 (hb:∀k:Nat,J k->ih (Bz (λenv' st'=>∃y,J y/\m - y<m - k/\(env.jT [(i,.int .i64 (y:Int))] keep U).C3 env'/\St.le st st') Q) (env.jT [(i,.int .i64 (k:Int))] keep U) st):
 ∃(α:Type) (E:α->Env) (S:α->St) (J:α->Prop) (μ:α->Nat) (x0:α),J x0/\(E x0).C3 env/\St.le (S x0) st/\
  ∀x,J x->ih (Bz (λenv' st'=>∃y,J y/\μ y<μ x/\(E y).C3 env'/\St.le (S y) st') Q) (E x) (S x):=
 ⟨Nat,λk=>env.jT [(i,.int .i64 (k:Int))] keep U,λ_=>st,J,λk=>m - k,0,h0,he,St.le_refl _,hb⟩
theorem vS {st:St} (i s:Nat) (keep U:List Nat) (m:Nat) (J:Nat->Prop) (h0:J s)
 (he:(env.jT [(i,.int .i64 (s:Int))] keep U).C3 env)
 (hb:∀k:Nat,J k->ih (Bz (λenv' st'=>∃y,J y/\m - y<m - k/\(env.jT [(i,.int .i64 (y:Int))] keep U).C3 env'/\St.le st st') Q) (env.jT [(i,.int .i64 (k:Int))] keep U) st):
 ∃(α:Type) (E:α->Env) (S:α->St) (J:α->Prop) (μ:α->Nat) (x0:α),J x0/\(E x0).C3 env/\St.le (S x0) st/\
  ∀x,J x->ih (Bz (λenv' st'=>∃y,J y/\μ y<μ x/\(E y).C3 env'/\St.le (S y) st') Q) (E x) (S x):=
 ⟨Nat,λk=>env.jT [(i,.int .i64 (k:Int))] keep U,λ_=>st,J,λk=>m - k,s,h0,he,St.le_refl _,hb⟩
theorem O9 {st:St} (f:α->List (Nat×V)) (keep kb:List Nat) (S:α->St) (J:α->Prop) (U:α->Nat) (x0:α) (h0:J x0)
 (he:(env.jT (f x0) keep kb).C3 env) (hs:St.le (S x0) st)
 (hb:∀x,J x->ih (Bz (λenv' st'=>∃y,J y/\U y<U x/\(env.jT (f y) keep kb).C3 env'/\St.le (S y) st') Q) (env.jT (f x) keep kb) (S x)):
 ∃(α:Type) (E:α->Env) (S:α->St) (J:α->Prop) (U:α->Nat) (x0:α),J x0/\(E x0).C3 env/\St.le (S x0) st/\
  ∀x,J x->ih (Bz (λenv' st'=>∃y,J y/\U y<U x/\(E y).C3 env'/\St.le (S y) st') Q) (E x) (S x):=
 ⟨α,λk=>env.jT (f k) keep kb,S,J,U,x0,h0,he,hs,hb⟩
def strs (l:List (List UInt8)):List (List V):=l.map λs=>[V.str s]
theorem Qb {l new:List (List UInt8)} {own:Ay} {st:St} {K:V->St->Prop} (h:own.B5 st) (hb:l.length+new.length<=1000000000)
 (k:∀U:Ay,U.B5 st->K (.slice 1 (strs (l++new)) U) (U.st st (l++new).length)):Ai 1 16 (strs l) own (strs new) (own.st st l.length) K:=by
 have h0:∀l,(strs l).length=l.length:=λl=>by simp [strs]
 have h1:∀l,(strs l).map (·.map V.K8)=strs l:=λl=>by simp only [strs,List.map_map];rfl
 have:=HH (sz:=1) (bytes:=16) (es:=strs l) (new:=strs new) (K:=K) h GT (by rw [h0,h0];simp only [Fk];omega)
  (by simp [strs,V.sc]) (λU ho=>by
    have:=k U ho
    rw [h0,h0,h1]
    rw [List.length_append] at this
    rw [Nat.mul_one,show strs l++strs new=strs (l++new) by simp [strs]]
    omega)
 simp_all
def ints (l:List Int):List (List V):=l.map λn=>[V.int .i64 n]
theorem Wg [BEq α] [LawfulBEq α] {a b:α} {q:Prop} (h:a=b->p) (k:¬a=b->q):BG (a==b) p q:=
 Wk (λe=>h (eq_of_beq e)) (λe=>k (λx=>by simp_all))
theorem Wh {c:Prop} [Decidable c] {q:Prop} (h:c->p) (k:¬c->q):BG (decide c) p q:=
 Wk (λe=>h (of_decide_eq_true e)) (λe=>k (of_decide_eq_false e))
section
variable {R:AD->St->Prop} {st:St}
theorem fin (h:R r st) (e:r=r'):∃r2 U,(r2=r'\/r2=r'.wk)/\St.le U st/\R r2 U:=by subst e;exact ⟨r,st,.inl rfl,St.le_refl _,h⟩
theorem An {b b':Bool} (h:R (.ret (.bool b)) st) (e:b=b'):∃r2 U,(r2=(.ret (.bool b'))\/r2=(AD.ret (.bool b')).wk)/\St.le U st/\R r2 U:=by subst e;exact fin h rfl
theorem Vp (h:R r st) (e:r=r'.wk):∃r2 U,(r2=r'\/r2=r'.wk)/\St.le U st/\R r2 U:=by subst e;exact ⟨_,st,.inr rfl,St.le_refl _,h⟩
theorem AU (e:r=r'.wk) (h:R r st):∃r2 U,(r2=r'\/r2=r'.wk)/\St.le U st/\R r2 U:=Vp h e
end
theorem zy (h:P:=by with_reducible first|(show _/\_;first|exact Wa)|(show BG _ _ _;first|exact Wb|exact Wc)|fail):P:=h
theorem Jw (k:A) (h:A->P:=by intro k;with_reducible first|(show _/\_;first|  exact Wm ‹_› H1 k|exact Wn H1 H1 k|exact Wo H1 H1 k|exact Wp H1 H1 H1 k|exact Wr IR H1 H1 k|exact Ws IR k)|(show BG _ _ _;first|exact Wi k|exact Wj k)|(intro x y z;exact Wl k x y z)|(show Exists _;first|exact Wq H1 H1 k)|fail):P:=h k
theorem zz {B C:V->Prop} (k:V) (l:B k) (m:C k) (h:∀k,B k->C k->P:=by intro k l m;with_reducible first|(show Exists _;first|  exact W8 NE k l m|exact W0 NE k l m|exact W9 k l m)|fail):P:=h k l m
theorem GM {B:Prop} (k:A) (l:B) (h:A->B->P:=by intro k l;with_reducible first|(show BG _ _ _;first|exact Wf IR k l|exact Wg k l|exact Wh k l|exact Wk k l)|fail):P:=h k l
theorem Yl (h:P:=by refine ⟨rfl,?_,?_,rfl⟩<;>repeat' (first|exact trivial|exact rfl|refine And.intro ?_ ?_)):P:=h
section
variable {D:List Deferred} {P:Program} {T:List (Nat×Ty)} {C:FuncId->List V->St->(AD->St->Prop)->Prop} {I0 I:Mem} {st0 st:St} {w0 w:World} {β:Nat->Option Nat} {env:Env} {a:Act}
def tO:Nat->Nat->List Bool
 |0,_=>[]
 |n+1,m=>(m % 2==1)::tO n (m / 2)
def yK (n:Nat):List Nat->List (List Bool×Nat)
 |[]=>[]
 |x::r=>(tO n (x / 32),x % 32)::yK n r
def IJ (all:List Oper) (U:List (List Bool×Nat)):Bool:=
 ((List.range all.length).all λj=> !(BP all (List.replicate all.length false) j)||U.contains (List.replicate all.length false,j))&&
 ((List.replicate all.length false==List.replicate all.length true)||(List.range all.length).any λj=>BP all (List.replicate all.length false) j)&&
 U.all λp=>(p.1.length==all.length)&&((List.range all.length).all λj=> !(BP all (p.1.set p.2 true) j)||U.contains (p.1.set p.2 true,j))&&
  ((p.1.set p.2 true==List.replicate all.length true)||(List.range all.length).any λj=>BP all (p.1.set p.2 true) j)
def oK (T:List (Nat×Ty)) (C:FuncId->List V->St->(AD->St->Prop)->Prop) (all:List Oper) (Q:AG->Env->St->Prop) (E:List Bool->Env) (S:List Bool->St) (p:List Bool×Nat):Prop:=
 match all[p.2]? with
 |some o=>Bx all o (E p.1) (FD T C o (E p.1) (S p.1) (λv env st=>env.go o.dst v λenv=>(E (p.1.set p.2 true)).C3 env/\St.le (S (p.1.set p.2 true)) st) Q)
   ((E p.1).go o.dst (.Bl []) λenv=>(E (p.1.set p.2 true)).C3 env/\St.le (S (p.1.set p.2 true)) (S p.1))
 |none=>True
theorem fS (hT:HG P T) (hC:∀f args st R,C f args st R->DE P f args st R/\Plain P f) {E:List Bool->Env} {S:List Bool->St} {PL:List (List Bool×Nat)}
 (hc:IJ all PL=true) (step:∀p ∈ PL,oK T C all Q E S p) (fin:Q .normal (E (List.replicate all.length true)) (S (List.replicate all.length true))):
 ∀(fuel:Nat) (bs:List Bool) (listed:Array Bool) (I:Mem) (β:Nat->Option Nat) (a:Act) (w:World),bs.length=all.length->listed.toList=bs->bs.count false<=fuel->
  (∀j,j<all.length->BP all bs j=true->(bs,j) ∈ PL)->(bs=List.replicate all.length true\/∃j,j<all.length/\BP all bs j=true)->
  Rel D I0 st0 w0 I β (E bs) (S bs) a w->wpAny P .any all.toArray (DH D I0 st0 w0 Q) fuel listed a w:=by
 have full:∀{bs:List Bool},bs.length=all.length->bs.count false=0->bs=List.replicate all.length true:=λ{bs} hb h0=>by
  rw [List.eq_replicate_iff]
  grind
 have noready:∀{j:Nat},BP all (List.replicate all.length true) j=true->j<all.length->False:=λ{j} h hj=>by
  unfold BP at h
  simp_all
 simp only [IJ,Bool.and_eq_true,List.all_eq_true] at hc
 intro fuel
 induction fuel with
 |zero=>
  intro bs listed I β a w hb hl hf hp hr h
  have:=full hb H1
  subst this
  refine ⟨?_,⟨I,β,_,_,.normal,h,trivial,fin⟩⟩
  rw [List.eq_nil_iff_forall_not_mem]
  intro j hj
  obtain ⟨U,h2⟩:=(Fa hl hb).1 hj
  grind
 |succ fuel ih=>
  intro bs listed I β a w hb hl hf hp hr h
  refine ⟨λh0=>?_,λi hi=>?_⟩
  .rcases hr with rfl|⟨j,U,h2⟩
   .exact ⟨I,β,_,_,.normal,h,trivial,fin⟩
   .have:=(Fa hl hb).2 ⟨U,h2⟩
    simp_all
  .obtain ⟨U,h2⟩:=(Fa hl hb).1 hi
   have hm:=hp i U h2
   have hs:=step _ hm
   unfold oK at hs
   have ho:all[i]? =some all[i]:=List.getElem?_eq_getElem U
   simp only [ho] at hs
   obtain ⟨⟨c1,c2⟩,c3⟩:=hc.2 _ hm
   refine NA hT hC (Q:=Q) ho (λ{I β env st a w} h k=>?_) h hs (K:=λenv st=>(E (bs.set i true)).C3 env/\St.le (S (bs.set i true)) st)
   .have hbi:i<bs.length:=H1
    refine ih (bs.set i true) _ I _ a w lm (by simp [hl]) ?_ (λj hj hr=>?_) ?_ ((h.Iw k.2).JF (Env.JS k.1))
    .have:=List.count_set (a:=true) (i:=i) (l:=bs) (b:=false) hbi
     unfold BP at h2
     grind
    .grind
    grind
theorem U4 (hP:TK P T) (hC:∀f args st R,C f args st R->DE P f args st R/\Plain P f) {id:Nat} {ops:Array Oper} (E:List Bool->Env) (S:List Bool->St) (PL:List (List Bool×Nat))
 (hc:IJ ops.toList PL=true) (h0:(E (List.replicate ops.toList.length false)).C3 env) (s0:St.le (S (List.replicate ops.toList.length false)) st) (step:∀p ∈ PL,oK T C ops.toList Q E S p)
 (fin:Q .normal (E (List.replicate ops.toList.length true)) (S (List.replicate ops.toList.length true))):AW P (.region id ops true) Q env st:=λD I0 st0 w0 I β a w h=>
 wp_region_any hP.m (by
  have U:=hc
  simp only [IJ,Bool.and_eq_true,List.all_eq_true] at U
  have:=fS (D:=D) hP.t hC hc step fin ops.size (List.replicate ops.toList.length false) (Array.replicate ops.size false) I _ a _ Pi Pi Pi (λj hj hr=>?_) ?_ (((h.Kx (Jd.drew w)).Iw s0).JF (Env.JS h0))
  .simp_all
  .grind
  simp_all)
end
def V.dW:V->Bool
 | .ptr _ _=>true
 |_=>false
theorem Ar.we {I J:Mem}:∀{vs:List V} {cs:List Value},Ar I vs cs->vs.all V.dW=true->Ar J vs cs
 |[],cs,h,_=>by simpa only [Ar] using h
 |v::vs,cs,h,k=>by
  simp only [Ar] at h |-
  obtain ⟨c,r,rfl,U,h2⟩:=h
  simp only [List.all_cons,Bool.and_eq_true] at k
  refine ⟨c,r,rfl,?_,Ar.we h2 k.2⟩
  cases v<;>first|(simp only [A0] at U |-;exact U)|exact absurd k.1 (by simp [V.dW])
def Kf (P:Program) (g:FuncId) (args:List V) (x:Option V) (st:St) (R:St->Prop):Prop:=
 ∀(I:Mem) (w:World) (U:List Value) (u:FrameMode),Db I st w->Ar I args U->
  (match x with|none=>u=.returning|some v=>∃c,u=.panicking [{v:=c,recovered:=false}]/\A0 I v c)->
  CallsD P g U.toArray u w λe u' w'=>(∃v,e=.returned v)/\settle u'=.returning/\∃I' st',Fr I st w I' st' w'/\Db I' st' w'/\R st'
section
variable {D:List Deferred} {P:Program} {T:List (Nat×Ty)} {I0 I:Mem} {st0 st:St} {w0 w:World} {β:Nat->Option Nat} {env:Env} {a:Act}
theorem Rel.defer (h:Rel D I0 st0 w0 I β env st a w) (d:Deferred):Rel (d::D) I0 st0 w0 I β env st {a with defers:=d::a.defers} w:=
 ⟨h.fr,h.s,⟨h.f.size,h.f.tmps,h.f.box,h.f.BS,h.f.inj,h.f.sep,by rw [<-h.f.defers]⟩⟩
def Y5 (T:List (Nat×Ty)) (fn:Func) (R:AD->St->Prop) (env:Env) (st:St):Prop:=
 Gm T env st fn.results.toList λvs=>match vs with|[v]=>R (.ret v) st|vs=>R (.ret (.Bl vs)) st
def bH (P:Program) (T:List (Nat×Ty)) (g:FuncId) (U:List V) (fn:Func) (R:AD->St->Prop):AG->Env->St->Prop
 | .normal,env,st| .ret,env,st=>Kf P g U none st λst'=>Y5 T fn R env st'
 | .Ci v,env,st=>Kf P g U (some v) st λst'=>Y5 T fn R env st'
 |_,_,_=>False
def pR:AG->Env->St->Prop:=λ_ _ _=>False
theorem H3 {U:List Value} (gl:List Nat) (hs:Db I st w) (hargs:Ar I args U) (hle:Nat.ble args.length fn.ntmps=true):
 Rel [] I st w I (λ_=>none) {tmps:=KR 0 args,boxes:=[],BS:=0,sz:=fn.ntmps,gl} st
  {tmps:=U.toArray++Array.replicate (fn.ntmps - U.toArray.size) undef,defers:=[]} w:=by
 have hle:=Nat.le_of_ble_eq_true hle
 have hlen:=Ar.length hargs
 refine SC hs GT (λt v e=>?_) rfl rfl
 obtain ⟨_,e⟩:=Rn e
 rw [Nat.sub_zero] at e
 obtain ⟨c',e1,e2⟩:=Ar.get hargs e
 have hlt:t<U.length:=by
  rcases Nat.lt_or_ge t U.length with h|h
  .exact h
  .simp_all
 have:(U.toArray++Array.replicate (fn.ntmps - U.toArray.size) undef).getD t undef=c':=by
  rw [List.getElem?_eq_getElem hlt] at e1
  injection e1 with e1
  subst e1
  simp [Array.getD,Array.getElem_append,hlt]
  omega
 simp_all
theorem Oe (hP:TK P T) (gl:List Nat) (hf:P.funcs[f]? =some fn) {c0 c1:Code} {mk U:Oper}
 (hb : fn.body = some (.seq c0 (.seq c1 (.seq (.region rid #[mk, U] false) rest)))) (hn : (fn.name == "runtime.NumGoroutine") = false) {cap : Array Operand} {tf : Nat}
 (h1:mk.op=.makeFunc (.func g) #[] cap) (h2:mk.dst=some tf) (h3:mk.guard=none) (h4:U.op=.defer {callee:=.value (.tmp tf),args:=#[],argTypes:=#[]}) (h5:U.guard=none) (h6:U.dst=none)
 (hg:Plain P g) (hle:Nat.ble args.length fn.ntmps=true)
 (h:Qx T (Bp P) c0 (Bz (Qx T (Bp P) c1 (Bz (λenv st=>Xn env cap.toList λvs=>vs.all V.dW=true/\env.go (some tf) (.func g [] vs) λenv=>
   AW P rest (bH P T g vs fn R) env st) pR)) pR) {tmps:=KR 0 args,boxes:=[],BS:=0,sz:=fn.ntmps,gl} st):Bp P f args st R:=by
 refine ⟨?_,fn,hf,lm,hn⟩
 intro I w cargs hs hargs
 refine calls_of_wp_defers hf hb ?_
 have hsd:=λc {Q env st} k=>ON (Q:=Q) (env:=env) (st:=st) hP (BX P) (λ_ _ _ _ _ h k=>k.mono h) c k
 refine wp_seq (wp_mono (hsd c0 h [] I st w I _ _ w (H3 gl hs hargs hle)) ?_)
 rintro e a w1 ⟨I1,β1,env1,st1,ae,r1,x1,k1⟩
 cases ae with
 |exit _|goto _|ret|Ci _=>exact k1.elim
 |normal=>
 cases e with
 |exit _|goto _|ret|panic _|outgrown=>exact x1.elim
 |normal=>
 refine wp_seq (wp_mono (hsd c1 k1 [] I st w I1 _ _ w1 r1) ?_)
 rintro e a w2 ⟨I2,β2,env2,st2,ae,r2,x2,k2⟩
 cases ae with
 |exit _|goto _|ret|Ci _=>exact k2.elim
 |normal=>
 cases e with
 |exit _|goto _|ret|panic _|outgrown=>exact x2.elim
 |normal=>
 refine wp_seq (wp_region_list ?_)
 show wpList P #[mk,U] _ [mk,U] a w2
 unfold wpList
 rw [if_pos (by simp [Region.wanted,h3])]
 left
 obtain ⟨vs,hv,kp,kg⟩:=GP r2.f (show Xn env2 cap.toList _ from k2)
 have hcv:A0 I2 (.func g [] vs) (.func (.func g) #[] (cap.map a.eval)):=by
  simp only [A0]
  exact ⟨[],cap.toList.map a.eval,by congr 1;grind,PP,hv⟩
 obtain ⟨env3,r3,k3⟩:=Dr r2 (Bg.of hcv) kg
 have htf:tf<a.tmps.size:=by
  rw [r2.f.size]
  exact (FV kg).1 tf rfl
 unfold Oper.wp
 rw [show (execOp a.eval mk).run P w2=.ok (.value (.func (.func g) #[] (cap.map a.eval))) w2 by simp only [execOp,h1,Array.map_empty];rfl]
 show wpList P #[mk,U] _ [U] (a.put mk.dst _) w2
 rw [h2]
 unfold wpList
 rw [if_pos (by simp [Region.wanted,h5])]
 left
 have hev:(a.put (some tf) (.func (.func g) #[] (cap.map a.eval))).eval (.tmp tf)=.func (.func g) #[] (cap.map a.eval):=by
  simp [Act.put,Act.eval,htf]
 unfold Oper.wp
 rw [show (execOp (a.put (some tf) (.func (.func g) #[] (cap.map a.eval))).eval U).run P w2=.ok (.defer {target:=.fn (.func g) (cap.map a.eval),args:=#[]}) w2 by
  simp only [execOp,h4,resolve,hev,Deferred.ofValue,Array.map_empty,Array.empty_append];rfl]
 rw [Oper.upon_defer]
 rw [h6]
 unfold wpList
 show rest.wp P _ _ _
 have r4:=r3.defer {target:=.fn (.func g) (cap.map a.eval),args:=#[]}
 refine wp_mono (k3 _ I st w I2 _ _ w2 r4) ?_
 rintro e a5 w5 ⟨I5,β5,env5,st5,ae,r5,x5,k5⟩
 have hd:=r5.f.defers
 obtain ⟨fn2,p1,p2,p3⟩:=hg
 have hinv:(invoke (.fn (.func g) (cap.map a.eval)) #[]).run P w5=.ok (.enter g (cap.toList.map a.eval).toArray) w5:=by
  have hb:fn2.body.isNone=false:=by cases hb:fn2.body<;>simp_all
  simp only [invoke,callFunc,Sem.run_bind,Sem.run_pure,Result.andThen_ok,run_program,p1]
  rw [p3]
  simp [hb]
  apply Array.ext';simp
 have last:∀{u:FrameMode} {x:Option V},u≠.run->(match x with|none=>u=.returning|some v=>∃c,u=.panicking [{v:=c,recovered:=false}]/\A0 I5 v c)->Kf P g vs x st5 (λst'=>Y5 T fn R env5 st')->
  Leaves P fn a5.tmps (λe w'=>∃I' st' r,Fr I st w I' st' w'/\Db I' st' w'/\Y3 I' e r/\R r st') a5.defers u w5:=by
  intro u x hu hx k
  rw [hd]
  refine leaves_cons hu hinv ((k I5 w5 _ u r5.s (Ar.we hv kp) hx).mono ?_)
  rintro e u' w6 ⟨⟨v,rfl⟩,hset,I6,st6,q1,q2,q3⟩
  show Leaves P fn a5.tmps _ [] (settle u') w6
  rw [hset]
  have r6:=r5.called q1 q2
  obtain ⟨v,c,g1,g2,g3⟩:=Dz (P:=P) hP.t r6 q3
  exact ⟨c,g1,I6,st6,.ret v,r6.fr,r6.s,g2,g3⟩
 cases ae with
 |normal=>
  cases e with
  |normal=>exact last (x:=none) Pi rfl k5
  |_=>exact x5.elim
 |ret=>
  cases e with
  |ret=>exact last (x:=none) Pi rfl k5
  |_=>exact x5.elim
 |Ci v=>
  cases e with
  |panic chain=>
   obtain ⟨c,rfl,hc⟩:=x5
   exact last (x:=some v) Pi ⟨c,rfl,hc⟩ k5
  |_=>exact x5.elim
 |exit _=>exact k5.elim
 |goto _=>exact k5.elim
def wv:Option V->V
 |none=>.Ht
 |some v=>v
def yS (T:List (Nat×Ty)) (fn:Func) (R:St->Prop):AG->Env->St->Prop
 | .normal,env,st| .ret,env,st=>Y5 T fn (λ_ st=>R st) env st
 |_,_,_=>False
theorem Gg (hP:TK P T) (gl:List Nat) {x:Option V} {st:St} {R:St->Prop} (hf:P.funcs[g]? =some fn) {ro ao:Oper}
 (hb:fn.body=some (.seq (.region rid #[ro,ao] false) rest)) {t1 t2:Nat} {xh:Array TypeId} (h1:ro.op=.call {callee:=.builtin .recover,args:=#[],argTypes:=xh}) (h2:ro.dst=some t1) (h3:ro.guard=none)
 (h4:ao.op=.assign (.tmp t1)) (h5:ao.dst=some t2) (h6:ao.guard=none) (hle:Nat.ble args.length fn.ntmps=true)
 (h:∀env0:Env,env0={tmps:=KR 0 args,boxes:=[],BS:=0,sz:=fn.ntmps,gl}->env0.go (some t1) (wv x) λenv=>env.go (some t2) (wv x) λenv=>AW P rest (yS T fn R) env st):Kf P g args x st R:=by
 intro I w U u hs hargs hx
 refine callsD_of_wpS hf hb (λc0 cs hu=>?_)
 refine wpS_seq (wpS_region ?_)
 obtain ⟨c,cs',u',hrec,hrep,hcs,hset⟩:∃(c:Value) (cs':List Frame) (u':FrameMode),(match recoverD (c0::cs) with|some (v,cs1)=>c=v/\cs'=cs1|none=>c=.nilIface/\cs'=c0::cs)/\A0 I (wv x) c/\cs'={c0 with mode:=u'}::cs/\settle u'=.returning:=by
  cases x with
  |none=>
   have hx:u=.returning:=hx
   rw [hx] at hu
   refine ⟨.nilIface,c0::cs,.returning,?_,PP,?_,rfl⟩
   .simp only [recoverD,hu,and_self]
   .rw [<-hu]
  |some v=>
   obtain ⟨c,hx,hc⟩:=hx
   rw [hx] at hu
   refine ⟨c,{c0 with mode:=.panicking [{v:=c,recovered:=true}]}::cs,.panicking [{v:=c,recovered:=true}],?_,hc,rfl,rfl⟩
   simp only [recoverD,hu,and_self]
 have r0:=H3 (fn:=fn) gl hs hargs hle
 obtain ⟨env1,r1,k1⟩:=Dr r0 (Bg.of hrep) (h _ rfl)
 obtain ⟨env2,r2,k2⟩:=Dr r1 (Bg.of hrep) k1
 have hlt:t1<(U.toArray++Array.replicate (fn.ntmps - U.toArray.size) undef).size:=by
  have:=(FV (h _ rfl)).1 t1 rfl
  rw [r0.f.size]
  exact this
 show wpOpsS P #[ro,ao] _ [0,1] _ _ _
 unfold wpOpsS
 simp only [List.getElem?_toArray,List.getElem?_cons_zero]
 rw [if_pos (by simp [Region.wanted,h3])]
 rw [show ∀ρ,(execOp ρ ro).run P w=.ok .recover w from λρ=>by simp only [execOp,h1];rfl]
 dsimp only
 have next:∀(b:Act) (tail:Act->List Frame->World->Prop),tail (b.put (some t1) c) cs' w->(match recoverD (c0::cs) with|some (v,cs1)=>tail (b.put ro.dst v) cs1 w|none=>tail (b.put ro.dst .nilIface) (c0::cs) w):=λb tail ht=>by grind
 refine next _ (λa cs w=>wpOpsS P #[ro,ao] _ [1] a cs w) ?_
 unfold wpOpsS
 simp only [List.getElem?_toArray,List.getElem?_cons_succ,List.getElem?_cons_zero]
 rw [if_pos (by simp [Region.wanted,h6])]
 have hev:∀tm:Act,t1<tm.tmps.size->(tm.put (some t1) c).eval (.tmp t1)=c:=λtm ht=>by simp [Act.put,Act.eval,ht]
 rw [show ∀ρ,(execOp ρ ao).run P w=.ok (.value (ρ (.tmp t1))) w from λρ=>by simp only [execOp,h4];rfl]
 dsimp only
 rw [Oper.upon_value,hev _ hlt,h5]
 unfold wpOpsS
 show rest.wpS P _ _ cs' w
 refine wpS_of_wp (wp_mono (k2 [] I st w I _ _ w r2) ?_)
 rintro e a5 w5 ⟨I5,β5,env5,st5,ae,r5,x5,k5⟩
 have last:Y5 T fn (λ_ st=>R st) env5 st5->a5.defers=[]/\∃u',cs'={c0 with mode:=u'}::cs/\∃v,(results fn a5.tmps).run P w5=.ok v w5/\((∃v',Ending.returned v=.returned v')/\settle u'=.returning/\∃I' st',Fr I st w I' st' w5/\Db I' st' w5/\R st'):=λq=>by
  obtain ⟨v,c,g1,g2,g3⟩:=Dz (P:=P) (R:=λ_ st=>R st) hP.t r5 (show Gm T env5 st5 fn.results.toList _ from q)
  exact ⟨r5.f.defers,u',hcs,c,g1,⟨_,rfl⟩,hset,I5,st5,r5.fr,r5.s,g3⟩
 cases ae with
 |normal=>
  cases e with
  |normal=>exact last k5
  |_=>exact x5.elim
 |ret=>
  cases e with
  |ret=>exact last k5
  |_=>exact x5.elim
 |Ci v=>exact k5.elim
 |exit _=>exact k5.elim
 |goto _=>exact k5.elim
end
end Go.Aw
namespace Go.Aw
theorem Wt [BEq α] [LawfulBEq α] {a b:α} {q:Prop} (e:a=b) (h:p):BG (a==b) p q:=Wg (λ_=>h) (λn=>absurd e n)
theorem Wu [BEq α] [LawfulBEq α] {a b:α} {q:Prop} (e:¬a=b) (h:q):BG (a==b) p q:=Wg (λn=>absurd n e) (λ_=>h)
theorem Wv {c:Prop} [Decidable c] {q:Prop} (e:c) (h:p):BG (decide c) p q:=Wh (λ_=>h) (λn=>absurd e n)
theorem Ww {c:Prop} [Decidable c] {q:Prop} (e:¬c) (h:q):BG (decide c) p q:=Wh (λn=>absurd n e) (λ_=>h)
end Go.Aw
namespace Go.Proofs.Z
open Go Go.Aw
abbrev PC (f:FuncId) (args:List V) (st:St) (R:AD->St->Prop):Prop:=Bp Tryz.prog f args st R
structure Tk where
 kind:Int
 text:List UInt8
 line:Int
 Da:Int
structure Af where
 AR:List Tk
 pos:Int
 Cf:List Int
 wait:Int
def Tk.cells (t:Tk):List V:=[.int .i64 t.kind,.str t.text,.int .i64 t.line,.int .i64 t.Da]
def DP (t:Tk):V:=.agg t.cells
def Bb (l:List Tk):List (List V):=l.map Tk.cells
def Af.cells (s:Af):List V:=[.slice 4 (Bb s.AR) .any,.int .i64 s.pos,.slice 1 (ints s.Cf) .any,.int .i64 s.wait]
def Am (s:Af):V:=.agg s.cells
def oW:Tk:=⟨0,[],0,0⟩
def FH:Af:=⟨[],0,[],0⟩
theorem Jc (l:List Tk):(Bb l).length=l.length:=by simp [Bb]
theorem Ds (l:List Int):(ints l).length=l.length:=by simp [ints]
theorem Wz {l:List Tk} {K:Nat->Prop} (k:l.length<4611686018427387904->K l.length):∀m,m=(Bb l).length->m<Fk->K m:=λm U h=>by
 rw [Jc] at U;subst U;exact k h
theorem WA {K:Nat->Prop} (k:l.length<4611686018427387904->K l.length):∀m,m=(ints l).length->m<Fk->K m:=λm U h=>by
 rw [Ds] at U;subst U;exact k h
theorem WC {l:List Tk} (h0:0<=i) (h1:i<l.length) (k:∀x,l[i.toNat]? =some x->K x.cells):0<=i/\∃e,(Bb l)[i.toNat]? =some e/\K e:=by
 have U:i.toNat<l.length:=H1
 exact ⟨h0,l[i.toNat].cells,by simp [Bb,U],k _ (List.getElem?_eq_getElem U)⟩
theorem WB {l:List Tk} {x:Tk} (h:l[i.toNat]? =some x) (U:0<=i) (k:K x.cells):0<=i/\∃e,(Bb l)[i.toNat]? =some e/\K e:=
 ⟨U,x.cells,by simp [Bb,h],k⟩
theorem WD (h0:0<=i) (h1:i<l.length) (k:∀x,l[i.toNat]? =some x->K [.int .i64 x]):0<=i/\∃e,(ints l)[i.toNat]? =some e/\K e:=by
 have U:i.toNat<l.length:=H1
 exact ⟨h0,[.int .i64 l[i.toNat]],by simp [ints,U],k _ (List.getElem?_eq_getElem U)⟩
theorem WE {a b:Int} {K:List (List V)->Prop} (h0:0<=a) (h1:a<=b) (h2:b<=l.length) (k:K (ints ((l.take b.toNat).drop a.toNat))):
 (0<=a/\a<=b/\b<=(ints l).length)/\∀U,U=(((ints l).take b.toNat).drop a.toNat)->K U:=by
 refine ⟨⟨h0,h1,by rw [Ds];exact h2⟩,λU e=>?_⟩
 have:((ints l).take b.toNat).drop a.toNat=ints ((l.take b.toNat).drop a.toNat):=by simp [ints,List.map_drop,List.map_take]
 rw [this] at e;subst e;exact k
theorem Wx {K:Bool->Prop} (h:es=[]->K true) (k:K false):∀b,(b=true->es=[])->K b
 |true,e=>h (e rfl)
 |false,_=>k
theorem Jy {new:List Int} {own:Ay} {st:St} {K:V->St->Prop} (h:own.B5 st) (hb:l.length+new.length<=1000000000)
 (k:∀U:Ay,U.B5 st->K (.slice 1 (ints (l++new)) U) (U.st st (l++new).length)):Ai 1 8 (ints l) own (ints new) (own.st st l.length) K:=by
 have hw:(ints new).map (·.map V.K8)=ints new:=by
  simp only [ints,List.map_map]
  exact List.map_congr_left λx _=>rfl
 have hsc:((ints new).all λv=>v.all V.sc)=true:=by
  simp only [ints,List.all_map,List.all_eq_true]
  exact λx _=>rfl
 have:=HH (sz:=1) (bytes:=8) (es:=ints l) (new:=ints new) (K:=K) h (by rw [Ds,Ds];omega) (by rw [Ds,Ds];simp only [Fk];omega) hsc (λU ho=>by
  have:=k U ho
  rw [Ds,Ds,hw,<-show ints (l++new)=ints l++ints new from by simp [ints],<-List.length_append,Nat.mul_one]
  exact this)
 rw [Ds,Nat.mul_one] at this
 exact this
theorem aG {new new':List Int} {own:Ay} {st:St} {K:V->St->Prop} (e:new'=new) (h:own.B5 st) (hb:l.length+new.length<=1000000000)
 (k:∀U:Ay,U.B5 st->K (.slice 1 (ints (l++new)) U) (U.st st (l++new).length)):Ai 1 8 (ints l) own (ints new') (own.st st l.length) K:=e ▸ Jy h hb k
section
variable {st:St} {R:AD->St->Prop}
theorem CS (hs:st.le st') (e:r=r'.wk) (h:R r st):∃r2 U,(r2=r'\/r2=r'.wk)/\St.le U st'/\R r2 U:=⟨r,st,.inr e,hs,h⟩
end
theorem B1 (h:P:=by with_reducible first|(show _/\_;first|exact Wa)|(show BG _ _ _;first|exact Wb|exact Wc)|fail):P:=h
theorem Bc (k:A) (h:A->P:=by intro k;with_reducible first|(show _/\_;first|  exact Wm ‹_› H1 k|exact Wn H1 H1 k|exact Wo H1 H1 k|exact Wp H1 H1 H1 k|exact Wr IR H1 H1 k|exact Ws IR k|exact WB ‹_› H1 k|exact WC H1 H1 k|exact WD H1 H1 k|exact WE H1 H1 H1 k)|(show BG _ _ _;first|exact Wt RK k|exact Wu RK k|exact Wv H1 k|exact Ww H1 k|exact Wi k|exact Wj k)|(intro x y z;exact Wl k x y z)|(intro x y z;exact Wz k x y z)|(intro x y z;exact WA k x y z)|(show Exists _;first|exact Wq H1 H1 k)|fail):P:=h k
theorem B2 {B C:V->Prop} (k:V) (l:B k) (m:C k) (h:∀k,B k->C k->P:=by intro k l m;with_reducible first|(show Exists _;first|  exact W8 NE k l m|exact W0 NE k l m|exact W9 k l m)|fail):P:=h k l m
theorem CD {B:Prop} (k:A) (l:B) (h:A->B->P:=by intro k l;with_reducible first|(show BG _ _ _;first|exact Wf IR k l|exact Wg k l|exact Wh k l|exact Wk k l)|fail):P:=h k l
theorem zA {B:Prop} (k:A) (l:B) (h:A->B->P:=by intro k l;with_reducible first|(intro x y;exact Wx k l x y)|(intro x y;exact Wy k l x y)|fail):P:=h k l
section
variable {H:Type}
theorem lg (d:DataW H) (vs:List V) (h:dec Tryz.prog n 51 d=some vs):∃t:Tk,vs=t.cells/\t.text.length+1<=Rows.uptoBulk d:=by
 obtain ⟨m,ds,us,rfl,hl,hm,rfl,hb⟩:=RF Tryz.underlying51 h
 match ds,hl with
 |[d0,d1,d2,d3],_=>
  simp only [List.zip_cons_cons,List.zip_nil_right] at hm
  obtain ⟨u0,r0,h0,U,rfl⟩:=CE hm
  obtain ⟨u1,r1,h1,hm1,rfl⟩:=CE U
  obtain ⟨u2,r2,h2,hm2,rfl⟩:=CE hm1
  obtain ⟨u3,r3,h3,hm3,rfl⟩:=CE hm2
  cases hm3
  obtain ⟨k,rfl⟩:=HJ Tryz.underlying3 h0
  obtain ⟨t,rfl,ht⟩:=dC Tryz.underlying9 h1
  obtain ⟨l,rfl⟩:=HJ Tryz.underlying3 h2
  obtain ⟨c,rfl⟩:=HJ Tryz.underlying3 h3
  have ht:t.length+1=Rows.uptoBulk d1:=ht
  simp only [Rows.uptoBulkAll] at hb
  exact ⟨⟨k,t,l,c⟩,rfl,by show t.length+1<=_;omega⟩
theorem aN:Tryz.prog.cellsOf 51=4:=M2
theorem gw {d:DataW H} (h:dec Tryz.prog n 22 d=some vs):∃l:List Tk,vs=[.slice 4 (Bb l) .any]/\(l.map λt=>t.text.length+1).sum+1<=Rows.uptoBulk d:=by
 obtain ⟨m,es,ds,rfl,rfl,U,hb⟩:=TX Tryz.underlying22 h
 obtain ⟨l,rfl,hs⟩:=RE (f:=Tk.cells) (w:=λt=>t.text.length+1) (λd vs h=>lg d vs h) U
 exact ⟨l,by rw [aN];rfl,H1⟩
end
end Go.Proofs.Z
namespace Go.Aw
open Go Go.ChangeShapes
theorem RX {P:Program} {s:ChangeSpec} {c:OpenClaim}
 (a1:(c.wf (OpenSpec.ofChange s)&&laidOutB P&&mapsRowed P&&fn.params.all (P.readableRec ·)&&namedTie P c.named s.vars&&(c.stops==[])&&(P.stops==[])&&(c.knobs==[])&&(P.stopKnobs==[]))=true)
 (a2:(c.inPlace==P.inPlace f)=true) (a3:(c.unfollowed==P.unfollowed f)=true) (a4:(c.recurses==P.recurses f)=true) (a5:(c.named==P.varsNamed f)=true)
 (a6:((c.maps==(fn.params.toList++s.plain.varTypes P).any (P.mapsRec ·))&&(c.ifaces==(fn.params.toList++s.plain.varTypes P).any (P.ifacesRec ·))&&(c.mapsOut==P.mapsAmong fn.resultTypes.toList)&&(c.loops==(fn.params.toList++s.plain.varTypes P).any (P.loopsFrom ·))&&(c.wideKeys==(fn.params.toList++s.plain.varTypes P++fn.resultTypes.toList).any (P.wideKeysFrom ·))&&s.vars.all (P.varReadable ·)&&fn.resultTypes.all (λt=>P.readableRec t&&decide (t<P.types.size))&&(c.ifacesOut==fn.resultTypes.toList.any (P.ifacesRec ·))&&(c.loopsOut==fn.resultTypes.toList.any (P.loopsFrom ·))&&(c.plainKeys==P.plainKeys)&&c.shortTexts.isNone)=true)
 (a7:P.stopsHeard=true) (a8:P.mayEnter=true) (a9:(c.lifted==P.liftsFinal)=true) (a10:(P.make==some c.make)=true)
 (U:((c.kinds==(if c.domain.isEmpty then [] else fn.params.toList.map λt=>match P.underlying t with|some (.int k)=>some k|_=>none))&&(c.pinned==c.pinnedBy)&&(c.veiled==(fn.params.toList++s.plain.varTypes P++fn.resultTypes.toList).any (P.veiledRec ·))&&c.veiledFits P fn.params.toList (fn.params.toList++s.plain.varTypes P++fn.resultTypes.toList))=true):
 joinedFacts P f fn s c=true:=by
 unfold joinedFacts
 simp only [Bool.and_eq_true] at a1 a6 U |-
 obtain ⟨⟨⟨⟨⟨⟨⟨⟨b1,b2⟩,b3⟩,b4⟩,b5⟩,b6⟩,b7⟩,b8⟩,b9⟩:=a1
 obtain ⟨⟨⟨⟨⟨⟨⟨⟨⟨⟨d1,d2⟩,d3⟩,d4⟩,d5⟩,d6⟩,d7⟩,d8⟩,d9⟩,d10⟩,d11⟩:=a6
 obtain ⟨⟨⟨g1,g2⟩,g3⟩,g4⟩:=U
 exact ⟨⟨⟨⟨⟨⟨⟨⟨⟨⟨⟨⟨⟨⟨⟨⟨⟨⟨⟨⟨⟨⟨⟨⟨⟨⟨⟨⟨⟨⟨⟨b1,b2⟩,b3⟩,b4⟩,b5⟩,b6⟩,b7⟩,b8⟩,b9⟩,a2⟩,a3⟩,a4⟩,a5⟩,d1⟩,d2⟩,d3⟩,d4⟩,d5⟩,d6⟩,d7⟩,d8⟩,d9⟩,d10⟩,d11⟩,a7⟩,a8⟩,a9⟩,a10⟩,g1⟩,g2⟩,g3⟩,g4⟩
theorem O8 {P:Program} {c:OpenClaim} (h:P.funcs.toList.all (λf=> !f.goes)=true) (hs:c.start=.entering):false=c.goesBy P:=by
 have hall:∀f ∈ P.funcs,Func.goes f=false:=by
  intro f hf
  have:=List.all_eq_true.1 h f (by simpa using hf)
  simpa using this
 have hp:∀g,P.goes g=false:=by
  intro g
  unfold Program.goes
  have h1:((P.closure g).any λg=>(P.funcs[g]?).any Func.goes)=false:=by
   rw [Bool.eq_false_iff]
   intro hc
   obtain ⟨x, -,U⟩:=List.any_eq_true.1 hc
   cases hq:P.funcs[x]? with
   |none=>rw [hq] at U;simp at U
   |some f=>rw [hq] at U;simp only [Option.any_some] at U;rw [hall f (Array.mem_of_getElem? hq)] at U;cases U
  have h2:P.funcs.any Func.goes=false:=by
   rw [Bool.eq_false_iff]
   intro hc
   obtain ⟨i,hi,U⟩:=Array.any_eq_true.1 hc
   rw [hall _ (Array.getElem_mem hi)] at U;cases U
  rw [h1,h2];simp
 unfold OpenClaim.goesBy Program.goesAt Program.goesFrom
 rw [hs]
 cases hq:P.funcNamed c.func<;>simp [hp]
end Go.Aw
namespace Go.Proofs.Z
open Go Go.Aw Go.ChangeShapes Go.WideShapes Go.ChangeAt Go.RowKit
set_option maxRecDepth 100000
theorem O3:Tryz.prog.stopsHeard=true:=M2
theorem O2:Tryz.prog.mayEnter=true:=M2
theorem O4:(false==Tryz.prog.liftsFinal)=true:=M2
theorem R6:(Tryz.prog.make==some .cut)=true:=M2
theorem R4:Tryz.prog.funcs.toList.all (λf=> !f.goes)=true:=M2
theorem Gj:laidOutB Tryz.prog=true:=M2
theorem Gk:mapsRowed Tryz.prog=true:=M2
theorem R3:((List.range Tryz.prog.types.size).all λt=>match Tryz.prog.underlying t with|some (.slice e)=>decide (0<Tryz.prog.cellsOf e)|_=>true)=true:=M2
end Go.Proofs.Z
namespace Go.Proofs.Z
open Go Go.Aw
def Hy (s:Af):Int:=(s.Cf.getLast?).getD 0
theorem ZS {s:Af} (h:¬(s.Cf.length:Int)>0):Hy s=0:=by
 have:s.Cf=[]:=List.length_eq_zero_iff.1 H1
 simp [Hy,this]
theorem UG {s:Af} {x:Int} (h:s.Cf[((s.Cf.length:Int) - 1).toNat]? =some x):Hy s=x:=by
 have e:((s.Cf.length:Int) - 1).toNat=s.Cf.length - 1:=H1
 rw [e] at h
 simp [Hy,List.getLast?_eq_getElem?,h]
section
variable {st:St} {R:AD->St->Prop}
theorem Qe {s:Af} (h:R (.ret (.int .i64 (Hy s))) st):PC 274 [Am s] st R:=by
 refine pB Tryz.func274 ?_
 repeat' ((conv=>whnf);first|(refine Bc ?_;intros)|(refine CD ?_ ?_<;>intro _)|fail)
 .exact fin h (by rw [UG ‹_›])
 .exact fin h (by rw [ZS H1])
def Qv (k:Int) (t:Tk):Tk:=⟨k,[],t.line,t.Da⟩
theorem Qh {k:Int} {t:Tk} (h:R (.ret (DP (Qv k t))) st):PC 338 [.int .i64 k,DP t] st R:=by
 refine pB Tryz.func338 ?_
 repeat' ((conv=>whnf);first|  fail)
 all_goals exact fin h rfl
attribute [local irreducible] Go.Aw.Ai
theorem dw {own:Ay} (hb:l.length<=1000000000) (h:∀U:Ay,U.B5 st->R (.ret (.slice 1 (ints l) U)) (U.st st l.length)):PC 337 [.slice 1 (ints l) own] st R:=by
 refine pB Tryz.func337 ?_
 repeat' ((conv=>whnf);first|  refine zA (λ_=>?_) ?_|fail)
 .have:l=[]:=by simpa [ints] using ‹ints l=[]›
  subst this
  exact fin (h .full trivial) rfl
 .exact Jy (l:=[]) (own:=.full) trivial lm λU ho=>fin (h U ho) rfl
theorem qv {l':List Int} {own:Ay} (e:l'=l) (hb:l.length<=1000000000) (h:∀U:Ay,U.B5 st->R (.ret (.slice 1 (ints l) U)) (U.st st l.length)):PC 337 [.slice 1 (ints l') own] st R:=e ▸ dw hb h
def Mc (s:Af) (c:Int):Af:={s with Cf:=s.Cf++[c]}
theorem YL {s:Af} {c:Int} (hb:s.Cf.length<=500000000) (h:R (.ret (Am (Mc s c))) st):PC 339 [Am s,.int .i64 c] st R:=by
 refine pB Tryz.func339 ?_
 have U:s.Cf.length+[c].length<=1000000000:=by simp only [List.length_singleton];omega
 repeat' ((conv=>whnf);first|  refine dw H1 (λown ho=>?_)|refine Jy (new:=[c]) ho U (λown' ho'=>?_))
 all_goals exact CS (Ay.Bj ho') rfl h
def E5 (s:Af):Af:={s with Cf:=s.Cf.dropLast}
theorem NO {s:Af} (h0:s.Cf≠[]) (hb:s.Cf.length<=500000000) (h:R (.ret (Am (E5 s))) st):PC 275 [Am s] st R:=by
 refine pB Tryz.func275 ?_
 have hl:0<s.Cf.length:=List.length_pos_iff.2 h0
 have hd:(s.Cf.take (((s.Cf.length:Int) - 1).toNat)).drop (0:Int).toNat=s.Cf.dropLast:=by
  rw [show (0:Int).toNat=0 from rfl,List.drop_zero,List.dropLast_eq_take]
  congr 1
  omega
 have U:s.Cf.dropLast.length<=1000000000:=by rw [List.length_dropLast];omega
 repeat' ((conv=>whnf);first|(refine Bc ?_;intros)|refine qv hd U (λown ho=>?_))
 all_goals exact CS (Ay.Bj ho) rfl h
end
theorem XK {l:List α} {k:Nat} {x:α} (h:l[k]? =some x):l.drop k=x::l.drop (k+1):=by
 obtain ⟨U,h2⟩:=List.getElem?_eq_some_iff.1 h
 rw [<-h2,List.drop_eq_getElem_cons U]
section
variable {st:St} {R:AD->St->Prop}
attribute [local irreducible] Go.Aw.Ai
def PU (p:Int->Bool):List Int->Int->Int
 |[],_=> -1
 |y::r,i=>if p y then i else PU p r (i+1)
theorem X8 {p:Int->Bool}:∀{l:List Int} {i:Int},0<=i->(0<=PU p l i↔l.any p=true)
 |[],i,h=>by simp [PU]
 |y::r,i,h=>by
  simp only [PU,List.any_cons]
  split
  .simp_all
  .rename_i e
   rw [X8 H1]
   simp [e]
theorem X9 {p:Int->Bool} {own:Ay} (hf:∀x (st:St) (R:AD->St->Prop),R (.ret (.bool (p x))) st->PC f [.int .i64 x] st R) (h:R (.ret (.int .i64 (PU p l 0))) st):
 PC 386 [.slice 1 (ints l) own,.func f [] []] st R:=by
 refine pB Tryz.func386 ?_
 repeat' ((conv=>whnf);first|(refine Bc ?_;intros)|(refine CD ?_ ?_<;>intro _)|fail)
 refine Lr 8 [7,0,1] l.length (λk=>k<=l.length/\(PU p l 0=PU p (l.drop k) k)) ⟨Nat.zero_le _,rfl⟩ Yl ?_
 rintro k ⟨U,hi⟩
 repeat' ((conv=>whnf);first|(refine Bc ?_;intros)|(refine CD ?_ ?_<;>intro _)|refine hf _ _ _ ?_)
 all_goals conv=>whnf
 all_goals try (have e:=XK ‹l[Int.toNat k]? =some _›;rw [Int.toNat_natCast] at e;rw [e,PU] at hi;clear e)
 all_goals first
  |(refine ⟨k+1,⟨H1,?_⟩,H1,Yl,St.le_refl _⟩;clear h;simp_all)
  |(refine fin h ?_;clear h;simp_all;done)
  |(refine fin h ?_;rw [hi,List.drop_eq_nil_of_le H1];rfl)
theorem RD {p:Int->Bool} {own:Ay} (hf:∀x (st:St) (R:AD->St->Prop),R (.ret (.bool (p x))) st->PC f [.int .i64 x] st R) (h:R (.ret (.bool (l.any p))) st):
 PC 335 [.slice 1 (ints l) own,.func f [] []] st R:=by
 refine pB Tryz.func335 ?_
 refine X9 hf ?_
 have key:=X8 (p:=p) (l:=l) (i:=0) H1
 refine Wh (λU=>?_) (λU=>?_)
 .exact An h (key.1 U)
 .refine An h ?_
  simp_all
theorem vV (x:Int) (st:St) (R:AD->St->Prop) (h:R (.ret (.bool (decide (x<0)))) st):PC 336 [.int .i64 x] st R:=by
 refine pB Tryz.func336 ?_
 repeat' ((conv=>whnf);first|  (refine CD ?_ ?_<;>intro _)|fail)
 all_goals exact An h lm
def Mx (s:Af):Bool:=
 decide (0<=s.pos)&&decide (s.pos<=s.AR.length)&&decide (0<=s.wait)&&decide (s.wait<=2)&&
 (decide (s.wait<=0)||(match s.AR[s.pos.toNat]? with|some t=>t.kind==16|none=>false))&& !(s.Cf.any λx=>decide (x<0))
theorem Yv {s:Af} (h:R (.ret (.bool (Mx s))) st):PC 273 [Am s] st R:=by
 refine pB Tryz.func273 ?_
 repeat' ((conv=>whnf);first|(refine Bc ?_;intros)|(refine CD ?_ ?_<;>intro _)|refine RD (λx st R h=>vV x st R h) ?_)
 all_goals conv=>whnf
 all_goals refine An h ?_
 all_goals clear h
 all_goals unfold Mx
 all_goals first
  |(rw [show decide (0<=s.pos)=false from decide_eq_false H1];simp only [Bool.false_and];done)
  |(rw [show decide (s.pos<=s.AR.length)=false from decide_eq_false H1];simp only [Bool.false_and,Bool.and_false];done)
  |(rw [show decide (0<=s.wait)=false from decide_eq_false H1];simp only [Bool.false_and,Bool.and_false];done)
  |(rw [show decide (s.wait<=2)=false from decide_eq_false H1];simp only [Bool.false_and,Bool.and_false];done)
  |(have hn:s.AR[s.pos.toNat]? =none:=List.getElem?_eq_none H1
    rw [hn,show decide (s.wait<=0)=false from decide_eq_false H1];simp only [Bool.false_and,Bool.and_false,Bool.or_false];done)
  |(rw [show decide (0<=s.pos)=true from decide_eq_true H1,show decide (s.pos<=s.AR.length)=true from decide_eq_true H1,show decide (0<=s.wait)=true from decide_eq_true H1,show decide (s.wait<=2)=true from decide_eq_true H1]
    first
     |(rw [show decide (s.wait<=0)=true from decide_eq_true H1];simp_all;done)
     |(rw [show decide (s.wait<=0)=false from decide_eq_false H1];simp_all;done))
 all_goals trace_state
def Kj (t:Tk) (s:Af):Tk×Af:=
 if s.wait=1 then (Qv 20 t,{s with wait:=2})
 else if Hy s<t.Da then (Qv 18 t,{Mc s t.Da with pos:=s.pos+1})
 else (Qv 18 t,{s with wait:=1})
def tS (p:Tk×Af):V:=.Bl [DP p.1,Am p.2]
theorem qk {t:Tk} {s:Af} (U:0<=s.pos/\s.pos<=4611686018427387904) (hb:s.Cf.length<=500000000) (h:R (.ret (tS (Kj t s))) st):PC 276 [DP t,Am s] st R:=by
 refine pB Tryz.func276 ?_
 repeat' ((conv=>whnf);first|exact B1|(refine Bc ?_;intros)|(refine B2 ?_ ?_ ?_;rotate_left)|(refine CD ?_ ?_<;>intro _)|refine Qh (t:=t) ?_|refine Qe (s:=s) ?_|refine YL (s:=s) hb ?_|refine Wq (a:=s.pos+1) H1 H1 ?_|refine Az [1,5,2,6,8] [2,3] ?_|refine Ad 6 [3] [] ?_|refine Az [1,5,2,6,8] [2,3] ?_|fail)
 all_goals unfold Kj at h
 .rw [if_pos H1] at h;exact AU rfl h
 .rw [if_neg H1,if_pos H1] at h;exact AU rfl h
 .rw [if_neg H1,if_neg H1] at h;exact AU rfl h
def EK (t:Tk) (s:Af):Tk×Af:=
 if 0<Hy s/\t.Da<Hy s then (Qv 20 t,E5 s)
 else if 0<Hy s/\t.Da=Hy s then (Qv 19 t,{s with pos:=s.pos+1,wait:=0})
 else (oW,{s with pos:=s.pos+1,wait:=0})
theorem Px {s:Af} (h:0<Hy s):s.Cf≠[]:=λe=>by simp [Hy,e] at h
theorem vL {t:Tk} {s:Af} (U:0<=s.pos/\s.pos<=4611686018427387904) (hb:s.Cf.length<=500000000) (h:R (.ret (tS (EK t s))) st):PC 277 [DP t,Am s] st R:=by
 refine pB Tryz.func277 ?_
 repeat' ((conv=>whnf);first|exact B1|(refine Bc ?_;intros)|(refine B2 ?_ ?_ ?_;rotate_left)|(refine CD ?_ ?_<;>intro _)|refine Qh (t:=t) ?_|refine Qe (s:=s) ?_|refine NO (s:=s) (Px H1) hb ?_|refine Wq (a:=s.pos+1) H1 H1 ?_|refine Az [1,5,2,6,8,10] [2,3] ?_|refine Az [1,5,2,6,8] [2,3] ?_|refine Ad 4 [2,3] [2,3] ?_|fail)
 all_goals unfold EK at h
 all_goals first
  |(rw [if_pos ⟨H1,H1⟩] at h;exact AU rfl h)
  |(rw [if_neg H1,if_pos ⟨H1,H1⟩] at h;exact AU rfl h)
  |(rw [if_neg H1,if_neg H1] at h;exact AU rfl h)
 all_goals trace_state
def H4 (t:Tk) (s:Af):Tk×Af×Int:=
 if t.kind=15/\t.text=[123] then (t,{Mc s 0 with pos:=s.pos+1},0)
 else if t.kind=15/\t.text=[125] then
  if s.Cf=[]\/Hy s≠0 then (oW,s,90) else (t,{E5 s with pos:=s.pos+1},0)
 else (t,{s with pos:=s.pos+1},0)
def RQ (p:Tk×Af×Int):V:=.Bl [DP p.1,Am p.2.1,.int .i64 p.2.2]
theorem E9 (h:¬l.length=Int.toNat 0):l≠[]:=λe=>h GT
theorem VU (h:l.length=Int.toNat 0):l=[]:=List.length_eq_zero_iff.1 H1
theorem qq {t:Tk} {s:Af} (U:0<=s.pos/\s.pos<=4611686018427387904) (hb:s.Cf.length<=500000000) (h:R (.ret (RQ (H4 t s))) st):PC 278 [DP t,Am s] st R:=by
 refine pB Tryz.func278 ?_
 repeat' ((conv=>whnf);first|exact B1|(refine Bc ?_;intros)|(refine B2 ?_ ?_ ?_;rotate_left)|(refine CD ?_ ?_<;>intro _)|refine Qe (s:=s) ?_|refine YL (s:=s) hb ?_|refine NO (s:=s) (E9 ‹_›) hb ?_|refine Wq (a:=s.pos+1) H1 H1 ?_|refine Ad 5 [2,3] [2,3] ?_|refine Ad 5 [2,3] [2,3] ?_|fail)
 all_goals unfold H4 at h
 all_goals first
  |(rw [if_pos ⟨Nm,Nm⟩] at h;exact AU rfl h)
  |(rw [if_neg (λe=>absurd e.2 ‹_›),if_pos ⟨Nm,Nm⟩,if_pos (.inl (VU ‹_›))] at h;exact AU rfl h)
  |(rw [if_neg (λe=>absurd e.2 ‹_›),if_pos ⟨Nm,Nm⟩,if_pos (.inr ‹_›)] at h;exact AU rfl h)
  |(rw [if_neg (λe=>absurd e.2 ‹_›),if_pos ⟨Nm,Nm⟩,if_neg (λe=>e.elim (E9 ‹_›) (λe=>e ‹_›))] at h;exact AU rfl h)
  |(rw [if_neg (λe=>absurd e.1 ‹_›),if_neg (λe=>absurd e.1 ‹_›)] at h;exact AU rfl h)
  |(rw [if_neg (λe=>absurd e.2 ‹_›),if_neg (λe=>absurd e.2 ‹_›)] at h;exact AU rfl h)
 all_goals trace_state
def IM (s:Af):Tk×Af×Int:=
 if s.Cf=[] then (⟨21,[],0,0⟩,s,0) else if 0<Hy s then (⟨20,[],0,0⟩,E5 s,0) else (oW,s,90)
theorem vf {s:Af} (hb:s.Cf.length<=500000000) (h:R (.ret (RQ (IM s))) st):PC 279 [Am s] st R:=by
 refine pB Tryz.func279 ?_
 repeat' ((conv=>whnf);first|exact B1|(refine Bc ?_;intros)|(refine B2 ?_ ?_ ?_;rotate_left)|(refine CD ?_ ?_<;>intro _)|refine Qe (s:=s) ?_|refine NO (s:=s) (E9 ‹_›) hb ?_|refine Ad 5 [2,3] [1,2] ?_|refine Ad 5 [2,3] [1,2] ?_|fail)
 all_goals unfold IM at h
 all_goals first
  |(rw [if_pos (VU ‹_›)] at h;exact AU rfl h)
  |(rw [if_neg (E9 ‹_›),if_pos ‹_›] at h;exact AU rfl h)
  |(rw [if_neg (E9 ‹_›),if_neg ‹_›] at h;exact AU rfl h)
 all_goals trace_state
end
end Go.Proofs.Z
namespace Go.Aw
noncomputable def Env.yG (env:Env) (ch:List (Nat×V)) (keep:List Nat) (U:List (Nat×List V)) (kb:List Nat):Env:=match env with
 |⟨ts,bs,n,sz,gl⟩=>⟨Env.ts ⟨ts,bs,n,sz,gl⟩ ch keep,U++Env.bx ⟨ts,bs,n,sz,gl⟩ kb,n,sz,gl⟩
theorem Gr {st:St} (f:α->List (Nat×V)) (keep:List Nat) (g:α->List (Nat×List V)) (kb:List Nat) (S:α->St) (J:α->Prop) (U:α->Nat) (x0:α) (h0:J x0)
 (he:(env.yG (f x0) keep (g x0) kb).C3 env) (hs:St.le (S x0) st)
 (hb:∀x,J x->ih (Bz (λenv' st'=>∃y,J y/\U y<U x/\(env.yG (f y) keep (g y) kb).C3 env'/\St.le (S y) st') Q) (env.yG (f x) keep (g x) kb) (S x)):
 ∃(α:Type) (E:α->Env) (S:α->St) (J:α->Prop) (U:α->Nat) (x0:α),J x0/\(E x0).C3 env/\St.le (S x0) st/\
  ∀x,J x->ih (Bz (λenv' st'=>∃y,J y/\U y<U x/\(E y).C3 env'/\St.le (S y) st') Q) (E x) (S x):=
 ⟨α,λk=>env.yG (f k) keep (g k) kb,S,J,U,x0,h0,he,hs,hb⟩
theorem Zp {T:List (Nat×Ty)} {C:FuncId->List V->St->(AD->St->Prop)->Prop} {w:CW} {U:Nat->Option CW} {st:St}
 (h:w (dU (λl env' st'=>∃y:Nat,y=l/\False/\env.C3 env'/\St.le st st') Q) env st):QZ w U Q env st:=
 ⟨Nat,λy=>y,λ_=>env,λ_=>st,λ_=>False,λ_=>0,h,λx e=>e.elim⟩
end Go.Aw
namespace Go.Proofs.Z
open Go Go.Aw
def KX:Nat->Af->Tk×Af×Int
 |0,s=>IM s
 |n+1,s=>match s.AR[s.pos.toNat]? with
  |none=>IM s
  |some t=>if t.kind=16/\s.wait<2 then ((Kj t s).1,(Kj t s).2,0)
   else if t.kind=16\/t.kind=17 then
    if (EK t s).1.kind=0 then KX n (EK t s).2 else ((EK t s).1,(EK t s).2,0)
   else H4 t s
def Il (s:Af):Tk×Af×Int:=KX (s.AR.length - s.pos.toNat) s
def Aa (s:Af):Tk×Af×Int:=if Mx s then Il s else (oW,FH,1)
theorem GW {t:Tk} {s:Af} (h:(EK t s).1.kind=0):(EK t s).2={s with pos:=s.pos+1,wait:=0}:=by
 unfold EK at h |-
 split
 .rename_i e;rw [if_pos e] at h;exact absurd h (by simp [Qv])
 grind
theorem Ud {s:Af} (h:¬s.pos<s.AR.length) (U:0<=s.pos):Il s=IM s:=by
 have:s.AR.length - s.pos.toNat=0:=H1
 rw [Il,this,KX]
theorem Hs {s:Af} {t:Tk} (h:s.AR[s.pos.toNat]? =some t) (h0:0<=s.pos):Il s=if t.kind=16/\s.wait<2 then ((Kj t s).1,(Kj t s).2,0)
 else if t.kind=16\/t.kind=17 then
  if (EK t s).1.kind=0 then Il (EK t s).2 else ((EK t s).1,(EK t s).2,0)
 else H4 t s:=by
 obtain ⟨U,_⟩:=List.getElem?_eq_some_iff.1 h
 obtain ⟨n,hn⟩:∃n,s.AR.length - s.pos.toNat=n+1:=⟨s.AR.length - s.pos.toNat - 1,H1⟩
 rw [Il,hn,KX,h]
 dsimp only
 split
 .rfl
 .split
  .split
   .rename_i e
    rw [Il,GW e]
    grind
   .rfl
  .rfl
section
variable {st:St} {R:AD->St->Prop}
attribute [local irreducible] Go.Aw.Ai
theorem rT {s:Af} (hb:s.Cf.length<=500000000) (h:R (.ret (RQ (Aa s))) st):PC 209 [Am s] st R:=by
 refine pB Tryz.func209 ?_
 conv=>whnf
 refine Zp (T:=xh) (C:=Bp Tryz.prog) ?_
 unfold Aa at h
 repeat' ((conv=>whnf);first|exact B1|(refine Bc ?_;intros)|(refine B2 ?_ ?_ ?_;rotate_left)|(refine CD ?_ ?_<;>intro _)|refine Yv (s:=s) ?_|refine Ad 5 [2,3] [1,2] ?_|refine Ad 5 [2,3] [1,2] ?_|fail)
 .rename_i e
  rw [e] at h
  have hm:=e
  unfold Mx at hm
  simp only [Bool.and_eq_true,decide_eq_true_eq] at hm
  refine Gr (α:=Af) (λx=>[]) [1,2,3,4] (λx=>[(0,x.cells)]) [1,2] (λ_=>st) (λx=>x.AR=s.AR/\x.Cf=s.Cf/\0<=x.pos/\x.pos<=x.AR.length/\Il x=Il s) (λx=>x.AR.length - x.pos.toNat) s ⟨rfl,rfl,H1,H1,rfl⟩ Yl (St.le_refl _) ?_
  rintro x ⟨x1,x2,x3,x4,x5⟩
  rw [<-x5] at h
  have U:x.Cf.length<=500000000:=by rw [x2];exact hb
  repeat' ((conv=>whnf);first|exact B1|(refine Bc ?_;intros)|(refine B2 ?_ ?_ ?_;rotate_left)|(refine CD ?_ ?_<;>intro _)|refine qk (s:=x) ⟨H1,H1⟩ U ?_|refine vL (s:=x) ⟨H1,H1⟩ U ?_|refine qq (s:=x) ⟨H1,H1⟩ U ?_|refine vf (s:=x) U ?_|refine Ad 5 [2,3] [1,2] ?_|refine Ad 5 [2,3] [1,2] ?_|fail)
  all_goals rw [if_pos rfl] at h
  all_goals first
   |(rw [Hs ‹_› x3,if_pos H1] at h;exact AU rfl h)
   |(rw [Hs ‹_› x3,if_neg H1,if_pos H1,if_neg H1] at h;exact AU rfl h)
   |(rw [Hs ‹_› x3,if_neg H1,if_neg H1] at h;exact AU rfl h)
   |(rw [Ud H1 x3] at h;exact AU rfl h)
   |(have hz:(EK ‹Tk› x).1.kind=0:=by assumption
     refine ⟨(EK ‹Tk› x).2,?_,?_,Yl,St.le_refl _⟩
     .rw [GW hz]
      refine ⟨x1,x2,by show 0<=x.pos+1;omega,by show x.pos+1<=x.AR.length;omega,?_⟩
      rw [<-x5,Hs (s:=x) ‹_› x3,if_neg H1,if_pos H1,if_pos hz,GW hz]
     .rw [GW hz]
      show x.AR.length - (x.pos+1).toNat<_
      omega)
  all_goals trace_state
 .rename_i e
  rw [e] at h
  exact AU rfl h
end
section
variable {st:St} {R:AD->St->Prop}
attribute [local irreducible] Go.Aw.Ai
theorem SV {s:Af} (h:R (.ret (.int .i64 (Hy s))) st):PC 145 [Am s] st R:=by
 refine pB Tryz.func145 ?_
 repeat' ((conv=>whnf);first|(refine Bc ?_;intros)|(refine CD ?_ ?_<;>intro _)|fail)
 .rename_i e
  exact fin h (by rw [ZS H1])
 .exact fin h (by rw [UG ‹_›])
theorem yP {k:Int} {t:Tk} (h:R (.ret (DP (Qv k t))) st):PC 147 [.int .i64 k,DP t] st R:=by
 refine pB Tryz.func147 ?_
 repeat' ((conv=>whnf);first|  fail)
 all_goals exact fin h rfl
theorem wi {s:Af} {c:Int} (hb:s.Cf.length<=500000000) (h:R (.ret (Am (Mc s c))) st):PC 146 [Am s,.int .i64 c] st R:=by
 refine pB Tryz.func146 ?_
 have U:([]:List Int).length+s.Cf.length<=1000000000:=by simp only [List.length_nil];omega
 have hb2:s.Cf.length+[c].length<=1000000000:=by simp only [List.length_singleton];omega
 repeat' ((conv=>whnf);first|  refine Jy (l:=[]) (own:=.full) trivial U (λown ho=>?_)|refine Jy (l:=[]++s.Cf) (new:=[c]) ho hb2 (λown' ho'=>?_))
 all_goals exact CS (Ay.Bj ho') rfl h
theorem ns {s:Af} (h0:s.Cf≠[]) (hb:s.Cf.length<=500000000) (h:R (.ret (Am (E5 s))) st):PC 148 [Am s] st R:=by
 refine pB Tryz.func148 ?_
 have hl:0<s.Cf.length:=List.length_pos_iff.2 h0
 have hd:(s.Cf.take (((s.Cf.length:Int) - 1).toNat)).drop (0:Int).toNat=s.Cf.dropLast:=by
  rw [show (0:Int).toNat=0 from rfl,List.drop_zero,List.dropLast_eq_take]
  congr 1
  omega
 have U:([]:List Int).length+s.Cf.dropLast.length<=1000000000:=by rw [List.length_dropLast,List.length_nil];omega
 repeat' ((conv=>whnf);first|(refine Bc ?_;intros)|refine aG hd (l:=[]) (own:=.full) trivial U (λown ho=>?_))
 all_goals exact CS (Ay.Bj ho) rfl h
def ie (l:List Int):Bool:=l.any λx=>decide (x<0)
theorem ig {x:Int} {r:List Int}:ie (x::r)=(decide (x<0)||ie r):=rfl
theorem Oo {s:Af} (h:R (.ret (.bool (Mx s))) st):PC 144 [Am s] st R:=by
 refine pB Tryz.func144 ?_
 have U:(s.pos<0\/(s.AR.length:Int)<s.pos\/s.wait<0\/2<s.wait\/0<s.wait/\(s.pos=s.AR.length\/∃t,s.AR[s.pos.toNat]? =some t/\¬t.kind=16))->Mx s=false:=by
  intro e
  unfold Mx
  rcases e with e|e|e|e|⟨e1,e|⟨t,e2,e3⟩⟩
  .rw [show decide (0<=s.pos)=false from decide_eq_false H1];simp only [Bool.false_and]
  .rw [show decide (s.pos<=s.AR.length)=false from decide_eq_false H1];simp only [Bool.false_and,Bool.and_false]
  .rw [show decide (0<=s.wait)=false from decide_eq_false H1];simp only [Bool.false_and,Bool.and_false]
  .rw [show decide (s.wait<=2)=false from decide_eq_false H1];simp only [Bool.false_and,Bool.and_false]
  .have hn:s.AR[s.pos.toNat]? =none:=List.getElem?_eq_none H1
   rw [hn,show decide (s.wait<=0)=false from decide_eq_false H1];simp only [Bool.false_and,Bool.and_false,Bool.or_false]
  .rw [e2,show decide (s.wait<=0)=false from decide_eq_false H1];simp [e3]
 have B5:¬s.pos<0->¬(s.AR.length:Int)<s.pos->¬s.wait<0->¬2<s.wait->(¬0<s.wait\/∃t,s.AR[s.pos.toNat]? =some t/\t.kind=16)->Mx s= !ie s.Cf:=by
  intro a b c d e
  unfold Mx ie
  rw [show decide (0<=s.pos)=true from decide_eq_true H1,show decide (s.pos<=s.AR.length)=true from decide_eq_true H1,show decide (0<=s.wait)=true from decide_eq_true H1,show decide (s.wait<=2)=true from decide_eq_true H1]
  rcases e with e|⟨t,e1,e2⟩
  .rw [show decide (s.wait<=0)=true from decide_eq_true H1];simp only [Bool.true_and,Bool.true_or]
  .rw [e1];simp [e2]
 repeat' ((conv=>whnf);first|(refine Bc ?_;intros)|(refine CD ?_ ?_<;>intro _)|fail)
 all_goals conv=>whnf
 all_goals try (refine An h (U ?_))
 all_goals try omega
 all_goals try (exact .inr (.inr (.inr (.inr ⟨Nm,.inr ⟨_,Nm,Nm⟩⟩))))
 all_goals try (refine L9 3 [1] [0] s.Cf.length (λk=>k<=s.Cf.length/\ie s.Cf=ie (s.Cf.drop k)) ⟨Nat.zero_le _,rfl⟩ Yl ?_;rintro k ⟨hk,hi⟩)
 all_goals have hm:=B5 ‹_› ‹_› ‹_› ‹_› (by first|exact .inl ‹_›|exact .inr ⟨_,Nm,Nm⟩)
 all_goals rw [hm] at h
 repeat' ((conv=>whnf);first|(refine Bc ?_;intros)|(refine CD ?_ ?_<;>intro _)|fail)
 all_goals conv=>whnf
 all_goals try (have e:=XK ‹s.Cf[Int.toNat k]? =some _›;rw [Int.toNat_natCast] at e;rw [e,ig] at hi;clear e)
 all_goals first
  |(refine ⟨k+1,⟨H1,?_⟩,H1,Yl,St.le_refl _⟩;clear h;simp_all;done)
  |(refine An h ?_;rw [hi];clear h;simp_all;done)
  |(refine An h ?_;rw [hi,show decide (_<0)=true from decide_eq_true ‹_›];rfl)
  |(refine An h ?_;rw [hi,List.drop_eq_nil_of_le H1];rfl)
 all_goals trace_state
end
theorem ZT {s:Af} (h:(s.Cf.any λx=>decide (x<0))=false):0<=Hy s:=by
 unfold Hy
 cases U:s.Cf.getLast? with
 |none=>exact Int.le_refl _
 |some x=>
  have hx:=List.mem_of_getLast? U
  simp only [List.any_eq_false,decide_eq_true_eq] at h
  have:=h x hx
  show 0<=x
  omega
section
variable {st:St} {R:AD->St->Prop}
attribute [local irreducible] Go.Aw.Ai
theorem LG {s:Af} (hb:s.Cf.length<=500000000) (h:R (.ret (RQ (Aa s))) st):PC 76 [Am s] st R:=by
 refine pB Tryz.func76 ?_
 unfold Aa at h
 repeat' ((conv=>whnf);first|exact B1|(refine Bc ?_;intros)|(refine B2 ?_ ?_ ?_;rotate_left)|(refine CD ?_ ?_<;>intro _)|refine Oo (s:=s) ?_|refine Ad 5 [3] [] ?_|refine Az [1,5,2,6,8,11] [1,2] ?_|refine Az [1,5,2,6,8,11] [1,2] ?_|refine Az [1,5,2,6,8,10,13] [1,2] ?_|refine Az [1,5,2,6,8,11] [1,2] ?_|refine Ad 5 [2,3] [1,2] ?_|refine Ad 5 [2,3] [1,2] ?_|refine Ad 5 [2,3] [1,2] ?_|refine Ad 5 [2,3] [1,2] ?_|fail)
 .rename_i e
  rw [e,if_pos rfl] at h
  have hm:=e
  unfold Mx at hm
  simp only [Bool.and_eq_true,decide_eq_true_eq] at hm
  refine Gr (α:=Af) (λx=>[]) [1,2,3,4] (λx=>[(0,x.cells)]) [1,2] (λ_=>st) (λx=>x.AR=s.AR/\x.Cf=s.Cf/\0<=x.pos/\x.pos<=x.AR.length/\0<=x.wait/\x.wait<=2/\Il x=Il s) (λx=>x.AR.length - x.pos.toNat) s ⟨rfl,rfl,H1,H1,H1,H1,rfl⟩ Yl (St.le_refl _) ?_
  rintro x ⟨x1,x2,x3,x4,x6,x7,x5⟩
  rw [<-x5] at h
  have U:x.Cf.length<=500000000:=by rw [x2];exact hb
  have ht:0<=Hy x:=ZT (by rw [x2];simpa using hm.2)
  repeat' ((conv=>whnf);first|exact B1|(refine Bc ?_;intros)|(refine B2 ?_ ?_ ?_;rotate_left)|(refine CD ?_ ?_<;>intro _)|refine yP ?_|refine SV (s:=x) ?_|refine wi (s:=x) U ?_|refine ns (s:=x) (E9 ‹_›) U ?_|refine ns (s:=x) (Px H1) U ?_|refine Wq (a:=x.pos+1) H1 H1 ?_|refine Ad 5 [3] [] ?_|refine Az [1,5,2,6,8,11] [1,2] ?_|refine Az [1,5,2,6,8,11] [1,2] ?_|refine Az [1,5,2,6,8,10,13] [1,2] ?_|refine Az [1,5,2,6,8,11] [1,2] ?_|refine Ad 5 [2,3] [1,2] ?_|refine Ad 5 [2,3] [1,2] ?_|refine Ad 5 [2,3] [1,2] ?_|refine Ad 5 [2,3] [1,2] ?_|fail)
  all_goals first
   |(rw [Hs ‹_› x3,if_pos H1] at h
     unfold Kj at h
     first
      |(rw [if_pos H1] at h;exact AU rfl h)
      |(rw [if_neg H1,if_pos H1] at h;exact AU rfl h)
      |(rw [if_neg H1,if_neg H1] at h;exact AU rfl h))
   |(have hz:(EK ‹Tk› x).1.kind=0:=by
      unfold EK
      rw [if_neg H1,if_neg H1];rfl
     refine ⟨{x with pos:=x.pos+1,wait:=0},?_,?_,Yl,St.le_refl _⟩
     .refine ⟨x1,x2,by show 0<=x.pos+1;omega,by show x.pos+1<=x.AR.length;omega,Int.le_refl _,by show (0:Int)<=2;decide,?_⟩
      rw [<-x5,Hs (s:=x) ‹_› x3,if_neg H1,if_pos H1,if_pos hz,GW hz]
     .show x.AR.length - (x.pos+1).toNat<_
      omega)
   |(rw [Hs ‹_› x3,if_neg H1,if_pos H1] at h
     first
      |(have key:EK ‹Tk› x=(Qv 20 ‹Tk›,E5 x):=by unfold EK;rw [if_pos H1]
        rw [key,if_neg (by simp [Qv])] at h;exact AU rfl h)
      |(have key:EK ‹Tk› x=(Qv 19 ‹Tk›,{x with pos:=x.pos+1,wait:=0}):=by unfold EK;rw [if_neg H1,if_pos H1]
        rw [key,if_neg (by simp [Qv])] at h;exact AU rfl h))
   |(rw [Hs ‹_› x3,if_neg H1,if_neg H1] at h
     unfold H4 at h
     first
      |(rw [if_pos ⟨Nm,Nm⟩] at h;exact AU rfl h)
      |(rw [if_neg (λe=>absurd e.2 (by rw [‹Tk.text _=[125]›];decide)),if_pos ⟨Nm,Nm⟩,if_pos (.inl (VU ‹_›))] at h;exact AU rfl h)
      |(rw [if_neg (λe=>absurd e.2 (by rw [‹Tk.text _=[125]›];decide)),if_pos ⟨Nm,Nm⟩,if_pos (.inr H1)] at h;exact AU rfl h)
      |(rw [if_neg (λe=>absurd e.2 (by rw [‹Tk.text _=[125]›];decide)),if_pos ⟨Nm,Nm⟩,if_neg (λe=>e.elim (E9 ‹_›) (λe=>e H1))] at h;exact AU rfl h)
      |(rw [if_neg (λe=>absurd e.1 ‹_›),if_neg (λe=>absurd e.1 ‹_›)] at h;exact AU rfl h)
      |(rw [if_neg (λe=>absurd e.2 ‹_›),if_neg (λe=>absurd e.2 ‹_›)] at h;exact AU rfl h))
   |(rw [Ud H1 x3] at h
     unfold IM at h
     first
      |(rw [if_pos (VU ‹_›)] at h;exact AU rfl h)
      |(rw [if_neg (E9 ‹_›),if_pos ‹_›] at h;exact AU rfl h)
      |(rw [if_neg (E9 ‹_›),if_neg ‹_›] at h;exact AU rfl h))
  all_goals trace_state
 .rename_i e
  rw [e] at h
  exact AU rfl h
end
end Go.Proofs.Z
namespace Go.Aw
theorem St.As (st:St) (b:Nat) (cs:List V):(st.Ab b cs).box b=some cs:=by simp [St.Ab]
theorem St.set_set (st:St) (b:Nat) (cs cs':List V):(st.Ab b cs).Ab b cs'=st.Ab b cs':=by
 simp only [St.Ab,St.mk.injEq,and_true]
 simp_all
theorem St.SY {st:St} {cs:List V} (h:st.box b=some cs):st.Ab b cs=st:=by
 cases st with
 |mk box hw=>
  simp only [St.Ab,St.mk.injEq,and_true]
  grind
theorem AK {st:St} {cs:List V} (h:st.box b=some cs) (k:K cs):∃cs,st.box b=some cs/\K cs:=⟨cs,h,k⟩
end Go.Aw
namespace Go.Proofs.Z
open Go Go.Aw
def Dy (s:Af):List V:=[.slice 4 (Bb s.AR) .any,.int .i64 s.pos,.slice 1 (ints s.Cf) .any,.int .i64 s.wait,
 .int .i64 (Aa s).1.kind,.str (Aa s).1.text,.int .i64 (Aa s).1.line,.int .i64 (Aa s).1.Da,
 .slice 4 (Bb (Aa s).2.1.AR) .any,.int .i64 (Aa s).2.1.pos,.slice 1 (ints (Aa s).2.1.Cf) .any,.int .i64 (Aa s).2.1.wait,.int .i64 (Aa s).2.2,.bool true]
def X7 (s:Af) (t:Tk) (u:Af) (o1 o2:Ay) (e:Int):List V:=[.slice 4 (Bb s.AR) .any,.int .i64 s.pos,.slice 1 (ints s.Cf) .any,.int .i64 s.wait,
 .int .i64 t.kind,.str t.text,.int .i64 t.line,.int .i64 t.Da,.slice 4 (Bb u.AR) o1,.int .i64 u.pos,.slice 1 (ints u.Cf) o2,.int .i64 u.wait,.int .i64 e,.bool false]
def Has (st:St) (b:Nat) (s:Af):Prop:=st.box b=some (Dy s)\/∃t u o1 o2 e,st.box b=some (X7 s t u o1 o2 e)
def II (st st':St) (b:Nat) (s:Af):Prop:=Has st' b s/\∃cs,st'=st.Ab b cs
theorem II.trans {st U st2:St} {s1 s2:Af} (h:II st U b s1) (k:II U st2 b s2):II st st2 b s2:=by
 obtain ⟨_,c1,e1⟩:=h
 obtain ⟨h2,c2,e2⟩:=k
 subst e1
 rw [St.set_set] at e2
 exact ⟨h2,c2,e2⟩
theorem Bf {st:St} {s:Af}:II st (st.Ab b (Dy s)) b s:=⟨.inl (St.As ..),_,rfl⟩
def fault (e:Int):V:=.iface 140 (.agg [.int .i64 e])
section
variable {st:St} {R:AD->St->Prop}
attribute [local irreducible] Go.Aw.Ai
theorem lT (e:r=r'.wk) (es:st'=st) (h:R r st):∃r2 U,(r2=r'\/r2=r'.wk)/\St.le U st'/\R r2 U:=by subst es;exact ⟨r,st',.inr e,St.le_refl _,h⟩
theorem mC {s:Af} (U:Has st b s) (hb:s.Cf.length<=500000000) (h:R (.ret (.Bl [])) (st.Ab b (Dy s))):PC 153 [.ptr b 0] st R:=by
 refine pB Tryz.func153 ?_
 rcases U with U|⟨t,u,o1,o2,e,U⟩
 .rw [St.SY U] at h
  repeat' ((conv=>whnf);first|  refine AK U ?_)
  all_goals exact fin h rfl
 .skip
  repeat' ((conv=>whnf);first|  refine AK U ?_|refine AK (St.As ..) ?_|refine rT (s:=s) hb ?_)
  all_goals exact lT rfl (by simp only [St.set_set];rfl) h
theorem HB {s:Af} (U:Has st b s) (hb:s.Cf.length<=500000000) (h:R (.ret (DP (Aa s).1)) (st.Ab b (Dy s))):PC 83 [.ptr b 0] st R:=by
 refine pB Tryz.func83 ?_
 repeat' ((conv=>whnf);first|  refine AK (St.As ..) ?_|refine mC U hb ?_)
 all_goals exact AU rfl h
theorem CL {v:V} {e:Int} (h:R (.Ci (fault e)) st):PC 73 [v,.int .i64 e] st R:=by
 refine pB Tryz.func73 ?_
 repeat' ((conv=>whnf);first|  fail)
 all_goals exact fin h rfl
def OO (s:Af):Int:=if (Aa s).2.2=0 then 110 else (Aa s).2.2
theorem kA {s:Af} (U:Has st b s) (hb:s.Cf.length<=500000000) (h:R (.Ci (fault (OO s))) (st.Ab b (Dy s))):PC 171 [.ptr b 0] st R:=by
 refine pB Tryz.func171 ?_
 unfold OO at h
 repeat' ((conv=>whnf);first|  (refine CD ?_ ?_<;>intro _)|refine AK (St.As ..) ?_|refine mC U hb ?_|refine CL ?_)
 all_goals first
  |(rw [if_pos ‹_›] at h;exact fin h rfl)
  |(rw [if_neg ‹_›] at h;exact fin h rfl)
theorem rf {s s':Af} (U:st.box b=some (Dy s)) (h:∀st',II st st' b s'->R (.ret (.Bl [])) st'):PC 72 [.ptr b 0,Am s'] st R:=by
 refine pB Tryz.func72 ?_
 have h:=h (st.Ab b (X7 s' (Aa s).1 (Aa s).2.1 .any .any (Aa s).2.2)) ⟨.inr ⟨_,_,_,_,_,St.As ..⟩,_,rfl⟩
 repeat' ((conv=>whnf);first|  refine AK U ?_|refine AK (St.As ..) ?_)
 all_goals exact lT rfl (by simp only [St.set_set];rfl) h
theorem q8 {s s':Af} {t:Tk} {u:Af} {o1 o2:Ay} {e:Int} (U:st.box b=some (X7 s t u o1 o2 e)) (h:∀st',II st st' b s'->R (.ret (.Bl [])) st'):PC 72 [.ptr b 0,Am s'] st R:=by
 refine pB Tryz.func72 ?_
 have h:=h (st.Ab b (X7 s' t u o1 o2 e)) ⟨.inr ⟨_,_,_,_,_,St.As ..⟩,_,rfl⟩
 repeat' ((conv=>whnf);first|  refine AK U ?_|refine AK (St.As ..) ?_)
 all_goals exact lT rfl (by simp only [St.set_set];rfl) h
theorem q7 {s s':Af} (U:Has st b s) (h:∀st',II st st' b s'->R (.ret (.Bl [])) st'):PC 72 [.ptr b 0,Am s'] st R:=by
 rcases U with U|⟨t,u,o1,o2,e,U⟩
 .exact rf U h
 .exact q8 U h
theorem WS {s:Af} (U:Has st b s) (hb:s.Cf.length<=500000000) (h:(Aa s).2.2=0->∀st',II st st' b (Aa s).2.1->R (.ret (DP (Aa s).1)) st')
 (k:¬(Aa s).2.2=0->R (.Ci (fault (Aa s).2.2)) (st.Ab b (Dy s))):PC 139 [.ptr b 0] st R:=by
 refine pB Tryz.func139 ?_
 repeat' ((conv=>whnf);first|  (refine CD ?_ ?_<;>intro _)|refine AK (St.As ..) ?_|refine HB U hb ?_|refine CL ?_|refine q7 (s':=(Aa s).2.1) (.inl (St.As st b (Dy s))) (λst' hu=>?_))
 .exact AU rfl (h H1 st' (Bf.trans hu))
 .exact fin (k H1) rfl
def AJ (t:Tk):Nd:=.mk 1 t.kind t.text t.line t.Da []
theorem vI {t:Tk} (h:R (.ret (enc (AJ t))) st):PC 195 [DP t] st R:=by
 refine pB Tryz.func195 ?_
 repeat' ((conv=>whnf);first|  fail)
 all_goals exact AU rfl h
def AP (s:Af) (k:Int) (x:List UInt8):Bool:=(Aa s).1.kind==k&&(Aa s).1.text==x
theorem bC {s:Af} {k:Int} (U:Has st b s) (hb:s.Cf.length<=500000000) (h:R (.ret (.bool (AP s k x))) (st.Ab b (Dy s))):PC 156 [.ptr b 0,.int .i64 k,.str x] st R:=by
 refine pB Tryz.func156 ?_
 repeat' ((conv=>whnf);first|  (refine CD ?_ ?_<;>intro _)|refine HB U hb ?_)
 all_goals (refine An h ?_;clear h;simp_all [AP])
theorem Nu {s:Af} (U:Has st b s) (hb:s.Cf.length<=500000000) (h:(Aa s).2.2=0->∀st',II st st' b (Aa s).2.1->R (.ret (enc (AJ (Aa s).1))) st')
 (k:¬(Aa s).2.2=0->R (.Ci (fault (Aa s).2.2)) (st.Ab b (Dy s))):PC 121 [.ptr b 0] st R:=by
 refine pB Tryz.func121 ?_
 repeat' ((conv=>whnf);first|  refine WS U hb (λe st' hu=>?_) (λe=>?_)|refine vI (t:=(Aa s).1) ?_)
 .exact AU rfl (h e st' hu)
 .exact fin (k e) rfl
theorem pz {s:Af} {k:Int} (hs:Has st b s) (hb:s.Cf.length<=500000000) (h:AP s k x=true->(Aa s).2.2=0->∀st',II st st' b (Aa s).2.1->R (.ret (enc (AJ (Aa s).1))) st')
 (k1:AP s k x=true->¬(Aa s).2.2=0->R (.Ci (fault (Aa s).2.2)) (st.Ab b (Dy s))) (k2:AP s k x=false->R (.Ci (fault (OO s))) (st.Ab b (Dy s))):PC 118 [.ptr b 0,.int .i64 k,.str x] st R:=by
 refine pB Tryz.func118 ?_
 have U:Has (st.Ab b (Dy s)) b s:=.inl (St.As ..)
 repeat' ((conv=>whnf);first|  (refine CD ?_ ?_<;>intro _)|refine bC hs hb ?_|refine Nu U hb (λe st' hu=>?_) (λe=>?_)|refine kA U hb ?_)
 .exact AU rfl (h H1 e st' (Bf.trans hu))
 .exact lT rfl (by rw [St.set_set]) (k1 H1 e)
 .exact lT rfl (by rw [St.set_set]) (k2 H1)
def XR (n:Nd) (s:Af) (e:Int):V:=.Bl [enc n,Am s,.int .i64 e]
theorem bw {s s':Af} {n:Nd} {e d:Int} (hf:∀(st:St) (R:AD->St->Prop),R (.ret (XR n s' e)) st->PC f [Am s,.int .i64 d] st R) (U:Has st b s)
 (h:e=0->∀st',II st st' b s'->R (.ret (enc n)) st') (k:¬e=0->∀st',II st st' b s'->R (.Ci (fault e)) st'):PC 84 [.ptr b 0,.func f [] [],.int .i64 d] st R:=by
 refine pB Tryz.func84 ?_
 rcases U with U|⟨t,u,o1,o2,e',U⟩
 .skip
  repeat' ((conv=>whnf);first|  (refine CD ?_ ?_<;>intro _)|refine AK U ?_|refine hf _ _ ?_|refine CL ?_|refine q7 (s':=s') (.inl U) (λst' hu=>?_))
  .exact AU rfl (h H1 st' hu)
  .exact fin (k H1 st' hu) rfl
 .skip
  repeat' ((conv=>whnf);first|  (refine CD ?_ ?_<;>intro _)|refine AK U ?_|refine hf _ _ ?_|refine CL ?_|refine q7 (s':=s') (.inr ⟨t,u,o1,o2,e',U⟩) (λst' hu=>?_))
  .exact AU rfl (h H1 st' hu)
  .exact fin (k H1 st' hu) rfl
end
end Go.Proofs.Z
namespace Go.Aw
open Go
section
variable {P:Program}
theorem Ah {x y:Code} {st:St} (h:AW P x (Bz (λenv st=>AW P y Q env st) Q) env st):AW P (.seq x y) Q env st:=λD I0 st0 w0 I β a w hr=>by
 refine wp_seq (wp_mono (h D I0 st0 w0 I β a w hr) ?_)
 rintro e a w ⟨I,β,env,st,ae,h1,U,h3⟩
 cases ae with
 |normal=>cases e<;>first|exact h3 D I0 st0 w0 I β a w h1|exact U.elim
 |exit i=>cases e<;>first|exact ⟨I,β,env,st,.exit i,h1,U,h3⟩|exact U.elim
 |goto i=>cases e<;>first|exact ⟨I,β,env,st,.goto i,h1,U,h3⟩|exact U.elim
 |ret=>cases e<;>first|exact ⟨I,β,env,st,.ret,h1,U,h3⟩|exact U.elim
 |Ci v=>cases e<;>first|exact ⟨I,β,env,st,.Ci v,h1,U,h3⟩|exact U.elim
theorem Aj (U:TK P T) {c:Code} {st:St} (h:Qx T (Bp P) c Q env st):AW P c Q env st:=
 ON U (BX P) (λ_ _ _ _ _ h k=>k.mono h) c h
def Ends (R:AD->St->Prop) (r:AD) (st:St):Prop:=∃r2 U,(r2=r\/r2=r.wk)/\St.le U st/\R r2 U
theorem Bp.ends {st:St} (h:Bp P f args st (Ends R)):Bp P f args st R:=by
 refine ⟨λI w U hs ha=>(h.a I w U hs ha).mono ?_,h.b⟩
 rintro e w' ⟨I',st',r,k1,k2,k3,r2,st2,k4,k5,k6⟩
 have hr:Rel [] I st w I' (λ_=>none) {tmps:=[],boxes:=[],BS:=0,sz:=0,gl:=[]} st' {tmps:=#[],defers:=[]} w':=
  ⟨k1,k2,⟨rfl,λt v e=>(by cases e),λid cs e=>(by cases e),λid b e=>(by cases e),λi j b e=>(by cases e),λid b e=>(by cases e),rfl⟩⟩
 have hr':=hr.Iw k5
 refine ⟨I',st2,r2,hr'.fr,hr'.s,?_,k6⟩
 rcases k4 with rfl|rfl
 .exact k3
 .cases e with
  |returned c=>
   cases r with
   |ret v=>exact A0.wk k3
   |Ci v=>exact k3.elim
  |panicked chain=>
   cases r with
   |ret v=>exact k3.elim
   |Ci v=>
    obtain ⟨c,h1,h2⟩:=k3
    exact ⟨c,h1,A0.wk h2⟩
  |outgrown=>cases r<;>exact k3.elim
end
end Go.Aw
