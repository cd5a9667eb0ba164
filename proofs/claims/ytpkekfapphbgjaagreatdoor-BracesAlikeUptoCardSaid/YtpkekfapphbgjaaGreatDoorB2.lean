/-
  Parts of a proof: lemmas that the last text uses.
-/
import Derived.Test.YtpkekfapphbgjaaGreatDoorB1
import Derived.KernelRfl
import Derived.Test.YtpkekfapphbgjaaGreatDoorProg
import Derived.Test.YtpkekfapphbgjaaGreatDoorRows
import Derived.WalkKit
import Derived.ProofKit
import Derived.OpenShut
import Derived.JoinedCond
import Derived.ReadAgain
import Derived.Test.YtpkekfapphbgjaaGreatDoorCards
import Derived.Test.YtpkekfapphbgjaaGreatDoorOtie
import Derived.Lib.LaidIn
import Derived.Lib.LaidU8T
import Derived.Lib.LaidTab
import Derived.Shelf.Vars
import Derived.Deep.DeepHandedRow
import Derived.Deep.DeepWitnessRowRef
import Derived.IntWalk
import Derived.Recover
open Go.Proofs.YtpkekfapphbgjaaGreatDoor
set_option linter.unusedVariables false
set_option linter.unusedSimpArgs false
set_option maxHeartbeats 16000000
variable {x i:Int} {Q:Go.Aw.AD->Go.Aw.Env->Go.Aw.St->Prop} {env:Go.Aw.Env} {c p A:Prop} {P:Go.Program} {f g:Go.FuncId} {args vs:List Go.Aw.V} {R:Go.Aw.At->Go.Aw.St->Prop} {U:List (Nat×Nat)} {I0 I:Go.Aw.Mem} {st0 st':Go.Aw.St} {w0 W:Go.World} {β:Nat->Option Nat} {K:List Go.Aw.V->Prop} {fn:Go.Func} {t e:Go.TypeId} {n base m k rid:Nat} {b:Bool} {cs:List Go.Value} {α:Type} {l kinds:List Int} {es:List (List Go.Aw.V)} {T:List (Nat×Go.Aw.Ty)} {C:Go.FuncId->List Go.Aw.V->Go.Aw.St->(Go.Aw.At->Go.Aw.St->Prop)->Prop} {all:List Go.Oper} {o s:List UInt8} {b1:List (Nat×List Go.Aw.V)} {ih:(Go.Aw.AD->Go.Aw.Env->Go.Aw.St->Prop)->Go.Aw.Env->Go.Aw.St->Prop} {r r':Go.Aw.At} {rest:Go.Code}
namespace Go.Aw
open Go
section
variable {D:List Deferred} {P:Program} {T:List (Nat×Ty)} {C:FuncId->List V->St->(At->St->Prop)->Prop} {I0 I:Mem} {st0 st:St} {w0 w:World} {β:Nat->Option Nat} {env:Env} {a:Act}
variable {o:Oper} {K:V->Env->St->Prop} {Q:AD->Env->St->Prop} {next:Act->World->Prop} {Qc:Exit->Act->World->Prop}
theorem eT {x y:Code} {st:St} (h:AW P x (BF (OM T C y Q) Q) env st) (k:∀env st,OM T C y Q env st->AW P y Q env st):AW P (.seq x y) Q env st:=λD I0 st0 w0 I β a w hr=>by
 refine wp_seq (wp_mono (h D I0 st0 w0 I β a w hr) ?_)
 rintro e a w ⟨I,β,env,st,ae,h1,U,h3⟩
 cases ae with
 |normal=>cases e<;>first|exact k env st h3 D I0 st0 w0 I β a w h1|exact U.elim
 |exit i=>cases e<;>first|exact ⟨I,β,env,st,.exit i,h1,U,h3⟩|exact U.elim
 |goto i=>cases e<;>first|exact ⟨I,β,env,st,.goto i,h1,U,h3⟩|exact U.elim
 |ret=>cases e<;>first|exact ⟨I,β,env,st,.ret,h1,U,h3⟩|exact U.elim
 |BK v=>cases e<;>first|exact ⟨I,β,env,st,.BK v,h1,U,h3⟩|exact U.elim
def BH (P:Program) (T:List (Nat×Ty)) (C:FuncId->List V->St->(At->St->Prop)->Prop) (c:Code):Prop:=
 ∀l f,(LA T C c).2 l=some f->∃rest,findLabel c l=some rest/\∀Q env st,f Q env st->AW P rest Q env st
theorem BH.none {c:Code} (h:∀l,(LA T C c).2 l=none):BH P T C c:=λl f e=>by simp_all
theorem Qe (c:Code) (l:Nat) (h:(LA T C c).2 l=none):findLabel c l=none:=by
 induction c with
 |seq x y ihx ihy=>
  have e:sj ((LA T C x).2 l) (LA T C y).1 ((LA T C y).2 l)=none:=h
  cases U:(LA T C x).2 l with
  |some g=>rw [U] at e;cases e
  |none=>
   rw [U] at e
   simp [findLabel,ihx U,ihy e]
 |label l0=>
  have e:(bif Nat.beq l0 l then some λ(Q:AD->Env->St->Prop) env st=>Q .normal env st else none)=none:=h
  cases hb:Nat.beq l0 l with
  |true=>simp_all
  |false=>
   have:¬l0=l:=λx=>by simp_all
   simp [findLabel,this]
 |_=>simp [findLabel]
theorem Dy (hT:Gc P T) (hm:P.follows .mixedOrders=true) (hC:∀f args st R,C f args st R->C0 P f args st R/\Plain P f) (hM:∀f args st (R R':At->St->Prop),(∀r s,R r s->R' r s)->C f args st R->C f args st R'):∀(c:Code),(∀{Q:AD->Env->St->Prop} {env:Env} {st:St},OM T C c Q env st->AW P c Q env st)/\BH P T C c
 | .skip=>⟨λ{Q env st} k=>λD I0 st0 w0 I β a w h=>wp_skip ⟨I,β,env,st,.normal,h,trivial,k⟩,BH.none λ_=>rfl⟩
 | .region id ops true=>⟨λ{Q env st} k=>λD I0 st0 w0 I β a w h=>wp_region_any hm (by
    obtain ⟨sched,L,k1,k2⟩:=(show ∃(sched:List (Nat×Bool)) (L:List Nat),Ft sched ops.toList=true/\DC T C ops.toList sched L (Ba (L.map some) env.boxes) Q sched env st from k)
    have:=Sv hT hC hM k1 k2 h
    omega),BH.none λ_=>rfl⟩
 | .region id ops false=>⟨λ{Q env st} k=>λD I0 st0 w0 I β a w h=>wp_region_list (by
    have:=CG hT hC h (show Fu T C ops.toList Q ops.toList env st from k)
    omega),BH.none λ_=>rfl⟩
 | .seq x y=>⟨λ{Q env st} k=>eT ((Dy hT hm hC hM x).1 (show OM T C x _ env st from k)) λenv st=>(Dy hT hm hC hM y).1,λl f e=>by
    have e:sj ((LA T C x).2 l) (LA T C y).1 ((LA T C y).2 l)=some f:=e
    have hx:=(Dy hT hm hC hM x).2 l
    have hy:=(Dy hT hm hC hM y).2 l
    cases hl:(LA T C x).2 l with
    |none=>
     rw [hl] at e
     obtain ⟨rest,h1,U⟩:=hy f e
     have hn:=Qe x l hl
     exact ⟨rest,by simp [findLabel,hn,h1],U⟩
    |some g=>
     rw [hl] at e
     cases e
     obtain ⟨rest,h1,U⟩:=hx g hl
     exact ⟨.seq rest y,by simp [findLabel,h1],λQ env st k=>eT (U _ env st k) λenv st=>(Dy hT hm hC hM y).1⟩⟩
 | .cond c x y=>⟨λ{Q env st} k=>λD I0 st0 w0 I β a w h=>by
   have hc:=h.f.eval c
   have k:(match env.eval c with
    | .bool t=>lit t (OM T C x Q env st) (OM T C y Q env st)
    |_=>False):=k
   split at k
   .rename_i t he
    rw [he] at hc
    have hc:=G2 hc
    cases t with
    |true=>exact wp_cond_true hc ((Dy hT hm hC hM x).1 (show OM T C x Q env st from k) D I0 st0 w0 I β a w h)
    |false=>exact wp_cond_false hc ((Dy hT hm hC hM y).1 (show OM T C y Q env st from k) D I0 st0 w0 I β a w h)
   simp_all,BH.none λ_=>rfl⟩
 | .block id c=>⟨λ{Q env st} k=>λD I0 st0 w0 I β a w h=>by
   refine wp_block (wp_mono ((Dy hT hm hC hM c).1 (show OM T C c _ env st from k) D I0 st0 w0 I β a w h) ?_)
   rintro e a w ⟨I,β,env,st,ae,h1,U,h3⟩
   cases ae with
   |normal=>cases e<;>first|exact ⟨I,β,env,st,.normal,h1,trivial,h3⟩|exact U.elim
   |exit i=>
    cases e<;>try exact U.elim
    rename_i i'
    have U:i'=i:=U
    subst U
    simp only [KY] at h3
    show (if i'=id then Ci D I0 st0 w0 Q .normal a w else Ci D I0 st0 w0 Q (.exit i') a w)
    by_cases hi:i'=id
    .subst hi
     rw [if_pos rfl]
     simp only [Nat.beq_refl,cond_true] at h3
     exact ⟨I,β,env,st,.normal,h1,trivial,h3⟩
    .rw [if_neg hi]
     have:Nat.beq i' id=false:=by
      cases hb:Nat.beq i' id with
      |false=>rfl
      |true=>simp_all
     rw [this] at h3
     exact ⟨I,β,env,st,.exit i',h1,rfl,h3⟩
   |goto i=>cases e<;>first|exact ⟨I,β,env,st,.goto i,h1,U,h3⟩|exact U.elim
   |ret=>cases e<;>first|exact ⟨I,β,env,st,.ret,h1,U,h3⟩|exact U.elim
   |BK v=>cases e<;>first|exact ⟨I,β,env,st,.BK v,h1,U,h3⟩|exact U.elim,BH.none λ_=>rfl⟩
 | .loop c=>⟨λ{Q env st} k=>λD I0 st0 w0 I β a w h=>by
   obtain ⟨α,E,S,J,μ,x0,h0,he,hs,round⟩:=(show ∃(α:Type) (E:α->Env) (S:α->St) (J:α->Prop) (μ:α->Nat) (x0:α),J x0/\(E x0).Ek env/\St.le (S x0) st/\
    ∀x,J x->OM T C c (BF (λenv' st'=>∃y,J y/\μ y<μ x/\(E y).Ek env'/\St.le (S y) st') Q) (E x) (S x) from k)
   refine JW (λn a w=>∃I β x,Rel D I0 st0 w0 I β (E x) (S x) a w/\J x/\n=μ x) (n0:=μ x0) ⟨I,_,x0,(h.Gw hs).H0 (Env.Ie he),h0,rfl⟩ ?_
   rintro n a w ⟨I,β,x,h,hi,rfl⟩
   refine wp_mono ((Dy hT hm hC hM c).1 (round x hi) D I0 st0 w0 I β a w h) ?_
   rintro e a w ⟨I,β,env,st,ae,h1,U,h3⟩
   cases ae with
   |normal=>
    cases e<;>try exact U.elim
    obtain ⟨y,g1,g2,g3,g4⟩:=h3
    exact ⟨μ y,g2,I,_,y,(h1.Gw g4).H0 (Env.Ie g3),g1,rfl⟩
   |exit i=>cases e<;>first|exact ⟨I,β,env,st,.exit i,h1,U,h3⟩|exact U.elim
   |goto i=>cases e<;>first|exact ⟨I,β,env,st,.goto i,h1,U,h3⟩|exact U.elim
   |ret=>cases e<;>first|exact ⟨I,β,env,st,.ret,h1,U,h3⟩|exact U.elim
   |BK v=>cases e<;>first|exact ⟨I,β,env,st,.BK v,h1,U,h3⟩|exact U.elim,BH.none λ_=>rfl⟩
 | .exit id=>⟨λ{Q env st} k=>λD I0 st0 w0 I β a w h=>wp_exit ⟨I,β,env,st,.exit id,h,rfl,k⟩,BH.none λ_=>rfl⟩
 | .goto l=>⟨λ{Q env st} k=>λD I0 st0 w0 I β a w h=>wp_goto ⟨I,β,env,st,.goto l,h,rfl,k⟩,BH.none λ_=>rfl⟩
 | .label l0=>⟨λ{Q env st} k=>λD I0 st0 w0 I β a w h=>wp_label ⟨I,β,env,st,.normal,h,trivial,k⟩,λl f e=>by
    have e:(bif Nat.beq l0 l then some λ(Q:AD->Env->St->Prop) env st=>Q .normal env st else none)=some f:=e
    cases hb:Nat.beq l0 l with
    |false=>simp_all
    |true=>
     rw [hb] at e
     cases e
     have:=Nat.eq_of_beq_eq_true hb
     subst this
     exact ⟨.skip,by simp [findLabel],λQ env st k=>λD I0 st0 w0 I β a w h=>wp_skip ⟨I,β,env,st,.normal,h,trivial,k⟩⟩⟩
 | .ret=>⟨λ{Q env st} k=>λD I0 st0 w0 I β a w h=>wp_ret ⟨I,β,env,st,.ret,h,trivial,k⟩,BH.none λ_=>rfl⟩
 | .rangeFunc .. =>⟨λ{Q env st} k=>False.elim k,BH.none λ_=>rfl⟩
 | .scope c=>⟨λ{Q env st} k=>λD I0 st0 w0 I β a w h=>by
    obtain ⟨α,lab,E,S,J,μ,first,pass⟩:=(show O4 (LA T C c).1 (LA T C c).2 Q env st from k)
    refine UX (λl n a w=>∃I β x,Rel D I0 st0 w0 I β (E x) (S x) a w/\J x/\lab x=l/\n=μ x) ?_ ?_
    .refine wp_mono ((Dy hT hm hC hM c).1 first D I0 st0 w0 I β a w h) ?_
     rintro e a w ⟨I,β,env,st,ae,h1,U,h3⟩
     cases ae with
     |goto i=>
      cases e<;>try exact U.elim
      have U:_=i:=U
      subst U
      obtain ⟨y,g1,g2,g3,g4⟩:=h3
      exact ⟨μ y,I,_,y,(h1.Gw g4).H0 (Env.Ie g3),g2,g1,rfl⟩
     |normal=>cases e<;>first|exact ⟨I,β,env,st,.normal,h1,U,h3⟩|exact U.elim
     |exit i=>cases e<;>first|exact ⟨I,β,env,st,.exit i,h1,U,h3⟩|exact U.elim
     |ret=>cases e<;>first|exact ⟨I,β,env,st,.ret,h1,U,h3⟩|exact U.elim
     |BK v=>cases e<;>first|exact ⟨I,β,env,st,.BK v,h1,U,h3⟩|exact U.elim
    .rintro l n a w ⟨I,β,x,h,hi,rfl,rfl⟩
     obtain ⟨f,hf,hp⟩:=pass x hi
     obtain ⟨rest,hr,hs⟩:=(Dy hT hm hC hM c).2 _ f hf
     refine ⟨rest,hr,wp_mono (hs _ _ _ hp D I0 st0 w0 I β a w h) ?_⟩
     rintro e a w ⟨I,β,env,st,ae,h1,U,h3⟩
     cases ae with
     |goto i=>
      cases e<;>try exact U.elim
      have U:_=i:=U
      subst U
      obtain ⟨y,g1,g2,gm,g3,g4⟩:=h3
      exact ⟨μ y,gm,I,_,y,(h1.Gw g4).H0 (Env.Ie g3),g2,g1,rfl⟩
     |normal=>cases e<;>first|exact ⟨I,β,env,st,.normal,h1,U,h3⟩|exact U.elim
     |exit i=>cases e<;>first|exact ⟨I,β,env,st,.exit i,h1,U,h3⟩|exact U.elim
     |ret=>cases e<;>first|exact ⟨I,β,env,st,.ret,h1,U,h3⟩|exact U.elim
     |BK v=>cases e<;>first|exact ⟨I,β,env,st,.BK v,h1,U,h3⟩|exact U.elim,BH.none λ_=>rfl⟩
 | .refuse _=>⟨λ{Q env st} k=>False.elim k,BH.none λ_=>rfl⟩
structure MZ (P:Program) (T:List (Nat×Ty)):Prop where
 t:Gc P T
 m:P.follows .mixedOrders=true
theorem M6 (hP:MZ P T) (hC:∀f args st R,C f args st R->C0 P f args st R/\Plain P f) (hM:∀f args st (R U:At->St->Prop),(∀r s,R r s->U r s)->C f args st R->C f args st U) (c:Code) {st:St} (h:OM T C c Q env st):AW P c Q env st:=(Dy hP.t hP.m hC hM c).1 h
end
structure A0 (P:Program) (f:FuncId) (args:List V) (st:St) (R:At->St->Prop):Prop where
 a:C0 P f args st R
 b:Plain P f
theorem A0.mono {P:Program} {f:FuncId} {args:List V} {st:St} {R U:At->St->Prop} (h:A0 P f args st R) (k:∀r s,R r s->U r s):A0 P f args st U:=⟨h.a.mono k,h.b⟩
theorem A2 (P:Program):∀f args st R,A0 P f args st R->C0 P f args st R/\Plain P f:=λ_ _ _ _ h=>⟨h.a,h.b⟩
section
variable {D:List Deferred} {P:Program} {T:List (Nat×Ty)} {I:Mem} {st:St} {w:World}
theorem Pn:∀{l:List V} {k t:Nat} {v:V},assoc (Hg k l) t=some v->k<=t/\l[t - k]? =some v
 |[],k,t,v,h=>by cases h
 |u::r,k,t,v,h=>by
  rw [X8,Bf] at h
  cases hb:Nat.beq k t with
  |true=>
   simp_all
  |false=>
   rw [hb] at h
   obtain ⟨U,h2⟩:=Pn h
   grind
def Xe (tmps:Array Value):ResultVar->Sem Value
 | .tmp t=>pure (tmps.getD t undef)
 | .cell x t=>do loadVar t (<-asAddr (tmps.getD x undef))
theorem Ui (hT:Gc P T) {a:Act} (h:Rel D I0 st0 w0 I β env st a w) {x:ResultVar} {K:V->Prop} (k:Uh T env st x K):
 ∃v c,(Xe a.tmps x).run P w=.ok c w/\AH I v c/\K v:=by
 cases x with
 |tmp t=>
  have k:(env.get t).force λv=>Dx v.plain (K v):=k
  obtain ⟨hp,k⟩:=As.1 (V.AK.1 k)
  exact ⟨_,_,rfl,(h.f.get t).rep hp,k⟩
 |cell x t=>
  have hx:=h.f.get x
  have fin:∀{ad:Addr} {c:Value} {v:V},a.tmps.getD x undef=.pointer (some ad)->(loadVar t ad).run P w=.ok c w->AH I v c->K v->
   ∃v c,(Xe a.tmps (.cell x t)).run P w=.ok c w/\AH I v c/\K v:=by
   intro ad c v e1 e2 e3 k
   refine ⟨v,c,?_,e3,k⟩
   simp only [Xe,e1,asAddr,Sem.run_bind,Sem.run_pure,Result.andThen_ok,e2]
  simp only [Uh] at k
  split at k
  .rename_i id off he
   rw [he] at hx
   obtain ⟨b,hb,hx⟩:=G3 hx
   split at k
   .rename_i cs U
    obtain ⟨b',h1,h2⟩:=h.f.box id cs U
    rw [hb] at h1
    injection h1 with h1
    subst h1
    obtain ⟨vs,ty,h2,h3⟩:=h2.cells (KJ k)
    obtain ⟨v,c,g1,g2,g3⟩:=DW (b:=b) (o:=0) hT h3 (λj v e=>by simpa using Ib h2 e) k
    grind
   simp_all
  .rename_i b off he
   rw [he] at hx
   have hx:=MD hx
   obtain ⟨cs,U,k⟩:=k
   obtain ⟨vs,ty,h2,h3⟩:=h.s.box b cs U
   obtain ⟨v,c,g1,g2,g3⟩:=DW (b:=b) (o:=0) hT h3 (λj v e=>by simpa using Ib h2 e) k
   grind
  simp_all
theorem JB (U:Gc P T) {I0:Mem} {st0:St} {w0:World} {β:Nat->Option Nat} {env:Env} {a:Act} (h:Rel D I0 st0 w0 I β env st a w):∀{rs:List ResultVar} {K:List V->Prop},Es T env st rs K->
 ∃vs cs,Ao I vs cs/\K vs/\(rs.mapM (Xe a.tmps)).run P w=.ok cs w
 |[],K,k=>⟨[],[],H1,k,rfl⟩
 |x::r,K,k=>by
  rw [RW] at k
  obtain ⟨v,c,e1,e2,k⟩:=Ui (P:=P) U h k
  obtain ⟨vs,cs,h1,h2,h3⟩:=JB U h k
  refine ⟨v::vs,c::cs,by simp only [Ao];grind,h2,?_⟩
  simp_all
theorem B6 (hT:Gc P T) {a:Act} (h:Rel D I0 st0 w0 I β env st a w)
 (k:Es T env st fn.results.toList λvs=>match vs with|[v]=>R (.ret v) st|vs=>R (.ret (.Bj vs)) st):
 ∃v c,(results fn a.tmps).run P w=.ok c w/\AH I v c/\R (.ret v) st:=by
 obtain ⟨vs,cs,U,h2,h3⟩:=JB (P:=P) hT h k
 have hr:(results fn a.tmps).run P w=.ok (if hh:cs.toArray.size=1 then cs.toArray[0] else .tuple cs.toArray) w:=by
  have e:results fn a.tmps=(do let vs <-fn.results.mapM (Xe a.tmps);pure (if h:vs.size=1 then vs[0] else .tuple vs)):=by
   unfold results
   congr 1
  rw [e,Array.mapM_eq_mapM_toList]
  simp only [Sem.run_bind,Sem.run_map,h3,Result.andThen_ok,Sem.run_pure]
 have hl:=Ao.length U
 match vs,U,h2,hl with
 |[v],U,h2,hl=>
  simp only [Ao] at U
  grind
 |[],U,h2,hl=>
  have hs:¬(cs.toArray.size=1):=by simp at hl |-;omega
  rw [dif_neg hs] at hr
  exact ⟨_,_,hr,by simp only [AH];simp_all,h2⟩
 |x::y::z,U,h2,hl=>
  have hs:¬(cs.toArray.size=1):=by simp at hl |-;omega
  rw [dif_neg hs] at hr
  exact ⟨_,_,hr,by simp only [AH];simp_all,h2⟩
theorem QM {a:Act} (hs:B7 I st w) (U:a.tmps.size=env.sz) (h2:∀t v,assoc env.tmps t=some v->AH I v (a.tmps.getD t undef)) (h3:env.boxes=[]) (h4:a.defers=D):
 Rel D I st w I (λ_=>none) env st a w:=
 ⟨Fr.refl,hs,⟨U,λt v e=>AQ.of (h2 t v e),λid cs e=>(by rw [h3] at e;cases e),λid b e=>(by cases e),λi j b e=>(by cases e),λid b e=>(by cases e),h4⟩⟩
theorem Pk (hP:MZ P T) (gl:List Nat) (hf:P.funcs[f]? =some fn)
 (h:Tf T (A0 P) fn gl args st λr st'=>∃r2 U,(r2=r\/r2=r.wk)/\St.le U st'/\R r2 U):C0 P f args st R:=by
 intro I w cargs hs hargs
 unfold Tf at h
 cases hb:fn.body with
 |none=>simp_all
 |some c=>
  rw [hb] at h
  obtain ⟨hle,h⟩:=As.1 h
  have hle:=Nat.le_of_ble_eq_true hle
  have hlen:=Ao.length hargs
  refine calls_of_wp hf hb ?_
  have hrel:Rel [] I st w I (λ_=>none) {tmps:=Hg 0 args,boxes:=[],BG:=0,sz:=fn.ntmps,gl} st
   {tmps:=cargs.toArray++Array.replicate (fn.ntmps - cargs.toArray.size) undef,defers:=[]} w:=by
   refine QM hs (by grind) (λt v e=>?_) rfl rfl
   obtain ⟨_,e⟩:=Pn e
   rw [Nat.sub_zero] at e
   obtain ⟨c',e1,e2⟩:=Ao.get hargs e
   have hlt:t<cargs.length:=by
    rcases Nat.lt_or_ge t cargs.length with h|h
    .exact h
    .simp_all
   have:(cargs.toArray++Array.replicate (fn.ntmps - cargs.toArray.size) undef).getD t undef=c':=by
    rw [List.getElem?_eq_getElem hlt] at e1
    injection e1 with e1
    subst e1
    simp [Array.getD,Array.getElem_append,hlt]
    omega
   rw [this]
   exact e2
  refine wp_mono (M6 hP (A2 P) (λ_ _ _ _ _ h k=>k.mono h) c h [] I st w I _ _ w hrel) ?_
  rintro e a w' ⟨I1,β1,env1,st1,ae,h1,h2,h3⟩
  have hret:(Es T env1 st1 fn.results.toList λvs=>match vs with
   |[v]=>∃r2 U,(r2=.ret v\/r2=(At.ret v).wk)/\St.le U st1/\R r2 U
   |vs=>∃r2 U,(r2=.ret (.Bj vs)\/r2=(At.ret (.Bj vs)).wk)/\St.le U st1/\R r2 U)->
   a.defers=[]/\∃v,(results fn a.tmps).run P w'=.ok v w'/\∃I' st' r,Fr I st w I' st' w'/\B7 I' st' w'/\dJ I' (.returned v) r/\R r st':=by
   intro h3
   obtain ⟨v,c,g1,g2,r2,U,g3,g4,g5⟩:=B6 (P:=P) (R:=λr s=>∃r2 U,(r2=r\/r2=r.wk)/\St.le U s/\R r2 U) hP.t h1 h3
   have h1':=h1.Gw g4
   refine ⟨h1.f.defers,c,g1,I1,U,r2,h1'.fr,h1'.s,?_,g5⟩
   rcases g3 with rfl|rfl
   .exact g2
   .exact g2.wk
  cases ae with
  |normal=>cases e<;>first|exact hret h3|exact h2.elim
  |exit i=>exact h3.elim
  |goto i=>exact h3.elim
  |ret=>cases e<;>first|exact hret h3|exact h2.elim
  |BK v=>
   cases e<;>try exact h2.elim
   obtain ⟨r2,U,g3,g4,g5⟩:=h3
   obtain ⟨c',rfl,h2⟩:=h2
   have h1':=h1.Gw g4
   refine ⟨h1.f.defers,I1,U,r2,h1'.fr,h1'.s,?_,g5⟩
   rcases g3 with rfl|rfl
   .exact ⟨c',rfl,h2⟩
   .exact ⟨c',rfl,h2.wk⟩
theorem QR (hP : MZ P T) (gl : List Nat) (hf : P.funcs[f]? = some fn) (hb : fn.body.isSome = true) (hn : (fn.name == "runtime.NumGoroutine") = false)
 (h:Tf T (A0 P) fn gl args st λr st'=>∃r2 U,(r2=r\/r2=r.wk)/\St.le U st'/\R r2 U):A0 P f args st R:=⟨Pk hP gl hf h,fn,hf,hb,hn⟩
end
section
variable {P:Program} {T:List (Nat×Ty)}
theorem qj (h:∀p ∈ T,M0 P p.1 p.2):Gc P T:=λt ty e=>h (t,ty) (EO e)
def N0:V->Value
 | .int k n=>.int k n
 | .bool b=>.bool b
 | .str s=>.string ⟨s.toArray⟩
 | .slice _ _ _=>.slice none 0 0
 | .DR=>.pointer none
 | .Ar=>.nilFunc
 | .EJ=>.nilIface
 |_=>undef
def isZero:V->Bool
 | .int _ _| .bool _| .DR| .Ar| .EJ=>true
 | .str []=>true
 | .slice (_+1) [] .full=>true
 |_=>false
theorem Xd {z:V} (h:isZero z=true):AH I z (N0 z):=by
 unfold isZero at h
 split at h
 .rfl
 .rfl
 .rfl
 .rfl
 .rfl
 .simp [AH,N0,C9]
 .exact IY (Nat.succ_pos _) _ (.inl rfl)
 grind
theorem NG {I:Mem}:∀{z:List V},z.all isZero=true->Ao I z (z.map N0)
 |[],_=>by rfl
 |v::r,h=>by
  simp only [List.all_cons,Bool.and_eq_true] at h
  simp only [Ao,List.map_cons]
  exact ⟨_,_,rfl,Xd h.1,NG h.2⟩
theorem lB {z:V} (h:isZero z=true):(N0 z).cells=#[N0 z]/\z.known=true/\z.cells=[z]:=by
 unfold isZero at h
 split at h
 all_goals first|(cases h;done)|exact ⟨rfl,rfl,rfl⟩
theorem tL {z:V} {d:TypeDesc} (hu:P.underlying t=some d) (ha:RP d=false) (hz:isZero z=true)
 (hi:(P.info? t).map (λi=>(i.zero,i.size))=some (some (N0 z),1)) (hs:match z with| .str _=>d=.string| .EJ=>∃U,d=.interface U| .int k _=>d=.int k| .bool _=>d=.bool|_=>∀U,d≠.interface U):M0 P t (.sc z):=by
 cases hp:P.info? t with
 |none=>simp_all
 |some i=>
  rw [hp] at hi
  simp only [Option.map_some,Option.some.injEq,Prod.mk.injEq] at hi
  obtain ⟨h1,h2,h3⟩:=lB hz
  exact ⟨i,d,N0 z,hp,hu,ha,hi.2,hi.1,Xd hz,h1,h2,h3,hs⟩
theorem lk {sz bytes:Nat} {c:Value} (hu:P.underlying t=some (.slice e)) (hi:(P.info? t).map (λi=>(i.zero,i.size))=some (some (.slice none 0 0),1))
 (U:(P.info? e).map (λi=>(i.zero,i.size,i.bytes))=some (some c,sz,bytes)) (h0:0<sz) (hc:c.cells.size=sz):M0 P t (.slice e sz bytes):=by
 cases hp:P.info? t with
 |none=>simp_all
 |some i=>
  cases hq:P.info? e with
  |none=>simp_all
  |some j=>
   rw [hp] at hi
   rw [hq] at U
   simp only [Option.map_some,Option.some.injEq,Prod.mk.injEq] at hi U
   exact ⟨i,j,c,hp,hu,hi.2,hi.1,hq,U.2.1,U.2.2,h0,U.1,hc⟩
theorem eG {z:List V} {fields:Array Field} (hu:P.underlying t=some (.struct fields)) (hz:z.all isZero=true)
 (hi:(P.info? t).map (λi=>(i.zero,i.size))=some (some (.agg (z.map N0).toArray),z.length))
 (hf:fields.toList.map (λf=>(f.offset,(P.info? f.type).map (·.size)))=U.map (λp=>(p.1,some p.2))) (he:(!aq z||aj P t z)=true) (h1:(fields.toList.all λf=>match P.info? f.type,P.underlying f.type with|some j,some d=>j.size !=1|| !RP d|_,_=>false)=true):M0 P t (.struct U z):=by
 cases hp:P.info? t with
 |none=>simp_all
 |some i=>
  rw [hp] at hi
  simp only [Option.map_some,Option.some.injEq,Prod.mk.injEq] at hi
  refine ⟨i,fields,z.map N0,hp,hu,hi.2,hi.1,NG hz,?_,λn o s e=>?_,(λhfl=>by simp_all),λn o e=>?_⟩
  .have:=congrArg List.length hf
   grind
  .have h1:(U.map λp=>(p.1,some p.2))[n]? =some (o,some s):=by rw [List.getElem?_map,e];rfl
   grind
  .have h2:(U.map λp=>(p.1,some p.2))[n]? =some (o,some 1):=by rw [List.getElem?_map,e];rfl
   grind
theorem sy {sz:Nat} {z:List V} (hu:P.underlying t=some (.array n e)) (hz:z.all isZero=true)
 (hi:(P.info? t).map (λi=>(i.zero,i.size))=some (some (.agg (z.map N0).toArray),z.length)) (hj:(P.info? e).map (·.size)=some sz) (hf:U=(List.range U.length).map λi=>(i*sz,sz)) (hn:U.length<=n):M0 P t (.arr U z):=by
 cases hp:P.info? t with
 |none=>simp_all
 |some i=>
  cases hq:P.info? e with
  |none=>simp_all
  |some j=>
   rw [hp] at hi
   rw [hq] at hj
   simp only [Option.map_some,Option.some.injEq,Prod.mk.injEq] at hi hj
   refine ⟨i,n,e,j,z.map N0,hp,hu,hi.2,hi.1,NG hz,hq,λk o s e=>?_⟩
   have hk:=(List.getElem?_eq_some_iff.1 e).1
   refine ⟨?_,?_,AC⟩<;>grind
def Ty.zv:Ty->Value×Nat
 | .sc z=>(N0 z,1)
 | .slice _ _ _=>(.slice none 0 0,1)
 | .struct _ z| .arr _ z=>(.agg (z.map N0).toArray,z.length)
def p9:V->TypeDesc->Bool
 | .str _,.string=>true
 | .EJ,.interface _=>true
 | .int k _,.int U=>decide (k=U)
 | .bool _,.bool=>true
 | .str _,_| .EJ,_| .int _ _,_| .bool _,_|_,.interface _=>false
 |_,_=>true
def uF (P:Program) (t:TypeId) (ty:Ty):Bool:=match ty,P.underlying t with
 | .sc z,some d=> !RP d&&(isZero z&&p9 z d)
 | .slice e sz bytes,some (.slice e')=>e==e'&&(match P.info? e with|some j=>(match j.zero with|some c=>c.cells.size==sz|none=>false)&&(j.size==sz&&(j.bytes==bytes&&decide (0<sz)))|none=>false)
 | .struct U z,some (.struct fields)=>z.all isZero&&(decide (fields.toList.map (λf=>(f.offset,(P.info? f.type).map (·.size)))=U.map (λp=>(p.1,some p.2)))&&((!aq z||aj P t z)&&
    fields.toList.all λf=>match P.info? f.type,P.underlying f.type with|some j,some d=>j.size !=1|| !RP d|_,_=>false))
 | .arr U z,some (.array n e)=>z.all isZero&&decide (U.length<=n)&&(match P.info? e with|some j=>decide (U=(List.range U.length).map λi=>(i*j.size,j.size))|none=>false)
 |_,_=>false
theorem qi (h1:T.map (λp=>(P.info? p.1).map λi=>(i.zero,i.size))=T.map λp=>some (some p.2.zv.1,p.2.zv.2)) (h2:(T.all λp=>uF P p.1 p.2)=true):Gc P T:=qj λp hp=>by
 have e1:=List.map_inj_left.1 h1 p hp
 have U:=List.all_eq_true.1 h2 p hp
 obtain ⟨t,ty⟩:=p
 dsimp only at e1 U |-
 unfold uF at U
 split at U
 .rename_i z d hu
  simp only [Bool.and_eq_true,Bool.not_eq_true'] at U
  refine tL hu U.1 U.2.1 e1 ?_
  have e3:=U.2.2
  unfold p9 at e3
  split at e3<;>simp_all
 .rename_i e sz b e' hu
  simp only [Bool.and_eq_true,beq_iff_eq] at U
  obtain ⟨rfl,U⟩:=U
  cases hj:P.info? e with
  |none=>rw [hj] at U;cases U
  |some j=>
   rw [hj] at U
   cases hz:j.zero with
   |none=>simp [hz] at U
   |some c=>
    simp only [hz,Bool.and_eq_true,beq_iff_eq,decide_eq_true_eq] at U
    exact lk (c:=c) hu e1 (by rw [hj];simp [hz,U]) U.2.2.2 U.1
 .rename_i offs z fields hu
  simp only [Bool.and_eq_true,decide_eq_true_eq] at U
  exact eG hu U.1 e1 U.2.1 U.2.2.1 U.2.2.2
 .rename_i offs z n e hu
  simp only [Bool.and_eq_true] at U
  cases hj:P.info? e with
  |none=>rw [hj] at U;cases U.2
  |some j=>
   rw [hj] at U
   exact sy hu U.1.1 e1 (by rw [hj];rfl) (of_decide_eq_true U.2) (of_decide_eq_true U.1.2)
 .cases U
end
theorem SD {args':List V} {st:St} (e:args'=args.map V.wk) (h:A0 P f args' st R):A0 P f args st R:=by
 subst e
 exact ⟨λI w U hs ha=>h.a I w U hs (Ao.map (λ_ _ k=>k.wk) ha),h.b⟩
end Go.Aw
namespace Go.Proofs.Z
open Go Go.Aw
def sG:List (Nat×Ty):=[
 (1,.sc (.Ar)),
 (2,.sc (.int .i64 0)),
 (3,.sc (.int .i64 0)),
 (4,.sc (.bool false)),
 (5,.sc (.int .u8 0)),
 (9,.sc (.str [])),
 (12,.sc (.int .u64 0)),
 (15,.sc (.DR)),
 (16,.sc (.DR)),
 (20,.sc (.EJ)),
 (21,.sc (.int .i32 0)),
 (22,.sc (.Ar)),
 (23,.slice 25 6 72),
 (24,.struct [(0,1),(1,1),(2,1),(3,1),(4,1),(5,1)] [.int .i64 0,.int .i64 0,.str [],.int .i64 0,.int .i64 0,.slice 6 [] .full]),
 (25,.struct [(0,1),(1,1),(2,1),(3,1),(4,1),(5,1)] [.int .i64 0,.int .i64 0,.str [],.int .i64 0,.int .i64 0,.slice 6 [] .full]),
 (26,.slice 31 5 48),
 (27,.sc (.int .i64 0)),
 (29,.sc (.Ar)),
 (30,.struct [(0,1),(1,1),(2,1),(3,1),(4,1)] [.str [],.int .i64 0,.int .i64 0,.int .i64 0,.int .i64 0]),
 (31,.struct [(0,1),(1,1),(2,1),(3,1),(4,1)] [.str [],.int .i64 0,.int .i64 0,.int .i64 0,.int .i64 0]),
 (32,.sc (.Ar)),
 (33,.sc (.Ar)),
 (34,.slice 40 4 40),
 (36,.sc (.Ar)),
 (37,.sc (.Ar)),
 (38,.sc (.Ar)),
 (39,.struct [(0,1),(1,1),(2,1),(3,1)] [.int .i64 0,.str [],.int .i64 0,.int .i64 0]),
 (40,.struct [(0,1),(1,1),(2,1),(3,1)] [.int .i64 0,.str [],.int .i64 0,.int .i64 0]),
 (41,.sc (.Ar)),
 (42,.sc (.Ar)),
 (43,.sc (.Ar)),
 (44,.sc (.Ar)),
 (45,.sc (.Ar)),
 (47,.sc (.Ar)),
 (48,.struct [(0,6),(6,4),(10,1)] [.int .i64 0,.int .i64 0,.str [],.int .i64 0,.int .i64 0,.slice 6 [] .full,.int .i64 0,.str [],.int .i64 0,.int .i64 0,.int .i64 0]),
 (49,.struct [(0,6),(6,4),(10,1)] [.int .i64 0,.int .i64 0,.str [],.int .i64 0,.int .i64 0,.slice 6 [] .full,.int .i64 0,.str [],.int .i64 0,.int .i64 0,.int .i64 0]),
 (50,.sc (.Ar)),
 (52,.sc (.Ar)),
 (53,.slice 3 1 8),
 (54,.struct [(0,1),(1,1),(2,1),(3,1)] [.slice 4 [] .full,.int .i64 0,.slice 1 [] .full,.int .i64 0]),
 (55,.struct [(0,1),(1,1),(2,1),(3,1)] [.slice 4 [] .full,.int .i64 0,.slice 1 [] .full,.int .i64 0]),
 (57,.sc (.Ar)),
 (58,.sc (.Ar)),
 (59,.sc (.Ar)),
 (61,.sc (.Ar)),
 (62,.sc (.Ar)),
 (63,.sc (.Ar)),
 (64,.sc (.Ar)),
 (65,.sc (.DR)),
 (66,.struct [(0,1),(1,1),(2,1)] [.int .i64 0,.int .i64 0,.int .i64 0]),
 (67,.struct [(0,1),(1,1),(2,1)] [.int .i64 0,.int .i64 0,.int .i64 0]),
 (68,.struct [(0,1),(1,1)] [.int .i64 0,.bool false]),
 (69,.struct [(0,1),(1,1)] [.int .i64 0,.bool false]),
 (70,.struct [(0,1),(1,1),(2,3),(5,1),(6,1),(7,1),(8,2)] [.str [],.int .i64 0,.int .i64 0,.int .i64 0,.int .i64 0,.slice 4 [] .full,.slice 5 [] .full,.int .i64 0,.int .i64 0,.bool false]),
 (71,.struct [(0,1),(1,1),(2,3),(5,1),(6,1),(7,1),(8,2)] [.str [],.int .i64 0,.int .i64 0,.int .i64 0,.int .i64 0,.slice 4 [] .full,.slice 5 [] .full,.int .i64 0,.int .i64 0,.bool false]),
 (72,.sc (.Ar)),
 (73,.sc (.Ar)),
 (74,.struct [(0,1),(1,1),(2,1)] [.int .i64 0,.int .i64 0,.int .i64 0]),
 (75,.struct [(0,1),(1,1),(2,1)] [.int .i64 0,.int .i64 0,.int .i64 0]),
 (76,.sc (.Ar)),
 (77,.sc (.Ar)),
 (78,.sc (.Ar)),
 (79,.slice 9 1 16),
 (80,.sc (.Ar)),
 (81,.sc (.Ar)),
 (82,.sc (.Ar)),
 (83,.sc (.Ar)),
 (84,.sc (.Ar)),
 (85,.sc (.EJ)),
 (86,.sc (.EJ)),
 (88,.slice 186 3 32),
 (89,.slice 186 3 32),
 (90,.sc (.Ar)),
 (91,.sc (.DR)),
 (92,.struct [(0,1),(1,1),(2,1)] [.int .i64 0,.int .i64 0,.int .i64 0]),
 (93,.struct [(0,1),(1,1),(2,1)] [.int .i64 0,.int .i64 0,.int .i64 0]),
 (94,.sc (.Ar)),
 (95,.sc (.DR)),
 (96,.sc (.Ar)),
 (97,.struct [(0,1),(1,1),(2,1)] [.int .i64 0,.int .i64 0,.int .i64 0]),
 (98,.struct [(0,1),(1,1),(2,1)] [.int .i64 0,.int .i64 0,.int .i64 0]),
 (99,.sc (.Ar)),
 (100,.sc (.Ar)),
 (101,.sc (.Ar)),
 (102,.sc (.Ar)),
 (103,.sc (.Ar)),
 (104,.sc (.Ar)),
 (106,.sc (.Ar)),
 (107,.sc (.Ar)),
 (108,.sc (.Ar)),
 (109,.sc (.Ar)),
 (110,.sc (.Ar)),
 (112,.sc (.Ar)),
 (113,.sc (.Ar)),
 (114,.sc (.DR)),
 (115,.slice 5 1 1),
 (116,.struct [(0,1),(1,1)] [.DR,.slice 1 [] .full]),
 (117,.struct [(0,1),(1,1)] [.DR,.slice 1 [] .full]),
 (119,.sc (.Ar)),
 (120,.sc (.Ar)),
 (122,.sc (.Ar)),
 (124,.sc (.Ar)),
 (126,.sc (.Ar)),
 (128,.sc (.Ar)),
 (129,.sc (.Ar)),
 (134,.sc (.Ar)),
 (137,.sc (.Ar)),
 (140,.sc (.Ar)),
 (141,.sc (.Ar)),
 (143,.sc (.Ar)),
 (144,.sc (.Ar)),
 (145,.sc (.Ar)),
 (146,.sc (.Ar)),
 (147,.sc (.Ar)),
 (148,.sc (.Ar)),
 (149,.sc (.Ar)),
 (150,.sc (.Ar)),
 (151,.sc (.Ar)),
 (152,.sc (.DR)),
 (153,.struct [(0,4),(4,4),(8,4),(12,1),(13,1)] [.slice 4 [] .full,.int .i64 0,.slice 1 [] .full,.int .i64 0,.int .i64 0,.str [],.int .i64 0,.int .i64 0,.slice 4 [] .full,.int .i64 0,.slice 1 [] .full,.int .i64 0,.int .i64 0,.bool false]),
 (154,.struct [(0,4),(4,4),(8,4),(12,1),(13,1)] [.slice 4 [] .full,.int .i64 0,.slice 1 [] .full,.int .i64 0,.int .i64 0,.str [],.int .i64 0,.int .i64 0,.slice 4 [] .full,.int .i64 0,.slice 1 [] .full,.int .i64 0,.int .i64 0,.bool false]),
 (155,.struct [(0,1)] [.int .i64 0]),
 (156,.struct [(0,1)] [.int .i64 0]),
 (158,.sc (.Ar)),
 (159,.sc (.Ar)),
 (160,.sc (.Ar)),
 (161,.sc (.Ar)),
 (162,.sc (.Ar)),
 (163,.sc (.Ar)),
 (164,.sc (.Ar)),
 (165,.sc (.Ar)),
 (166,.sc (.Ar)),
 (167,.sc (.Ar)),
 (168,.sc (.DR)),
 (169,.sc (.DR)),
 (171,.sc (.Ar)),
 (172,.slice 175 2 16),
 (173,.struct [(0,1),(1,1),(2,1),(3,1),(4,1)] [.str [],.int .i64 0,.bool false,.slice 1 [] .full,.slice 2 [] .full]),
 (174,.struct [(0,1),(1,1),(2,1),(3,1),(4,1)] [.str [],.int .i64 0,.bool false,.slice 1 [] .full,.slice 2 [] .full]),
 (175,.arr [(0,1),(1,1)] [.int .i64 0,.int .i64 0]),
 (176,.sc (.Ar)),
 (177,.sc (.Ar)),
 (178,.sc (.Ar)),
 (179,.sc (.DR)),
 (180,.sc (.Ar)),
 (181,.sc (.Ar)),
 (182,.sc (.Ar)),
 (183,.struct [(0,1),(1,1),(2,1),(3,1),(4,1)] [.Ar,.slice 6 [] .full,.bool false,.Ar,.Ar]),
 (184,.struct [(0,1),(1,1),(2,1),(3,1),(4,1)] [.Ar,.slice 6 [] .full,.bool false,.Ar,.Ar]),
 (185,.struct [(0,1),(1,1),(2,1)] [.str [],.int .i64 0,.int .i64 0]),
 (186,.struct [(0,1),(1,1),(2,1)] [.str [],.int .i64 0,.int .i64 0]),
 (188,.sc (.Ar)),
 (189,.sc (.Ar)),
 (192,.sc (.DR)),
 (193,.sc (.Ar)),
 (194,.sc (.Ar)),
 (195,.sc (.Ar)),
 (196,.sc (.EJ)),
 (198,.sc (.Ar)),
 (199,.sc (.EJ)),
 (200,.sc (.Ar)),
 (201,.sc (.EJ)),
 (202,.slice 86 1 16),
 (203,.sc (.Ar)),
 (205,.sc (.Ar)),
 (206,.struct [(0,6),(6,1),(7,1)] [.int .i64 0,.int .i64 0,.str [],.int .i64 0,.int .i64 0,.slice 6 [] .full,.slice 6 [] .full,.bool false]),
 (207,.struct [(0,6),(6,1),(7,1)] [.int .i64 0,.int .i64 0,.str [],.int .i64 0,.int .i64 0,.slice 6 [] .full,.slice 6 [] .full,.bool false]),
 (208,.sc (.Ar)),
 (209,.sc (.Ar)),
 (210,.sc (.Ar)),
 (211,.sc (.Ar)),
 (212,.sc (.Ar)),
 (213,.sc (.Ar)),
 (214,.sc (.Ar)),
 (215,.sc (.Ar)),
 (216,.struct [(0,1),(1,1)] [.DR,.int .i64 0]),
 (217,.struct [(0,1),(1,1)] [.DR,.int .i64 0]),
 (219,.sc (.int .u64 0)),
 (220,.struct [(0,1),(1,1)] [.int .u8 0,.int .u8 0]),
 (221,.struct [(0,1),(1,1)] [.int .u8 0,.int .u8 0]),
 (223,.sc (.Ar)),
 (227,.sc (.Ar)),
 (228,.sc (.Ar)),
 (229,.sc (.DR)),
 (231,.sc (.Ar)),
 (233,.sc (.Ar)),
 (235,.sc (.Ar)),
 (236,.sc (.Ar)),
 (238,.sc (.Ar)),
 (240,.sc (.Ar)),
 (241,.sc (.Ar)),
 (242,.sc (.Ar)),
 (243,.sc (.Ar)),
 (245,.sc (.Ar)),
 (246,.sc (.Ar)),
 (247,.sc (.Ar)),
 (248,.sc (.Ar)),
 (249,.sc (.Ar)),
 (250,.sc (.Ar)),
 (252,.sc (.Ar)),
 (253,.sc (.Ar)),
 (254,.sc (.Ar)),
 (255,.sc (.Ar)),
 (256,.struct [(0,1),(1,1)] [.int .i64 0,.int .i64 0]),
 (257,.struct [(0,1),(1,1)] [.int .i64 0,.int .i64 0]),
 (259,.sc (.Ar)),
 (261,.sc (.Ar)),
 (262,.sc (.Ar)),
 (263,.sc (.Ar)),
 (264,.sc (.Ar)),
 (265,.sc (.Ar)),
 (266,.sc (.Ar)),
 (267,.struct [(0,1),(1,1),(2,1)] [.int .i64 0,.int .i64 0,.str []]),
 (268,.struct [(0,1),(1,1),(2,1)] [.int .i64 0,.int .i64 0,.str []]),
 (269,.slice 268 3 32),
 (270,.sc (.Ar)),
 (271,.sc (.Ar)),
 (272,.sc (.Ar)),
 (273,.sc (.Ar)),
 (274,.sc (.Ar)),
 (276,.sc (.Ar)),
 (277,.sc (.Ar)),
 (278,.sc (.Ar)),
 (279,.sc (.Ar)),
 (280,.sc (.Ar)),
 (281,.sc (.Ar)),
 (282,.sc (.Ar)),
 (283,.sc (.Ar)),
 (284,.sc (.Ar)),
 (285,.sc (.Ar)),
 (286,.sc (.Ar)),
 (287,.sc (.Ar)),
 (289,.sc (.Ar)),
 (290,.sc (.Ar)),
 (291,.sc (.Ar)),
 (292,.struct [(0,1),(1,1)] [.DR,.int .i64 0]),
 (293,.struct [(0,1),(1,1)] [.DR,.int .i64 0]),
 (294,.sc (.Ar)),
 (295,.sc (.Ar)),
 (296,.sc (.Ar)),
 (297,.sc (.Ar)),
 (298,.sc (.Ar)),
 (299,.sc (.Ar)),
 (300,.sc (.Ar)),
 (301,.sc (.Ar)),
 (302,.sc (.Ar)),
 (303,.sc (.Ar)),
 (304,.sc (.Ar)),
 (305,.sc (.Ar)),
 (306,.sc (.int .u32 0)),
 (308,.sc (.Ar)),
 (309,.slice 311 2 16),
 (310,.struct [(0,1),(1,1)] [.int .i64 0,.int .i64 0]),
 (311,.struct [(0,1),(1,1)] [.int .i64 0,.int .i64 0]),
 (312,.sc (.Ar)),
 (313,.sc (.DR)),
 (314,.sc (.Ar)),
 (316,.sc (.Ar)),
 (317,.sc (.Ar)),
 (318,.sc (.Ar)),
 (319,.sc (.Ar)),
 (320,.sc (.Ar)),
 (321,.sc (.Ar)),
 (322,.sc (.Ar)),
 (323,.sc (.Ar)),
 (325,.sc (.Ar)),
 (326,.sc (.Ar)),
 (327,.slice 333 3 6),
 (328,.slice 336 3 12),
 (329,.struct [(0,1),(1,1),(2,1)] [.slice 3 [] .full,.slice 3 [] .full,.int .i64 0]),
 (330,.struct [(0,1),(1,1),(2,1)] [.slice 3 [] .full,.slice 3 [] .full,.int .i64 0]),
 (331,.sc (.int .u16 0)),
 (332,.struct [(0,1),(1,1),(2,1)] [.int .u16 0,.int .u16 0,.int .u16 0]),
 (333,.struct [(0,1),(1,1),(2,1)] [.int .u16 0,.int .u16 0,.int .u16 0]),
 (334,.sc (.Ar)),
 (335,.struct [(0,1),(1,1),(2,1)] [.int .u32 0,.int .u32 0,.int .u32 0]),
 (336,.struct [(0,1),(1,1),(2,1)] [.int .u32 0,.int .u32 0,.int .u32 0]),
 (337,.sc (.Ar)),
 (338,.sc (.Ar)),
 (339,.sc (.Ar)),
 (341,.sc (.Ar)),
 (342,.sc (.Ar)),
 (343,.sc (.Ar)),
 (344,.sc (.Ar)),
 (346,.sc (.Ar)),
 (347,.sc (.DR)),
 (348,.sc (.DR)),
 (350,.sc (.Ar)),
 (351,.sc (.Ar)),
 (352,.sc (.Ar)),
 (353,.sc (.Ar)),
 (354,.sc (.Ar)),
 (355,.sc (.Ar)),
 (357,.sc (.Ar)),
 (358,.sc (.Ar)),
 (359,.sc (.Ar)),
 (360,.sc (.Ar)),
 (373,.sc (.Ar)),
 (385,.sc (.DR))]
theorem Ab:MZ Tryz.prog sG:=⟨qi EQ EQ,EQ⟩
theorem pB {st : St} (hf : Tryz.prog.funcs[f]? = some fn) (h : Tf sG (A0 Tryz.prog) fn [] args st λr st2 => ∃ r2 U, (r2 = r \/ r2 = r.wk) /\ St.le U st2 /\ R r2 U) (hb : fn.body.isSome = true := by rfl) (hn : (fn.name == "runtime.NumGoroutine") = false := by decide) : A0 Tryz.prog f args st R := QR Ab [] hf hb hn h
end Go.Proofs.Z
namespace Go.Proofs.Z
open Go Go.Aw Go.ChangeShapes Go.WideShapes Go.ChangeAt Go.RowKit
def Co (W:World):Mem:={cell:=λb o=>W.cell? ⟨b,o,none⟩,shape:=λb=>match W.heap[b]? with|some (.cells c _ (0,0))=>some c.size|_=>none}
def XI:St:=⟨λ_=>none,λ_=>none⟩
theorem jI (W:World) (g:cQ (Co W).cell (Co W).shape):B7 (Co W) XI W:=
 ⟨λb o v h=>h,λb n h=>(by
   simp only [Co] at h
   grind),λb cs h=>(by cases h),λb h=>absurd rfl h,λb n h=>(by cases h),g⟩
structure Kept (W W':World):Prop where
 os:W'.os=W.os
 output:W'.output=W.output
 size:W.heap.size<=W'.heap.size
 KB:∀b,b<W.heap.size->W'.heap[b]? =W.heap[b]?
theorem Qv {args:Array Value} (g:cQ (Co W).cell (Co W).shape) (h:A0 P f vs XI λr _=>r=.ret (.bool true)) (ha:Ao (Co W) vs args.toList):
 Calls P f args W λe W'=>e=.returned (.bool true)/\Kept W W':=by
 have:=h.a (Co W) W args.toList (jI W g) ha
 rw [Array.toArray_toList] at this
 refine this.mono λe W' ⟨U,st',r,k1,k2,k3,k4⟩=>?_
 subst k4
 refine ⟨?_,k1.os,k1.output,k1.size,λb hb=>k1.KB b hb rfl rfl⟩
 cases e with
 |returned v=>
  have k3:AH U (.bool true) v:=k3
  simp only [AH] at k3
  rw [k3]
 |panicked c=>exact k3.elim
 |outgrown=>exact k3.elim
section
variable {H:Type} {enc:TypeId×Value->H} {P:Program} {W W':World} {B:Nat}
theorem Kept.sameAt (h:Kept W W') {p:MemPlace} (U:p.block<W.heap.size):W.sameAt W' p:=by
 cases p with
 |cell b off=>
  have:=h.KB b U
  show W'.cell? _=W.cell? _
  simp only [World.cell?,this]
 |map b=>exact h.KB b U
theorem Kept.frozen (h:Kept W W') {b off:Nat} (hb:b<W.heap.size):W'.frozen? ⟨b,off,none⟩=W.frozen? ⟨b,off,none⟩:=by
 simp only [World.frozen?,h.KB b hb]
theorem Kept.keptBut (h:Kept W W') (U:MemPlace->Prop):W.keptBut W' U:=by
 refine ⟨h.os,h.output,λi hi=>?_⟩
 rw [h.KB i hi]
 grind
theorem KP (h:Kept W W') {base:Nat} {spare:Nat->Bool} {held:Bool}:∀{ts:List TypeId} {vs:List Value} {ds:List (DataW H)} {U:List MemPlace},
 DataW.TrodAll enc P W base spare held ts vs ds U->(∀p ∈ U,p.block<W.heap.size)->DataW.TrodAll enc P W' base spare held ts vs ds U
 |[],[],[],_,h0,_=>h0
 |_::_,_::_,_::_,_,⟨p,q,⟨n,h1⟩,h2,e⟩,hp=>⟨p,q,⟨n,DataW.trod_carry n _ _ _ h1 λx hx=>h.sameAt (hp x kw)⟩,
   KP h h2 (λx hx=>hp x kw),e⟩
theorem Qw (hl:laidOutB P=true) (hm:mapsRowed P=true) (hz:((List.range P.types.size).all λt=>match P.underlying t with|some (.slice e)=>decide (0<P.cellsOf e)|_=>true)=true)
 {f:Func} {s:ChangeSpec} {apart fresh handsOn again:Bool} {args:Array Value} {ds gs:List (DataW H)} {before:List MemPlace} {tb:TypeId} (hr:f.resultTypes=#[tb]) (htb:P.underlying tb=some .bool)
 (hts:∀t ∈ f.params.toList,t<P.types.size) (hv:s.vars=[]) (hW:DataW.Whole enc P f.params.toList s.vars apart W args.toList ds gs before) (hfn:s.fn H ds={results:=[.lit (.bool true)],args:=ds}) (hk:Kept W W'):
 s.post enc P f apart fresh handsOn again W args (.bool true) W':=by
 have hlt:∀p ∈ before,p.block<W.heap.size:=λp hp=>hW.lt p hp
 have hW':=hW
 obtain ⟨p,q,hA,hV,rfl,hfz,hnd⟩:=hW
 rw [hv] at hV
 obtain ⟨rfl,rfl⟩:=ChangeShapes.trodVars_none hV
 simp only [List.append_nil] at *
 have hres:∀(b:Nat) (sp:Nat->Bool) (hd:Bool),DataW.TrodAll enc P W' b sp hd f.resultTypes.toList ((Value.bool true).resultList f.resultTypes.size) [.lit (.bool true)] []:=by
  intro b sp hd
  rw [hr]
  refine ⟨[],[],⟨1,?_⟩,rfl,rfl⟩
  rw [DataW.trod_step]
  simp [DataW.trodStep,htb]
  rfl
 have U:∀sp:Nat->Bool,(∀x ∈ p,sp x.block=true)->DataW.TrodAll enc P W' 0 sp true f.params.toList args.toList ds p:=λsp hsp=>
  KP hk (DataW.TrodAll.respare (kids_rows hl hm) (λt e ht hu=>slices_full_of P hz t e ht hu) hts hA hsp) hlt
 have hvars:∀sp:Nat->Bool,DataW.TrodVars enc P W' sp s.vars [] []:=λsp=>by rw [hv];rfl
 have hold:∀x ∈ p,(λb=>decide (b<W.heap.size)) x.block=true:=λx hx=>by simp_all
 refine ⟨ds,[],p,[],p,[],hW',?_,?_,?_,World.keptBut_mono (λx hx=>⟨hx,.inr (.inl hx)⟩) (hk.keptBut (· ∈ p)),λ_=>⟨?_,_,[],p,⟨[]++p,[],trodAll_append (U _ λ_ _=>rfl) (hres _ _ _),hvars _,GT,?_,λha=>hnd ha⟩,λx hx _=>hx⟩⟩
 .grind
 .simp_all
 .simp_all
 .exact RowKit.ok_one hr rfl (RowKit.okWide_bool_mk htb _)
 .intro b off hb
  rw [hk.frozen (b:=b) (hlt _ hb)]
  exact hfz b off hb
def dec (P:Program):Nat->TypeId->DataW H->Option (List V)
 |0,_,_=>none
 |n+1,t,d=>match P.underlying t,d with
  |some .bool,.lit (.bool b)=>some [.bool b]
  |some (.int k),.lit (.int _ m)=>some [.int k m]
  |some .string,.lit (.string s)=>some [.str s]
  |some (.slice e),.nil=>some [.slice (P.cellsOf e) [] .any]
  |some (.slice e),.slice elems _=>(elems.mapM (dec P n e)).map λes=>[.slice (P.cellsOf e) es .any]
  |some (.struct fs),.agg parts=>if parts.length=fs.size then ((fs.toList.zip parts).mapM λp=>dec P n p.1.type p.2).map List.flatten else none
  |_,_=>none
def OQ (P:Program) (S:List TypeId):Bool:=S.all λt=>decide (t<P.types.size)&&match P.underlying t with
 |some .bool|some (.int _)|some .string=>P.cellsOf t==1
 |some (.slice e)=>S.contains e&&decide (0<P.cellsOf e)&&P.cellsOf t==1
 |some (.struct fs)=>fs.toList.all λf=>S.contains f.type
 |_=>false
theorem one_le (d:DataW H):1<=Rows.uptoBulk d:=by
 cases d with
 |lit l=>cases l<;>simp [Rows.uptoBulk]
 |_=>simp [Rows.uptoBulk]
theorem Ul {d:DataW H}:∀{l:List (DataW H)},d ∈ l->Rows.uptoBulk d<=Rows.uptoBulkAll l
 |x::r,h=>by
  simp only [Rows.uptoBulkAll]
  rcases List.mem_cons.1 h with rfl|h
  .omega
  .have:=Ul h;omega
theorem length_le:∀(l:List (DataW H)),l.length<=Rows.uptoBulkAll l
 |[]=>by simp_all
 |x::r=>by have:=one_le x;have:=length_le r;simp only [Rows.uptoBulkAll,List.length_cons];omega
theorem bo {I:Mem} {b:Nat}:∀{vs:List V} {cs:List Value} {o:Nat},Ao I vs cs->(∀j c,cs[j]? =some c->I.cell b (o+j)=some c)->Fv I b o vs
 |[],_,_,_,_=>by simp only [Fv]
 |v::r,cs,o,h,k=>by
  simp only [Ao] at h
  obtain ⟨c,s,rfl,hv,hr⟩:=h
  simp only [Fv]
  refine ⟨⟨c,by simpa using k 0 c rfl,hv⟩,bo hr λj U hj=>?_⟩
  have:=k (j+1) U kw
  grind
theorem fJ {w:World} {a:Addr} (h:w.cells? 0 a n=some cs) (hs:a.spot=none):cs.length=n/\∀j c,cs[j]? =some c->w.cell? ⟨a.block,a.off+j,none⟩=some c:=by
 unfold World.cells? at h
 rw [if_pos (Nat.zero_le _)] at h
 have hl:=mapM_some_length h
 simp only [List.length_range] at hl
 refine ⟨hl,λj c U=>?_⟩
 have hjl:j<cs.length:=(List.getElem?_eq_some_iff.1 U).1
 have:=mapM_some_get h j j (List.getElem?_range AC)
 rw [U] at this
 obtain ⟨b,o,sp⟩:=a
 simp only at hs
 subst hs
 rw [B9] at this
 omega
theorem PA {w:World} {a:Addr} (h:w.cells? 0 a n=some cs) (hn:0<n):a.spot=none:=by
 unfold World.cells? at h
 rw [if_pos (Nat.zero_le _)] at h
 have hl:=mapM_some_length h
 simp only [List.length_range] at hl
 have:=mapM_some_get h 0 0 (List.getElem?_range AC)
 have U:cs[0]? =some cs[0]:=List.getElem?_eq_getElem AC
 rw [U] at this
 obtain ⟨b,o,sp⟩:=a
 cases sp with
 |none=>rfl
 |some s=>
  simp only [Addr.add,if_true,World.cell?] at this
  grind
theorem bq {I:Mem} {b sz:Nat}:∀{es:List (List V)} {o:Nat},(∀(i:Nat) (e:List V),es[i]? =some e->e.length=sz/\Fv I b (o+i*sz) e)->B8 I sz b o es
 |[],_,_=>by simp only [B8]
 |e::r,o,h=>by
  simp only [B8]
  refine ⟨by simpa using h 0 e rfl,bq λi e' U=>?_⟩
  have:=h (i+1) e' kw
  grind
theorem HX {S:List TypeId} (K:Kids P (·<P.types.size)) (hS:OQ P S=true) (hB:B<C9):∀(n:Nat) (t:TypeId) (cs:List Value) (x:DataW H×List MemPlace),t ∈ S->Rows.uptoBulk x.1<=B->
 DataW.trod enc P W 0 (λ_=>true) true n t cs=some x->∃vs,dec P n t x.1=some vs/\vs.length=P.cellsOf t/\Ao (Co W) vs cs:=by
 intro n
 induction n with
 |zero=>intro t cs x _ _ h;simp [DataW.trod] at h
 |succ n ih=>
  intro t cs x ht hb h
  rw [DataW.trod_step] at h
  have hc:=List.all_eq_true.1 hS t ht
  simp only [Bool.and_eq_true,decide_eq_true_eq] at hc
  obtain ⟨hts,hc⟩:=hc
  unfold DataW.trodStep at h
  unfold dec
  cases hu:P.underlying t with
  |none=>simp_all
  |some u=>
   rw [hu] at hc h
   cases u<;>simp only at hc h |-<;>try (cases hc;done)
   case bool=>
    split at h<;>simp_all
    subst h
    exact ⟨_,rfl,rfl,by simp only [Ao,AH];simp_all⟩
   case int k=>
    split at h<;>simp_all
    obtain ⟨⟨rfl,hw⟩,rfl⟩:=h
    exact ⟨_,rfl,rfl,by simp only [Ao,AH];simp_all⟩
   case string=>
    split at h<;>simp_all
    obtain ⟨h1,rfl⟩:=h
    refine ⟨_,rfl,rfl,?_⟩
    simp only [Ao,AH]
    refine ⟨_,_,rfl,⟨GT,?_⟩,rfl⟩
    simp only [Rows.uptoBulk] at hb
    omega
   case slice e=>
    simp only [Bool.and_eq_true,decide_eq_true_eq,beq_iff_eq] at hc
    obtain ⟨⟨he,U⟩,hone⟩:=hc
    have he:e ∈ S:=by simpa using he
    split at h<;>try (simp_all;done)
    .simp only [Option.some.injEq] at h
     subst h
     refine ⟨_,rfl,hone.symm,?_⟩
     simp only [Ao]
     exact ⟨_,_,rfl,IY U _ (.inr rfl),rfl⟩
    .rename_i _ _ e' a len cap heq
     cases heq
     split at h
     .rename_i hcond
      simp only [Option.map_eq_some_iff,Option.bind_eq_some_iff] at h
      obtain ⟨elems,h1,rest,h2,rfl⟩:=h
      have hlen:elems.length=len:=by simpa using mapM_some_length h1
      simp only [Rows.uptoBulk] at hb
      have hl:=length_le (elems.map (·.1))
      simp only [List.length_map] at hl
      have one:∀(i:Nat) (y:DataW H×List MemPlace),elems[i]? =some y->∃cs,W.cells? 0 (a.add (i*P.cellsOf e)) (P.cellsOf e)=some cs/\∃vs,dec P n e y.1=some vs/\vs.length=P.cellsOf e/\Ao (Co W) vs cs:=by
       intro i y hy
       have hi:i<len:=by rw [<-hlen];exact (List.getElem?_eq_some_iff.1 hy).1
       have:=mapM_some_get h1 i i (List.getElem?_range hi)
       rw [hy] at this
       obtain ⟨cs',hcs,hy'⟩:=Option.bind_eq_some_iff.1 this
       have hmem:y.1 ∈ elems.map (·.1):=List.mem_map_of_mem (List.mem_of_getElem? hy)
       have:=Ul hmem
       exact ⟨cs',hcs,ih e cs' y he AC hy'⟩
      have hes:∃es:List (List V),(elems.map (·.1)).mapM (dec P n e)=some es/\es.length=len/\∀(i:Nat) (vs:List V),es[i]? =some vs->∃cs,W.cells? 0 (a.add (i*P.cellsOf e)) (P.cellsOf e)=some cs/\vs.length=P.cellsOf e/\Ao (Co W) vs cs:=by
       have gen:∀(l:List (DataW H×List MemPlace)) (k:Nat),(∀(i:Nat) (y:DataW H×List MemPlace),l[i]? =some y->∃cs,W.cells? 0 (a.add ((k+i)*P.cellsOf e)) (P.cellsOf e)=some cs/\∃vs,dec P n e y.1=some vs/\vs.length=P.cellsOf e/\Ao (Co W) vs cs)->
        ∃es:List (List V),(l.map (·.1)).mapM (dec P n e)=some es/\es.length=l.length/\∀(i:Nat) (vs:List V),es[i]? =some vs->∃cs,W.cells? 0 (a.add ((k+i)*P.cellsOf e)) (P.cellsOf e)=some cs/\vs.length=P.cellsOf e/\Ao (Co W) vs cs:=by
        intro l
        induction l with
        |nil=>simp_all
        |cons y r ihl=>
         intro k hl
         obtain ⟨cs,g1,vs,g2,g3,g4⟩:=hl 0 y rfl
         obtain ⟨es,k1,k2,k3⟩:=ihl (k+1) (λi y hy=>by
          have:=hl (i+1) y (by grind)
          grind)
         refine ⟨vs::es,by grind,by simp [k2],λi us hi=>?_⟩
         grind
       obtain ⟨es,k1,k2,k3⟩:=gen elems 0 (λi y hy=>by grind)
       exact ⟨es,k1,k2.trans hlen,λi vs hi=>by simp_all⟩
      obtain ⟨es,k1,k2,k3⟩:=hes
      refine ⟨[.slice (P.cellsOf e) es .any],by
       simp_all,hone.symm,?_⟩
      simp only [Ao,AH]
      refine ⟨_,[],rfl,⟨some a,cap,by rw [k2],AC,AC,U,trivial,?_⟩,rfl⟩
      have hspot:cap=0\/a.spot=none:=by
       by_cases h0:cap=0
       .omega
       .right
        by_cases hl0:len=0
        .simp only [if_true] at h2
         have hrl:rest.length=cap - len:=by simpa using mapM_some_length h2
         have:=mapM_some_get h2 0 0 (List.getElem?_range AC)
         rw [List.getElem?_eq_getElem AC] at this
         obtain ⟨cs',hcs,_⟩:=Option.bind_eq_some_iff.1 this
         have hsp:=PA hcs U
         rw [hl0] at hsp
         simpa [Addr.add] using hsp
        .obtain ⟨cs,hcs,_⟩:=one 0 elems[0] (List.getElem?_eq_getElem AC)
         have hsp:=PA hcs U
         simpa [Addr.add] using hsp
      refine ⟨hspot,bq λi vs hi=>?_⟩
      obtain ⟨cs,g1,g2,g3⟩:=k3 i vs hi
      refine ⟨g2,bo g3 λj c hj=>?_⟩
      have hi':i<es.length:=(List.getElem?_eq_some_iff.1 hi).1
      obtain rfl|hne:=Nat.eq_zero_or_pos cap
      .omega
      .obtain ⟨b,o,sp⟩:=a
       have hsp:sp=none:=hspot.resolve_left AC
       subst hsp
       rw [B9] at g1
       exact (fJ g1 rfl).2 j c hj
     grind
   case struct fs=>
    split at h
    .rename_i hlen
     simp only [Option.map_eq_some_iff] at h
     obtain ⟨xs,h1,rfl⟩:=h
     simp only [Rows.uptoBulk] at hb
     have hxl:xs.length=fs.size:=by have:=mapM_some_length h1;simpa using this
     obtain ⟨hT,hsum,hoff⟩:=K.struct hts hu
     have hct:∀f ∈ fs.toList,f.type ∈ S:=λf hf=>by grind
     have gen:∀(l:List Field) (ys:List (DataW H×List MemPlace)) (rs:List Value),l.length=ys.length->(∀f ∈ l,f.type ∈ S)->(∀y ∈ ys,Rows.uptoBulk y.1<=B)->
      rs.length=(l.map λf=>P.cellsOf f.type).sum->
      (∀(j:Nat) (f:Field) (y:DataW H×List MemPlace),l[j]? =some f->ys[j]? =some y->DataW.trod enc P W 0 (λ_=>true) true n f.type ((rs.drop ((l.take j).map λf=>P.cellsOf f.type).sum).take (P.cellsOf f.type))=some y)->
      ∃vs,(l.zip (ys.map (·.1))).mapM (λp=>dec P n p.1.type p.2)=some vs/\vs.flatten.length=(l.map λf=>P.cellsOf f.type).sum/\Ao (Co W) vs.flatten rs:=by
      intro l
      induction l with
      |nil=>
       intro ys rs h0 _ _ hr _
       refine ⟨[],GT,rfl,?_⟩
       simp at hr
       subst hr
       rfl
      |cons f r ihl=>
       intro ys rs h0 hS' hB' hr hj
       cases ys with
       |nil=>grind
       |cons y ys=>
        simp only [List.map_cons,List.sum_cons] at hr
        obtain ⟨v,g1,g2,g3⟩:=ih f.type _ y (hS' f List.mem_cons_self) (hB' y List.mem_cons_self) (hj 0 f y rfl rfl)
        simp only [List.take_zero,List.map_nil,List.sum_nil,List.drop_zero] at g3
        obtain ⟨vs,k1,k2,k3⟩:=ihl ys (rs.drop (P.cellsOf f.type)) kw (λf' hf=>hS' f' (List.mem_cons_of_mem _ hf)) (λy' hy=>hB' y' (List.mem_cons_of_mem _ hy)) kw (λj f' y' hf hy=>by
         have:=hj (j+1) f' y' kw kw
         simp_all)
        refine ⟨v::vs,kw,kw,?_⟩
        have:=Ao.append g3 k3
        simp_all
     obtain ⟨vs,g1,g2,g3⟩:=gen fs.toList xs cs kw hct (λy hy=>by have:=Ul (List.mem_map_of_mem (f:=(·.1)) hy);omega) AC (λj f y hf hy=>by
      have:=mapM_some_get h1 j f hf
      grind)
     simp_all
    grind
theorem HT {v:Value} {fs:Array Field} (U:P.underlying t=some (.struct fs)) (h:Value.okWide P W .any base t v):∃cs,v=.agg cs:=by
 unfold Value.okWide at h
 grind
theorem G4 {v:Value} (U:∃cs,v=.agg cs) (h:Ao I vs v.cells.toList):AH I (.agg vs) v:=by
 obtain ⟨cs,rfl⟩:=U
 simp only [AH]
 exact ⟨cs.toList,GT,h⟩
end
end Go.Proofs.Z
namespace Go.Proofs.Z
open Go Go.Aw Go.ChangeShapes Go.WideShapes Go.ChangeAt Go.RowKit Go.Lib
theorem own:ownKnob Tryz.prog.godebug=none:=EQ
noncomputable def listed : List (String × DataW Unit) := [("unicode/utf8.first", Lib.firstData), ("unicode/utf8.acceptRanges", Lib.acceptData), ("strings.asciiSpace", Lib.tabData .u8 Lib.asciiSpaceTab), ("unicode.White_Space", Lib.whiteData)]
def uz:Go.Shelf.Ren:=⟨λn=>n,λ|5=>5|119=>218|138=>221|139=>222|n=>n,λ|3=>1|4=>2|n=>n⟩
theorem sA:U8Types Tryz.prog uz:=⟨EQ,EQ,EQ,EQ⟩
theorem qM:U8Extra Tryz.prog uz:=⟨EQ,EQ,EQ,EQ,EQ,EQ,EQ⟩
def qg:Array Value:=(List.replicate 256 (Value.int .u8 0)).toArray
theorem ZJ:qg.size=256:=EQ
theorem z3:((begin Tryz.prog (λ_ _=>0) default).world.heap[4]?).bind Obj.row? =some (qg,218):=EQ
theorem z2:((begin Tryz.prog (λ_ _=>0) default).world.heap[3]?).bind Obj.row? =some (#[Value.int .i64 0],3):=EQ
theorem TP (hL:laidMet Tryz.prog listed W) (U:W.ShapedOpen Tryz.prog):cQ (Co W).cell (Co W).shape:=by
 have h8:=utf8Tabs_of_readsT sA qM (Lib.laidMet.reads hL (by unfold listed;repeat (first|exact .head _|refine .tail _ ?_))) (Lib.laidMet.reads hL (by unfold listed;repeat (first|exact .head _|refine .tail _ ?_)))
 obtain ⟨g, t, cs, fuel, p, hg, hty, hvar, hd⟩ := Lib.laidMet.reads hL (n := "strings.asciiSpace") (by unfold listed; repeat (first | exact .head _ | refine .tail _ ?_))
 obtain rfl := Option.some.inj ((show Tryz.prog.globalNamed "strings.asciiSpace" = some 4 by kernel_rfl).symm.trans hg)
 obtain rfl:=Option.some.inj ((show (Tryz.prog.globals[4]?).map (·.type)=some 218 by kernel_rfl).symm.trans hty)
 have hcs:=cells_of_tab (n:=256) (e:=5) EQ EQ EQ EQ hd
 obtain ⟨cs3,hh3,hs3,_⟩:=U.1 4 _ _ (of_decide_eq_true EQ) z3
 refine ⟨h8.1,h8.2,?_,?_,?_⟩
 .exact cell_of_shapedOpen_int U (of_decide_eq_true EQ) z2 EQ EQ EQ EQ
 .intro i hi
  show W.cell? ⟨4,i,none⟩=_
  rw [World.var?_cell hg hvar i,<-Array.getElem?_toList,hcs]
  have hl:Lib.asciiSpaceTab.length=256:=GE
  simp [List.getD,hl,hi]
 .have e:(Co W).shape 4=some cs3.size:=by simp [Co,hh3]
  rw [e,hs3,ZJ]
theorem TY {l:List (String×DataW Unit)} (e:l=listed) (h:laidMetH Tryz.prog l W):laidMet Tryz.prog listed W:=by
 subst e
 unfold laidMetH at h
 rw [show listed.filter (λx=>x.2.handleName?.isSome)=[] from by kernel_rfl] at h
 exact h
theorem TZ {l:List (String×DataW Unit)} (e:l=listed) (h:laidMet Tryz.prog listed W):laidMetH Tryz.prog l W:=by
 subst e
 unfold laidMetH
 rw [show listed.filter (λx=>x.2.handleName?.isSome)=[] from by kernel_rfl]
 exact h
noncomputable def DG (os:Os):World:=
 let N:=(World.settled Tryz.prog os).heap.size
 let w0:=World.holding Tryz.prog os ⟨#[.cells (Lib.whiteT.map λ(z:Nat)=>Value.int .u16 (z:Int)).toArray 333,.cells #[.slice (some ⟨N,0,none⟩) 7 7,.slice none 0 0,.int .i64 2] 330],#[],[]⟩
 let put (h:Array Obj) (g:Nat) (cs:Array Value):Array Obj:=h.modify g fun
  | .cells _ t frozen=>.cells cs t frozen
  |o=>o
 let U:=put w0.heap 1 (Lib.firstTab.map λz=>Value.int .u8 z).toArray
 let h2:=put U 2 ((List.range 16).flatMap λi=>[Value.int .u8 (Lib.accLo i),Value.int .u8 (Lib.accHi i)]).toArray
 let h3:=put h2 4 (Lib.asciiSpaceTab.map λz=>Value.int .u8 z).toArray
 let h4:=put h3 5 #[.pointer (some ⟨N+1,0,none⟩)]
 {w0 with heap:=h4}
noncomputable abbrev qa:Nat:=(World.settled Tryz.prog default).heap.size
theorem TX (os:Os) (args:Array Value):laidMet Tryz.prog listed ((DG os).forCall (λ_ _=>0) ⟨#[],args,[]⟩).memory:=
 (LaidIn.of_run (l:=listed) [1,2,4,5,qa,qa+1] 10 EQ EQ EQ EQ).met
end Go.Proofs.Z
namespace Go.Proofs.Z
open Go Go.Aw
section
variable {H:Type} {P:Program}
theorem OS {k:IntKind} {d:DataW H} (U:P.underlying t=some (.int k)) (h:dec P n t d=some vs):∃m,vs=[.int k m]:=by
 cases n with
 |zero=>cases h
 |succ n=>
  unfold dec at h
  rw [U] at h
  split at h<;>simp_all
  exact ⟨_,h.symm⟩
theorem mg {d:DataW H} (U:P.underlying t=some .string) (h:dec P n t d=some vs):∃s,vs=[.str s]/\s.length+1=Rows.uptoBulk d:=by
 cases n with
 |zero=>cases h
 |succ n=>
  unfold dec at h
  rw [U] at h
  split at h<;>simp_all
  exact ⟨_,h.symm,by simp [Rows.uptoBulk]⟩
theorem ct {d:DataW H} (hu:P.underlying t=some (.slice e)) (h:dec P n t d=some vs):
 ∃(m:Nat) (es:List (List V)) (ds:List (DataW H)),n=m+1/\vs=[.slice (P.cellsOf e) es .any]/\ds.mapM (dec P m e)=some es/\Rows.uptoBulkAll ds+1<=Rows.uptoBulk d:=by
 cases n with
 |zero=>cases h
 |succ n=>
  unfold dec at h
  rw [hu] at h
  split at h<;>try (simp_all;done)
  .rename_i heq
   cases heq
   cases h
   exact ⟨n,[],[],rfl,rfl,rfl,by simp [Rows.uptoBulk,Rows.uptoBulkAll]⟩
  .rename_i heq
   cases heq
   obtain ⟨es,U,h2⟩:=Option.map_eq_some_iff.1 h
   exact ⟨n,es,_,rfl,h2.symm,U,by simp only [Rows.uptoBulk];omega⟩
theorem Yi {fs:Array Field} {d:DataW H} (hu:P.underlying t=some (.struct fs)) (h:dec P n t d=some vs):
 ∃(m:Nat) (ds:List (DataW H)) (us:List (List V)),n=m+1/\ds.length=fs.size/\((fs.toList.zip ds).mapM λp=>dec P m p.1.type p.2)=some us/\vs=us.flatten/\Rows.uptoBulkAll ds+1=Rows.uptoBulk d:=by
 cases n with
 |zero=>cases h
 |succ n=>
  unfold dec at h
  rw [hu] at h
  split at h<;>try (simp_all;done)
  rename_i heq
  cases heq
  split at h
  .obtain ⟨us,U,h2⟩:=Option.map_eq_some_iff.1 h
   exact ⟨n,_,us,rfl,‹_›,U,h2.symm,by simp only [Rows.uptoBulk]⟩
  .cases h
theorem CM {β:Type} {f:α->Option β} {x:α} {l:List α} {r:List β} (h:(x::l).mapM f=some r):∃y U,f x=some y/\l.mapM f=some U/\r=y::U:=by
 simp only [List.mapM_cons] at h
 cases hx:f x with
 |none=>rw [hx] at h;cases h
 |some y=>
  cases hl:l.mapM f with
  |none=>rw [hx,hl] at h;cases h
  |some U=>
   rw [hx,hl] at h
   cases h
   exact ⟨y,U,rfl,rfl,rfl⟩
theorem Vj {α:Type} {f:α->List V} {w:α->Nat} {m:Nat} {e:TypeId} (one:∀(d:DataW H) (vs:List V),dec P m e d=some vs->∃a,vs=f a/\w a<=Rows.uptoBulk d):∀{ds:List (DataW H)} {es:List (List V)},
 ds.mapM (dec P m e)=some es->∃U:List α,es=U.map f/\(U.map w).sum<=Rows.uptoBulkAll ds
 |[],es,h=>by cases h;exact ⟨[],rfl,GT⟩
 |d::r,es,h=>by
  obtain ⟨y,ys,h1,h2,rfl⟩:=CM h
  obtain ⟨a,rfl,k1⟩:=one d y h1
  obtain ⟨U,rfl,k2⟩:=Vj one h2
  exact ⟨a::U,rfl,by simp only [List.map_cons,List.sum_cons,Rows.uptoBulkAll];omega⟩
end
end Go.Proofs.Z
namespace Go.Aw
open Go
inductive Nd where
 |mk (kind form:Int) (text:List UInt8) (line Cp:Int) (kids:List Nd)
namespace Nd
def kind:Nd->Int| .mk k _ _ _ _ _=>k
def form:Nd->Int| .mk _ f _ _ _ _=>f
def text:Nd->List UInt8| .mk _ _ t _ _ _=>t
def line:Nd->Int| .mk _ _ _ l _ _=>l
def Cp:Nd->Int| .mk _ _ _ _ c _=>c
def kids:Nd->List Nd| .mk _ _ _ _ _ ks=>ks
end Nd
mutual
def encR:Nd->List V
 | .mk k f t l c ks=>[.int .i64 k,.int .i64 f,.str t,.int .i64 l,.int .i64 c,.slice 6 (Cj ks) .any]
def Cj:List Nd->List (List V)
 |[]=>[]
 |n::r=>encR n::Cj r
end
def AB (n:Nd):List V:=[.int .i64 n.kind,.int .i64 n.form,.str n.text,.int .i64 n.line,.int .i64 n.Cp,.slice 6 (Cj n.kids) .any]
def enc (n:Nd):V:=.agg (AB n)
theorem mB (n:Nd):encR n=AB n:=by cases n;rfl
theorem BI (ks:List Nd):Cj ks=ks.map AB:=by
 induction ks with
 |nil=>rfl
 |cons n r ih=>simp only [Cj,mB,ih,List.map_cons]
theorem CE (ks:List Nd):(Cj ks).length=ks.length:=by rw [BI,List.length_map]
theorem Vs (ks:List Nd) (i:Nat):(Cj ks)[i]? =ks[i]?.map AB:=by rw [BI,List.getElem?_map]
theorem Sn (ks:List Nd) (i:Nat):(Cj ks).drop i=Cj (ks.drop i):=by rw [BI,BI,List.map_drop]
theorem cI (ks:List Nd) (i:Nat):(Cj ks).take i=Cj (ks.take i):=by rw [BI,BI,List.map_take]
theorem Vr (a b:List Nd):Cj (a++b)=Cj a++Cj b:=by rw [BI,BI,BI,List.map_append]
mutual
def Nd.size:Nd->Nat
 | .mk _ _ _ _ _ ks=>1+Bn ks
def Bn:List Nd->Nat
 |[]=>0
 |n::r=>n.size+Bn r
end
theorem Xo:∀{l:List Nd} {x:Nd},x ∈ l->x.size<=Bn l
 |y::r,x,h=>by
  rw [Bn]
  rcases List.mem_cons.1 h with rfl|h
  .omega
  .have:=Xo h;omega
theorem Cb {n x:Nd} (h:x ∈ n.kids):x.size<n.size:=by
 cases n with
 |mk a b c d e ks=>
  have:=Xo (show x ∈ ks from h)
  rw [Nd.size];omega
theorem Wn {ks:List Nd} (h0:0<=i) (h1:i<ks.length) (k:∀x,ks[i.toNat]? =some x->x ∈ ks->K (AB x)):0<=i/\∃e,(Cj ks)[i.toNat]? =some e/\K e:=by
 have U:i.toNat<ks.length:=AC
 refine ⟨h0,AB ks[i.toNat],?_,k _ (List.getElem?_eq_getElem U) (List.getElem_mem U)⟩
 rw [Vs,List.getElem?_eq_getElem U];rfl
theorem Wl {ks:List Nd} {K:Nat->Prop} (k:ks.length<4611686018427387904->K ks.length):∀m,m=(Cj ks).length->m<C9->K m:=λm U h=>by
 rw [CE] at U;subst U;exact k h
theorem Wp {ks:List Nd} {l h:Int} {K:List (List V)->Prop} (h0:0<=l) (h1:l<=h) (h2:h<=ks.length) (k:K (Cj ((ks.take h.toNat).drop l.toNat))):
 (0<=l/\l<=h/\h<=(Cj ks).length)/\∀U,U=(((Cj ks).take h.toNat).drop l.toNat)->K U:=by
 refine ⟨⟨h0,h1,by rw [CE];exact h2⟩,λU e=>?_⟩
 rw [cI,Sn] at e;simp_all
theorem Wo {ks:List Nd} {l:Int} {K:List (List V)->Prop} (h0:0<=l) (h1:l<=ks.length) (k:K (Cj (ks.drop l.toNat))):
 (0<=l/\l<=((Cj ks).length:Int)/\((Cj ks).length:Int)<=(Cj ks).length)/\∀U,U=(((Cj ks).take (((Cj ks).length:Int)).toNat).drop l.toNat)->K U:=by
 refine ⟨⟨h0,by rw [CE];exact h1,Int.le_refl _⟩,λU e=>?_⟩
 rw [Int.toNat_natCast,List.take_length,Sn] at e;simp_all
theorem Ky {a:Int} (U: -9223372036854775808<=a) (h2:a<=9223372036854775807):IntKind.i64.wrap a=a:=IntWalk.i64_in _ ⟨U,h2⟩
theorem Wq {a:Int} {K:Int->Prop} (U: -9223372036854775808<=a) (h2:a<=9223372036854775807) (k:K a):∃r,r=IntKind.i64.wrap a/\K r:=⟨a,(Ky U h2).symm,k⟩
theorem Wf {a:Int} {q:Prop} (U:0<=a) (h:m=a.toNat->p) (k:¬m=a.toNat->q):Bk ((m:Int)==a) p q:=
 Wk (λe=>h (by grind)) (λe=>k (λx=>by grind))
theorem Wr {a b:Int} {K:Int->Prop} (hb:0<b) (U:0<=a) (h1:a<=4611686018427387904) (k:K (a / b)):b≠0/\∃r,r=IntKind.i64.wrap (a.tdiv b)/\K r:=by
 have e:a.tdiv b=a / b:=Int.tdiv_eq_ediv_of_nonneg U
 have h2:a / b<=a:=Int.ediv_le_self b U
 have h3:0<=a / b:=Int.ediv_nonneg U AC
 exact ⟨AC,_,(by rw [e,Ky AC AC]),k⟩
theorem Ws {b:Int} (h:b≠0) (k:p):b≠0/\p:=⟨h,k⟩
theorem Wm {ks:List Nd} {x:Nd} (h:ks[i.toNat]? =some x) (U:0<=i) (k:K (AB x)):0<=i/\∃e,(Cj ks)[i.toNat]? =some e/\K e:=
 ⟨U,AB x,by rw [Vs,h];rfl,k⟩
theorem Vq {x:List V} (h:es[i.toNat]? =some x) (U:0<=i) (k:K x):0<=i/\∃e,es[i.toNat]? =some e/\K e:=⟨U,x,h,k⟩
theorem sX {st:St} (sched:List (Nat×Bool)) (L:List Nat) (h:Ft sched all=true) (k:DC T C all sched L (Ba (L.map some) env.boxes) Q sched env st):
 ∃(sched:List (Nat×Bool)) (L:List Nat),Ft sched all=true/\DC T C all sched L (Ba (L.map some) env.boxes) Q sched env st:=⟨sched,L,h,k⟩
/-- a schedule in the order of the text;F:those that have effects -/
def ug (n:Nat) (F:List Nat):List (Nat×Bool):=(List.range n).map λi=>(i,F.all λj=> !Nat.beq i j)
def uf (l:List Nat):List (Nat×Bool):=l.map λi=>(i / 2,Nat.beq (i % 2) 1)
theorem Ad {st:St} (n:Nat) (F L:List Nat) (k:DC T C all (ug n F) L (Ba (L.map some) env.boxes) Q (ug n F) env st) (h:Ft (ug n F) all=true:=by decide +kernel):
 ∃(sched:List (Nat×Bool)) (L:List Nat),Ft sched all=true/\DC T C all sched L (Ba (L.map some) env.boxes) Q sched env st:=⟨_,L,h,k⟩
theorem AM {st:St} (l L:List Nat) (k:DC T C all (uf l) L (Ba (L.map some) env.boxes) Q (uf l) env st) (h:Ft (uf l) all=true:=by decide +kernel):
 ∃(sched:List (Nat×Bool)) (L:List Nat),Ft sched all=true/\DC T C all sched L (Ba (L.map some) env.boxes) Q sched env st:=⟨_,L,h,k⟩
theorem An {st:St} (h:Ft ((List.range all.length).map λi=>(i,true)) all=true)
 (k:DC T C all ((List.range all.length).map λi=>(i,true)) [] (Ba (([]:List Nat).map some) env.boxes) Q ((List.range all.length).map λi=>(i,true)) env st):
 ∃(sched:List (Nat×Bool)) (L:List Nat),Ft sched all=true/\DC T C all sched L (Ba (L.map some) env.boxes) Q sched env st:=⟨_,[],h,k⟩
theorem W9 {o:Oper} {U:List (Nat×List V)} {st:St} {K:V->Prop} {q:Prop} (v:V) (h:Bx T C all o U env st v) (k:v.part K):
 ∃v,(Bx T C all o U env st v\/(p/\Bx T C all o b1 env st' v)\/(q/\Bx T C all o b1 env st v))/\v.part K:=⟨v,.inl h,k⟩
theorem W8 {o:Oper} {U:List (Nat×List V)} {st:St} {K:V->Prop} {q:Prop} (h0:p) (v:V) (h:Bx T C all o b1 env st' v) (k:v.part K):
 ∃v,(Bx T C all o U env st v\/(p/\Bx T C all o b1 env st' v)\/(q/\Bx T C all o b1 env st v))/\v.part K:=⟨v,.inr (.inl ⟨h0,h⟩),k⟩
theorem W0 {o:Oper} {U:List (Nat×List V)} {st:St} {K:V->Prop} {q:Prop} (h0:q) (v:V) (h:Bx T C all o b1 env st v) (k:v.part K):
 ∃v,(Bx T C all o U env st v\/(p/\Bx T C all o b1 env st' v)\/(q/\Bx T C all o b1 env st v))/\v.part K:=⟨v,.inr (.inr ⟨h0,h⟩),k⟩
theorem Wa {v:V} {e:Env} {s:St}:v=v/\e=e/\s=s:=⟨rfl,rfl,rfl⟩
theorem Wb {e:Env} {s:St}:Bk b (V.bool true=.bool b/\e=e/\s=s) (V.bool false=.bool b/\e=e/\s=s):=by
 cases b
 .exact Wj Wa
 .exact Wi Wa
theorem Wc {e:Env} {s:St}:Bk b (V.bool false=.bool (!b)/\e=e/\s=s) (V.bool true=.bool (!b)/\e=e/\s=s):=by
 cases b
 .exact Wj Wa
 .exact Wi Wa
noncomputable def Env.ts (env:Env) (U:List (Nat×V)) (keep:List Nat):List (Nat×V):=
 List.rec (motive:=λ_=>List (Nat×V)) (List.rec (motive:=λ_=>List (Nat×V)) [] (λt _ ih=>(t,env.get t)::ih) keep) (λp _ ih=>p::ih) U
noncomputable def Env.at (env:Env) (U:List (Nat×V)) (keep:List Nat):Env:=match env with
 |⟨ts,bs,n,sz,gl⟩=>⟨Env.ts ⟨ts,bs,n,sz,gl⟩ U keep,[],n,sz,gl⟩
theorem K9 {st:St} (i:Nat) (keep:List Nat) (m:Nat) (J:Nat->Prop) (h0:J 0)
 (he:(env.at [(i,.int .i64 ((0:Nat):Int))] keep).Ek env)
 (hb:∀k:Nat,J k->ih (BF (λenv' st'=>∃y,J y/\m - y<m - k/\(env.at [(i,.int .i64 (y:Int))] keep).Ek env'/\St.le st st') Q) (env.at [(i,.int .i64 (k:Int))] keep) st):
 ∃(α:Type) (E:α->Env) (S:α->St) (J:α->Prop) (U:α->Nat) (x0:α),J x0/\(E x0).Ek env/\St.le (S x0) st/\
  ∀x,J x->ih (BF (λenv' st'=>∃y,J y/\U y<U x/\(E y).Ek env'/\St.le (S y) st') Q) (E x) (S x):=
 ⟨Nat,λk=>env.at [(i,.int .i64 (k:Int))] keep,λ_=>st,J,λk=>m - k,0,h0,he,St.le_refl _,hb⟩
theorem eA:(k:Int).tmod 2=1↔k % 2=1:=by grind
theorem RB:(k:Int).tmod 2=0↔k % 2=0:=by grind
theorem drop_at {l:List α} {x:α} (h:l[k]? =some x):l.drop k=x::l.drop (k+1):=by
 obtain ⟨U,rfl⟩:=List.getElem?_eq_some_iff.1 h
 simp_all
noncomputable def Env.bx (env:Env) (U:List Nat):List (Nat×List V):=
 List.rec (motive:=λ_=>List (Nat×List V)) [] (λid _ ih=>match assoc env.boxes id with|some cs=>(id,cs)::ih|none=>ih) U
noncomputable def Env.pt (env:Env) (U:List (Nat×V)) (keep kb:List Nat):Env:=match env with
 |⟨ts,bs,n,sz,gl⟩=>⟨Env.ts ⟨ts,bs,n,sz,gl⟩ U keep,Env.bx ⟨ts,bs,n,sz,gl⟩ kb,n,sz,gl⟩
theorem T3 {st:St} (i:Nat) (keep U:List Nat) (m:Nat) (J:Nat->Prop) (h0:J 0)
 (he:(env.pt [(i,.int .i64 ((0:Nat):Int))] keep U).Ek env)
 (hb:∀k:Nat,J k->ih (BF (λenv' st'=>∃y,J y/\m - y<m - k/\(env.pt [(i,.int .i64 (y:Int))] keep U).Ek env'/\St.le st st') Q) (env.pt [(i,.int .i64 (k:Int))] keep U) st):
 ∃(α:Type) (E:α->Env) (S:α->St) (J:α->Prop) (μ:α->Nat) (x0:α),J x0/\(E x0).Ek env/\St.le (S x0) st/\
  ∀x,J x->ih (BF (λenv' st'=>∃y,J y/\μ y<μ x/\(E y).Ek env'/\St.le (S y) st') Q) (E x) (S x):=
 ⟨Nat,λk=>env.pt [(i,.int .i64 (k:Int))] keep U,λ_=>st,J,λk=>m - k,0,h0,he,St.le_refl _,hb⟩
theorem QA {st:St} (f:α->List (Nat×V)) (keep kb:List Nat) (S:α->St) (J:α->Prop) (U:α->Nat) (x0:α) (h0:J x0)
 (he:(env.pt (f x0) keep kb).Ek env) (hs:St.le (S x0) st)
 (hb:∀x,J x->ih (BF (λenv' st'=>∃y,J y/\U y<U x/\(env.pt (f y) keep kb).Ek env'/\St.le (S y) st') Q) (env.pt (f x) keep kb) (S x)):
 ∃(α:Type) (E:α->Env) (S:α->St) (J:α->Prop) (U:α->Nat) (x0:α),J x0/\(E x0).Ek env/\St.le (S x0) st/\
  ∀x,J x->ih (BF (λenv' st'=>∃y,J y/\U y<U x/\(E y).Ek env'/\St.le (S y) st') Q) (E x) (S x):=
 ⟨α,λk=>env.pt (f k) keep kb,S,J,U,x0,h0,he,hs,hb⟩
def strs (l:List (List UInt8)):List (List V):=l.map λs=>[V.str s]
theorem JO {l new:List (List UInt8)} {own:AA} {st:St} {K:V->St->Prop} (h:own.Bw st) (hb:l.length+new.length<=1000000000)
 (k:∀U:AA,U.Bw st->K (.slice 1 (strs (l++new)) U) (U.st st (l++new).length)):Ag 1 16 (strs l) own (strs new) (own.st st l.length) K:=by
 have h0:∀l,(strs l).length=l.length:=λl=>by simp [strs]
 have h1:∀l,(strs l).map (·.map V.Jl)=strs l:=λl=>by simp only [strs,List.map_map];rfl
 have:=E2 (sz:=1) (bytes:=16) (es:=strs l) (new:=strs new) (K:=K) h (by grind) (by rw [h0,h0];simp only [C9];omega)
  (by simp [strs,V.sc]) (λU ho=>by
    have:=k U ho
    rw [h0,h0,h1]
    rw [List.length_append] at this
    rw [Nat.mul_one,show strs l++strs new=strs (l++new) by simp [strs]]
    omega)
 simp_all
def ints (l:List Int):List (List V):=l.map λn=>[V.int .i64 n]
theorem Wg [BEq α] [LawfulBEq α] {a b:α} {q:Prop} (h:a=b->p) (k:¬a=b->q):Bk (a==b) p q:=
 Wk (λe=>h (eq_of_beq e)) (λe=>k (λx=>by simp_all))
theorem Wh [Decidable c] {q:Prop} (h:c->p) (k:¬c->q):Bk (decide c) p q:=
 Wk (λe=>h (of_decide_eq_true e)) (λe=>k (of_decide_eq_false e))
section
variable {R:At->St->Prop} {st:St}
theorem fin (h:R r st) (e:r=r'):∃r2 U,(r2=r'\/r2=r'.wk)/\St.le U st/\R r2 U:=by subst e;exact ⟨r,st,.inl rfl,St.le_refl _,h⟩
theorem Au {b':Bool} (h:R (.ret (.bool b)) st) (e:b=b'):∃r2 U,(r2=(.ret (.bool b'))\/r2=(At.ret (.bool b')).wk)/\St.le U st/\R r2 U:=by subst e;exact fin h rfl
theorem TG (h:R r st) (e:r=r'.wk):∃r2 U,(r2=r'\/r2=r'.wk)/\St.le U st/\R r2 U:=by subst e;exact ⟨_,st,.inr rfl,St.le_refl _,h⟩
theorem Bm (e:r=r'.wk) (h:R r st):∃r2 U,(r2=r'\/r2=r'.wk)/\St.le U st/\R r2 U:=TG h e
theorem Gf (e:r=r') (h:R r st):∃r2 U,(r2=r'\/r2=r'.wk)/\St.le U st/\R r2 U:=fin h e
end
theorem Ph {P:Prop} (k:A) (h:A->P:=by intro k;with_reducible first|(show _/\_;first|  exact Wm ‹_› AC k|exact Wn AC AC k|exact Wo AC AC k|exact Wp AC AC AC k|exact Wr Do AC AC k|exact Ws Do k)|(show Bk _ _ _;first|exact Wi k|exact Wj k)|(intro x y z;exact Wl k x y z)|(show Exists _;first|exact Wq AC AC k)|fail):P:=h k
theorem KD {P B:Prop} (k:A) (l:B) (h:A->B->P:=by intro k l;with_reducible first|(show Bk _ _ _;first|exact Wf Do k l|exact Wg k l|exact Wh k l|exact Wk k l)|fail):P:=h k l
theorem Yl {P:Prop} (h:P:=by refine ⟨rfl,?_,?_,rfl⟩<;>repeat' (first|exact trivial|exact rfl|refine And.intro ?_ ?_)):P:=h
section
variable {D:List Deferred} {P:Program} {T:List (Nat×Ty)} {C:FuncId->List V->St->(At->St->Prop)->Prop} {I0 I:Mem} {st0 st:St} {w0 w:World} {β:Nat->Option Nat} {env:Env} {a:Act}
def pz:Nat->Nat->List Bool
 |0,_=>[]
 |n+1,m=>(m % 2==1)::pz n (m / 2)
def rI (n:Nat):List Nat->List (List Bool×Nat)
 |[]=>[]
 |x::r=>(pz n (x / 32),x % 32)::rI n r
def Hh (all:List Oper) (U:List (List Bool×Nat)):Bool:=
 ((List.range all.length).all λj=> !(Bz all (List.replicate all.length false) j)||U.contains (List.replicate all.length false,j))&&
 ((List.replicate all.length false==List.replicate all.length true)||(List.range all.length).any λj=>Bz all (List.replicate all.length false) j)&&
 U.all λp=>(p.1.length==all.length)&&((List.range all.length).all λj=> !(Bz all (p.1.set p.2 true) j)||U.contains (p.1.set p.2 true,j))&&
  ((p.1.set p.2 true==List.replicate all.length true)||(List.range all.length).any λj=>Bz all (p.1.set p.2 true) j)
def kG (T:List (Nat×Ty)) (C:FuncId->List V->St->(At->St->Prop)->Prop) (all:List Oper) (Q:AD->Env->St->Prop) (E:List Bool->Env) (S:List Bool->St) (p:List Bool×Nat):Prop:=
 match all[p.2]? with
 |some o=>Bg all o (E p.1) (FE T C o (E p.1) (S p.1) (λv env st=>env.go o.dst v λenv=>(E (p.1.set p.2 true)).Ek env/\St.le (S (p.1.set p.2 true)) st) Q)
   ((E p.1).go o.dst (.Bj []) λenv=>(E (p.1.set p.2 true)).Ek env/\St.le (S (p.1.set p.2 true)) (S p.1))
 |none=>True
theorem bV (hT:Gc P T) (hC:∀f args st R,C f args st R->C0 P f args st R/\Plain P f) {E:List Bool->Env} {S:List Bool->St} {PL:List (List Bool×Nat)}
 (hc:Hh all PL=true) (step:∀p ∈ PL,kG T C all Q E S p) (fin:Q .normal (E (List.replicate all.length true)) (S (List.replicate all.length true))):
 ∀(fuel:Nat) (bs:List Bool) (listed:Array Bool) (I:Mem) (β:Nat->Option Nat) (a:Act) (w:World),bs.length=all.length->listed.toList=bs->bs.count false<=fuel->
  (∀j,j<all.length->Bz all bs j=true->(bs,j) ∈ PL)->(bs=List.replicate all.length true\/∃j,j<all.length/\Bz all bs j=true)->
  Rel D I0 st0 w0 I β (E bs) (S bs) a w->wpAny P .any all.toArray (Ci D I0 st0 w0 Q) fuel listed a w:=by
 have full:∀{bs:List Bool},bs.length=all.length->bs.count false=0->bs=List.replicate all.length true:=λ{bs} hb h0=>by
  rw [List.eq_replicate_iff]
  grind
 have noready:∀{j:Nat},Bz all (List.replicate all.length true) j=true->j<all.length->False:=λ{j} h hj=>by
  unfold Bz at h
  simp_all
 simp only [Hh,Bool.and_eq_true,List.all_eq_true] at hc
 intro fuel
 induction fuel with
 |zero=>
  intro bs listed I β a w hb hl hf hp hr h
  have:=full hb AC
  subst this
  refine ⟨?_,⟨I,β,_,_,.normal,h,trivial,fin⟩⟩
  rw [List.eq_nil_iff_forall_not_mem]
  intro j hj
  obtain ⟨U,h2⟩:=(D8 hl hb).1 hj
  grind
 |succ fuel ih=>
  intro bs listed I β a w hb hl hf hp hr h
  refine ⟨λh0=>?_,λi hi=>?_⟩
  .rcases hr with rfl|⟨j,U,h2⟩
   .exact ⟨I,β,_,_,.normal,h,trivial,fin⟩
   .have:=(D8 hl hb).2 ⟨U,h2⟩
    simp_all
  .obtain ⟨U,h2⟩:=(D8 hl hb).1 hi
   have hm:=hp i U h2
   have hs:=step _ hm
   unfold kG at hs
   have ho:all[i]? =some all[i]:=List.getElem?_eq_getElem U
   simp only [ho] at hs
   obtain ⟨⟨c1,c2⟩,c3⟩:=hc.2 _ hm
   refine Lo hT hC (Q:=Q) ho (λ{I β env st a w} h k=>?_) h hs (K:=λenv st=>(E (bs.set i true)).Ek env/\St.le (S (bs.set i true)) st)
   .have hbi:i<bs.length:=AC
    refine ih (bs.set i true) _ I _ a w kw (by simp [hl]) ?_ (λj hj hr=>?_) ?_ ((h.Gw k.2).H0 (Env.Ie k.1))
    .have:=List.count_set (a:=true) (i:=i) (l:=bs) (b:=false) hbi
     unfold Bz at h2
     grind
    .grind
    grind
theorem KW (hP:MZ P T) (hC:∀f args st R,C f args st R->C0 P f args st R/\Plain P f) {id:Nat} {ops:Array Oper} (E:List Bool->Env) (S:List Bool->St) (PL:List (List Bool×Nat))
 (hc:Hh ops.toList PL=true) (h0:(E (List.replicate ops.toList.length false)).Ek env) (s0:St.le (S (List.replicate ops.toList.length false)) st) (step:∀p ∈ PL,kG T C ops.toList Q E S p)
 (fin:Q .normal (E (List.replicate ops.toList.length true)) (S (List.replicate ops.toList.length true))):AW P (.region id ops true) Q env st:=λD I0 st0 w0 I β a w h=>
 wp_region_any hP.m (by
  have U:=hc
  simp only [Hh,Bool.and_eq_true,List.all_eq_true] at U
  have:=bV (D:=D) hP.t hC hc step fin ops.size (List.replicate ops.toList.length false) (Array.replicate ops.size false) I _ a _ GT GT GT (λj hj hr=>?_) ?_ (((h.IG (HB.drew w)).Gw s0).H0 (Env.Ie h0))
  .simp_all
  .grind
  simp_all)
end
def V.aC:V->Bool
 | .ptr _ _=>true
 |_=>false
theorem Ao.rN {I J:Mem}:∀{vs:List V} {cs:List Value},Ao I vs cs->vs.all V.aC=true->Ao J vs cs
 |[],cs,h,_=>by simpa only [Ao] using h
 |v::vs,cs,h,k=>by
  simp only [Ao] at h |-
  obtain ⟨c,r,rfl,U,h2⟩:=h
  simp only [List.all_cons,Bool.and_eq_true] at k
  refine ⟨c,r,rfl,?_,Ao.rN h2 k.2⟩
  cases v<;>first|(simp only [AH] at U |-;exact U)|exact absurd k.1 (by simp [V.aC])
def GM (P:Program) (g:FuncId) (args:List V) (x:Option V) (st:St) (R:St->Prop):Prop:=
 ∀(I:Mem) (w:World) (U:List Value) (u:FrameMode),B7 I st w->Ao I args U->
  (match x with|none=>u=.returning|some v=>∃c,u=.panicking [{v:=c,recovered:=false}]/\AH I v c)->
  CallsD P g U.toArray u w λe u' w'=>(∃v,e=.returned v)/\settle u'=.returning/\∃I' st',Fr I st w I' st' w'/\B7 I' st' w'/\R st'
section
variable {D:List Deferred} {P:Program} {T:List (Nat×Ty)} {I0 I:Mem} {st0 st:St} {w0 w:World} {β:Nat->Option Nat} {env:Env} {a:Act}
theorem Rel.defer (h:Rel D I0 st0 w0 I β env st a w) (d:Deferred):Rel (d::D) I0 st0 w0 I β env st {a with defers:=d::a.defers} w:=
 ⟨h.fr,h.s,⟨h.f.size,h.f.tmps,h.f.box,h.f.BG,h.f.inj,h.f.sep,by rw [<-h.f.defers]⟩⟩
def R4 (T:List (Nat×Ty)) (fn:Func) (R:At->St->Prop) (env:Env) (st:St):Prop:=
 Es T env st fn.results.toList λvs=>match vs with|[v]=>R (.ret v) st|vs=>R (.ret (.Bj vs)) st
def YN (P:Program) (T:List (Nat×Ty)) (g:FuncId) (U:List V) (fn:Func) (R:At->St->Prop):AD->Env->St->Prop
 | .normal,env,st| .ret,env,st=>GM P g U none st λst'=>R4 T fn R env st'
 | .BK v,env,st=>GM P g U (some v) st λst'=>R4 T fn R env st'
 |_,_,_=>False
def lE:AD->Env->St->Prop:=λ_ _ _=>False
theorem EX {U:List Value} (gl:List Nat) (hs:B7 I st w) (hargs:Ao I args U) (hle:Nat.ble args.length fn.ntmps=true):
 Rel [] I st w I (λ_=>none) {tmps:=Hg 0 args,boxes:=[],BG:=0,sz:=fn.ntmps,gl} st
  {tmps:=U.toArray++Array.replicate (fn.ntmps - U.toArray.size) undef,defers:=[]} w:=by
 have hle:=Nat.le_of_ble_eq_true hle
 have hlen:=Ao.length hargs
 refine QM hs (by grind) (λt v e=>?_) rfl rfl
 obtain ⟨_,e⟩:=Pn e
 rw [Nat.sub_zero] at e
 obtain ⟨c',e1,e2⟩:=Ao.get hargs e
 have hlt:t<U.length:=by
  rcases Nat.lt_or_ge t U.length with h|h
  .exact h
  .simp_all
 have:(U.toArray++Array.replicate (fn.ntmps - U.toArray.size) undef).getD t undef=c':=by
  rw [List.getElem?_eq_getElem hlt] at e1
  injection e1 with e1
  subst e1
  simp [Array.getD,Array.getElem_append,hlt]
  omega
 simp_all
theorem IV (hP:MZ P T) (gl:List Nat) (hf:P.funcs[f]? =some fn) {c0 c1:Code} {mk U:Oper}
 (hb : fn.body = some (.seq c0 (.seq c1 (.seq (.region rid #[mk, U] false) rest)))) (hn : (fn.name == "runtime.NumGoroutine") = false) {cap : Array Operand} {tf : Nat}
 (h1:mk.op=.makeFunc (.func g) #[] cap) (h2:mk.dst=some tf) (h3:mk.guard=none) (h4:U.op=.defer {callee:=.value (.tmp tf),args:=#[],argTypes:=#[]}) (h5:U.guard=none) (h6:U.dst=none)
 (hg:Plain P g) (hle:Nat.ble args.length fn.ntmps=true)
 (h:OM T (A0 P) c0 (BF (OM T (A0 P) c1 (BF (λenv st=>TB env cap.toList λvs=>vs.all V.aC=true/\env.go (some tf) (.func g [] vs) λenv=>
   AW P rest (YN P T g vs fn R) env st) lE)) lE) {tmps:=Hg 0 args,boxes:=[],BG:=0,sz:=fn.ntmps,gl} st):A0 P f args st R:=by
 refine ⟨?_,fn,hf,kw,hn⟩
 intro I w cargs hs hargs
 refine calls_of_wp_defers hf hb ?_
 have hsd:=λc {Q env st} k=>M6 (Q:=Q) (env:=env) (st:=st) hP (A2 P) (λ_ _ _ _ _ h k=>k.mono h) c k
 refine wp_seq (wp_mono (hsd c0 h [] I st w I _ _ w (EX gl hs hargs hle)) ?_)
 rintro e a w1 ⟨I1,β1,env1,st1,ae,r1,x1,k1⟩
 cases ae with
 |exit _|goto _|ret|BK _=>exact k1.elim
 |normal=>
 cases e with
 |exit _|goto _|ret|panic _|outgrown=>exact x1.elim
 |normal=>
 refine wp_seq (wp_mono (hsd c1 k1 [] I st w I1 _ _ w1 r1) ?_)
 rintro e a w2 ⟨I2,β2,env2,st2,ae,r2,x2,k2⟩
 cases ae with
 |exit _|goto _|ret|BK _=>exact k2.elim
 |normal=>
 cases e with
 |exit _|goto _|ret|panic _|outgrown=>exact x2.elim
 |normal=>
 refine wp_seq (wp_region_list ?_)
 show wpList P #[mk,U] _ [mk,U] a w2
 unfold wpList
 rw [if_pos (by simp [Region.wanted,h3])]
 left
 obtain ⟨vs,hv,kp,kg⟩:=ES r2.f (show TB env2 cap.toList _ from k2)
 have hcv:AH I2 (.func g [] vs) (.func (.func g) #[] (cap.map a.eval)):=by
  simp only [AH]
  exact ⟨[],cap.toList.map a.eval,by congr 1;grind,H1,hv⟩
 obtain ⟨env3,r3,k3⟩:=BL r2 (AQ.of hcv) kg
 have htf:tf<a.tmps.size:=by
  rw [r2.f.size]
  exact (HI kg).1 tf rfl
 unfold Oper.wp
 rw [show (execOp a.eval mk).run P w2=.ok (.value (.func (.func g) #[] (cap.map a.eval))) w2 by simp only [execOp,h1,Array.map_empty];rfl]
 show wpList P #[mk,U] _ [U] (a.put mk.dst _) w2
 rw [h2]
 unfold wpList
 rw [if_pos (by simp [Region.wanted,h5])]
 left
 have hev:(a.put (some tf) (.func (.func g) #[] (cap.map a.eval))).eval (.tmp tf)=.func (.func g) #[] (cap.map a.eval):=by
  simp [Act.put,Act.eval,htf]
 unfold Oper.wp
 rw [show (execOp (a.put (some tf) (.func (.func g) #[] (cap.map a.eval))).eval U).run P w2=.ok (.defer {target:=.fn (.func g) (cap.map a.eval),args:=#[]}) w2 by
  simp only [execOp,h4,resolve,hev,Deferred.ofValue,Array.map_empty,Array.empty_append];rfl]
 rw [Oper.upon_defer]
 rw [h6]
 unfold wpList
 show rest.wp P _ _ _
 have r4:=r3.defer {target:=.fn (.func g) (cap.map a.eval),args:=#[]}
 refine wp_mono (k3 _ I st w I2 _ _ w2 r4) ?_
 rintro e a5 w5 ⟨I5,β5,env5,st5,ae,r5,x5,k5⟩
 have hd:=r5.f.defers
 obtain ⟨fn2,p1,p2,p3⟩:=hg
 have hinv:(invoke (.fn (.func g) (cap.map a.eval)) #[]).run P w5=.ok (.enter g (cap.toList.map a.eval).toArray) w5:=by
  have hb:fn2.body.isNone=false:=by cases hb:fn2.body<;>simp_all
  simp only [invoke,callFunc,Sem.run_bind,Sem.run_pure,Result.andThen_ok,run_program,p1]
  rw [p3]
  simp [hb]
  apply Array.ext';simp
 have last:∀{u:FrameMode} {x:Option V},u≠.run->(match x with|none=>u=.returning|some v=>∃c,u=.panicking [{v:=c,recovered:=false}]/\AH I5 v c)->GM P g vs x st5 (λst'=>R4 T fn R env5 st')->
  Leaves P fn a5.tmps (λe w'=>∃I' st' r,Fr I st w I' st' w'/\B7 I' st' w'/\dJ I' e r/\R r st') a5.defers u w5:=by
  intro u x hu hx k
  rw [hd]
  refine leaves_cons hu hinv ((k I5 w5 _ u r5.s (Ao.rN hv kp) hx).mono ?_)
  rintro e u' w6 ⟨⟨v,rfl⟩,hset,I6,st6,q1,q2,q3⟩
  show Leaves P fn a5.tmps _ [] (settle u') w6
  rw [hset]
  have r6:=r5.called q1 q2
  obtain ⟨v,c,g1,g2,g3⟩:=B6 (P:=P) hP.t r6 q3
  exact ⟨c,g1,I6,st6,.ret v,r6.fr,r6.s,g2,g3⟩
 cases ae with
 |normal=>
  cases e with
  |normal=>exact last (x:=none) GT rfl k5
  |_=>exact x5.elim
 |ret=>
  cases e with
  |ret=>exact last (x:=none) GT rfl k5
  |_=>exact x5.elim
 |BK v=>
  cases e with
  |panic chain=>
   obtain ⟨c,rfl,hc⟩:=x5
   exact last (x:=some v) GT ⟨c,rfl,hc⟩ k5
  |_=>exact x5.elim
 |exit _=>exact k5.elim
 |goto _=>exact k5.elim
def rU:Option V->V
 |none=>.EJ
 |some v=>v
def sZ (T:List (Nat×Ty)) (fn:Func) (R:St->Prop):AD->Env->St->Prop
 | .normal,env,st| .ret,env,st=>R4 T fn (λ_ st=>R st) env st
 |_,_,_=>False
theorem E6 (hP:MZ P T) (gl:List Nat) {x:Option V} {st:St} {R:St->Prop} (hf:P.funcs[g]? =some fn) {ro ao:Oper}
 (hb:fn.body=some (.seq (.region rid #[ro,ao] false) rest)) {t1 t2:Nat} {sG:Array TypeId} (h1:ro.op=.call {callee:=.builtin .recover,args:=#[],argTypes:=sG}) (h2:ro.dst=some t1) (h3:ro.guard=none)
 (h4:ao.op=.assign (.tmp t1)) (h5:ao.dst=some t2) (h6:ao.guard=none) (hle:Nat.ble args.length fn.ntmps=true)
 (h:∀env0:Env,env0={tmps:=Hg 0 args,boxes:=[],BG:=0,sz:=fn.ntmps,gl}->env0.go (some t1) (rU x) λenv=>env.go (some t2) (rU x) λenv=>AW P rest (sZ T fn R) env st):GM P g args x st R:=by
 intro I w U u hs hargs hx
 refine callsD_of_wpS hf hb (λc0 cs hu=>?_)
 refine wpS_seq (wpS_region ?_)
 obtain ⟨c,cs',u',hrec,hrep,hcs,hset⟩:∃(c:Value) (cs':List Frame) (u':FrameMode),(match recoverD (c0::cs) with|some (v,cs1)=>c=v/\cs'=cs1|none=>c=.nilIface/\cs'=c0::cs)/\AH I (rU x) c/\cs'={c0 with mode:=u'}::cs/\settle u'=.returning:=by
  cases x with
  |none=>
   have hx:u=.returning:=hx
   rw [hx] at hu
   refine ⟨.nilIface,c0::cs,.returning,?_,H1,?_,rfl⟩
   .simp only [recoverD,hu,and_self]
   .rw [<-hu]
  |some v=>
   obtain ⟨c,hx,hc⟩:=hx
   rw [hx] at hu
   refine ⟨c,{c0 with mode:=.panicking [{v:=c,recovered:=true}]}::cs,.panicking [{v:=c,recovered:=true}],?_,hc,rfl,rfl⟩
   simp only [recoverD,hu,and_self]
 have r0:=EX (fn:=fn) gl hs hargs hle
 obtain ⟨env1,r1,k1⟩:=BL r0 (AQ.of hrep) (h _ rfl)
 obtain ⟨env2,r2,k2⟩:=BL r1 (AQ.of hrep) k1
 have hlt:t1<(U.toArray++Array.replicate (fn.ntmps - U.toArray.size) undef).size:=by
  have:=(HI (h _ rfl)).1 t1 rfl
  rw [r0.f.size]
  exact this
 show wpOpsS P #[ro,ao] _ [0,1] _ _ _
 unfold wpOpsS
 simp only [List.getElem?_toArray,List.getElem?_cons_zero]
 rw [if_pos (by simp [Region.wanted,h3])]
 rw [show ∀ρ,(execOp ρ ro).run P w=.ok .recover w from λρ=>by simp only [execOp,h1];rfl]
 dsimp only
 have next:∀(b:Act) (tail:Act->List Frame->World->Prop),tail (b.put (some t1) c) cs' w->(match recoverD (c0::cs) with|some (v,cs1)=>tail (b.put ro.dst v) cs1 w|none=>tail (b.put ro.dst .nilIface) (c0::cs) w):=λb tail ht=>by grind
 refine next _ (λa cs w=>wpOpsS P #[ro,ao] _ [1] a cs w) ?_
 unfold wpOpsS
 simp only [List.getElem?_toArray,List.getElem?_cons_succ,List.getElem?_cons_zero]
 rw [if_pos (by simp [Region.wanted,h6])]
 have hev:∀tm:Act,t1<tm.tmps.size->(tm.put (some t1) c).eval (.tmp t1)=c:=λtm ht=>by simp [Act.put,Act.eval,ht]
 rw [show ∀ρ,(execOp ρ ao).run P w=.ok (.value (ρ (.tmp t1))) w from λρ=>by simp only [execOp,h4];rfl]
 dsimp only
 rw [Oper.upon_value,hev _ hlt,h5]
 unfold wpOpsS
 show rest.wpS P _ _ cs' w
 refine wpS_of_wp (wp_mono (k2 [] I st w I _ _ w r2) ?_)
 rintro e a5 w5 ⟨I5,β5,env5,st5,ae,r5,x5,k5⟩
 have last:R4 T fn (λ_ st=>R st) env5 st5->a5.defers=[]/\∃u',cs'={c0 with mode:=u'}::cs/\∃v,(results fn a5.tmps).run P w5=.ok v w5/\((∃v',Ending.returned v=.returned v')/\settle u'=.returning/\∃I' st',Fr I st w I' st' w5/\B7 I' st' w5/\R st'):=λq=>by
  obtain ⟨v,c,g1,g2,g3⟩:=B6 (P:=P) (R:=λ_ st=>R st) hP.t r5 (show Es T env5 st5 fn.results.toList _ from q)
  exact ⟨r5.f.defers,u',hcs,c,g1,⟨_,rfl⟩,hset,I5,st5,r5.fr,r5.s,g3⟩
 cases ae with
 |normal=>
  cases e with
  |normal=>exact last k5
  |_=>exact x5.elim
 |ret=>
  cases e with
  |ret=>exact last k5
  |_=>exact x5.elim
 |BK v=>exact k5.elim
 |exit _=>exact k5.elim
 |goto _=>exact k5.elim
end
end Go.Aw
namespace Go.Aw
theorem Wt [BEq α] [LawfulBEq α] {a b:α} {q:Prop} (e:a=b) (h:p):Bk (a==b) p q:=Wg (λ_=>h) (λn=>absurd e n)
theorem Wu [BEq α] [LawfulBEq α] {a b:α} {q:Prop} (e:¬a=b) (h:q):Bk (a==b) p q:=Wg (λn=>absurd n e) (λ_=>h)
theorem Wv [Decidable c] {q:Prop} (e:c) (h:p):Bk (decide c) p q:=Wh (λ_=>h) (λn=>absurd e n)
theorem Ww [Decidable c] {q:Prop} (e:¬c) (h:q):Bk (decide c) p q:=Wh (λn=>absurd n e) (λ_=>h)
end Go.Aw
namespace Go.Proofs.Z
open Go Go.Aw
abbrev PC (f:FuncId) (args:List V) (st:St) (R:At->St->Prop):Prop:=A0 Tryz.prog f args st R
structure Tk where
 kind:Int
 text:List UInt8
 line:Int
 Cp:Int
structure Al where
 AV:List Tk
 pos:Int
 DS:List Int
 wait:Int
def Tk.cells (t:Tk):List V:=[.int .i64 t.kind,.str t.text,.int .i64 t.line,.int .i64 t.Cp]
def E7 (t:Tk):V:=.agg t.cells
def A4 (l:List Tk):List (List V):=l.map Tk.cells
def Al.cells (s:Al):List V:=[.slice 4 (A4 s.AV) .any,.int .i64 s.pos,.slice 1 (ints s.DS) .any,.int .i64 s.wait]
def Dz (s:Al):V:=.agg s.cells
def kT:Tk:=⟨0,[],0,0⟩
def Ex:Al:=⟨[],0,[],0⟩
theorem HA (l:List Tk):(A4 l).length=l.length:=by simp [A4]
theorem CB (l:List Int):(ints l).length=l.length:=by simp [ints]
theorem Wz {l:List Tk} {K:Nat->Prop} (k:l.length<4611686018427387904->K l.length):∀m,m=(A4 l).length->m<C9->K m:=λm U h=>by
 rw [HA] at U;subst U;exact k h
theorem WA {K:Nat->Prop} (k:l.length<4611686018427387904->K l.length):∀m,m=(ints l).length->m<C9->K m:=λm U h=>by
 rw [CB] at U;subst U;exact k h
theorem WC {l:List Tk} (h0:0<=i) (h1:i<l.length) (k:∀x,l[i.toNat]? =some x->K x.cells):0<=i/\∃e,(A4 l)[i.toNat]? =some e/\K e:=by
 have U:i.toNat<l.length:=AC
 exact ⟨h0,l[i.toNat].cells,by simp [A4,U],k _ (List.getElem?_eq_getElem U)⟩
theorem WB {l:List Tk} {x:Tk} (h:l[i.toNat]? =some x) (U:0<=i) (k:K x.cells):0<=i/\∃e,(A4 l)[i.toNat]? =some e/\K e:=
 ⟨U,x.cells,by simp [A4,h],k⟩
theorem WD (h0:0<=i) (h1:i<l.length) (k:∀x,l[i.toNat]? =some x->K [.int .i64 x]):0<=i/\∃e,(ints l)[i.toNat]? =some e/\K e:=by
 have U:i.toNat<l.length:=AC
 exact ⟨h0,[.int .i64 l[i.toNat]],by simp [ints,U],k _ (List.getElem?_eq_getElem U)⟩
theorem WE {a b:Int} {K:List (List V)->Prop} (h0:0<=a) (h1:a<=b) (h2:b<=l.length) (k:K (ints ((l.take b.toNat).drop a.toNat))):
 (0<=a/\a<=b/\b<=(ints l).length)/\∀U,U=(((ints l).take b.toNat).drop a.toNat)->K U:=by
 refine ⟨⟨h0,h1,by rw [CB];exact h2⟩,λU e=>?_⟩
 have:((ints l).take b.toNat).drop a.toNat=ints ((l.take b.toNat).drop a.toNat):=by simp [ints,List.map_drop,List.map_take]
 rw [this] at e;subst e;exact k
theorem Wx {K:Bool->Prop} (h:es=[]->K true) (k:K false):∀b,(b=true->es=[])->K b
 |true,e=>h (e rfl)
 |false,_=>k
theorem Lw {new:List Int} {own:AA} {st:St} {K:V->St->Prop} (h:own.Bw st) (hb:l.length+new.length<=1000000000)
 (k:∀U:AA,U.Bw st->K (.slice 1 (ints (l++new)) U) (U.st st (l++new).length)):Ag 1 8 (ints l) own (ints new) (own.st st l.length) K:=by
 have hw:(ints new).map (·.map V.Jl)=ints new:=by
  simp only [ints,List.map_map]
  exact List.map_congr_left λx _=>rfl
 have hsc:((ints new).all λv=>v.all V.sc)=true:=by
  simp only [ints,List.all_map,List.all_eq_true]
  exact λx _=>rfl
 have:=E2 (sz:=1) (bytes:=8) (es:=ints l) (new:=ints new) (K:=K) h (by rw [CB,CB];omega) (by rw [CB,CB];simp only [C9];omega) hsc (λU ho=>by
  have:=k U ho
  rw [CB,CB,hw,<-show ints (l++new)=ints l++ints new from by simp [ints],<-List.length_append,Nat.mul_one]
  exact this)
 rw [CB,Nat.mul_one] at this
 exact this
section
variable {st:St} {R:At->St->Prop}
theorem DK (hs:st.le st') (e:r=r'.wk) (h:R r st):∃r2 U,(r2=r'\/r2=r'.wk)/\St.le U st'/\R r2 U:=⟨r,st,.inr e,hs,h⟩
end
theorem B1 {P:Prop} (h:P:=by with_reducible first|(show _/\_;first|exact Wa)|(show Bk _ _ _;first|exact Wb|exact Wc)|fail):P:=h
theorem A1 {P:Prop} (k:A) (h:A->P:=by intro k;with_reducible first|(show _/\_;first|  exact Wm ‹_› AC k|exact Wn AC AC k|exact Wo AC AC k|exact Wp AC AC AC k|exact Wr Do AC AC k|exact Ws Do k|exact WB ‹_› AC k|exact WC AC AC k|exact WD AC AC k|exact WE AC AC AC k)|(show Bk _ _ _;first|exact Wt H9 k|exact Wu H9 k|exact Wv AC k|exact Ww AC k|exact Wi k|exact Wj k)|(intro x y z;exact Wl k x y z)|(intro x y z;exact Wz k x y z)|(intro x y z;exact WA k x y z)|(show Exists _;first|exact Wq AC AC k)|fail):P:=h k
theorem B2 {P:Prop} {B C:V->Prop} (k:V) (l:B k) (m:C k) (h:∀k,B k->C k->P:=by intro k l m;with_reducible first|(show Exists _;first|  exact W8 GE k l m|exact W0 GE k l m|exact W9 k l m)|fail):P:=h k l m
theorem CZ {P B:Prop} (k:A) (l:B) (h:A->B->P:=by intro k l;with_reducible first|(show Bk _ _ _;first|exact Wf Do k l|exact Wg k l|exact Wh k l|exact Wk k l)|fail):P:=h k l
theorem uJ {P B:Prop} (k:A) (l:B) (h:A->B->P:=by intro k l;with_reducible first|(intro x y;exact Wx k l x y)|(intro x y;exact Wy k l x y)|fail):P:=h k l
end Go.Proofs.Z
namespace Go.Aw
open Go Go.ChangeShapes
theorem P0 {s:ChangeSpec} {c:OpenClaim}
 (a1:(c.wf (OpenSpec.ofChange s)&&laidOutB P&&mapsRowed P&&fn.params.all (P.readableRec ·)&&namedTie P c.named s.vars&&(c.stops==[])&&(P.stops==[])&&(c.knobs==[])&&(P.stopKnobs==[]))=true)
 (a2:(c.inPlace==P.inPlace f)=true) (a3:(c.unfollowed==P.unfollowed f)=true) (a4:(c.recurses==P.recurses f)=true) (a5:(c.named==P.varsNamed f)=true)
 (a6:((c.maps==(fn.params.toList++s.plain.varTypes P).any (P.mapsRec ·))&&(c.ifaces==(fn.params.toList++s.plain.varTypes P).any (P.ifacesRec ·))&&(c.mapsOut==P.mapsAmong fn.resultTypes.toList)&&(c.loops==(fn.params.toList++s.plain.varTypes P).any (P.loopsFrom ·))&&(c.wideKeys==(fn.params.toList++s.plain.varTypes P++fn.resultTypes.toList).any (P.wideKeysFrom ·))&&s.vars.all (P.varReadable ·)&&fn.resultTypes.all (λt=>P.readableRec t&&decide (t<P.types.size))&&(c.ifacesOut==fn.resultTypes.toList.any (P.ifacesRec ·))&&(c.loopsOut==fn.resultTypes.toList.any (P.loopsFrom ·))&&(c.plainKeys==P.plainKeys)&&c.shortTexts.isNone)=true)
 (a7:P.stopsHeard=true) (a8:P.mayEnter=true) (a9:(c.lifted==P.liftsFinal)=true) (a10:(P.make==some c.make)=true)
 (U:((c.kinds==(if c.domain.isEmpty then [] else fn.params.toList.map λt=>match P.underlying t with|some (.int k)=>some k|_=>none))&&(c.pinned==c.pinnedBy)&&(c.veiled==(fn.params.toList++s.plain.varTypes P++fn.resultTypes.toList).any (P.veiledRec ·))&&c.veiledFits P fn.params.toList (fn.params.toList++s.plain.varTypes P++fn.resultTypes.toList))=true):
 joinedFacts P f fn s c=true:=by
 unfold joinedFacts
 simp only [Bool.and_eq_true] at a1 a6 U |-
 obtain ⟨⟨⟨⟨⟨⟨⟨⟨b1,b2⟩,b3⟩,b4⟩,b5⟩,b6⟩,b7⟩,b8⟩,b9⟩:=a1
 obtain ⟨⟨⟨⟨⟨⟨⟨⟨⟨⟨d1,d2⟩,d3⟩,d4⟩,d5⟩,d6⟩,d7⟩,d8⟩,d9⟩,d10⟩,d11⟩:=a6
 obtain ⟨⟨⟨g1,g2⟩,g3⟩,g4⟩:=U
 exact ⟨⟨⟨⟨⟨⟨⟨⟨⟨⟨⟨⟨⟨⟨⟨⟨⟨⟨⟨⟨⟨⟨⟨⟨⟨⟨⟨⟨⟨⟨⟨b1,b2⟩,b3⟩,b4⟩,b5⟩,b6⟩,b7⟩,b8⟩,b9⟩,a2⟩,a3⟩,a4⟩,a5⟩,d1⟩,d2⟩,d3⟩,d4⟩,d5⟩,d6⟩,d7⟩,d8⟩,d9⟩,d10⟩,d11⟩,a7⟩,a8⟩,a9⟩,a10⟩,g1⟩,g2⟩,g3⟩,g4⟩
theorem Nr {c:OpenClaim} (h:P.funcs.toList.all (λf=> !f.goes)=true) (hs:c.start=.entering):false=c.goesBy P:=by
 have hall:∀f ∈ P.funcs,Func.goes f=false:=by
  intro f hf
  have:=List.all_eq_true.1 h f (by simpa using hf)
  simpa using this
 have hp:∀g,P.goes g=false:=by
  intro g
  unfold Program.goes
  have h1:((P.closure g).any λg=>(P.funcs[g]?).any Func.goes)=false:=by
   rw [Bool.eq_false_iff]
   intro hc
   obtain ⟨x, -,U⟩:=List.any_eq_true.1 hc
   cases hq:P.funcs[x]? with
   |none=>rw [hq] at U;simp at U
   |some f=>rw [hq] at U;simp only [Option.any_some] at U;rw [hall f (Array.mem_of_getElem? hq)] at U;cases U
  have h2:P.funcs.any Func.goes=false:=by
   rw [Bool.eq_false_iff]
   intro hc
   obtain ⟨i,hi,U⟩:=Array.any_eq_true.1 hc
   rw [hall _ (Array.getElem_mem hi)] at U;cases U
  rw [h1,h2];simp
 unfold OpenClaim.goesBy Program.goesAt Program.goesFrom
 rw [hs]
 cases hq:P.funcNamed c.func<;>simp [hp]
end Go.Aw
namespace Go.Proofs.Z
open Go Go.Aw Go.ChangeShapes Go.WideShapes Go.ChangeAt Go.RowKit
set_option maxRecDepth 100000
theorem Nl:Tryz.prog.stopsHeard=true:=EQ
theorem Nk:Tryz.prog.mayEnter=true:=EQ
theorem Nn:(false==Tryz.prog.liftsFinal)=true:=EQ
theorem P6:(Tryz.prog.make==some .cut)=true:=EQ
theorem P4:Tryz.prog.funcs.toList.all (λf=> !f.goes)=true:=EQ
theorem F0:laidOutB Tryz.prog=true:=EQ
theorem F1:mapsRowed Tryz.prog=true:=EQ
theorem P3:((List.range Tryz.prog.types.size).all λt=>match Tryz.prog.underlying t with|some (.slice e)=>decide (0<Tryz.prog.cellsOf e)|_=>true)=true:=EQ
end Go.Proofs.Z
namespace Go.Proofs.Z
open Go Go.Aw
abbrev Lu (f:FuncId) (args:List V) (st:St) (R:At->St->Prop):Prop:=A0 Tryz.prog f args st R
def IH (x:Int):List Int->Int->Int
 |[],_=> -1
 |y::r,i=>if x=y then i else IH x r (i+1)
theorem Qm {x:Int}:∀{l:List Int} {i:Int},0<=i->(0<=IH x l i↔l.contains x=true)
 |[],i,h=>by simp [IH]
 |y::r,i,h=>by
  simp only [IH]
  split
  .simp_all
  .rename_i e
   rw [Qm AC]
   simp [e]
theorem gU {st:St} {own:AA} (h:R (.ret (.int .i64 (IH x kinds 0))) st):Lu 364 [.slice 1 (ints kinds) own,.int .i64 x] st R:=by
 refine pB Tryz.func364 ?_
 have hlen:(ints kinds).length=kinds.length:=by simp [ints]
 intro m hm hl
 rw [hlen] at hm
 subst hm
 conv=>whnf
 refine ⟨Nat,λk=>{tmps:=[(8,.int .i64 k),(7,.int .i64 kinds.length),(0,.slice 1 (ints kinds) own),(1,.int .i64 x)],boxes:=[],BG:=0,sz:=19,gl:=[]},λ_=>st,
  λk=>k<=kinds.length/\IH x kinds 0=IH x (kinds.drop k) k,λk=>kinds.length - k,0,⟨Nat.zero_le _,rfl⟩,⟨rfl,⟨rfl,rfl,rfl,rfl,rfl,rfl,rfl,rfl,trivial⟩,trivial,rfl⟩,St.le_refl _,?_⟩
 rintro k ⟨hk,hi⟩
 refine Wh (λh1=>?_) (λh1=>?_)
 .have U:k<kinds.length:=AC
  have he:(ints kinds)[(k:Int).toNat]? =some [.int .i64 kinds[k]]:=by simp [ints,U]
  refine ⟨AC,_,he,?_⟩
  have hd:IH x (kinds.drop k) k=if x=kinds[k] then (k:Int) else IH x (kinds.drop (k+1)) (k+1):=by
   rw [List.drop_eq_getElem_cons U];rfl
  refine Wg (λh2=>?_) (λh2=>?_)
  .exact fin h kw
  .refine ⟨((k+1:Nat):Int),?_,?_⟩
   .simp only [C9] at hl
    rw [Ky AC AC];rfl
   .refine ⟨k+1,⟨U,?_⟩,by grind,⟨rfl,⟨rfl,rfl,rfl,rfl,rfl,rfl,rfl,rfl,trivial⟩,trivial,rfl⟩,St.le_refl _⟩
    simp_all
 .refine fin h ?_
  have:k=kinds.length:=AC
  rw [hi,this,List.drop_length];rfl
section
variable {st:St} {R:At->St->Prop}
theorem N3 {own:AA} (h:R (.ret (.bool (kinds.contains x))) st):Lu 325 [.slice 1 (ints kinds) own,.int .i64 x] st R:=by
 refine pB Tryz.func325 ?_
 refine gU ?_
 have key:=Qm (x:=x) (l:=kinds) (i:=0) AC
 refine Wh (λU=>?_) (λU=>?_)
 .exact Au h (key.1 U)
 .refine Au h ?_
  simp_all
def DB (n:Nd) (kinds:List Int):Bool:=n.kind==1&&kinds.contains n.form
theorem Ic {n:Nd} {own:AA} (h:R (.ret (.bool (DB n kinds))) st):Lu 380 [enc n,.slice 1 (ints kinds) own] st R:=by
 refine pB Tryz.func380 ?_
 unfold DB at h
 repeat' ((conv=>whnf);first|  (refine KD ?_ ?_<;>intro _)|refine N3 ?_)
 all_goals exact Au h kw
def Ir (n:Nd) (k:Int) (t:List UInt8):Bool:=DB n [k]&&n.text==t
theorem Li {n:Nd} {k:Int} {t:List UInt8} (h:R (.ret (.bool (Ir n k t))) st):Lu 381 [enc n,.int .i64 k,.str t] st R:=by
 refine pB Tryz.func381 ?_
 unfold Ir at h
 repeat' ((conv=>whnf);first|  (refine KD ?_ ?_<;>intro _)|refine Ic (kinds:=[k]) ?_)
 all_goals exact Au h kw
def CO (n:Nd) (o s:List UInt8):Option (List Nd):=
 if 2<=n.kids.length/\n.kids[0]?.any (Ir · 15 o)=true/\n.kids[n.kids.length - 1]?.any (Ir · 15 s)=true then some ((n.kids.take (n.kids.length - 1)).drop 1) else none
theorem H5 {n:Nd} (U:∀l,CO n o s=some l->R (.ret (.Bj [.slice 6 (Cj l) .any,.bool true])) st)
 (hn:CO n o s=none->R (.ret (.Bj [.slice 6 [] .any,.bool false])) st):Lu 376 [enc n,.str o,.str s] st R:=by
 refine pB Tryz.func376 ?_
 repeat' ((conv=>whnf);first|(refine Ph ?_;intros)|(refine KD ?_ ?_<;>intro _)|refine Li ?_)
 .exact TG (hn (by simp [CO];omega)) rfl
 all_goals
  have e:((n.kids.length:Int) - 1).toNat=n.kids.length - 1:=AC
  simp only [e,Int.toNat_zero,Int.reduceToNat] at *
  first
   |exact TG (U _ (by simp_all [CO];omega)) rfl
   |exact TG (hn (by simp_all [CO])) rfl
theorem Yz {n:Nd} {l:List Nd} (h:CO n o s=some l):l.length+2=n.kids.length:=by
 simp only [CO] at h
 grind
theorem TK {n:Nd} (U:∀l,CO n o s=some l->l.length+2=n.kids.length->R (.ret (.Bj [.slice 6 (Cj l) .any,.bool true])) st)
 (hn:CO n o s=none->R (.ret (.Bj [.slice 6 [] .any,.bool false])) st):Lu 376 [enc n,.str o,.str s] st R:=
 H5 (λl h=>U l h (Yz h)) hn
def NZ:Nd:=.mk 0 0 [] 0 0 []
def OY (n:Nd):Bool:=DB n [6,8]||Ir n 10 [58]
theorem V4 {n:Nd} (h:R (.ret (.bool (OY n))) st):Lu 407 [enc n] st R:=by
 refine pB Tryz.func407 ?_
 repeat' ((conv=>whnf);first|  (refine KD ?_ ?_<;>intro _)|refine Ic (kinds:=[6,8]) ?_|refine Li ?_)
 all_goals conv=>whnf
 all_goals (refine Au h ?_;clear h;simp_all [OY])
def Nz (n:Nd):Option Nd:=if n.kind=3 then (match CO n [40] [41] with|some l=>if l.length=1 then l[0]? else none|none=>none) else none
theorem V8 {n:Nd} (U:∀x,Nz n=some x->R (.ret (.Bj [enc x,.bool true])) st) (hn:Nz n=none->R (.ret (.Bj [enc NZ,.bool false])) st):Lu 402 [enc n] st R:=by
 refine pB Tryz.func402 ?_
 repeat' ((conv=>whnf);first|(refine Ph ?_;intros)|(refine KD ?_ ?_<;>intro _)|refine H5 (λl hl=>?_) (λhl=>?_))
 all_goals conv=>whnf
 all_goals first
  |exact Bm rfl (U _ (by clear U hn;simp_all [Nz]))
  |exact Bm rfl (hn (by clear U hn;simp_all [Nz]))
def FL (n:Nd):Option (List UInt8):=
 if DB n [1] then some n.text else match Nz n with|some x=>if DB x [5] then some x.text else none|none=>none
theorem Ln {n:Nd} (U:∀t,FL n=some t->R (.ret (.Bj [.str t,.bool true])) st) (hn:FL n=none->R (.ret (.Bj [.str [],.bool false])) st):Lu 377 [enc n] st R:=by
 refine pB Tryz.func377 ?_
 repeat' ((conv=>whnf);first|(refine Ph ?_;intros)|(refine KD ?_ ?_<;>intro _)|refine V8 (λl hl=>?_) (λhl=>?_)|refine Ic (kinds:=[1]) ?_|refine Ic (kinds:=[5]) ?_)
 all_goals conv=>whnf
 all_goals first
  |exact Bm rfl (U _ (by clear U hn;simp_all [FL]))
  |exact Bm rfl (hn (by clear U hn;simp_all [FL]))
def QC (n:Nd):Bool:=DB n [2,4]||(match Nz n with|some x=>OY x|none=>false)
theorem T5 {n:Nd} (h:R (.ret (.bool (QC n))) st):Lu 385 [enc n] st R:=by
 refine pB Tryz.func385 ?_
 repeat' ((conv=>whnf);first|(refine Ph ?_;intros)|(refine KD ?_ ?_<;>intro _)|refine V8 (λl U=>?_) (λU=>?_)|refine Ic (kinds:=[2,4]) ?_|refine V4 ?_)
 all_goals conv=>whnf
 all_goals (refine Au h ?_;clear h;simp_all [QC])
def DH (n:Nd):Nd×Bool:=
 if n.kind=18 then (if n.kids.length=1 then ((n.kids[0]?.getD NZ),false) else if n.kids.length=3 then (match CO n [96] [96] with|some l=>((l[0]?.getD NZ),true)|none=>(NZ,false)) else (NZ,false)) else (NZ,false)
theorem Oe {n:Nd} (h:R (.ret (.Bj [enc (DH n).1,.bool (DH n).2])) st):Lu 403 [enc n] st R:=by
 refine pB Tryz.func403 ?_
 repeat' ((conv=>whnf);first|(refine Ph ?_;intros)|(refine KD ?_ ?_<;>intro _)|refine TK (λl U hk=>?_) (λU=>?_))
 all_goals conv=>whnf
 all_goals refine Bm ?_ h
 all_goals clear h
 all_goals simp_all [DH]
 all_goals rfl
def T6 (n:Nd):Bool:=if (DH n).2 then DB (DH n).1 [2,4] else OY (DH n).1
theorem aK {n:Nd} (h:R (.ret (.bool (T6 n))) st):Lu 408 [enc n] st R:=by
 refine pB Tryz.func408 ?_
 repeat' ((conv=>whnf);first|  (refine KD ?_ ?_<;>intro _)|refine Oe ?_|refine Ic (kinds:=[2,4]) ?_|refine V4 ?_)
 all_goals conv=>whnf
 all_goals (refine Au h ?_;clear h;simp_all [T6])
def Pv (n:Nd):Option (List UInt8):=
 if (if (DH n).2 then DB (DH n).1 [1] else DB (DH n).1 [5]) then some (DH n).1.text else none
theorem l7 {n:Nd} (U:∀t,Pv n=some t->R (.ret (.Bj [.str t,.bool true])) st) (hn:Pv n=none->R (.ret (.Bj [.str [],.bool false])) st):Lu 378 [enc n] st R:=by
 refine pB Tryz.func378 ?_
 repeat' ((conv=>whnf);first|  (refine KD ?_ ?_<;>intro _)|refine Oe ?_|refine Ic (kinds:=[1]) ?_|refine Ic (kinds:=[5]) ?_)
 all_goals conv=>whnf
 all_goals first
  |exact Bm rfl (U _ (by clear U hn;simp_all [Pv]))
  |exact Bm rfl (hn (by clear U hn;simp_all [Pv]))
def CJ (f:FuncId) (p:Nd->Bool) (x:Nd):Prop:=∀(st:St) (R:At->St->Prop),R (.ret (.bool (p x))) st->Lu f [enc x] st R
def IU (p:Nd->Bool):Bool->List Nd->Bool
 |_,[]=>true
 |b,x::r=>(if b then Ir x 15 [44] else p x)&&IU p (!b) r
def Mw (p:Nd->Bool) (l:List Nd):Bool:=l.length % 2==1&&IU p false l
theorem Ze {p:Nd->Bool} {l:List Nd} {x:Nd} (h:l[k]? =some x):
 IU p (k % 2==1) (l.drop k)=((if k % 2=1 then Ir x 15 [44] else p x)&&IU p ((k+1) % 2==1) (l.drop (k+1))):=by
 rw [drop_at h,IU]
 have:(!(k % 2==1))=((k+1) % 2==1):=by
  rcases Nat.mod_two_eq_zero_or_one k with e|e
  .grind
  .grind
 grind
theorem WV {l:List Nd} {p:Nd->Bool} (hf:∀x ∈ l,CJ f p x) (h:R (.ret (.bool (Mw p l))) st):Lu 405 [.slice 6 (Cj l) .any,.func f [] []] st R:=by
 refine pB Tryz.func405 ?_
 repeat' ((conv=>whnf);first|(refine Ph ?_;intros)|(refine KD ?_ ?_<;>intro _)|refine Li ?_)
 .conv=>whnf
  refine Au h ?_
  have:=RB.1 ‹_›
  simp [Mw,this]
 .refine K9 13 [11,12,1] l.length (λk=>k<=l.length/\(IU p false l=IU p (k % 2==1) (l.drop k))) ⟨Nat.zero_le _,rfl⟩ Yl ?_
  rintro k ⟨U,hi⟩
  repeat' ((conv=>whnf);first|(refine Ph ?_;intros)|(refine KD ?_ ?_<;>intro _)|refine Li ?_|refine hf _ ‹_› _ _ ?_)
  all_goals conv=>whnf
  all_goals simp only [RB,eA,Int.toNat_natCast] at *
  all_goals try (have e:=Ze (p:=p) ‹l[k]? =some _›;rw [e] at hi;clear e)
  all_goals try omega
  all_goals first
   |(refine ⟨k+1,⟨AC,?_⟩,AC,Yl,St.le_refl _⟩;clear h;simp_all)
   |(refine Au h ?_;clear h;simp_all [Mw])
  rw [List.drop_eq_nil_of_le AC];rfl
def Cu (p:Nd->Bool):List Nd->Int->Int
 |[],_=> -1
 |y::r,i=>if p y then i else Cu p r (i+1)
theorem GW {p:Nd->Bool}:∀{l:List Nd} {i:Int},0<=i->(0<=Cu p l i↔l.any p=true)
 |[],i,h=>by simp [Cu]
 |y::r,i,h=>by
  simp only [Cu,List.any_cons]
  split
  .simp_all
  .rename_i e
   rw [GW AC]
   simp [e]
theorem TU {l:List Nd} {p:Nd->Bool} {st:St}
 (hf:∀x ∈ l,CJ f p x) (h:R (.ret (.int .i64 (Cu p l 0))) st):Lu 365 [.slice 6 (Cj l) .any,.func f [] []] st R:=by
 refine pB Tryz.func365 ?_
 repeat' ((conv=>whnf);first|(refine Ph ?_;intros)|(refine KD ?_ ?_<;>intro _)|fail)
 refine K9 8 [6,7,0,1] l.length (λk=>k<=l.length/\(Cu p l 0=Cu p (l.drop k) k)) ⟨Nat.zero_le _,rfl⟩ Yl ?_
 rintro k ⟨U,hi⟩
 repeat' ((conv=>whnf);first|(refine Ph ?_;intros)|(refine KD ?_ ?_<;>intro _)|refine hf _ ‹_› _ _ ?_)
 all_goals conv=>whnf
 all_goals try (have e:=drop_at ‹l[Int.toNat k]? =some _›;rw [Int.toNat_natCast] at e;rw [e,Cu] at hi;clear e)
 all_goals first
  |(refine ⟨k+1,⟨AC,?_⟩,AC,Yl,St.le_refl _⟩;clear h;simp_all)
  |(refine fin h ?_;clear h;simp_all;done)
  |(refine fin h ?_;rw [hi,List.drop_eq_nil_of_le AC];rfl)
theorem Jf {l:List Nd} {p:Nd->Bool} (hf:∀x ∈ l,CJ f p x) (h:R (.ret (.bool (l.any p))) st):Lu 327 [.slice 6 (Cj l) .any,.func f [] []] st R:=by
 refine pB Tryz.func327 ?_
 refine TU hf ?_
 have key:=GW (p:=p) (l:=l) (i:=0) AC
 refine Wh (λU=>?_) (λU=>?_)
 .exact Au h (key.1 U)
 .refine Au h ?_
  simp_all
theorem mS {x:Nd}:CJ 404 (λx=> !Ir x 15 [44]) x:=by
 intro st R h
 refine pB Tryz.func404 ?_
 repeat' ((conv=>whnf);first|  (refine KD ?_ ?_<;>intro _)|refine Li ?_)
 all_goals conv=>whnf
 all_goals (refine Au h ?_;clear h;simp_all)
def gS (n:Nd):Bool:=
 (FL n).isSome||QC n||(match CO n [91] [93] with|some l=>l.isEmpty|none=>match CO n [40] [41] with|some l=> !l.any λx=> !Ir x 15 [44]|none=>false)
theorem qS {n:Nd} (h:R (.ret (.bool (gS n))) st):Lu 382 [enc n] st R:=by
 refine pB Tryz.func382 ?_
 repeat' ((conv=>whnf);first|(refine Ph ?_;intros)|(refine KD ?_ ?_<;>intro _)|refine Ln (λl U=>?_) (λU=>?_)|refine T5 ?_|refine H5 (λl U=>?_) (λU=>?_)|refine Jf (λx _=>mS) ?_)
 all_goals conv=>whnf
 all_goals (refine Au h ?_;clear h;simp_all [gS])
end
section
variable {st:St} {R:At->St->Prop}
theorem K5 {n:Nd} {l:List Nd} (h:CO n o s=some l):∀x ∈ l,x ∈ n.kids:=by
 simp only [CO] at h
 grind
def GQ (p:Nd->Bool) (n:Nd) (o s:List UInt8) (least:Int) (one:Bool):Bool:=
 match CO n o s with
 |some l=>decide (2*least - 1<=(l.length:Int))&&(!one||l.length==1)&&Mw p l
 |none=>false
theorem Ve {p:Nd->Bool} {n:Nd} {least:Int} {one:Bool} (h0:0<=least) (h1:least<=10) (hp:∀x ∈ n.kids,CJ 352 p x)
 (h:R (.ret (.bool (GQ p n o s least one))) st):Lu 383 [enc n,.str o,.str s,.int .i64 least,.bool one] st R:=by
 cases one
 all_goals refine pB Tryz.func383 ?_
 repeat' ((conv=>whnf);first|(refine Ph ?_;intros)|(refine KD ?_ ?_<;>intro _)|refine H5 (λl U=>?_) (λU=>?_)|refine WV (λx hx=>hp x (K5 ‹_› x hx)) ?_)
 all_goals conv=>whnf
 all_goals (refine Au h ?_;clear h;simp_all [GQ])
 all_goals (intros;omega)
def bS (q:Nd->Bool):List Nd->Bool
 |[]=>true
 |x::r=>q x&&bS q r
def LG (p:Nd->Bool) (x:Nd):Bool:= !(x.kind==11)&& !(x.kind==17)&&p x
def LF (p:Nd->Bool) (l:List Nd):Bool:=bS (LG p) l&&decide (0<l.length)
theorem Vb {p:Nd->Bool} {l:List Nd} (U:∀x ∈ l,CJ 352 p x) (h:R (.ret (.bool (LF p l))) st):Lu 375 [.slice 6 (Cj l) .any] st R:=by
 refine pB Tryz.func375 ?_
 repeat' ((conv=>whnf);first|(refine Ph ?_;intros)|(refine KD ?_ ?_<;>intro _)|fail)
 refine K9 7 [5,6,0] l.length (λk=>k<=l.length/\bS (LG p) l=bS (LG p) (l.drop k)) ⟨Nat.zero_le _,rfl⟩ Yl ?_
 rintro k ⟨hk,hi⟩
 repeat' ((conv=>whnf);first|(refine Ph ?_;intros)|(refine KD ?_ ?_<;>intro _)|refine U _ ‹_› _ _ ?_)
 all_goals conv=>whnf
 all_goals try (have e:=drop_at ‹l[Int.toNat k]? =some _›;rw [Int.toNat_natCast] at e;rw [e,bS] at hi;clear e)
 all_goals first
  |(refine ⟨k+1,⟨AC,?_⟩,AC,Yl,St.le_refl _⟩;clear h;simp_all [LG];done)
  |(refine Au h ?_;clear h;simp_all [LF,LG];done)
  |(refine Au h ?_;clear h;rw [List.drop_eq_nil_of_le AC] at hi;simp_all [LF,bS];done)
  |skip
def Yw (p:Nd->Bool) (n:Nd):Bool:=
 n.kind==13&&n.kids.length==3&&n.kids[0]?.any (DB · [1,3])&&n.kids[1]?.any (Ir · 10 [61])&&n.kids[2]?.any p
theorem mH {p:Nd->Bool} {n:Nd} (U:∀x ∈ n.kids,CJ 352 p x):CJ 406 (Yw p) n:=by
 intro st R h
 refine pB Tryz.func406 ?_
 repeat' ((conv=>whnf);first|(refine Ph ?_;intros)|(refine KD ?_ ?_<;>intro _)|refine Ic (kinds:=[1,3]) ?_|refine Li ?_|refine U _ ‹_› _ _ ?_)
 all_goals conv=>whnf
 all_goals (refine Au h ?_;clear h;simp_all [Yw])
def O2 (p:Nd->Bool) (n:Nd):Bool:=
 decide (3<=n.kids.length)&&n.kids[0]?.any QC&&(match CO (.mk 0 0 [] 0 0 (n.kids.drop 1)) [123] [125] with|some l=>l.isEmpty||Mw (Yw p) l|none=>false)
theorem jH {p:Nd->Bool} {n:Nd} (hp:∀x ∈ n.kids,∀y ∈ x.kids,CJ 352 p y) (h:R (.ret (.bool (O2 p n))) st):Lu 384 [enc n] st R:=by
 refine pB Tryz.func384 ?_
 repeat' ((conv=>whnf);first|(refine Ph ?_;intros)|(refine KD ?_ ?_<;>intro _)|refine T5 ?_|refine H5 (n:=.mk 0 0 [] 0 0 _) (λl U=>?_) (λU=>?_)|refine WV (λx hx=>mH (hp x (List.mem_of_mem_drop (i:=1) (l:=n.kids) (K5 (n:=.mk 0 0 [] 0 0 (n.kids.drop 1)) ‹_› x hx)))) ?_)
 all_goals conv=>whnf
 all_goals (refine Au h ?_;clear h;try simp only [Int.toNat_zero,Int.toNat_one] at *;simp_all [O2])
 all_goals first
  |omega
  |(have:¬3<=n.kids.length:=by omega
    simp [O2,this])
def I7 (p:Nd->Bool):Nat->List Nd->Bool
 |2,[]=>true
 |_,[]=>false
 |0,x::r=>if x.kind=19 then I7 p 1 r else (!(x.kind==17)&&p x)&&I7 p 2 r
 |1,x::r=>DB x [11,12]&&I7 p 2 r
 |_,x::r=>T6 x&&I7 p 0 r
theorem pZ {p:Nd->Bool} {l:List Nd} {x:Nd} (h:l[k]? =some x):I7 p 0 (l.drop k)=if x.kind=19 then I7 p 1 (l.drop (k+1)) else (!(x.kind==17)&&p x)&&I7 p 2 (l.drop (k+1)):=by
 rw [drop_at h];rfl
theorem p4 {p:Nd->Bool} {l:List Nd} {x:Nd} (h:l[k]? =some x):I7 p 1 (l.drop k)=(DB x [11,12]&&I7 p 2 (l.drop (k+1))):=by
 rw [drop_at h];rfl
theorem bz {p:Nd->Bool} {l:List Nd} {x:Nd} (h:l[k]? =some x):I7 p 2 (l.drop k)=(T6 x&&I7 p 0 (l.drop (k+1))):=by
 rw [drop_at h];rfl
theorem Oj {p:Nd->Bool} {l:List Nd} {s:Nat} (h:l.length<=k):I7 p s (l.drop k)=(s==2):=by
 rw [List.drop_eq_nil_of_le h]
 match s with
 |0=>rfl
 |1=>rfl
 |2=>rfl
 |s+3=>rfl
theorem uA:(0:Int).toNat=0:=rfl
theorem uB:((0:Int)+1).toNat=1:=rfl
theorem uC:((0:Int)+1+1).toNat=2:=rfl
theorem uD:((k:Int)+1).toNat=k+1:=AC
theorem uE:((k:Int)+1+1).toNat=k+2:=AC
theorem jV {p:Nd->Bool} {l:List Nd} (U:∀x ∈ l,CJ 352 p x) (h:R (.ret (.bool (I7 p 0 l))) st):Lu 386 [.slice 6 (Cj l) .any] st R:=by
 refine pB Tryz.func386 ?_
 conv=>whnf
 refine ⟨Nat,λ_=>0,λk=>{tmps:=[(3,.int .i64 k),(0,.slice 6 (Cj l) .any)],boxes:=[],BG:=0,sz:=57,gl:=[]},λ_=>st,
  λk=>k<=l.length/\I7 p 0 l=I7 p 0 (l.drop k),λk=>l.length - k,?_,?_⟩
 .have hi:I7 p 0 l=I7 p 0 (l.drop 0):=rfl
  repeat' ((conv=>whnf);first|(refine Ph ?_;intros)|(refine KD ?_ ?_<;>intro _)|refine Ic (kinds:=[11,12]) ?_|refine aK ?_|refine U _ ‹_› _ _ ?_)
  all_goals conv=>whnf
  all_goals try simp only [uA,uB,uC,uD,uE,Int.toNat_natCast,Nat.zero_add,Nat.reduceAdd] at *
  all_goals try (have e:=pZ (p:=p) ‹l[0]? =some _›;rw [e] at hi;clear e)
  all_goals (try have e1:=p4 (p:=p) ‹l[1]? =some _›)
  all_goals (try have e2:=bz (p:=p) ‹l[1]? =some _›)
  all_goals (try have e3:=bz (p:=p) ‹l[2]? =some _›)
  all_goals (try have f0:=Oj (p:=p) (s:=0) (l:=l) (k:=0) AC)
  all_goals (try have f1:=Oj (p:=p) (s:=1) (l:=l) (k:=1) AC)
  all_goals (try have f2:=Oj (p:=p) (s:=2) (l:=l) (k:=1) AC)
  all_goals (try have f3:=Oj (p:=p) (s:=2) (l:=l) (k:=2) AC)
  all_goals try simp only [Nat.zero_add,Nat.reduceAdd] at *
  all_goals first
   |(refine Au h ?_;clear h;clear U;simp_all;done)
   |(refine ⟨3,(by first|trivial|rfl),⟨AC,?_⟩,Yl,St.le_refl _⟩;clear h;clear U;simp_all;done)
   |(refine ⟨2,(by first|trivial|rfl),⟨AC,?_⟩,Yl,St.le_refl _⟩;clear h;clear U;simp_all;done)
 .rintro k ⟨hk,hi⟩
  refine ⟨_,rfl,?_⟩
  repeat' ((conv=>whnf);first|(refine Ph ?_;intros)|(refine KD ?_ ?_<;>intro _)|refine Ic (kinds:=[11,12]) ?_|refine aK ?_|refine U _ ‹_› _ _ ?_)
  all_goals conv=>whnf
  all_goals try simp only [uA,uB,uC,uD,uE,Int.toNat_natCast,Nat.zero_add,Nat.reduceAdd] at *
  all_goals try (have e:=pZ (p:=p) ‹l[k]? =some _›;rw [e] at hi;clear e)
  all_goals (try have e1:=p4 (p:=p) ‹l[k+1]? =some _›)
  all_goals (try have e2:=bz (p:=p) ‹l[k+1]? =some _›)
  all_goals (try have e3:=bz (p:=p) ‹l[k+2]? =some _›)
  all_goals (try have f0:=Oj (p:=p) (s:=0) (l:=l) (k:=k) AC)
  all_goals (try have f1:=Oj (p:=p) (s:=1) (l:=l) (k:=k+1) AC)
  all_goals (try have f2:=Oj (p:=p) (s:=2) (l:=l) (k:=k+1) AC)
  all_goals (try have f3:=Oj (p:=p) (s:=2) (l:=l) (k:=k+2) AC)
  all_goals try simp only [Nat.zero_add,Nat.reduceAdd] at *
  all_goals first
   |(refine Au h ?_;clear h;clear U;simp_all;done)
   |(refine ⟨k+3,(by first|trivial|rfl),⟨AC,?_⟩,AC,Yl,St.le_refl _⟩;clear h;clear U;simp_all;done)
   |(refine ⟨k+2,(by first|trivial|rfl),⟨AC,?_⟩,AC,Yl,St.le_refl _⟩;clear h;clear U;simp_all;done)
end
section
variable {st:St} {R:At->St->Prop}
def Mm (p:Nd->Bool) (n:Nd):Bool:=
 if n.kind=1 then DB n [1,2,4,11,12,13,14]
 else if n.kind=14 then n.kids.length==1&&n.kids[0]?.any (Ir · 9 [95])
 else if n.kind=3 then gS n
 else if n.kind=15 then n.kids.length==3&&n.kids[0]?.any (DB · [1])&&n.kids[1]?.any (Ir · 10 [64])&&n.kids[2]?.any p
 else if n.kind=16 then n.kids.length==2&&n.kids[0]?.any (Ir · 10 [126])&&n.kids[1]?.any p
 else if n.kind=4 then GQ p n [40] [41] 1 true
 else if n.kind=5 then GQ p n [40] [41] 2 false
 else if n.kind=6 then GQ p n [91] [93] 1 false
 else if n.kind=12 then O2 p n
 else if n.kind=11 then decide (0<n.kids.length)&&n.kids[0]?.any QC&&LF p (n.kids.drop 1)
 else if n.kind=17 then decide (1<n.kids.length)&&I7 p 0 n.kids
 else false
theorem iH {p:Nd->Bool} {n:Nd} (hp:∀x,x.size<n.size->CJ 352 p x):CJ 352 (Mm p) n:=by
 intro st R h
 have U:∀x ∈ n.kids,CJ 352 p x:=λx hx=>hp x (Cb hx)
 have hkk:∀x ∈ n.kids,∀y ∈ x.kids,CJ 352 p y:=λx hx y hy=>hp y (Nat.lt_trans (Cb hy) (Cb hx))
 have hd:∀x ∈ n.kids.drop 1,CJ 352 p x:=λx hx=>U x (List.mem_of_mem_drop hx)
 refine pB Tryz.func352 ?_
 repeat' ((conv=>whnf);first|(refine Ph ?_;intros)|(refine KD ?_ ?_<;>intro _)|refine Ic (kinds:=[1,2,4,11,12,13,14]) ?_|refine Li ?_|refine qS ?_|refine Ic (kinds:=[1]) ?_|refine U _ ‹_› _ _ ?_|refine Ve (p:=p) Do Do U ?_|refine jH hkk ?_|refine T5 ?_|refine Vb hd ?_|refine jV U ?_)
 all_goals conv=>whnf
 all_goals (refine Au h ?_;clear h hp U hkk hd;try simp only [Int.toNat_zero,Int.toNat_one,Int.reduceToNat] at *)
 all_goals first
  |(simp_all [Mm];done)
  |(have:1<n.kids.length:=by omega
    simp_all [Mm];done)
  |(have:¬1<n.kids.length:=by omega
    simp_all [Mm];intros;omega)
def nG:Nat->Nd->Bool
 |0,_=>false
 |k+1,n=>Mm (nG k) n
theorem size_pos (n:Nd):0<n.size:=by cases n;rw [Nd.size];omega
theorem YU:∀(k:Nat) (n:Nd),n.size<=k->CJ 352 (nG k) n
 |0,n,h=>by have:=size_pos n;omega
 |k+1,n,h=>iH λx U=>YU k x AC
def bC (p:Nd->Bool) (l:List Nd):Bool:=if l.length=1 then l[0]?.any (λx=> !(x.kind==17)&&p x) else I7 p 0 l
theorem ky {p:Nd->Bool} {l:List Nd} (U:∀x ∈ l,CJ 352 p x) (h:R (.ret (.bool (bC p l))) st):Lu 379 [.slice 6 (Cj l) .any] st R:=by
 refine pB Tryz.func379 ?_
 repeat' ((conv=>whnf);first|(refine Ph ?_;intros)|(refine KD ?_ ?_<;>intro _)|refine U _ ‹_› _ _ ?_|refine jV U ?_)
 all_goals conv=>whnf
 all_goals (refine Au h ?_;clear h U;try simp only [Int.toNat_zero,Int.toNat_one,Int.reduceToNat] at *)
 all_goals first
  |(simp_all [bC];done)
  |skip
def GH (p:Nd->Bool) (l:List Nd):Nat->List Nd->List UInt8×Bool
 |_,[]=>([],false)
 |i,x::r=>match Pv x with
  |some t=>(t,bC p (l.take i)&&bC p (l.drop (i+1)))
  |none=>GH p l (i+1) r
def CX (p:Nd->Bool) (q:Nd->List UInt8×Bool) (n:Nd):List UInt8×Bool:=
 if n.kind=11 then
  if 2<=n.kids.length then (if LF p (n.kids.drop 1) then (match n.kids[0]? with
   |none=>([],false)
   |some f=>if f.kind=4 then (match CO f [40] [41] with|some l=>if l.length=1 then (match l[0]? with|some x=>q x|none=>([],false)) else ([],false)|none=>([],false))
    else match FL f with|some t=>(t,true)|none=>([],false)) else ([],false)) else ([],false)
 else if n.kind=17 then GH p n.kids 0 n.kids
 else ([],false)
theorem gL {f:List UInt8×Bool} {t:List UInt8} (h:f=(t,b)):At.ret (.Bj [.str f.1,.bool f.2])=(At.ret (.Bj [.str t,.bool b])).wk:=by subst h;rfl
def X2 (q:Nd->List UInt8×Bool) (x:Nd):Prop:=∀(st:St) (R:At->St->Prop),R (.ret (.Bj [.str (q x).1,.bool (q x).2])) st->Lu 351 [enc x] st R
theorem RX {p:Nd->Bool} {q:Nd->List UInt8×Bool} {n:Nd} (hp:∀x,x.size<n.size->CJ 352 p x) (hq:∀x,x.size<n.size->X2 q x):X2 (CX p q) n:=by
 intro st R h
 have hk:∀x ∈ n.kids,CJ 352 p x:=λx U=>hp x (Cb U)
 have hd:∀x ∈ n.kids.drop 1,CJ 352 p x:=λx U=>hk x (List.mem_of_mem_drop U)
 refine pB Tryz.func351 ?_
 repeat' ((conv=>whnf);first|(refine Ph ?_;intros)|(refine KD ?_ ?_<;>intro _)|refine Vb hd ?_|refine H5 (λl hl=>?_) (λhl=>?_)|refine Ln (λl hl=>?_) (λhl=>?_)|refine hq _ (Nat.lt_trans (Cb (K5 ‹_› _ ‹_›)) (Cb ‹_›)) _ _ ?_)
 all_goals try (refine T3 63 [1,61,62] [0] n.kids.length (λk=>k<=n.kids.length/\GH p n.kids 0 n.kids=GH p n.kids k (n.kids.drop k)) ⟨Nat.zero_le _,rfl⟩ Yl ?_;rintro k ⟨hkl,hi⟩)
 repeat' ((conv=>whnf);first|(refine Ph ?_;intros)|(refine KD ?_ ?_<;>intro _)|refine l7 (λl hl=>?_) (λhl=>?_)|refine ky (λx U=>hk x (List.mem_of_mem_take (List.mem_of_mem_drop U))) ?_|refine ky (λx U=>hk x (List.mem_of_mem_drop U)) ?_)
 all_goals conv=>whnf
 all_goals first
  |refine Bm ?_ h
  |(refine ⟨k+1,⟨AC,?_⟩,AC,Yl,St.le_refl _⟩)
  |skip
 all_goals clear h hp hq hk hd
 all_goals try (have e:=drop_at ‹n.kids[Int.toNat k]? =some _›;rw [Int.toNat_natCast] at e;rw [e,GH] at hi;clear e)
 all_goals try simp only [Int.toNat_zero,Int.toNat_one,Int.reduceToNat,Int.toNat_natCast] at *
 all_goals first
  |(simp_all;done)
  |refine gL ?_
 .have:¬2<=n.kids.length:=AC
  simp [CX, *]
 all_goals try have g:2<=n.kids.length:=AC
 .rename_i x _ _ y _ _ _
  have e:CX p q n=q y:=by simp_all [CX]
  rw [e];exact Prod.ext rfl ‹_›
 .rename_i x _ _ y _ _ _
  have e:CX p q n=q y:=by simp_all [CX]
  rw [e];exact Prod.ext rfl ‹_›
 all_goals try (rw [List.drop_eq_nil_of_le AC,GH] at hi)
 all_goals simp_all [CX]
def mL:Nat->Nd->List UInt8×Bool
 |0,_=>([],false)
 |k+1,n=>CX (nG k) (mL k) n
theorem Qi:∀(k:Nat) (n:Nd),n.size<=k->X2 (mL k) n
 |0,n,h=>by have:=size_pos n;omega
 |k+1,n,h=>RX (λx U=>YU k x AC) λx U=>Qi k x AC
end
section
variable {st:St} {R:At->St->Prop}
def KK (n:Nd):Bool:=nG n.size n
theorem YT {n:Nd}:CJ 352 KK n:=λst R h=>YU n.size n (Nat.le_refl _) st R h
def Ye (n:Nd):Int:=if KK n then 0 else 120
theorem fN {n:Nd} (h:R (.ret (.int .i64 (Ye n))) st):Lu 421 [enc n] st R:=by
 refine pB Tryz.func421 ?_
 repeat' ((conv=>whnf);first|  (refine KD ?_ ?_<;>intro _)|refine YT _ _ ?_)
 all_goals conv=>whnf
 all_goals (refine fin h ?_;clear h;simp_all [Ye])
def iA (n:Nd):Int×List UInt8×Int:=
 if (mL n.size n).2 then (1,(mL n.size n).1,0) else if KK n then (2,[],0) else (0,[],120)
theorem gM {f:Int×List UInt8×Int} {t:List UInt8} {b c:Int} (h:f=(b,t,c)):At.ret (.Bj [.int .i64 f.1,.str f.2.1,.int .i64 f.2.2])=(At.ret (.Bj [.int .i64 b,.str t,.int .i64 c])).wk:=by subst h;rfl
theorem tv {n:Nd} (h:R (.ret (.Bj [.int .i64 (iA n).1,.str (iA n).2.1,.int .i64 (iA n).2.2])) st):Lu 313 [enc n] st R:=by
 refine pB Tryz.func313 ?_
 repeat' ((conv=>whnf);first|  (refine KD ?_ ?_<;>intro _)|refine Qi _ n (Nat.le_refl _) _ _ ?_|refine YT _ _ ?_)
 all_goals conv=>whnf
 all_goals (refine Bm ?_ h;clear h;refine gM ?_;simp_all [iA])
def FC (q:Nd->List (List UInt8)) (field:Bool):Nat->List Nd->List (List UInt8)
 |_,[]=>[]
 |i,x::r=>(if 0<i\/field=false then q x else [])++FC q field (i+1) r
def CI (q:Nd->List (List UInt8)) (n:Nd):List (List UInt8):=
 match FL n with
 |some s=>[s]
 |none=>if n.kind=18\/n.kind=19 then [] else FC q (n.kind==13) 0 n.kids
def X3 (q:Nd->List (List UInt8)) (x:Nd):Prop:=∀(l:List (List UInt8)) (own:AA) (st:St) (R:At->St->Prop),l.length+(q x).length<=1000000000->own.Bw st->
 (∀U:AA,U.Bw st->R (.ret (.slice 1 (strs (l++q x)) U)) (U.st st (l++q x).length))->Lu 399 [.slice 1 (strs l) own,enc x] (own.st st l.length) R
attribute [local irreducible] Go.Aw.Ag
theorem Y1 {q:Nd->List (List UInt8)} {n:Nd} (hq:∀x,x.size<n.size->X3 q x):X3 (CI q) n:=by
 intro l own st R hb ho h
 refine pB Tryz.func399 ?_
 repeat' ((conv=>whnf);first|(refine Ph ?_;intros)|(refine KD ?_ ?_<;>intro _)|refine Ln (λt ht=>?_) (λht=>?_)|refine JO (new:=[_]) ho ?_ (λown' ho'=>?_))
 .have e:CI q n=[t]:=by simp [CI,ht]
  rw [e] at hb;exact hb
 .conv=>whnf
  have e:CI q n=[t]:=by simp [CI,ht]
  rw [e] at h
  exact fin (h own' ho') rfl
 .conv=>whnf
  have e:CI q n=[]:=by simp [CI, *]
  rw [e,List.append_nil] at h
  exact fin (h own ho) rfl
 .conv=>whnf
  have e:CI q n=[]:=by simp [CI, *]
  rw [e,List.append_nil] at h
  exact fin (h own ho) rfl
 .have e:CI q n=FC q (n.kind==13) 0 n.kids:=by simp [CI, *]
  rw [e] at h hb
  conv=>whnf
  refine QA (α:=Nat×AA×List (List UInt8)) (λx=>[(31,.int .i64 (x.1:Int)),(0,.slice 1 (strs x.2.2) x.2.1)]) [3,29,30] [0] (λx=>AA.st st x.2.2.length x.2.1)
   (λx=>x.1<=n.kids.length/\AA.Bw st x.2.1/\l++FC q (n.kind==13) 0 n.kids=x.2.2++FC q (n.kind==13) x.1 (n.kids.drop x.1)) (λx=>n.kids.length - x.1) (0,own,l) ⟨Nat.zero_le _,ho,rfl⟩ Yl (St.le_refl _) ?_
  rintro ⟨k,own1,U⟩ ⟨hk,ho1,hi⟩
  simp only at hk ho1 hi
  have hlen:=congrArg List.length hi
  simp only [List.length_append] at hlen
  repeat' ((conv=>whnf);first|(refine Ph ?_;intros)|(refine KD ?_ ?_<;>intro _)|refine hq _ (Cb ‹_›) U own1 st _ ?_ ho1 (λown2 ho2=>?_))
  all_goals try conv=>whnf
  all_goals try (have e:=drop_at ‹n.kids[_]? =some _›;simp only [Int.toNat_natCast] at e;rw [e,FC] at hi hlen;clear e)
  all_goals simp only [Int.toNat_natCast] at *
  .rw [if_pos (.inl AC)] at hlen
   rw [List.length_append] at hlen
   show U.length+_<=1000000000
   omega
  .refine ⟨(k+1,own2,U++_),⟨by show k+1<=_;omega,ho2,?_⟩,by show _ - (k+1)<_ - k;omega,Yl,St.le_refl _⟩
   rw [if_pos (.inl AC)] at hi
   rw [hi,List.append_assoc]
  .refine ⟨(k+1,own1,U),⟨by show k+1<=_;omega,ho1,?_⟩,by show _ - (k+1)<_ - k;omega,Yl,St.le_refl _⟩
   rw [if_neg (by rintro (g|g)<;>first|omega|simp_all)] at hi
   rw [hi];rfl
  .have g:(n.kind==13)=false:=kw
   rw [if_pos (.inr g),List.length_append] at hlen
   show U.length+_<=1000000000
   omega
  .refine ⟨(k+1,own2,U++_),⟨by show k+1<=_;omega,ho2,?_⟩,by show _ - (k+1)<_ - k;omega,Yl,St.le_refl _⟩
   have g:(n.kind==13)=false:=kw
   rw [if_pos (.inr g)] at hi
   rw [hi,List.append_assoc]
  .rw [List.drop_eq_nil_of_le AC,FC,List.append_nil] at hi
   rw [hi] at h
   exact fin (h own1 ho1) rfl
def HO:Nat->Nd->List (List UInt8)
 |0,_=>[]
 |k+1,n=>CI (HO k) n
theorem V9:∀(k:Nat) (n:Nd),n.size<=k->X3 (HO k) n
 |0,n,h=>by have:=size_pos n;omega
 |k+1,n,h=>Y1 λx U=>V9 k x AC
def Gh (n:Nd):List (List UInt8)×Int:=if KK n then (HO n.size n,0) else ([],120)
theorem dr {n:Nd} (hb:(HO n.size n).length<=1000000000) (h:R (.ret (.Bj [.slice 1 (strs (Gh n).1) .any,.int .i64 (Gh n).2])) st):Lu 372 [enc n] st R:=by
 refine pB Tryz.func372 ?_
 repeat' ((conv=>whnf);first|  (refine KD ?_ ?_<;>intro _)|refine YT _ _ ?_|refine V9 _ n (Nat.le_refl _) [] .full st _ ?_ trivial (λown2 U=>?_))
 all_goals try conv=>whnf
 .show 0+_<=_
  omega
 .have e:Gh n=(HO n.size n,0):=by simp_all [Gh]
  rw [e] at h
  exact ⟨_,st,.inr rfl,AA.Bi U,h⟩
 .have e:Gh n=([],120):=by simp_all [Gh]
  rw [e] at h
  exact Bm rfl h
end
section
variable {st:St} {R:At->St->Prop}
theorem SL:∀{l:List Nd},l.length<=Bn l
 |[]=>Nat.le_refl _
 |x::r=>by have:=SL (l:=r);have:=size_pos x;rw [Bn,List.length_cons];omega
theorem EW (n:Nd):n.kids.length<n.size:=by
 cases n with
 |mk a b c d e ks=>rw [Nd.size];have:=SL (l:=ks);show ks.length<_;omega
end
theorem QH {q:Nd->List (List UInt8)} {b:Bool}:∀{l:List Nd} {i:Nat},(∀x ∈ l,(q x).length<=x.size)->(FC q b i l).length<=Bn l
 |[],_,_=>by simp [FC,Bn]
 |x::r,i,h=>by
  have:=QH (b:=b) (l:=r) (i:=i+1) λy hy=>h y (List.mem_cons_of_mem _ hy)
  have:=h x List.mem_cons_self
  rw [FC,List.length_append,Bn]
  grind
theorem QI:∀{k:Nat} {n:Nd},(HO k n).length<=n.size
 |0,n=>Nat.zero_le _
 |k+1,n=>by
  rw [HO,CI]
  have:=size_pos n
  split
  .grind
  .split
   .simp
   .have:=QH (b:=n.kind==13) (l:=n.kids) (i:=0) (q:=HO k) λx _=>QI
    cases n with
    |mk a b c d e ks=>rw [Nd.size];show (FC _ _ 0 ks).length<=_;have:(FC (HO k) (a==13) 0 ks).length<=Bn ks:=this;show (FC (HO k) (a==13) 0 ks).length<=_;omega
section
variable {st:St} {R:At->St->Prop}
theorem iQ {n:Nd} (U:n.size<=1000000000) (h:R (.ret (.Bj [.slice 1 (strs (Gh n).1) .any,.int .i64 (Gh n).2])) st):Lu 372 [enc n] st R:=
 dr (Nat.le_trans QI U) h
theorem gx {k f:Int} {t:List UInt8} {l c:Int} {ks:List Nd}:enc (.mk k f t l c ks)=.agg [.int .i64 k,.int .i64 f,.str t,.int .i64 l,.int .i64 c,.slice 6 (ks.map AB) .any]:=by
 rw [enc,AB,BI];rfl
end
def Jc (s:Al):Int:=(s.DS.getLast?).getD 0
theorem k8 {s:Al} (h:¬(s.DS.length:Int)>0):Jc s=0:=by
 have:s.DS=[]:=List.length_eq_zero_iff.1 AC
 simp [Jc,this]
theorem eD {s:Al} (h:s.DS[((s.DS.length:Int) - 1).toNat]? =some x):Jc s=x:=by
 have e:((s.DS.length:Int) - 1).toNat=s.DS.length - 1:=AC
 rw [e] at h
 simp [Jc,List.getLast?_eq_getElem?,h]
section
variable {st:St} {R:At->St->Prop}
theorem Ox {s:Al} (h:R (.ret (.int .i64 (Jc s))) st):PC 291 [Dz s] st R:=by
 refine pB Tryz.func291 ?_
 repeat' ((conv=>whnf);first|(refine A1 ?_;intros)|(refine CZ ?_ ?_<;>intro _)|fail)
 .exact fin h (by rw [eD ‹_›])
 .exact fin h (by rw [k8 AC])
def ZH (k:Int) (t:Tk):Tk:=⟨k,[],t.line,t.Cp⟩
theorem Oy {k:Int} {t:Tk} (h:R (.ret (E7 (ZH k t))) st):PC 290 [.int .i64 k,E7 t] st R:=by
 refine pB Tryz.func290 ?_
 repeat' ((conv=>whnf);first|  fail)
 all_goals exact fin h rfl
attribute [local irreducible] Go.Aw.Ag
theorem ZZ {own:AA} (hb:l.length<=1000000000) (h:∀U:AA,U.Bw st->R (.ret (.slice 1 (ints l) U)) (U.st st l.length)):PC 331 [.slice 1 (ints l) own] st R:=by
 refine pB Tryz.func331 ?_
 repeat' ((conv=>whnf);first|  refine uJ (λ_=>?_) ?_|fail)
 .have:l=[]:=by simpa [ints] using ‹ints l=[]›
  subst this
  exact fin (h .full trivial) rfl
 .exact Lw (l:=[]) (own:=.full) trivial kw λU ho=>fin (h U ho) rfl
theorem me {l':List Int} {own:AA} (e:l'=l) (hb:l.length<=1000000000) (h:∀U:AA,U.Bw st->R (.ret (.slice 1 (ints l) U)) (U.st st l.length)):PC 331 [.slice 1 (ints l') own] st R:=e ▸ ZZ hb h
def Mu (s:Al) (c:Int):Al:={s with DS:=s.DS++[c]}
theorem WU {s:Al} {c:Int} (hb:s.DS.length<=500000000) (h:R (.ret (Dz (Mu s c))) st):PC 292 [Dz s,.int .i64 c] st R:=by
 refine pB Tryz.func292 ?_
 have U:s.DS.length+[c].length<=1000000000:=by simp only [List.length_singleton];omega
 repeat' ((conv=>whnf);first|  refine ZZ AC (λown ho=>?_)|refine Lw (new:=[c]) ho U (λown' ho'=>?_))
 all_goals exact DK (AA.Bi ho') rfl h
def E5 (s:Al):Al:={s with DS:=s.DS.dropLast}
theorem LQ {s:Al} (h0:s.DS≠[]) (hb:s.DS.length<=500000000) (h:R (.ret (Dz (E5 s))) st):PC 293 [Dz s] st R:=by
 refine pB Tryz.func293 ?_
 have hl:0<s.DS.length:=List.length_pos_iff.2 h0
 have hd:(s.DS.take (((s.DS.length:Int) - 1).toNat)).drop (0:Int).toNat=s.DS.dropLast:=by
  rw [show (0:Int).toNat=0 from rfl,List.drop_zero,List.dropLast_eq_take]
  congr 1
  omega
 have U:s.DS.dropLast.length<=1000000000:=by rw [List.length_dropLast];omega
 repeat' ((conv=>whnf);first|(refine A1 ?_;intros)|refine me hd U (λown ho=>?_))
 all_goals exact DK (AA.Bi ho) rfl h
end
end Go.Proofs.Z
