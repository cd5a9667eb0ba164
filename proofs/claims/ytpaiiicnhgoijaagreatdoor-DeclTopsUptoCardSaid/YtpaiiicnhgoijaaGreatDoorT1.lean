/-
  Parts of a proof: lemmas that the last text uses.
-/
import Derived.Test.YtpaiiicnhgoijaaGreatDoorT0
import Derived.ScopeJumps
import Derived.Laws.MakeOwn
import Derived.Orders
set_option linter.unusedVariables false
set_option linter.unusedSimpArgs false
set_option maxHeartbeats 16000000
variable {t u:Go.TypeId} {parts:Array (Nat×Go.Operand)} {cap n bytes pos j off i:Nat} {es new:List (List Go.Aw.V)} {vs:Nat->Go.Aw.V} {ty:Option Go.Aw.Ty} {e env e':Go.Aw.Env} {x:Go.Operand} {b:Bool} {w:Go.World} {K:Go.Aw.V->Prop} {d:Option Nat} {v:Go.Aw.V} {all:List Go.Oper} {Q:Go.Aw.AG->Go.Aw.Env->Go.Aw.St->Prop} {p:Prop} {o:Go.Oper} {L:List Nat} {bs b0:List (Nat×List Go.Aw.V)} {S sched:List (Nat×Bool)}
namespace Go.Aw
open Go
section
variable {D:List Deferred} {P:Program} {T:List (Nat×Ty)} {C:FuncId->List V->St->(AD->St->Prop)->Prop} {I0 I:Mem} {st0 st:St} {w0 w:World} {β:Nat->Option Nat} {env:Env} {a:Act}
variable {o:Oper} {K:V->Env->St->Prop} {Q:AG->Env->St->Prop} {next:Act->World->Prop} {Qc:Exit->Act->World->Prop}
theorem O7:∀(vs:List Value) (k off:Nat) (cs:Array Value),off+k+vs.length<=cs.size->
 ((vs.zipIdx k).foldl (λcs (p:Value×Nat)=>cs.setIfInBounds (off+p.2) p.1) cs).toList=cs.toList.take (off+k)++vs++cs.toList.drop (off+k+vs.length)
 |[],k,off,cs,h=>by simp
 |v::vs,k,off,cs,h=>by
  simp only [List.length_cons] at h
  rw [List.zipIdx_cons,List.foldl_cons,O7 vs (k+1) off _ GT]
  have U:off+k<cs.toList.length:=i6
  simp only [Array.toList_setIfInBounds,List.length_cons]
  rw [show off+(k+1)=off+k+1 by omega,List.take_set,List.drop_set_of_lt H1]
  rw [show off+k+1+vs.length=off+k+(vs.length+1) by omega]
  rw [List.take_succ_eq_append_getElem U,List.set_append_right _ _ GT]
  have hm:min (off+k) cs.size=off+k:=H1
  simp [hm]
theorem M8 {offs:List (Nat×Nat)} {place:Nat->Option (Nat×Nat)} (hp:∀(n o s:Nat),offs[n]? =some (o,s)->place n=some (o,s)):
 ∀{ps:List (Nat×V)} {U:List (Nat×Value)} {cs:List V} {vs:List Value} {K:List V->Prop},Ar I cs vs->
  U.map (·.1)=ps.map (·.1)->Ar I (ps.map (·.2)) (U.map (·.2))->(∀p ∈ ps,p.2.known=true)->NX offs cs ps K->
  ∃cs' us,Instr.fill place vs.toArray U=some us.toArray/\Ar I cs' us/\K cs'/\us.length=vs.length
 |[],U,cs,vs,K,hk,h1,h2,h3,k=>by
  have:U=[]:=by simpa using h1
  subst this
  exact ⟨cs,vs,rfl,hk,Bq.1 k,rfl⟩
 |(i,v)::ps,[],cs,vs,K,hk,h1,h2,h3,k=>by grind
 |(i,v)::ps,(j,c)::U,cs,vs,K,hk,h1,h2,h3,k=>by
  simp only [List.map_cons,List.cons.injEq] at h1
  obtain ⟨rfl,h1⟩:=h1
  simp only [List.map_cons,Ar] at h2
  obtain ⟨c',s,e,h4,h5⟩:=h2
  injection e with e1 e2
  subst e1;subst e2
  rw [R9] at k
  split at k
  .rename_i off size ho
   obtain ⟨g1,k⟩:=AE.1 k
   obtain ⟨g2,k⟩:=AE.1 k
   have g1:=Nat.eq_of_beq_eq_true g1
   have g2:=Nat.le_of_ble_eq_true g2
   have hkn:=h3 (j,v) List.mem_cons_self
   have hc:=F7 h4 hkn
   have hlc:v.cells.length=c.cells.size:=by rw [Ar.length hc,Array.length_toList]
   have hlv:=Ar.length hk
   have hf:=O7 c.cells.toList 0 off vs.toArray GT
   have hfa:c.cells.zipIdx.foldl (λcs (p:Value×Nat)=>cs.setIfInBounds (off+p.2) p.1) vs.toArray=(vs.take off++c.cells.toList++vs.drop (off+size)).toArray:=by
    apply Array.ext'
    rw [<-Array.foldl_toList,Array.toList_zipIdx,hf]
    simp [<-hlc,g1]
   have hR:Ar I (cs.take off++v.cells++cs.drop (off+size)) (vs.take off++c.cells.toList++vs.drop (off+size)):=
    Ar.append (Ar.append (Ar.take _ hk) hc) (Ar.drop _ hk)
   obtain ⟨cs',us,q1,q2,q3,q4⟩:=M8 hp hR h1 h5 (λp hp'=>h3 p (List.mem_cons_of_mem _ hp')) k
   refine ⟨cs',us,?_,q2,q3,?_⟩
   .simp only [Instr.fill,hp j off size ho]
    simp_all
   grind
  simp_all
theorem Jk {B:Nat} (h:Je D B I β env st a w):∀{l:List (Nat×Operand)} {K:List (Nat×V)->Prop},HL env l K->
 ∃U,(l.map λp=>(p.1,a.eval p.2)).map (·.1)=U.map (·.1)/\Ar I (U.map (·.2)) ((l.map λp=>(p.1,a.eval p.2)).map (·.2))/\(∀p ∈ U,p.2.known=true)/\K U
 |[],K,k=>⟨[],rfl,PP,λp hp=>(by cases hp),k⟩
 |(i,x)::r,K,k=>by
  rw [NU,V.AY] at k
  obtain ⟨hp,k⟩:=AE.1 k
  obtain ⟨U,h1,h2,h3,h4⟩:=Jk h k
  refine ⟨(i,env.eval x)::U,lm,?_,λp hp'=>?_,h4⟩
  .simp only [List.map_cons,Ar]
   exact ⟨_,_,rfl,(h.eval x).rep (Hq hp),h2⟩
  grind
theorem Zx (hT:HG P T) (hK:Dd D I0 st0 w0 β env.BS a o.dst next K) (h:Rel D I0 st0 w0 I β env st a w) (ho:o.op=.build t parts)
 (k:match assoc T t with
 |some (.struct U z)=>HL env parts.toList λps=>NX U z ps λcs=>K (.agg cs) env st
 |some (.arr U z)=>HL env parts.toList λps=>NX U z ps λcs=>K (.agg cs) env st
 |_=>False):o.wp P a w next Qc:=by
 split at k
 .rename_i U z ht
  obtain ⟨i,fields,zs,h1,h2,h3,h4,h5,h6,h7,_⟩:=hT t _ ht
  obtain ⟨ps,g1,g2,g3,k⟩:=Jk h.f k
  have hm:(fields.mapM λf=>do pure (f.offset,<-sizeOf f.type):Sem (Array (Nat×Nat))).run P w=.ok U.toArray w:=by
   have key:∀(fs:List Field) (os:List (Nat×Nat)),fs.length=os.length->(∀(n o s:Nat),os[n]? =some (o,s)->∃(f:Field) (j:TypeInfo),fs[n]? =some f/\f.offset=o/\P.info? f.type=some j/\j.size=s)->
    (fs.mapM λf=>do pure (f.offset,<-sizeOf f.type):Sem (List (Nat×Nat))).run P w=.ok os w:=by
    intro fs
    induction fs with
    |nil=>intro os hl _;cases os with
     |nil=>rfl
     |cons x y=>grind
    |cons f fs ih=>
     intro os hl hq
     cases os with
     |nil=>grind
     |cons p os=>
      obtain ⟨po,psz⟩:=p
      obtain ⟨f',j,q1,q2,q3,q4⟩:=hq 0 po psz Pi
      simp at q1
      subst q1
      have:=ih os lm (λn o s e=>hq (n+1) o s lm)
      simp only [List.mapM_cons,Sem.run_bind,Cu q3,Result.andThen_ok,Sem.run_pure,this,q2,q4]
   have:=key fields.toList U H1 (λn o s e=>by simp_all)
   rw [Array.mapM_eq_mapM_toList,Sem.run_map,this]
   rfl
  obtain ⟨cs',us,q1,q2,q3,q4⟩:=M8 (place:=λn=>U.toArray[n]?) (λn o s e=>by simp_all) (Ar.mono (Mem.empty_le I) _ _ h5) g1 g2 g3 k
  refine AX hK (c:=.agg us.toArray) (w':=w) (v:=.agg cs') ?_ h (Bg.of (by simp only [A0];simp_all)) q3
  have hpl:(parts.map λ(i,x)=>(i,a.eval x)).toList=parts.toList.map λp=>(p.1,a.eval p.2):=Pi
  simp only [execOp,ho,Instr.build,Sem.run_bind,EZ h1 h4,Value.cells,Result.andThen_ok,AL h2,hm,hpl,q1,Sem.run_pure]
 .rename_i U z ht
  obtain ⟨i,n,e,j,zs,h1,h2,h3,h4,h5,h6,h7⟩:=hT t _ ht
  obtain ⟨ps,g1,g2,g3,k⟩:=Jk h.f k
  obtain ⟨cs',us,q1,q2,q3,q4⟩:=M8 (place:=λn=>some (n*j.size,j.size)) (λn o s e=>by grind) (Ar.mono (Mem.empty_le I) _ _ h5) g1 g2 g3 k
  refine AX hK (c:=.agg us.toArray) (w':=w) (v:=.agg cs') ?_ h (Bg.of (by simp only [A0];simp_all)) q3
  have hpl:(parts.map λ(i,x)=>(i,a.eval x)).toList=parts.toList.map λp=>(p.1,a.eval p.2):=Pi
  simp only [execOp,ho,Instr.build,Sem.run_bind,EZ h1 h4,Value.cells,Result.andThen_ok,AL h2,Cu h6,hpl,q1,Sem.run_pure]
 simp_all
theorem KK {sz:Nat}:∀{l:List (List V)} {b o:Nat},Db I st w->CQ I sz b o l->∃vs,CO I sz l vs/\∀j v,vs[j]? =some v->w.cell? ⟨b,o+j,none⟩=some v
 |[],b,o,U,k=>⟨[],PP,λj v e=>by simp at e⟩
 |u::r,b,o,U,k=>by
  simp only [CQ] at k
  obtain ⟨⟨h0,h1⟩,k2⟩:=k
  obtain ⟨us,h2,h3⟩:=Nl U h1
  obtain ⟨vs,h4,h5⟩:=KK U k2
  have hl:us.length=sz:=by rw [<-Ar.length h2,h0]
  refine ⟨us++vs,by simp only [CO];grind,λj v e=>?_⟩
  grind
theorem CO.append {sz:Nat}:∀{l r:List (List V)} {vs us:List Value},CO I sz l vs->CO I sz r us->CO I sz (l++r) (vs++us)
 |[],r,vs,us,k,h=>by simp only [CO] at k;simp_all
 |v::l,r,vs,us,k,h=>by
  simp only [CO] at k
  obtain ⟨u1,s,e,U,k2,k3⟩:=k
  subst e
  simp only [List.cons_append,CO]
  exact ⟨u1,s++us,Pi,U,k2,CO.append k3 h⟩
theorem CO.wk {sz:Nat}:∀{l:List (List V)} {vs:List Value},CO I sz l vs->CO I sz (l.map (·.map V.K8)) vs
 |[],vs,k=>by simp_all
 |v::l,vs,k=>by
  simp only [CO] at k
  obtain ⟨u1,s,e,k1,U,k3⟩:=k
  simp only [List.map_cons,CO]
  exact ⟨u1,s,e,lm,Ar.map (λ_ _=>A0.K8) U,CO.wk k3⟩
theorem CO.sc {sz:Nat}:∀{l:List (List V)} {vs:List Value},CO I sz l vs->(l.all λv=>v.all V.sc)=true->∀c ∈ vs,c.oneCell'=true
 |[],vs,k,h,c,hc=>by simp only [CO] at k;simp_all
 |v::l,vs,k,h,c,hc=>by
  simp only [CO] at k
  obtain ⟨u1,s,e,k1,U,k3⟩:=k
  subst e
  simp only [List.all_cons,Bool.and_eq_true] at h
  rcases List.mem_append.1 hc with hc|hc
  .exact cE U h.1 c hc
  .exact CO.sc k3 h.2 c hc
theorem eR {sz:Nat}:∀{vs:List V} {cs:List Value},Ar I vs cs->(vs.all λv=>v.known&&Nat.beq v.cells.length sz)=true->
 CO I sz (vs.map λv=>v.cells.map V.K8) (cs.flatMap λc=>c.cells.toList)/\∀c ∈ cs,c.cells.size=sz
 |[],cs,k,h=>by simp only [Ar] at k;subst k;exact ⟨PP,λc hc=>by cases hc⟩
 |v::r,cs,k,h=>by
  simp only [Ar] at k
  obtain ⟨c,s,e,k1,k2⟩:=k
  subst e
  simp only [List.all_cons,Bool.and_eq_true] at h
  obtain ⟨⟨h1,h2⟩,h3⟩:=h
  have h2:=Nat.eq_of_beq_eq_true h2
  obtain ⟨g1,g2⟩:=eR k2 h3
  have hc:=F7 k1 h1
  refine ⟨?_,λc' U=>?_⟩
  .simp only [List.map_cons,List.flatMap_cons,CO]
   exact ⟨_,_,rfl,lm,Ar.map (λ_ _=>A0.K8) hc,g1⟩
  .rcases List.mem_cons.1 U with rfl|U
   .rw [<-h2,Ar.length hc,Array.length_toList]
   simp_all
theorem XY {size:Nat}:∀(U:List (Nat×Value)) (n:Nat) (pre rest:List Value),pre.length=n*size->rest.length=U.length*size->
 (∀j p,U[j]? =some p->p.1=n+j)->(∀p ∈ U,p.2.cells.size=size)->
 Instr.fill (λi=>some (i*size,size)) (pre++rest).toArray U=some (pre++U.flatMap λp=>p.2.cells.toList).toArray
 |[],n,pre,rest,h1,h2,h3,h4=>by
  have:rest=[]:=List.eq_nil_of_length_eq_zero lm
  subst this
  rfl
 |(i,c)::U,n,pre,rest,h1,h2,h3,h4=>by
  have hi:i=n:=by simpa using h3 0 (i,c) Pi
  subst hi
  have hc:c.cells.size=size:=h4 (i,c) List.mem_cons_self
  have hr:rest.length=U.length*size+size:=by rw [h2,List.length_cons,Nat.add_mul];omega
  have hf:=O7 c.cells.toList 0 (i*size) (pre++rest).toArray GT
  have hfa:c.cells.zipIdx.foldl (λcs (p:Value×Nat)=>cs.setIfInBounds (i*size+p.2) p.1) (pre++rest).toArray=((pre++c.cells.toList)++rest.drop size).toArray:=by
   apply Array.ext'
   rw [<-Array.foldl_toList,Array.toList_zipIdx,hf]
   simp only [Nat.add_zero,Array.length_toList,hc,<-h1]
   rw [List.take_left]
   simp [List.append_assoc,List.drop_append]
  have hlt:¬((pre++rest).toArray.size<i*size+c.cells.size):=i6
  simp only [Instr.fill,hc,ne_eq,not_true_eq_false,decide_false,Bool.false_or,gt_iff_lt,decide_eq_true_eq]
  rw [hc] at hlt
  rw [if_neg hlt,hfa,XY U (i+1) (pre++c.cells.toList) (rest.drop size) GT GT
   (λj p e=>by have:=h3 (j+1) p lm;omega) (λp hp=>h4 p (List.mem_cons_of_mem _ hp))]
  simp
theorem SX:∀{l:List (Nat×Operand)} {n:Nat},Ox n l=true->∀(j:Nat) (p:Nat×Operand),l[j]? =some p->p.1=n+j
 |[],n,h,j,p,e=>by simp at e
 |(i,x)::r,n,h,j,p,e=>by
  simp only [Ox,Bool.and_eq_true] at h
  have U:=Nat.eq_of_beq_eq_true h.1
  cases j with
  |zero=>grind
  |succ j=>
   have:=SX h.2 j p lm
   omega
theorem Rel.Sz {sz:Nat} {vs rest:List Value} {ty:TypeId} (h:Rel D I0 st0 w0 I β env st a w) (hr:CO I sz es vs) (hsz:0<sz) (U:es.length<Fk)
 (hcap:vs.length+rest.length=cap*sz) (hle:es.length<=cap):
 Rel D I0 st0 w0 (I.add w.heap.size 0 vs (vs.length+rest.length)) β env (st.Cw w.heap.size (es.length*sz)) a (w.alloc (.cells (vs++rest).toArray ty))/\
 A0 (I.add w.heap.size 0 vs (vs.length+rest.length)) (.slice sz es (.tok w.heap.size)) (.slice (some ⟨w.heap.size,0,none⟩) es.length cap):=by
 have hl:=CO.length hr
 refine ⟨by rw [<-hl];exact h.newRow vs rest ty,?_⟩
 simp only [A0]
 refine ⟨some ⟨w.heap.size,0,none⟩,cap,rfl,hle,U,hsz,⟨rfl,?_⟩,.inr rfl,?_⟩
 .show (if w.heap.size=w.heap.size then some (vs.length+rest.length) else _)=_
  simp_all
 .exact CQ.add es vs 0 hr (Mem.Sp (λo _=>Lg h.s o) (.inl (Mk h.s))) λj c e=>Mem.Rk e
theorem A0.own {sz:Nat} {es:List (List V)} {own U:Ay} {c:Value} (h:A0 I (.slice sz es own) c) (k:U=.any\/(U=.full/\∃ad,c=.slice ad es.length es.length)):A0 I (.slice sz es U) c:=by
 simp only [A0] at h |-
 obtain ⟨ad,cap,e,h1,h2,h3,h4,h5⟩:=h
 refine ⟨ad,cap,e,h1,h2,h3,?_,h5⟩
 rcases k with rfl|⟨rfl,ad',e'⟩
 .trivial
 .rw [e] at e';injection e' with _ _ e'
theorem Pr {len:Nat} (hT:HG P T) (hK:Dd D I0 st0 w0 β env.BS a o.dst next K) (h:Rel D I0 st0 w0 I β env st a w) (ho:o.op=.buildSlice t len parts)
 (k:match assoc T t with
 |some (.slice _ sz _)=>Ev (Ox 0 parts.toList) (Ev (Nat.beq len parts.toList.length) (Ev (Nat.ble (len*sz) 16777216)
  (Xn env (parts.toList.map (·.2)) λvs=>Ev (vs.all λv=>v.known&&Nat.beq v.cells.length sz) (NY (vs.map λv=>v.cells.map V.K8) λes=>K (.slice sz es .full) env st))))
 |_=>False):o.wp P a w next Qc:=by
 split at k
 .rename_i el sz by' ht
  obtain ⟨h1,k⟩:=AE.1 k
  obtain ⟨h2,k⟩:=AE.1 k
  obtain ⟨h3,k⟩:=AE.1 k
  obtain ⟨vs,h4,k⟩:=GP h.f k
  obtain ⟨h5,k⟩:=AE.1 k
  have k:=IQ.1 k
  have h2:=Nat.eq_of_beq_eq_true h2
  have h3:=Nat.le_of_ble_eq_true h3
  obtain ⟨i0,j,c,g1,g2,g3,g4,g5,g6,g7,g8,g9,g10⟩:=hT t _ ht
  obtain ⟨q1,q2⟩:=eR h4 h5
  have hlv:=Ar.length h4
  simp only [List.length_map] at hlv
  have hmul:len<=len*sz:=Nat.le_mul_of_pos_right _ g8
  have hlen:(vs.map λv=>v.cells.map V.K8).length=len:=by simp [hlv,h2]
  have hR:=CO.length q1
  rw [hlen] at hR
  obtain ⟨r1,r2⟩:=h.Sz (rest:=[]) (ty:=el) (cap:=len) q1 g8 (by rw [hlen];simp only [Fk];omega) H1 H1
  rw [hlen] at r1 r2
  have hfr:=Eb h.s
  have r1':=r1.Iw (st':=st) (St.JT (St.le_refl st) hfr.2 _)
  refine AX hK (c:=.slice (some ⟨w.heap.size,0,none⟩) len len) ?_ r1' (Bg.of (A0.own r2 (.inr ⟨rfl,_,by rw [hlen]⟩))) k
  have hp:(parts.map λ(i,x)=>(i,a.eval x)).toList=parts.toList.map λp=>(p.1,a.eval p.2):=Pi
  have hz:∀z:Array Value,((Array.range (len*sz)).map λx=>z[x % z.size]!).toList.length=parts.toList.length*sz:=λz=>by simp [h2]
  have U:∀z:Array Value,Instr.fill (λi=>some (i*sz,sz)) ((Array.range (len*sz)).map λx=>z[x % z.size]!) (parts.toList.map λp=>(p.1,a.eval p.2))=
   some (((parts.toList.map (·.2)).map a.eval).flatMap λc=>c.cells.toList).toArray:=λz=>by
   have:=XY (size:=sz) (parts.toList.map λp=>(p.1,a.eval p.2)) 0 [] ((Array.range (len*sz)).map λx=>z[x % z.size]!).toList Pi lm
    (λj p e=>by
      rw [List.getElem?_map] at e
      cases hq:parts.toList[j]? with
      |none=>simp_all
      |some p'=>
       rw [hq] at e
       simp only [Option.map_some,Option.some.injEq] at e
       subst e
       exact SX h1 j p' hq)
    (λp hp=>by grind)
   simp only [List.nil_append,Array.toArray_toList] at this
   rw [this]
   congr 2
   simp [List.flatMap_map]
  have hbig:¬(len*sz>2 ^ 24):=H1
  simp only [execOp,ho,Instr.buildSlice,Sem.run_bind,AL g2,Result.andThen_ok,Cu g5,g6,hp]
  rw [if_neg hbig]
  simp only [Sem.run_bind,Sem.run_pure,Result.andThen_ok,U,newRow,run_newObj,World.alloc_eq,List.append_nil]
  by_cases h0:len*sz=0
  .simp_all
  .rw [if_neg h0]
   simp only [Sem.run_bind,Sem.run_pure,Result.andThen_ok,EZ g5 g9,run_newObj,World.alloc_eq]
 simp_all
theorem J3 {ty e:TypeId} {i:TypeInfo} (ht:P.underlying t=some (.slice e)) (hi:P.info? e=some i)
 {g U sCap:Nat} {cur:Array Value} {ety:TypeId} (hg:w.heap[g]? =some (.cells cur ety (0,0)))
 {ad:Addr} {m c:Nat} {news:List Value} (hl:news.length=m*i.size) (hnews:∀j u,news[j]? =some u->w.cell? (ad.add j)=some u) (h1:∀u ∈ news,u.oneCell'=true)
 (hroom:U+m<=sCap) (hfit:U*i.size+news.length<=cur.size):
 (Builtin.append_ #[t,t] ty #[.slice (some ⟨g,0,none⟩) U sCap,.slice (some ad) m c]).run P w=
   .ok (.slice (some ⟨g,0,none⟩) (U+m) sCap) (w.setRow g (cur.toList.take (U*i.size)++news++cur.toList.drop (U*i.size+news.length)).toArray):=by
 have hf:=run_firstCells_some (P:=P) w i.size m ad m c news hl hnews
 have hst:=run_storeCells_at P g (U*i.size) ety news 0 cur w hg H1 h1
 simp only [Nat.add_zero] at hst
 simp [Builtin.append_,run_underlying ht,sizeOf,typeInfo,hi,Builtin.lenOf,hroom,hf,Di,hst]
theorem Pq {ty e:TypeId} {i:TypeInfo} (ht:P.underlying t=some (.slice e)) (hi:P.info? e=some i) {ad U:Option Addr} {c:Nat} (h:n<=cap):
 (Builtin.append_ #[t,t] ty #[.slice ad n cap,.slice U 0 c]).run P w=.ok (.slice ad n cap) w:=by
 have hf:∀size:Nat,(Builtin.firstCells size 0 (.slice U 0 c)).run P w=.ok #[] w:=by
  intro size
  cases U<;>simp [Builtin.firstCells,loadCells,loadCellsFrom]
 cases ad<;>simp [Builtin.append_,run_underlying ht,sizeOf,typeInfo,hi,Builtin.lenOf,h,hf,storeCells]
theorem CO.flat {sz:Nat}:∀{l:List (List V)} {vs:List Value},CO I sz l vs->Ar I l.flatten vs
 |[],vs,k=>by simp only [CO] at k;subst k;rfl
 |v::l,vs,k=>by
  simp only [CO] at k
  obtain ⟨u1,s,e,k1,U,k3⟩:=k
  subst e
  rw [List.flatten_cons]
  exact Ar.append U (CO.flat k3)
theorem Ar.Cc:∀{vs:List Value} {m:Nat},vs.length=m->Ar I (List.replicate m .Cc) vs
 |[],m,e=>by subst e;rfl
 |v::r,m,e=>by
  obtain ⟨k,rfl⟩:∃k,m=k+1:=⟨r.length,lm⟩
  rw [List.replicate_succ]
  simp only [Ar]
  exact ⟨v,r,rfl,by simp only [A0],Ar.Cc lm⟩
theorem Qq {y:Operand} {ty:TypeId} {sz b el:Nat} {own:Ay} (hT:HG P T) (hK:Dd D I0 st0 w0 β env.BS a o.dst next K) (h:Rel D I0 st0 w0 I β env st a w)
 (hr:∀(c:Value) (w':World),(Builtin.append_ #[t,t] ty #[a.eval x,a.eval y]).run P w=.ok c w'->(execOp a.eval o).run P w=.ok (.value c) w')
 (ht:assoc T t=some (.slice el sz bytes)) (hx:Bg I β (.Eg sz b n cap) (a.eval x)) (hy:Bg I β (.slice sz new own) (a.eval y))
 (k:E2 sz bytes b n cap new st λv st'=>K v env st'):o.wp P a w next Qc:=by
 obtain ⟨hb,hlim,k⟩:=k
 obtain ⟨hsc,hne,cs,hcs,hlc,k⟩:=AE.1 k
 obtain ⟨i0,j,c,g1,g2,g3,g4,g5,g6,g7,g8,g9,g10⟩:=hT t _ ht
 subst g6
 subst g7
 obtain ⟨x1,x2,x3,x4⟩:=Ol hx
 obtain ⟨ay,cap',y1,y2,y3,y4,y5,y6⟩:=G0 hy
 obtain ⟨vs,ety,hw,hvs⟩:=h.s.box b cs hcs
 have hvl:=Ar.length hvs
 have hpos:0<new.length:=List.length_pos_iff.2 hne
 cases ay with
 |none=>omega
 |some ay=>
  obtain ⟨by1,oy,spy⟩:=ay
  simp only at y6
  obtain ⟨y0,y6⟩:=y6
  obtain rfl:spy=none:=y0.resolve_left H1
  obtain ⟨news,n1,n2⟩:=KK h.s y6
  have n2':∀jj v,news[jj]? =some v->w.cell? ((⟨by1,oy,none⟩:Addr).add jj)=some v:=λjj v e=>by rw [Di];simp_all
  have nl:=CO.length n1
  have nsc:=CO.sc n1 hsc
  have h63:((n+new.length:Nat):Int)<=9223372036854775807:=by simp only [Fk] at hlim;omega
  have hmc:n*j.size<=cap*j.size:=Nat.mul_le_mul_right _ x2
  rcases Nat.lt_or_ge cap (n+new.length) with hlt|U
  .have hge:=grownCap_ge w (n+new.length) cap el
   have hz:∀q:Nat,(Builtin.zeroCells c.cells q).toList.length=q*j.size:=λq=>by rw [Array.length_toList,size_zeroCells,g10]
   have ho:(vs.take (n*j.size)).length=n*j.size:=WF
   have hrun:=run_append_grow (P:=P) w t ty el j c g2 g5 g9 ⟨b,0,none⟩ n cap (vs.take (n*j.size)) ho (λjj v e=>by
    rw [Di,Nat.zero_add]
    refine JO hw ?_
    grind) ⟨by1,oy,none⟩ new.length cap' news nl n2' hlt h63 (growslice_fits hlt H1)
   have hm:(Builtin.zeroCells c.cells (grownCap w (n+new.length) cap el - (n+new.length))).toList.length=(grownCap w (n+new.length) cap el - (n+new.length))*j.size:=hz _
   have r1:=(h.Kx (Jd.drew w)).L6 (cs:=cs.take (n*j.size)++(new.map (·.map V.K8)).flatten++List.replicate ((grownCap w (n+new.length) cap el - (n+new.length))*j.size) .Cc)
    (vs:=vs.take (n*j.size)++news++(Builtin.zeroCells c.cells (grownCap w (n+new.length) cap el - (n+new.length))).toList)
    (Ar.append (Ar.append (Ar.take _ hvs) n1.wk.flat) (Ar.Cc hm)) el
   have harr:(vs.take (n*j.size)++news++(Builtin.zeroCells c.cells (grownCap w (n+new.length) cap el - (n+new.length))).toList).toArray=
    (vs.take (n*j.size)).toArray++news.toArray++Builtin.zeroCells c.cells (grownCap w (n+new.length) cap el - (n+new.length)):=by
    apply Array.ext';simp
   rw [harr] at r1
   refine AX (β':=β) hK (hr _ _ (by rw [x1,y1];exact hrun)) r1 (Bg.of (by simp only [A0];exact ⟨rfl,hge,hlim,x4⟩)) (k w.heap.size _ _ (.inr (Eb h.s)) ?_)
   rw [<-Nat.add_mul];simp_all
  .have hmul:(n+new.length)*j.size<=cap*j.size:=Nat.mul_le_mul_right _ U
   have hnm:n*j.size+new.length*j.size=(n+new.length)*j.size:=(Nat.add_mul ..).symm
   have hrun:=J3 (P:=P) (ty:=ty) (c:=cap') g2 g5 hw nl n2' nsc U lm
   have hm:(vs.drop (n*j.size+news.length)).length=cap*j.size - (n+new.length)*j.size:=by rw [List.length_drop,nl];omega
   have r1:=h.P9 (b:=b) (cs':=cs.take (n*j.size)++(new.map (·.map V.K8)).flatten++List.replicate (cap*j.size - (n+new.length)*j.size) .Cc) (us:=vs.take (n*j.size)++news++vs.drop (n*j.size+news.length)) hcs hw
    (Ar.append (Ar.append (Ar.take _ hvs) n1.wk.flat) (Ar.Cc hm))
   refine AX (β':=β) hK (hr _ _ (by rw [x1,y1];exact hrun)) r1 (Bg.of (by simp only [A0];exact ⟨rfl,U,hlim,x4⟩)) (k _ _ _ (.inl rfl) ?_)
   omega
theorem WT {y:Operand} {ty:TypeId} (hT:HG P T) (hK:Dd D I0 st0 w0 β env.BS a o.dst next K) (h:Rel D I0 st0 w0 I β env st a w)
 (hr:∀(c:Value) (w':World),(Builtin.append_ #[t,u] ty #[a.eval x,a.eval y]).run P w=.ok c w'->(execOp a.eval o).run P w=.ok (.value c) w')
 (k:match assoc T t,assoc T u,env.CC T t x,env.CC T u y with
   |some (.slice _ sz bytes),some (.slice _ _ _),.slice sz' es own,.slice sz'' new _=>
    Ev (Nat.beq t u&&(Nat.beq sz sz'&&Nat.beq sz sz'')) (Ai sz bytes es own new st λv st'=>K v env st')
   |some (.slice _ sz bytes),some (.slice _ _ _),.Eg sz' b n cap,.slice sz'' new _=>
    Ev (Nat.beq t u&&(Nat.beq sz sz'&&Nat.beq sz sz'')) (E2 sz bytes b n cap new st λv st'=>K v env st')
   |_,_,_,_=>False):o.wp P a w next Qc:=by
 have hx:=h.f.CC hT t x
 have hy:=h.f.CC hT u y
 split at k
 .rename_i el sz by' _ _ _ sz' es own sz'' new own' ht hu hex hey
  rw [hex] at hx
  rw [hey] at hy
  obtain ⟨h1,k1⟩:=AE.1 k
  clear k
  simp only [Bool.and_eq_true] at h1
  obtain ⟨e1,e2,e3⟩:=h1
  have e1:=Nat.eq_of_beq_eq_true e1
  have e2:=Nat.eq_of_beq_eq_true e2
  have e3:=Nat.eq_of_beq_eq_true e3
  subst e1;subst e2;subst e3
  obtain ⟨hb,hlim,k2⟩:=k1
  obtain ⟨hsc,k3⟩:=AE.1 k2
  clear k2
  obtain ⟨i0,j,c,g1,g2,g3,g4,g5,g6,g7,g8,g9,g10⟩:=hT t _ ht
  subst g6
  subst g7
  obtain ⟨ax,cap,x1,x2,x3,x4,x5,x6⟩:=G0 hx
  obtain ⟨ay,cap',y1,y2,y3,y4,y5,y6⟩:=G0 hy
  cases hnew:new with
  |nil=>
   subst hnew
   have hrun:=hr _ _ (by rw [x1,y1];exact Pq g2 g5 x2)
   cases own with
   |any=>simp_all
   |full=>exact AX hK hrun h (Bg.of (by have:A0 I (.slice j.size es .full) (a.eval x):=hx;simp_all)) (k3.1 rfl)
   |tok b=>
    obtain ⟨hh,k3⟩:=k3
    rcases k3 with k3|k3
    rotate_left
    .exact AX (v:=.Cc) hK hrun h (Bg.of (by simp only [A0])) k3
    have k4:=k3 b (.inl rfl)
    simp only [List.map_nil,List.append_nil,List.length_nil,Nat.add_zero] at k4
    have hle:((st.Fm b).Cw b (es.length*j.size)).le st:=by
     refine ⟨λ_ _ e=>e,λz n e=>?_⟩
     simp only [St.Cw,St.Fm] at e
     split at e
     .simp_all
     .exact e
    exact AX hK hrun (h.Iw hle) (Bg.of (by have:A0 I (.slice j.size es (.tok b)) (a.eval x):=hx;simp_all)) k4
  |cons n0 nr=>
   have hpos:0<new.length:=by rw [hnew];simp
   have hne:new≠[]:=by rw [hnew];simp
   cases ay with
   |none=>omega
   |some ay=>
    obtain ⟨by1,oy,spy⟩:=ay
    simp only at y6
    obtain ⟨y0,y6⟩:=y6
    obtain rfl:spy=none:=y0.resolve_left H1
    obtain ⟨news,n1,n2⟩:=KK h.s y6
    have n2':∀jj v,news[jj]? =some v->w.cell? ((⟨by1,oy,none⟩:Addr).add jj)=some v:=λjj v e=>by rw [Di];simp_all
    have nl:=CO.length n1
    have nsc:=CO.sc n1 hsc
    have h63:((es.length+new.length:Nat):Int)<=9223372036854775807:=by simp only [Fk] at hlim;omega
    have grow:∀(U:List Value) (oldCap:Nat) (kk:V->St->Prop),
     CO I j.size es U->oldCap<es.length+new.length->
     (Builtin.append_ #[t,t] ty #[a.eval x,a.eval y]).run P w=.ok (.slice (some ⟨w.heap.size,0,none⟩) (es.length+new.length) (grownCap w (es.length+new.length) oldCap el))
       (w.drew.alloc (.cells (U.toArray++news.toArray++Builtin.zeroCells c.cells (grownCap w (es.length+new.length) oldCap el - (es.length+new.length))) el))->
     ∀v st',(v=.slice j.size (es++new.map (·.map V.K8)) (.tok w.heap.size)\/v=.Cc)->st'.le (st.Cw w.heap.size ((es.length+new.length)*j.size))->K v env st'->o.wp P a w next Qc:=by
     intro U oldCap kk ho hlt hrun v st' hv hle hk
     have hge:=grownCap_ge w (es.length+new.length) oldCap el
     have hall:CO I j.size (es++new.map (·.map V.K8)) (U++news):=ho.append n1.wk
     have hlen:(es++new.map (·.map V.K8)).length=es.length+new.length:=Pi
     have hlo:=CO.length ho
     have hz:∀q:Nat,(Builtin.zeroCells c.cells q).toList.length=q*j.size:=λq=>by rw [Array.length_toList,size_zeroCells,g10]
     obtain ⟨r1,r2⟩:=(h.Kx (Jd.drew w)).Sz (rest:=(Builtin.zeroCells c.cells (grownCap w (es.length+new.length) oldCap el - (es.length+new.length))).toList) (ty:=el)
      (cap:=grownCap w (es.length+new.length) oldCap el) hall x4 H1
      (by rw [List.length_append,hlo,nl,hz,<-Nat.add_mul,<-Nat.add_mul];simp_all) H1
     rw [hlen] at r1 r2
     refine AX (β':=β) (v:=v) hK (hr _ _ hrun) ?_ (by rcases hv with rfl|rfl<;>first|exact Bg.of r2|exact Bg.of (by simp only [A0])) hk
     refine Rel.Iw ?_ hle
     have:(U++news++(Builtin.zeroCells c.cells (grownCap w (es.length+new.length) oldCap el - (es.length+new.length))).toList).toArray=
      U.toArray++news.toArray++Builtin.zeroCells c.cells (grownCap w (es.length+new.length) oldCap el - (es.length+new.length)):=by
      apply Array.ext';simp
     rw [this] at r1
     exact r1
    have NB:∃U,CO I j.size es U/\(cap<es.length+new.length->(Builtin.append_ #[t,t] ty #[a.eval x,a.eval y]).run P w=.ok (.slice (some ⟨w.heap.size,0,none⟩) (es.length+new.length) (grownCap w (es.length+new.length) cap el))
     (w.drew.alloc (.cells (U.toArray++news.toArray++Builtin.zeroCells c.cells (grownCap w (es.length+new.length) cap el - (es.length+new.length))) el))):=by
     cases ax with
     |none=>
      simp only at x6
      subst x6
      have:es=[]:=List.eq_nil_of_length_eq_zero H1
      subst this
      refine ⟨[],PP,λhlt=>?_⟩
      have:=run_append_nil (P:=P) w t ty el j c g2 g5 g9 ⟨by1,oy,none⟩ new.length cap' news nl n2' hpos H1 GT
      simp_all
     |some ax=>
      obtain ⟨bx,ox,spx⟩:=ax
      simp only at x6
      obtain ⟨x0,x6⟩:=x6
      obtain ⟨U,o1,o2⟩:=KK h.s x6
      refine ⟨U,o1,λhlt=>?_⟩
      rw [x1,y1]
      exact run_append_grow (P:=P) w t ty el j c g2 g5 g9 ⟨bx,ox,spx⟩ es.length cap U (CO.length o1) (λjj v e=>by
       rcases x0 with x0|x0
       .have h0:es.length=0:=H1
        have:=CO.length o1
        simp_all
       .have x0:spx=none:=x0
        subst x0
        rw [Di];simp_all) ⟨by1,oy,none⟩ new.length cap' news nl n2' hlt h63
       (growslice_fits hlt H1)
    obtain ⟨U,o1,o2⟩:=NB
    have hfr:=Eb h.s
    cases own with
    |any=>simp_all
    |full=>
     have hc:cap=es.length:=x5
     rcases k3.2 hne with k4|k4
     .exact grow U cap (λ_ _=>True) o1 H1 (o2 H1) _ _ (.inl rfl) (St.le_refl _) (k4 _ hfr)
     .have hge:=grownCap_ge w (es.length+new.length) cap el
      have hz:(Builtin.zeroCells c.cells (grownCap w (es.length+new.length) cap el - (es.length+new.length))).toList.length=(grownCap w (es.length+new.length) cap el - (es.length+new.length))*j.size:=by rw [Array.length_toList,size_zeroCells,g10]
      have r1:=(h.Kx (Jd.drew w)).L6 (cs:=(es++new.map (·.map V.K8)).flatten++List.replicate ((grownCap w (es.length+new.length) cap el - (es.length+new.length))*j.size) .Cc)
       (vs:=U++news++(Builtin.zeroCells c.cells (grownCap w (es.length+new.length) cap el - (es.length+new.length))).toList)
       (Ar.append (o1.append n1.wk).flat (Ar.Cc hz)) el
      have harr:(U++news++(Builtin.zeroCells c.cells (grownCap w (es.length+new.length) cap el - (es.length+new.length))).toList).toArray=
       U.toArray++news.toArray++Builtin.zeroCells c.cells (grownCap w (es.length+new.length) cap el - (es.length+new.length)):=by
       apply Array.ext';simp
      rw [harr] at r1
      refine AX (β':=β) hK (hr _ _ (o2 H1)) r1 (Bg.of (by simp only [A0];exact ⟨rfl,hge,hlim,x4⟩)) (k4 _ _ _ hfr ?_)
      rw [<-Nat.add_mul];simp_all
    |tok b=>
     obtain ⟨hh,k3⟩:=k3
     obtain ⟨t1,t2⟩:=x5
     subst t1
     rcases Nat.lt_or_ge cap (es.length+new.length) with hlt|hroom
     .rcases k3 with k3|k3
      .refine grow U cap (λ_ _=>True) o1 hlt (o2 hlt) _ _ (.inl rfl) ?_ (k3 w.heap.size (.inr hfr))
       refine ⟨λ_ _ e=>e,λz n e=>?_⟩
       simp only [St.Cw,St.Fm] at e |-
       grind
      .exact grow U cap (λ_ _=>True) o1 hlt (o2 hlt) _ _ (.inr rfl) (St.JT (St.le_refl _) hfr.2 _) k3
     .obtain ⟨cur,ety,c1,c2⟩:=h.s.shape b _ t2
      have hmul:(es.length+new.length)*j.size<=cap*j.size:=Nat.mul_le_mul_right _ hroom
      rw [Nat.add_mul] at hmul
      have hfit:es.length*j.size+news.length<=cur.size:=by rw [nl,c2];exact hmul
      have hrun:=J3 (P:=P) (ty:=ty) (c:=cap') g2 g5 c1 nl n2' nsc hroom hfit
      have hcur:cur=cur.toList.toArray:=Pi
      rcases k3 with k3|k3
      rotate_left
      .have r1:=h.oz (b:=b) (n:=es.length*j.size) (cur:=cur.toList) (ty:=ety) hh (by rw [<-hcur];exact c1) news (by rw [Array.length_toList];exact hfit)
       exact AX (v:=.Cc) hK (hr _ _ (by rw [x1,y1];exact hrun)) r1 (Bg.of (by simp only [A0])) k3
      have r1:=h.kq (b:=b) (n:=es.length*j.size) (m:=cap*j.size) (cur:=cur.toList) (ty:=ety) hh H1 t2 news H1
      have hadd:es.length*j.size+news.length=(es.length+new.length)*j.size:=by rw [nl,Nat.add_mul]
      rw [hadd] at r1
      have hf:=(h.s.hw b _ hh).2
      have hl:I.le (I.add b (es.length*j.size) news (cap*j.size)):=Mem.Sp hf (.inr t2)
      refine AX hK (hr _ _ (by rw [x1,y1];exact hrun)) (by rw [hadd];exact r1) (Bg.of ?_) (k3 b (.inl rfl))
      simp only at x6
      simp only [A0]
      refine ⟨some ⟨b,0,none⟩,cap,Pi,GT,GT,x4,⟨rfl,hl.2 _ _ t2⟩,.inr rfl,?_⟩
      refine CQ.append (CQ.mono hl _ _ _ _ x6.2) ?_
      refine CQ.add _ news _ n1.wk hl λjj v e=>?_
      rw [Nat.zero_add]
      exact Mem.Rk e
 .rename_i el sz by' _ _ _ sz' b n cap sz'' new own' ht hu hex hey
  rw [hex] at hx
  rw [hey] at hy
  obtain ⟨h1,k1⟩:=AE.1 k
  clear k
  simp only [Bool.and_eq_true] at h1
  obtain ⟨e1,e2,e3⟩:=h1
  have e1:=Nat.eq_of_beq_eq_true e1
  have e2:=Nat.eq_of_beq_eq_true e2
  have e3:=Nat.eq_of_beq_eq_true e3
  subst e1;subst e2;subst e3
  exact Qq hT hK h hr ht hx hy k1
 simp_all
end
theorem Vb {s:List UInt8} (h:pos<s.length):Utf8.decode ⟨s.toArray⟩ pos=Br (s.drop pos):=by
 have U:∀k,(ByteArray.get! ⟨s.toArray⟩ (pos+k)).toNat=((s.drop pos).getD k 0).toNat:=λk=>by
  simp only [ByteArray.get!,List.getD_eq_getElem?_getD,List.getElem?_drop]
  by_cases hk:pos+k<s.length
  .simp [hk]
  .simp [hk];rfl
 have hd:s.drop pos=s[pos]::s.drop (pos+1):=List.drop_eq_getElem_cons h
 have hc:∀k,(decide (pos+(k+1)<s.length)&&((s.drop (pos+1)).getD k 0).toNat / 64==2)=(match (s.drop (pos+1))[k]? with|some b=>b.toNat / 64==2|none=>false):=λk=>by grind
 have h1:∀k,((s.drop pos).getD (k+1) 0)=((s.drop (pos+1)).getD k 0):=λk=>by grind
 have h0:(ByteArray.get! ⟨s.toArray⟩ (pos+0)).toNat=(s[pos]).toNat:=by rw [U,hd];rfl
 have hz:(⟨s.toArray⟩:ByteArray).size=s.length:=by simp [ByteArray.size]
 unfold Utf8.decode
 simp only [hz]
 rw [hd]
 unfold Br
 simp only [h0]
 have c0:(decide (pos+1<s.length)&&((s.drop (pos+1)).getD 0 0).toNat / 64==2)=(match (s.drop (pos+1))[0]? with|some b=>b.toNat / 64==2|none=>false):=hc 0
 have c1:(decide (pos+2<s.length)&&((s.drop (pos+1)).getD 1 0).toNat / 64==2)=(match (s.drop (pos+1))[1]? with|some b=>b.toNat / 64==2|none=>false):=hc 1
 have c2:(decide (pos+3<s.length)&&((s.drop (pos+1)).getD 2 0).toNat / 64==2)=(match (s.drop (pos+1))[2]? with|some b=>b.toNat / 64==2|none=>false):=hc 2
 have g1:=U 1
 have g2:=U 2
 have g3:=U 3
 rw [h1] at g1 g2 g3
 simp only [g1,g2,g3,c0,c1,c2]
 rfl
section
variable {D:List Deferred} {P:Program} {T:List (Nat×Ty)} {C:FuncId->List V->St->(AD->St->Prop)->Prop} {I0 I:Mem} {st0 st:St} {w0 w:World} {β:Nat->Option Nat} {env:Env} {a:Act}
variable {o:Oper} {K:V->Env->St->Prop} {Q:AG->Env->St->Prop} {next:Act->World->Prop} {Qc:Exit->Act->World->Prop}
theorem Rel.oA (h:Rel D I0 st0 w0 I β env st a w) {id b:Nat} {cs':List V} {ob:Obj} {w':World} (hb:β id=some b) (hn:w'.heap[b]? =some ob) (k:Laid I (some ob) cs') (ho:∀x,x≠b->w'.heap[x]? =w.heap[x]?)
 (e1:w'.os=w.os) (e2:w'.tape=w.tape) (e3:w'.output=w.output) (e4:w'.heap.size=w.heap.size):Rel D I0 st0 w0 I β {env with boxes:=(id,cs')::env.boxes} st a w':=by
 obtain ⟨s1,s2,s3,s4,s5,s6⟩:=h.f.sep id b hb
 refine ⟨⟨e1.trans h.fr.os,e2.trans h.fr.tape,e3.trans h.fr.output,H1,λx U h1 h2=>?_,h.fr.le,h.fr.new,h.fr.My,h.fr.Mv⟩,⟨?_,?_,?_,h.s.Jh,?_,h.s.UE⟩,⟨h.f.size,h.f.tmps,?_,h.f.BS,h.f.inj,?_,h.f.defers⟩⟩
 .rw [ho x H1];exact h.fr.NB x U h1 h2
 .intro x o v e
  have U:x≠b:=λU=>by simp_all
  rw [HI (ho x U)];exact h.s.cell x o v e
 .intro x n e
  have U:x≠b:=λU=>by simp_all
  obtain ⟨c,ty',h1,h2⟩:=h.s.shape x n e
  simp_all
 .intro x n e
  have U:x≠b:=λU=>by simp_all
  obtain ⟨c,ty',h1,h2⟩:=h.s.box x n e
  simp_all
 .intro x n e
  exact ⟨by rw [e4];exact (h.s.hw x n e).1,(h.s.hw x n e).2⟩
 .intro id' c e
  rw [BF] at e
  cases hq:Nat.beq id id' with
  |true=>
   simp_all
  |false=>
   rw [hq] at e
   obtain ⟨b',h1,h2⟩:=h.f.box id' c e
   have U:b'≠b:=λU=>by
    subst U
    have:=h.f.inj _ _ _ h1 hb
    simp_all
   simp_all
 .intro id' b' e
  obtain ⟨h1,h2,h3⟩:=h.f.sep id' b' e
  simp_all
theorem TF (hT:HG P T) (hK:Dd D I0 st0 w0 β env.BS a o.dst next K) (h:Rel D I0 st0 w0 I β env st a w) (ho:o.op=.convert t u x)
 (k:match assoc T t,assoc T u,env.eval x with
 |some (.sc (.int _ _)),some (.sc (.int U _)),.int _ n=>∃r,r=U.wrap n/\K (.int U r) env st
 |_,_,_=>False):o.wp P a w next Qc:=by
 have hx:=h.f.eval x
 split at k
 .rename_i k0 n0 U n' k2 n ht hu hv
  rw [hv] at hx
  obtain ⟨r,rfl,k⟩:=k
  obtain ⟨i0,d0,c0,_,g0,_⟩:=hT t _ ht
  obtain ⟨i1,d1,c1,_,g1,_,_,_,_,_,_,_,g2⟩:=hT u _ hu
  have g2:d1=.int U:=g2
  subst g2
  refine AX hK (c:=.int U (U.wrap n)) (w':=w) ?_ h (Bg.of PP) k
  have hx:a.eval x=.int k2 n:=hx
  simp [execOp,ho,convert,hx,AL g0,AL g1,Conv.intToInt]
 simp_all
theorem ZB (hT:HG P T) (hK:Dd D I0 st0 w0 β env.BS a o.dst next K) (h:Rel D I0 st0 w0 I β env st a w) (ho:o.op=.range t x)
 (k:match assoc T t,env.eval x with
 |some (.sc (.str _)),.str s=>Ev (!env.Mw o.dst) (match env with
  |⟨ts,bs,n,sz,gl⟩=>K (.Cd n 0) ⟨ts,(n,[.Qo s 0])::bs,n+1,sz,gl⟩ st)
 |_,_=>False):o.wp P a w next Qc:=by
 have U:=h.f.eval x
 split at k
 .rename_i z0 s ht hv
  rw [hv] at U
  obtain ⟨i1,d1,c1,_,g1,_,_,_,_,_,_,_,g2⟩:=hT t _ ht
  have g2:d1=.string:=g2
  subst g2
  obtain ⟨_,k⟩:=AE.1 k
  have U:a.eval x=.string ⟨s.toArray⟩/\s.length<Fk:=U
  have hn:β env.BS=none:=by
   cases e:β env.BS with
   |none=>rfl
   |some b=>exact absurd (h.f.BS _ _ e) (Nat.lt_irrefl _)
  have hr:=h.Yo (cs:=[.Qo s 0]) (ob:=.stringIter ⟨s.toArray⟩ 0) (x:=env.BS) (n:=env.BS+1) (.inr ⟨s,0,rfl,U.2,rfl⟩) hn (Nat.lt_succ_self _) (Nat.le_succ _)
  refine AX hK (c:=.pointer (some ⟨w.heap.size,0,none⟩)) (v:=.Cd env.BS 0) (w':=w.alloc (.stringIter ⟨s.toArray⟩ 0)) ?_ hr (show ∃b,_/\_ from ⟨w.heap.size,if_pos rfl,rfl⟩) k (λid hid=>if_neg H1)
  simp only [execOp,ho,Instr.range,Sem.run_bind,AL g1,Result.andThen_ok,U.1,run_newObj,Sem.run_pure,World.alloc_eq]
 simp_all
theorem P6 {s:ByteArray} {b:Nat} (h:w.heap[b]? =some (.stringIter s pos)):(getObj b).run P w=.ok (.stringIter s pos) w:=by
 simp only [getObj,Sem.run,h]
theorem Zj {s:ByteArray} {b:Nat} {ob:Obj} (h:w.heap[b]? =some (.stringIter s pos)):(setObj b ob).run P w=.ok () {w with heap:=w.heap.setIfInBounds b ob}:=by
 simp only [setObj,Sem.run,h]
theorem cJ (hK:Dd D I0 st0 w0 β env.BS a o.dst next K) (h:Rel D I0 st0 w0 I β env st a w) (ho:o.op=.next x true)
 (k:match env.eval x with
 | .Cd id 0=>match assoc env.boxes id with
   |some [.Qo s pos]=>match env with
    |⟨ts,bs,n,sz,gl⟩=>BG (decide (pos<s.length)) (∀c m,(c,m)=Br (s.drop pos)->K (.Bl [.bool true,.int .i64 pos,.int .i32 c]) ⟨ts,(id,[.Qo s (pos+m)])::bs,n,sz,gl⟩ st) (K (.Bl [.bool false]) ⟨ts,bs,n,sz,gl⟩ st)
   |_=>False
 |_=>False):o.wp P a w next Qc:=by
 have U:=h.f.eval x
 split at k
 .rename_i id he
  rw [he] at U
  obtain ⟨b,hb,U⟩:=It U
  split at k
  .rename_i s pos hcs
   obtain ⟨b',h1,h2⟩:=h.f.box id _ hcs
   rw [hb] at h1
   injection h1 with h1
   subst h1
   have h2:s.length<Fk/\w.heap[b]? =some (.stringIter ⟨s.toArray⟩ pos):=by
    rcases h2 with ⟨vs,ty,_,h2⟩|⟨s',pos',e,h3,h4⟩
    .simp only [Ar,A0] at h2
     simp_all
    .simp_all
   have hz:(⟨s.toArray⟩:ByteArray).size=s.length:=by simp [ByteArray.size]
   by_cases hp:pos<s.length
   .rw [decide_eq_true hp] at k
    have k:=Bu.1 k (Br (s.drop pos)).1 (Br (s.drop pos)).2 rfl
    have hlt:b<w.heap.size:=Ij h2.2
    let w':World:={w with heap:=w.heap.setIfInBounds b (.stringIter ⟨s.toArray⟩ (pos+(Br (s.drop pos)).2))}
    have hr:=h.oA (w':=w') (ob:=.stringIter ⟨s.toArray⟩ (pos+(Br (s.drop pos)).2)) (cs':=[.Qo s (pos+(Br (s.drop pos)).2)]) hb GT (.inr ⟨s,_,rfl,h2.1,rfl⟩)
     (λx U=>by grind) rfl rfl rfl (by simp [w'])
    refine AX hK (c:=.tuple #[.bool true,.int .i64 pos,.int .i32 ((Br (s.drop pos)).1:Nat)]) (w':=w') ?_ hr (Bg.of ?_) k
    .have U:a.eval x=.pointer (some ⟨b,0,none⟩):=U
     have hp':pos<(⟨s.toArray⟩:ByteArray).size:=by rw [hz];exact hp
     simp only [execOp,ho,Instr.next,U,Sem.run_bind,P6 h2.2,Result.andThen_ok,if_pos hp',Vb hp,Zj h2.2,Sem.run_pure,goInt]
     rfl
    .simp only [A0]
     exact ⟨[.bool true,.int .i64 pos,.int .i32 ((Br (s.drop pos)).1:Nat)],rfl,by simp only [Ar,A0];simp_all⟩
   .rw [decide_eq_false hp] at k
    have k:=Bk.1 k
    refine AX hK (c:=.tuple #[.bool false]) (w':=w) ?_ h (Bg.of ?_) k
    .have U:a.eval x=.pointer (some ⟨b,0,none⟩):=U
     have hp':¬pos<(⟨s.toArray⟩:ByteArray).size:=by rw [hz];exact hp
     simp only [execOp,ho,Instr.next,U,Sem.run_bind,P6 h2.2,Result.andThen_ok,if_neg hp',Sem.run_pure]
    .simp only [A0]
     exact ⟨[.bool false],rfl,by simp only [Ar,A0];simp_all⟩
  simp_all
 simp_all
end
section
variable {D:List Deferred} {P:Program} {T:List (Nat×Ty)} {C:FuncId->List V->St->(AD->St->Prop)->Prop} {I0 I:Mem} {st0 st:St} {w0 w:World} {β:Nat->Option Nat} {env:Env} {a:Act}
variable {o:Oper} {K:V->Env->St->Prop} {Q:AG->Env->St->Prop} {next:Act->World->Prop} {Qc:Exit->Act->World->Prop}
theorem iV {c:Call} (hT:HG P T) (hK:Dd D I0 st0 w0 β env.BS a o.dst next K) (h:Rel D I0 st0 w0 I β env st a w) (ho:o.op=.call c) (hc:c.callee=.builtin .len)
 (k:match c.args.toList.map env.eval,c.argTypes.toList.map (assoc T) with
   |[.slice _ es _],[some (.slice _ _ _)]=>∀m:Nat,m=es.length->m<Fk->K (.int .i64 m) env st
   |[.str s],[some (.sc (.str _))]=>s.length<Fk->K (.int .i64 s.length) env st
   |[.Eg _ _ n _],[some (.slice _ _ _)]=>n<Fk->K (.int .i64 n) env st
   |_,_=>False):o.wp P a w next Qc:=by
 obtain ⟨callee,⟨args⟩,⟨argTypes⟩⟩:=c
 simp only at hc k
 subst hc
 split at k
 .rename_i sz es own el sz' by' hx ht
  obtain ⟨x,rfl,q1⟩:=List.map_eq_singleton_iff.1 hx
  obtain ⟨t,rfl,q2⟩:=List.map_eq_singleton_iff.1 ht
  have U:=h.f.eval x
  rw [q1] at U
  obtain ⟨ad,cap,e1,e2,e3,_⟩:=G0 U
  obtain ⟨i0,j,c,g1,g2,_⟩:=hT t _ q2
  refine AX hK (c:=.int .i64 es.length) (w':=w) ?_ h (Bg.of PP) (k _ rfl e3)
  simp [execOp,ho,resolve,invoke,builtin,Builtin.len_,e1,AL g2,goInt]
 .rename_i s z hx ht
  obtain ⟨x,rfl,q1⟩:=List.map_eq_singleton_iff.1 hx
  obtain ⟨t,rfl,q2⟩:=List.map_eq_singleton_iff.1 ht
  have U:=h.f.eval x
  rw [q1] at U
  obtain ⟨e1,e3⟩:=V6 U
  obtain ⟨i0,d,c,g1,g2,g3,g4,g5,g6,g7,g8,g9,g10⟩:=hT t _ q2
  simp only at g10
  subst g10
  refine AX hK (c:=.int .i64 s.length) (w':=w) ?_ h (Bg.of PP) (k e3)
  simp [execOp,ho,resolve,invoke,builtin,Builtin.len_,e1,AL g2,goInt,show (⟨s.toArray⟩:ByteArray).size=s.length by rfl]
 .rename_i sz b n cap el sz' by' hx ht
  obtain ⟨x,rfl,q1⟩:=List.map_eq_singleton_iff.1 hx
  obtain ⟨t,rfl,q2⟩:=List.map_eq_singleton_iff.1 ht
  have U:=h.f.eval x
  rw [q1] at U
  obtain ⟨e1,e2,e3,_⟩:=Ol U
  obtain ⟨i0,j,c,g1,g2,_⟩:=hT t _ q2
  refine AX hK (c:=.int .i64 n) (w':=w) ?_ h (Bg.of PP) (k e3)
  simp [execOp,ho,resolve,invoke,builtin,Builtin.len_,e1,AL g2,goInt]
 simp_all
theorem ia (z:List Value):∀n:Nat,(madeCells z.toArray (n*z.length)).toList=(List.replicate n z).flatten:=by
 intro n
 by_cases U:z=[]
 .subst U;simp [madeCells]
 have hp:=List.length_pos_iff.2 U
 refine List.ext_getElem? λi=>?_
 simp only [madeCells,Array.toList_map,Array.toList_range,List.getElem?_map]
 induction n generalizing i with
 |zero=>simp
 |succ n ih=>
  rw [List.replicate_succ,List.flatten_cons]
  by_cases hi:i<z.length
  .rw [List.getElem?_append_left hi,List.getElem?_range GT]
   simp [Nat.mod_eq_of_lt hi,hi]
  .rw [List.getElem?_append_right H1,<-ih (i - z.length)]
   by_cases hj:i<(n+1)*z.length
   .rw [List.getElem?_range hj,List.getElem?_range GT]
    simp [Nat.mod_eq_sub_mod (show z.length<=i by omega)]
   grind
theorem Ar.rep {I:Mem} {z:List V} {vs:List Value} (h:Ar I z vs):∀n:Nat,Ar I (List.replicate n z).flatten (List.replicate n vs).flatten
 |0=>by rfl
 |n+1=>by rw [List.replicate_succ,List.replicate_succ,List.flatten_cons,List.flatten_cons];exact Ar.append h (Ar.rep h n)
theorem Qt {l m:Operand} (hT:HG P T) (hK:Dd D I0 st0 w0 β env.BS a o.dst next K) (h:Rel D I0 st0 w0 I β env st a w) (ho:o.op=.makeSlice t l m)
 (k:match assoc T t,env.eval l,env.eval m with
 |some (.slice el sz bytes),.int _ n,.int _ m=>(0<=n/\n<=m/\m*bytes<=140737488355328/\m<Fk)/\
  ((n=0/\∀b,st.fresh b->K (.slice sz [] (.tok b)) env (st.Cw b 0))\/
   (n=m/\match assoc T el with|some ty=>∀b k,st.fresh b->k=n.toNat->K (.Eg sz b k k) env (st.Ab b (List.replicate k ty.zero.cells).flatten)|none=>False))
 |_,_,_=>False):o.wp P a w next Qc:=by
 have hl:=h.f.eval l
 have hm:=h.f.eval m
 split at k
 .rename_i el sz bytes _ n _ mm ht hel hem
  rw [hel] at hl
  rw [hem] at hm
  have hl:=Hj hl
  have hm:=Hj hm
  obtain ⟨⟨h0,hnm,hby,hlim⟩,k⟩:=k
  obtain ⟨i0,j,c,g1,g2,g3,g4,g5,g6,g7,g8,g9,g10⟩:=hT t _ ht
  have hb:(j.bytes:Int)*mm<=281474976710656:=by rw [g7,Int.mul_comm];omega
  have hmm:mm<=9223372036854775807:=by unfold Fk at hlim;omega
  have hrun:∀kl kc,(Instr.makeSlice t (.int kl n) (.int kc mm)).run P w=.ok (.slice (some ⟨w.heap.size,0,none⟩) n.toNat mm.toNat) (w.alloc (.cells (madeCells c.cells (mm.toNat*j.size)) el)):=
   λkl kc=>run_make w t el j c g2 g5 g9 kl kc n mm h0 hnm hb hmm
  have hex:∀v w',(Instr.makeSlice t (a.eval l) (a.eval m)).run P w=.ok v w'->(execOp a.eval o).run P w=.ok (.value v) w':=λv w' e=>by
   simp only [execOp,ho,Sem.run_bind,Sem.run_pure,e,Result.andThen_ok]
  rcases k with ⟨rfl,k⟩|⟨rfl,k⟩
  .obtain ⟨r1,r2⟩:=h.Sz (sz:=sz) (es:=[]) (vs:=[]) (rest:=(madeCells c.cells (mm.toNat*j.size)).toList) (ty:=el) (cap:=mm.toNat) PP g8 IR
    (by rw [List.length_nil,Nat.zero_add,Array.length_toList,size_madeCells,g6]) (Nat.zero_le _)
   rw [List.nil_append,Array.toArray_toList] at r1
   simp only [List.length_nil,Nat.zero_mul] at r1
   refine AX hK (hex _ _ (by rw [hl,hm];exact hrun _ _)) r1 (Bg.of ?_) (k _ (Eb h.s))
   exact r2
  .split at k
   .rename_i ty hty
    have hz:∃vs:List Value,c.cells=vs.toArray/\Ar I ty.zero.cells vs:=by
     have hty:=hT el ty hty
     cases ty with
     |struct offs z=>
      obtain ⟨i,fields,zs,U,h2,h3,h4,h5,_⟩:=hty
      rw [g5] at U;injection U with U;subst U
      rw [g9] at h4;injection h4 with h4;subst h4
      exact ⟨zs,rfl,Ar.mono (Mem.empty_le I) _ _ h5⟩
     |arr offs z=>
      obtain ⟨i,n',e',j',zs,U,h2,h3,h4,h5,_⟩:=hty
      rw [g5] at U;injection U with U;subst U
      rw [g9] at h4;injection h4 with h4;subst h4
      exact ⟨zs,rfl,Ar.mono (Mem.empty_le I) _ _ h5⟩
     |sc z=>
      obtain ⟨i,d,c',U,h2,h3,h4,h5,h6,h7,h8,h9,_⟩:=hty
      rw [g5] at U;injection U with U;subst U
      rw [g9] at h5;injection h5 with h5;subst h5
      exact ⟨c.cells.toList,Pi,F7 (A0.mono (Mem.empty_le I) _ _ h6) h8⟩
     |slice e sz b=>
      obtain ⟨i,j',c',U,h2,h3,h4,h5,h6,h7,h8,_⟩:=hty
      rw [g5] at U;injection U with U;subst U
      rw [g9] at h4;injection h4 with h4;subst h4
      exact ⟨_,rfl,F7 (KL h8 _ (.inl rfl)) rfl⟩
    obtain ⟨vs,hv,hzr⟩:=hz
    have hsz:vs.length=j.size:=by rw [hv,List.size_toArray] at g10;omega
    have hmade:(madeCells c.cells (n.toNat*j.size))=((List.replicate n.toNat vs).flatten).toArray:=by
     apply Array.ext'
     rw [hv,<-hsz,ia]
    have r1:=h.L6 (Ar.rep hzr n.toNat) el
    rw [<-hmade] at r1
    refine AX (β':=β) hK (hex _ _ (by rw [hl,hm];exact hrun _ _)) r1 (Bg.of ?_) (k _ _ (Eb h.s) rfl)
    simp only [A0]
    simp_all
   simp_all
 simp_all
def Plain (P : Program) (f : FuncId) : Prop := ∃ fn, P.funcs[f]? = some fn /\ fn.body.isSome = true /\ (fn.name == "runtime.NumGoroutine") = false
theorem cH {c:Call} {f:Operand} (hT:HG P T) (hC:∀f args st R,C f args st R->DE P f args st R/\Plain P f) (hK:Dd D I0 st0 w0 β env.BS a o.dst next K) (h:Rel D I0 st0 w0 I β env st a w) (ho:o.op=.call c) (hc:c.callee=.value f)
 (k:match env.eval f with
   | .func f a cap=>aW T env c.argTypes.toList c.args.toList λvs=>GS (a++(vs++cap)) λvs=>C f vs st λr st'=>match r with
     | .ret v=>v.back λv=>K v env st'
     | .Ci v=>Q (.Ci v) env st'
   |_=>False):o.wp P a w next (DH D I0 st0 w0 Q):=by
 have hf:=h.f.eval f
 split at k
 .rename_i fid fa cap he
  rw [he] at hf
  have hf':A0 I (.func fid fa cap) (a.eval f):=hf
  simp only [A0] at hf'
  obtain ⟨az,cs,e,h1,h2⟩:=hf'
  obtain ⟨vs,h3,k⟩:=RV hT h.f k
  have k:=Bq.1 k
  obtain ⟨U,fn,p1,p2,p3⟩:=hC _ _ _ _ k
  have U:=U I w (az++(c.args.toList.map a.eval++cs)) h.s (Ar.append h1 (Ar.append h3 h2))
  have harr:(az++(c.args.toList.map a.eval++cs)).toArray=az.toArray++(c.args.map a.eval)++cs.toArray:=by
   apply Array.ext';simp
  rw [harr] at U
  have hrun:(execOp a.eval o).run P w=.ok (.enter fid (az.toArray++(c.args.map a.eval)++cs.toArray)) w:=by
   have hb:fn.body.isNone=false:=by cases hb:fn.body<;>simp_all
   simp only [execOp,ho,resolve,hc,e,Deferred.ofValue,Sem.run_bind,Sem.run_pure,Result.andThen_ok,invoke,callFunc,run_program,p1]
   rw [p3]
   simp [hb]
  unfold Oper.wp
  rw [hrun]
  refine U.mono λe w' ⟨I1,st1,r,q1,q2,q3,q4⟩=>?_
  have h':=h.called q1 q2
  cases e with
  |returned v=>
   cases r with
   |ret r=>exact hK _ _ _ _ _ _ _ h' (Bg.of q3) (λ_ _=>rfl) (V.Rr.1 q4)
   |Ci r=>exact q3.elim
  |panicked chain=>
   cases r with
   |ret r=>exact q3.elim
   |Ci r=>exact ⟨I1,β,env,st1,.Ci r,h',q3,q4⟩
  |outgrown=>cases r<;>exact q3.elim
 simp_all
theorem qh {K:V->Prop} (h:BG b (K (.bool true)) (K (.bool false))):K (.bool b):=by
 cases b<;>first|exact Bk.1 h|exact Bu.1 h
theorem uX {K:V->Prop} (h:BG b (K (.bool false)) (K (.bool true))):K (.bool (!b)):=by
 cases b<;>first|exact Bk.1 h|exact Bu.1 h
theorem RR {P:Program} {w:World} {d:Nat}:∀{z xs ys:List V} {cx cy:List Value} {b:Bool} {fs:List Field} {k:Nat} {px py:List Value},qQ z xs ys=some b->Ar I xs cx->Ar I ys cy->px.length=k->py.length=k->
 fs.length = z.length -> (∀ (i : Nat) (f : Field) (v : V), fs[i]? = some f -> z[i]? = some v -> f.name ≠ "_" /\ f.offset = k + i /\ P.plainKey f.type = true /\ match v, P.underlying f.type with
  | .int _ _,some (.int _)=>True
  | .str _,some .string=>True
  | .bool _,some .bool=>True
  |_,_=>False)->
 (Op.eqFields (d+1) (px++cx).toArray (py++cy).toArray fs).run P w=.ok b w
 |[],xs,ys,cx,cy,b,fs,k,px,py,h,h1,h2,hx,hy,hl,hf=>by
  have:fs=[]:=List.eq_nil_of_length_eq_zero H1
  subst this
  cases xs with
  |cons _ _=>cases h
  |nil=>
   cases ys with
   |cons _ _=>cases h
   |nil=>
    have:b=true:=by
     have h:some true=some b:=h
     cases h;rfl
    subst this
    rfl
 |z0::zr,xs,ys,cx,cy,b,fs,k,px,py,h,h1,h2,hx,hy,hl,hf=>by
  cases fs with
  |nil=>grind
  |cons f fr=>
   rw [gI] at h
   split at h
   .rename_i x xr y yr
    simp only [Ar] at h1 h2
    obtain ⟨c1,s1,rfl,r1,t1⟩:=h1
    obtain ⟨c2,s2,rfl,r2,t2⟩:=h2
    split at h
    .rename_i a a' U ha'
     cases h
     obtain ⟨g1,g2,g3,g4⟩:=hf 0 f z0 rfl rfl
     rw [Nat.add_zero] at g2
     have p1:(part f.type (px++c1::s1).toArray f.offset).run P w=.ok c1 w:=run_part_plain _ g3 lm
     have p2:(part f.type (py++c2::s2).toArray f.offset).run P w=.ok c2 w:=run_part_plain _ g3 lm
     have pe:(Op.equalIn (d+1) f.type c1 c2).run P w=.ok a w:=by
      unfold kT at U
      split at U
      .simp only [A0] at r1 r2
       subst r1;subst r2
       obtain ⟨k0,hu⟩:∃k0,P.underlying f.type=some (.int k0):=GT
       rename_i k1 a1 k2 b1
       by_cases hk:k1=k2
       .subst hk
        simp only [decide_true,cond_true,Option.some.injEq] at U
        subst U
        exact run_equalIn_int w d f.type _ _ _ _ hu
       simp_all
      .simp only [A0] at r1 r2
       obtain ⟨rfl,_⟩:=r1
       obtain ⟨rfl,_⟩:=r2
       have hu:P.underlying f.type=some .string:=by
        cases hu:P.underlying f.type with
        |none=>simp_all
        |some u=>grind
       cases U
       rw [run_equalIn_string w d f.type _ _ hu]
       simp_all
      .simp only [A0] at r1 r2
       subst r1;subst r2
       have hu:P.underlying f.type=some .bool:=by
        cases hu:P.underlying f.type with
        |none=>simp_all
        |some u=>grind
       cases U
       exact run_equalIn_bool w d f.type _ _ hu
      .cases U
     have ih:=RR (P:=P) (w:=w) (d:=d) (fs:=fr) (k:=k+1) (px:=px++[c1]) (py:=py++[c2]) ha' t1 t2 (by simp [hx]) (by simp [hy]) lm (λi f' v e1 e2=>by
      obtain ⟨q1,q2,q3,q4⟩:=hf (i+1) f' v lm lm
      grind)
     simp only [Op.eqFields,ne_eq,g1,not_false_eq_true,if_true,Sem.run_bind,p1,p2,pe,Result.andThen_ok]
     cases a with
     |false=>simp
     |true=>
      simp_all
    grind
   grind
theorem U1 {op:BinOp} {xs:List V} {y:V} {U cy:Value} {K:V->Prop} (hT:HG P T) (h1:Bg I β (.agg xs) U) (h2:Bg I β y cy) (ox oy:Operand) (k:U0 op (assoc T t) xs y K):
 ∃v c,(do eqGuard op t ox oy U cy;binOp op t U cy:Sem Value).run P w=.ok c w/\A0 I v c/\K v:=by
 unfold U0 at k
 split at k
 .rename_i offs z ys ht
  obtain ⟨hfl,k⟩:=AE.1 k
  split at k
  .rename_i b hb
   obtain ⟨i0,fields,zs,g1,g2,g3,g4,g5,g6,g7,g8,_⟩:=hT t _ ht
   have he:=g8 hfl
   unfold dM at he
   rw [g2] at he
   simp only [Bool.and_eq_true,Bool.not_eq_true',List.all_eq_true,List.mem_range,beq_iff_eq] at he
   obtain ⟨⟨e1,e2⟩,e3,e4⟩:=he
   have h1:A0 I (.agg xs) U:=h1
   have h2:A0 I (.agg ys) cy:=h2
   simp only [A0] at h1 h2
   obtain ⟨vx,rfl,r1⟩:=h1
   obtain ⟨vy,rfl,r2⟩:=h2
   have hfo:P.underlying t=some (.struct (P.fieldsOf t)):=by rw [g2];simp [Program.fieldsOf,g2]
   have hft:P.fieldsOf t=fields:=by simp [Program.fieldsOf,g2]
   have key:(Op.eqFields 9999 ([]++vx).toArray ([]++vy).toArray fields.toList).run P w=.ok b w:=RR (d:=9998) (k:=0) hb r1 r2 rfl rfl H1 (λi f v q1 q2=>by grind)
   rw [List.nil_append,List.nil_append] at key
   have heq:(Op.equalIn 10000 t (.agg vx.toArray) (.agg vy.toArray)).run P w=.ok b w:=by
    rw [run_equalIn_struct w 9999 t _ _ hfo e1,hft];exact key
   have hg:=run_eqGuard_agg (P:=P) w op t ox oy vx.toArray vy.toArray e2
   cases op<;>try exact k.elim
   case eql=>exact ⟨.bool b,.bool b,by simp only [Sem.run_bind,hg,Result.andThen_ok,run_eql_struct,heq],PP,qh (K:=K) k⟩
   case neq=>exact ⟨.bool (!b),.bool (!b),by simp only [Sem.run_bind,hg,Result.andThen_ok,run_neq_struct,heq],PP,uX (K:=K) k⟩
  simp_all
 simp_all
theorem P3 {d:Nat} {U:Array (String×TypeId)} {c:Value} (h:P.underlying t=some (.interface U)):(Op.equalIn (d+1) t (.iface u c) .nilIface).run P w=.ok false w:=by
 simp [Op.equalIn,AL h]
theorem P4 {d:Nat} {U:Array (String×TypeId)} (h:P.underlying t=some (.interface U)):(Op.equalIn (d+1) t .nilIface .nilIface).run P w=.ok true w:=by
 simp [Op.equalIn,AL h]
theorem P5 {c:Value} (hc:c=.nilIface\/∃u x,c=.iface u x):(binOp .eql t c .nilIface).run P w=((Op.equalIn 10000 t c .nilIface).run P w).andThen λb w'=>.ok (.bool b) w':=by
 rcases hc with rfl|⟨u,x,rfl⟩<;>(simp only [binOp];simp [Op.equal,Op.maxDepth])
theorem P7 {c:Value} (hc:c=.nilIface\/∃u x,c=.iface u x):(binOp .neq t c .nilIface).run P w=((Op.equalIn 10000 t c .nilIface).run P w).andThen λb w'=>.ok (.bool (!b)) w':=by
 rcases hc with rfl|⟨u,x,rfl⟩<;>(simp only [binOp];simp [Op.equal,Op.maxDepth])
theorem VP {op:BinOp} {cx:Value} {K:V->Prop} (hT:HG P T) (U:Bg I β v cx) (ox:Operand) (k:Ni op (assoc T t) v K):
 ∃v c,(do eqGuard op t ox (.const .nilIface) cx .nilIface;binOp op t cx .nilIface:Sem Value).run P w=.ok c w/\A0 I v c/\K v:=by
 have guard:∀{c:Value},(c=.nilIface\/∃u x,c=.iface u x)->(eqGuard op t ox (.const .nilIface) c .nilIface).run P w=.ok () w:=by
  rintro c (rfl|⟨u,x,rfl⟩)
  .cases op<;>simp [eqGuard]
  .cases op<;>simp [eqGuard]
 unfold Ni at k
 split at k
 .rename_i ht
  obtain ⟨i0,d,c,g1,g2,g3,g4,g5,g6,g7,g8,g9,ms,g10⟩:=hT t _ ht
  subst g10
  split at k
  .have U:cx=.nilIface:=by have:=U;simpa only [Bg,A0] using this
   subst U
   exact ⟨.bool true,.bool true,by simp only [Sem.run_bind,guard (.inl rfl),Result.andThen_ok,P5 (.inl rfl),P4 (d:=9999) g2],PP,k⟩
  .rename_i t' v'
   have U:A0 I (.iface t' v') cx:=U
   simp only [A0] at U
   obtain ⟨c',rfl,_⟩:=U
   exact ⟨.bool false,.bool false,by simp only [Sem.run_bind,guard (.inr ⟨_,_,rfl⟩),Result.andThen_ok,P5 (.inr ⟨_,_,rfl⟩),P3 (d:=9999) g2],PP,k⟩
  .have U:cx=.nilIface:=by have:=U;simpa only [Bg,A0] using this
   subst U
   exact ⟨.bool false,.bool false,by simp only [Sem.run_bind,guard (.inl rfl),Result.andThen_ok,P7 (.inl rfl),P4 (d:=9999) g2,Bool.not_true],PP,k⟩
  .rename_i t' v'
   have U:A0 I (.iface t' v') cx:=U
   simp only [A0] at U
   obtain ⟨c',rfl,_⟩:=U
   exact ⟨.bool true,.bool true,by simp only [Sem.run_bind,guard (.inr ⟨_,_,rfl⟩),Result.andThen_ok,P7 (.inr ⟨_,_,rfl⟩),P3 (d:=9999) g2,Bool.not_false],PP,k⟩
  simp_all
 simp_all
theorem Zk {d m:Nat} {e:TypeId} {U:Addr} (h:P.underlying t=some (.slice e)):(Op.equalIn (d+1) t (.slice (some U) n m) (.slice none 0 0)).run P w=.ok false w:=by
 simp [Op.equalIn,AL h]
theorem Zl {d m:Nat} {e:TypeId} (h:P.underlying t=some (.slice e)):(Op.equalIn (d+1) t (.slice none n m) (.slice none 0 0)).run P w=.ok true w:=by
 simp [Op.equalIn,AL h]
theorem YG {op:BinOp} {U:Value} {K:V->Prop} (hT:HG P T) (h1:Bg I β v U) (ox:Operand) (k:SB op (assoc T t) v K):
 ∃v c,(do eqGuard op t ox (.const (.slice none 0 0)) U (.slice none 0 0);binOp op t U (.slice none 0 0):Sem Value).run P w=.ok c w/\A0 I v c/\K v:=by
 unfold SB at k
 split at k
 .rename_i e sz bs ht
  obtain ⟨i0,j0,c0,g1,g2,_⟩:=hT t _ ht
  have main:∀{sz es own},A0 I (.slice sz es own) U->∃b:Bool,(b=true->es=[])/\(Op.equalIn 10000 t U (.slice none 0 0)).run P w=.ok b w/\(∃a n m,U=.slice a n m):=by
   intro sz es own h
   simp only [A0] at h
   obtain ⟨ad,cap,rfl,q1,q2,q3,q4,q5⟩:=h
   cases ad with
   |none=>
    refine ⟨true,λ_=>?_,Zl (d:=9999) g2,_,_,_,rfl⟩
    simp_all
   |some ad=>exact ⟨false,(λx=>by cases x),Zk (d:=9999) g2,_,_,_,rfl⟩
  split at k
  .rename_i es own
   obtain ⟨b,q1,q2,a,n,m,rfl⟩:=main (show A0 I (.slice _ _ _) U from h1)
   refine ⟨.bool b,.bool b,?_,PP,k b q1⟩
   simp only [Sem.run_bind,eqGuard,binOp,Op.equal,Op.maxDepth,Sem.run_pure,Result.andThen_ok]
   simp [q2]
  .rename_i es own
   obtain ⟨b,q1,q2,a,n,m,rfl⟩:=main (show A0 I (.slice _ _ _) U from h1)
   refine ⟨.bool (!b),.bool (!b),?_,PP,k (!b) (λx=>q1 lm)⟩
   simp only [Sem.run_bind,eqGuard,binOp,Op.equal,Op.maxDepth,Sem.run_pure,Result.andThen_ok]
   simp [q2]
  simp_all
 simp_all
theorem Zi {d:Nat} {a:Bool} (h:P.underlying t=some .bool):(Op.equalIn (d+1) t (.bool a) (.bool b)).run P w=.ok (a==b) w:=by
 simp [Op.equalIn,AL h]
theorem Tw {op:BinOp} {a:Bool} {y:V} {cx cy:Value} {K:V->Prop} (hT:HG P T) (h1:Bg I β (.bool a) cx) (h2:Bg I β y cy) (ox oy:Operand) (k:Qz op (assoc T t) a y K):
 ∃v c,(do eqGuard op t ox oy cx cy;binOp op t cx cy:Sem Value).run P w=.ok c w/\A0 I v c/\K v:=by
 unfold Qz at k
 split at k
 .rename_i z b ht
  obtain ⟨i0,d0,c0,g1,g2,g3,g4,g5,g6,g7,g8,g9,U⟩:=hT t _ ht
  have U:d0=.bool:=U
  subst U
  have e1:cx=.bool a:=by have:=h1;simpa only [Bg,A0] using this
  have e2:cy=.bool b:=by have:=h2;simpa only [Bg,A0] using this
  subst e1;subst e2
  have q:=Zi (P:=P) (w:=w) (d:=9999) (a:=a) (b:=b) g2
  split at k
  .refine ⟨.bool (a==b),.bool (a==b),?_,PP,?_⟩
   .simp only [Sem.run_bind,eqGuard,binOp,Op.equal,Op.maxDepth,Sem.run_pure,Result.andThen_ok]
    simp [q]
   .cases a<;>cases b<;>first
     |exact Bu.1 (Bu.1 k)|exact Bu.1 (Bk.1 k)|exact Bk.1 (Bu.1 k)|exact Bk.1 (Bk.1 k)
  .refine ⟨.bool (!(a==b)),.bool (!(a==b)),?_,PP,?_⟩
   .simp only [Sem.run_bind,eqGuard,binOp,Op.equal,Op.maxDepth,Sem.run_pure,Result.andThen_ok]
    simp [q]
   .cases a<;>cases b<;>first
     |exact Bu.1 (Bu.1 k)|exact Bu.1 (Bk.1 k)|exact Bk.1 (Bu.1 k)|exact Bk.1 (Bk.1 k)
  simp_all
 simp_all
theorem TC {y:Operand} (h:isNilIface y=true):y=.const .nilIface:=by
 unfold isNilIface at h
 grind
theorem iT {op:BinOp} {y:Operand} (hT:HG P T) (hK:Dd D I0 st0 w0 β env.BS a o.dst next K) (h:Rel D I0 st0 w0 I β env st a w) (ho:o.op=.binOp op t x y u)
 (k:match isNilIface y with
 |true=>Ni op (assoc T t) (env.eval x) λv=>K v env st
 |false=>match GV y with
  |true=>SB op (assoc T t) (env.eval x) λv=>K v env st
  |false=>fX op (assoc T t) (env.eval x) (env.eval y) λv=>K v env st):o.wp P a w next Qc:=by
 have fin:(∃v c,(do eqGuard op t x y (a.eval x) (a.eval y);binOp op t (a.eval x) (a.eval y):Sem Value).run P w=.ok c w/\A0 I v c/\K v env st)->o.wp P a w next Qc:=by
  rintro ⟨v,c,h1,h2,h3⟩
  refine AX hK (c:=c) (w':=w) ?_ h (Bg.of h2) h3
  simp only [execOp,ho,Sem.run_bind] at h1 |-
  rw [h1];rfl
 split at k
 .rename_i hy
  have hy:=TC hy
  subst hy
  exact fin (VP hT (h.f.eval x) x k)
 split at k
 .rename_i hy
  have hy:=MG hy
  subst hy
  exact fin (YG hT (h.f.eval x) x k)
 .unfold fX at k
  split at k
  .rename_i xs hx
   have U:=h.f.eval x
   rw [hx] at U
   exact fin (U1 hT U (h.f.eval y) x y k)
  .rename_i b hx
   have U:=h.f.eval x
   rw [hx] at U
   exact fin (Tw hT U (h.f.eval y) x y k)
  .exact fin (fZ (B:=0) (h.f.eval x) (h.f.eval y) t x y k)
theorem Uh {ty:Ty} (hT:HG P T) (ht:assoc T t=some ty) (hn:ty≠.sc .Ht):∃(i:TypeInfo) (d:TypeDesc) (c:Value),P.info? t=some i/\P.underlying t=some d/\(∀ms,d≠.interface ms)/\i.zero=some c/\A0 Mem.empty ty.zero c:=by
 have U:=hT t ty ht
 cases ty with
 |struct offs z=>
  obtain ⟨i,fields,zs,h1,h2,h3,h4,h5,_⟩:=U
  exact ⟨i,_,_,h1,h2,(λms e=>by cases e),h4,by simp only [Ty.zero,A0];simp_all⟩
 |arr offs z=>
  obtain ⟨i,n,e,j,zs,h1,h2,h3,h4,h5,_⟩:=U
  exact ⟨i,_,_,h1,h2,(λms e=>by cases e),h4,by simp only [Ty.zero,A0];simp_all⟩
 |slice e sz b=>
  obtain ⟨i,j,c,h1,h2,h3,h4,h5,h6,h7,h8,_⟩:=U
  exact ⟨i,_,_,h1,h2,(λms e=>by cases e),h4,KL h8 _ (.inl rfl)⟩
 |sc z=>
  obtain ⟨i,d,c,h1,h2,h3,h4,h5,h6,h7,h8,h9,h10⟩:=U
  refine ⟨i,d,c,h1,h2,?_,h5,h6⟩
  grind
theorem Mz (U:HG P T) (hK:Dd D I0 st0 w0 β env.BS a o.dst next K) (h:Rel D I0 st0 w0 I β env st a w) (ho:o.op=.makeInterface t x)
 (k:match assoc T t with
 |some (.sc .Ht)=>False
 |some _=>(env.CC T t x).force λv=>Ev v.known (K (.iface t v) env st)
 |none=>False):o.wp P a w next Qc:=by
 split at k
 .simp_all
 .rename_i ty hn ht
  obtain ⟨hk,k⟩:=AE.1 (V.AY.1 k)
  obtain ⟨i,d,c,h1,h2,h3,_⟩:=Uh U ht (λe=>hn (by rw [e]))
  have hv:=(h.f.CC U t x).rep (Hq hk)
  refine AX hK (c:=.iface t (a.eval x)) (w':=w) (v:=.iface t (env.CC T t x)) ?_ h (Bg.of (by simp only [A0];simp_all)) k
  have:(underlying t).run P w=.ok d w:=AL h2
  simp only [execOp,ho,Instr.makeInterface,Sem.run_bind,this,Result.andThen_ok]
  rfl
 simp_all
theorem Ps {t':TypeId} {ok:Bool} (hT:HG P T) (hK:Dd D I0 st0 w0 β env.BS a o.dst next K) (h:Rel D I0 st0 w0 I β env st a w) (ho:o.op=.typeAssert x t' t ok)
 (k:match assoc T t with
 |some (.sc .Ht)=>False
 |some ty=>match env.eval x with
  | .iface t' v=>bif Nat.beq t' t then Ev v.known (bif ok then K (.Bl [v,.bool true]) env st else v.force λv=>K v env st) else Ev ok (K (.Bl [ty.zero,.bool false]) env st)
  | .Ht=>Ev ok (K (.Bl [ty.zero,.bool false]) env st)
  |_=>False
 |none=>False):o.wp P a w next Qc:=by
 split at k
 .simp_all
 .rename_i ty hn ht
  obtain ⟨i,d,c,h1,h2,h3,h4,h5⟩:=Uh hT ht (λe=>hn (by rw [e]))
  have hu:(underlying t).run P w=.ok d w:=AL h2
  have hx:=h.f.eval x
  have U:Ev ok (K (.Bl [ty.zero,.bool false]) env st)->∀st' dy m,(execOp a.eval o).run P w=(do let v <-(if ok then (do pure (.tuple #[<-zeroValue t,.bool false]):Sem Value) else runtimePanic (.typeAssertion st' dy t m));pure (Next.value v):Sem Next).run P w->o.wp P a w next Qc:=by
   intro k st' dy m hr
   obtain ⟨hok,k⟩:=AE.1 k
   subst hok
   refine AX hK (c:=.tuple #[c,.bool false]) (w':=w) (v:=.Bl [ty.zero,.bool false]) ?_ h (Bg.of ?_) k
   .rw [hr]
    simp only [if_true,Sem.run_bind,EZ h1 h4,Result.andThen_ok,Sem.run_pure]
   .simp only [A0,Ar]
    exact ⟨[c,.bool false],rfl,_,_,rfl,A0.mono (Mem.empty_le I) _ _ h5,_,_,rfl,rfl,rfl⟩
  split at k
  .rename_i t'' v hv
   rw [hv] at hx
   have hx:A0 I (.iface t'' v) (a.eval x):=hx
   simp only [A0] at hx
   obtain ⟨c',hc,hr⟩:=hx
   cases hb:Nat.beq t'' t with
   |true=>
    have:=Nat.eq_of_beq_eq_true hb
    subst this
    rw [hb] at k
    obtain ⟨hk,k⟩:=AE.1 k
    cases ok with
    |true=>
     refine AX hK (c:=.tuple #[c',.bool true]) (w':=w) (v:=.Bl [v,.bool true]) ?_ h (Bg.of ?_) k
     .simp only [execOp,ho,Instr.typeAssert,Sem.run_bind,hu,Result.andThen_ok,hc]
      rfl
     .simp only [A0,Ar]
      simp_all
    |false=>
     refine AX hK (c:=c') (w':=w) (v:=v) ?_ h (Bg.of hr) (V.AY.1 (show v.force (λv=>K v env st) from k))
     simp only [execOp,ho,Instr.typeAssert,Sem.run_bind,hu,Result.andThen_ok,hc]
     rfl
   |false=>
    rw [hb] at k
    have hne:¬t''=t:=λe=>by simp_all
    refine U k (some t') (some t'') "" ?_
    simp only [execOp,ho,Instr.typeAssert,Sem.run_bind,hu,Result.andThen_ok,hc]
    simp_all
  .rename_i hv
   rw [hv] at hx
   have hc:a.eval x=.nilIface:=by have:=hx;simpa only [Bg,A0] using this
   refine U k (some t') none "" ?_
   cases d<;>first|exact absurd rfl (h3 _)|simp [execOp,ho,Instr.typeAssert,hu,hc]
  simp_all
 simp_all
theorem ZA (h:Rel D I0 st0 w0 I β env st a w) (ho:o.op=.panic x)
 (k:match env.eval x with
 | .iface t v=>Q (.Ci (.iface t v)) env st
 |_=>False):o.wp P a w next (DH D I0 st0 w0 Q):=by
 split at k
 .rename_i t v hv
  have U:=h.f.eval x
  rw [hv] at U
  have U:A0 I (.iface t v) (a.eval x):=U
  have hx':=U
  simp only [A0] at U
  obtain ⟨c',hc,hr⟩:=U
  unfold Oper.wp
  have:(execOp a.eval o).run P w=.halt (.panic (.iface t c')) w:=by
   simp only [execOp,ho,Instr.panic,Sem.run_bind,hc]
   rfl
  rw [this]
  rw [hc] at hx'
  exact ⟨I,β,env,st,.Ci (.iface t v),h,⟨_,rfl,hx'⟩,k⟩
 simp_all
theorem UC {c:Call} (hK:Dd D I0 st0 w0 β env.BS a o.dst next K) (h:Rel D I0 st0 w0 I β env st a w) (ho:o.op=.call c)
 (k:(c.callee=.builtin .min/\match c.args.toList.map env.eval with
   |[.int k a,.int k' b]=>Ev (decide (k=k')) (∃r,r=(if b<a then b else a)/\K (.int k r) env st)
   |_=>False)\/(c.callee=.builtin .max/\match c.args.toList.map env.eval with
   |[.int k a,.int k' b]=>Ev (decide (k=k')) (∃r,r=(if a<b then b else a)/\K (.int k r) env st)
   |_=>False)):o.wp P a w next Qc:=by
 obtain ⟨callee,⟨xl⟩,⟨tl⟩⟩:=c
 simp only at k
 have two:∀{p q:V},xl.map env.eval=[p,q]->∃x y,xl=[x,y]/\env.eval x=p/\env.eval y=q:=by
  intro p q hx
  match xl,hx with
  |[x,y],hx=>
   grind
 rcases k with ⟨hc,k⟩|⟨hc,k⟩
 .subst hc
  split at k
  .rename_i k1 m k2 n hx
   obtain ⟨x,y,rfl,q1,q2⟩:=two hx
   obtain ⟨hk,r,rfl,k2⟩:=AE.1 k
   have hk:=of_decide_eq_true hk
   subst hk
   have U:=h.f.eval x
   have e2:=h.f.eval y
   rw [q1] at U
   rw [q2] at e2
   have U:a.eval x=.int k1 m:=by have:=U;simpa only [Bg,A0] using this
   have e2:a.eval y=.int k1 n:=by have:=e2;simpa only [Bg,A0] using this
   refine AX hK (c:=.int k1 (if n<m then n else m)) (w':=w) ?_ h (Bg.of (v:=.int k1 _) PP) k2
   simp [execOp,ho,resolve,invoke,builtin,Builtin.min_,Builtin.min2,U,e2]
  simp_all
 .subst hc
  split at k
  .rename_i k1 m k2 n hx
   obtain ⟨x,y,rfl,q1,q2⟩:=two hx
   obtain ⟨hk,r,rfl,k2⟩:=AE.1 k
   have hk:=of_decide_eq_true hk
   subst hk
   have U:=h.f.eval x
   have e2:=h.f.eval y
   rw [q1] at U
   rw [q2] at e2
   have U:a.eval x=.int k1 m:=by have:=U;simpa only [Bg,A0] using this
   have e2:a.eval y=.int k1 n:=by have:=e2;simpa only [Bg,A0] using this
   refine AX hK (c:=.int k1 (if m<n then n else m)) (w':=w) ?_ h (Bg.of (v:=.int k1 _) PP) k2
   simp [execOp,ho,resolve,invoke,builtin,Builtin.max_,Builtin.max2,U,e2]
  simp_all
theorem WU {hi mx:Operand} {lo:Option Operand} (hT:HG P T) (hK:Dd D I0 st0 w0 β env.BS a o.dst next K) (h:Rel D I0 st0 w0 I β env st a w) (ho:o.op=.slice t x lo (some hi) (some mx))
 (k:match assoc T t,env.eval x with
 |some (.slice _ sz' _),.slice sz es _=>
  match (lo.map env.eval).getD (.int .i64 0),env.eval hi,env.eval mx with
  | .int _ l,.int _ h,.int _ m=>Ev (Nat.beq sz' sz) ((0<=l/\l<=h/\h=m/\m<=es.length)/\∀es',es'=(es.take h.toNat).drop l.toNat->K (.slice sz es' .full) env st)
  |_,_,_=>False
 |_,_=>False):o.wp P a w next Qc:=by
 have hx:=h.f.eval x
 split at k
 .rename_i el sz' by' sz es own ht hex
  rw [hex] at hx
  split at k
  .rename_i kl l kh U km m hel heh hem
   obtain ⟨hsz,⟨h0,h1,h2,h3⟩,k1⟩:=AE.1 k
   clear k
   have k1:=k1 _ rfl
   subst h2
   have hsz:=Nat.eq_of_beq_eq_true hsz
   subst hsz
   obtain ⟨ad,cap,e1,e2,e3,e4,e5,e6⟩:=G0 hx
   obtain ⟨i0,j,c,g1,g2,g3,g4,g5,g6,g7,g8,_⟩:=hT t _ ht
   have q1:=h.f.eval hi
   have q2:=h.f.eval mx
   rw [heh] at q1
   rw [hem] at q2
   have q1:a.eval hi=.int kh U:=by have:=q1;simpa only [Bg,A0] using this
   have q2:a.eval mx=.int km U:=by have:=q2;simpa only [Bg,A0] using this
   have hlo:∀x,lo=some x->a.eval x=.int kl l:=λx e=>by
    subst e
    simp only [Option.map_some,Option.getD_some] at hel
    have:=h.f.eval x
    rw [hel] at this
    exact Hj this
   have b1:∀code:BoundsCode,(Instr.sliceBound (.int km U) cap code).run P w=.ok U.toNat w:=λcode=>J4 ⟨H1,H1⟩
   have b2:∀code:BoundsCode,(Instr.sliceBound (.int kh U) U.toNat code).run P w=.ok U.toNat w:=λcode=>J4 ⟨H1,H1⟩
   have b3:∀code:BoundsCode,(Instr.sliceBound (.int kl l) U.toNat code).run P w=.ok l.toNat w:=λcode=>J4 ⟨H1,H1⟩
   have hb:(Instr.sliceBounds true es.length cap (lo.map a.eval) (some (a.eval hi)) (some (a.eval mx))).run P w=.ok (l.toNat,U.toNat,U.toNat) w:=by
    cases lo with
    |none=>
     simp only [Option.map_none,Option.getD_none,V.int.injEq] at hel
     obtain ⟨_,rfl⟩:=hel
     simp only [Instr.sliceBounds,Option.map_none,q1,q2,Sem.run_bind,Sem.run_pure,Result.andThen_ok,b1,b2]
     rfl
    |some x=>
     simp only [Instr.sliceBounds,Option.map_some,hlo x rfl,q1,q2,Sem.run_bind,Sem.run_pure,Result.andThen_ok,b1,b2,b3]
   have hlen:((es.take U.toNat).drop l.toNat).length=U.toNat - l.toNat:=i6
   refine AX hK (c:=.slice (if U.toNat=l.toNat then ad else ad.map (·.add (l.toNat*sz'))) (U.toNat - l.toNat) (U.toNat - l.toNat)) (w':=w) ?_ h (Bg.of ?_) k1
   .have hu:(underlying t).run P w=.ok (.slice el) w:=AL g2
    simp only [execOp,ho,Instr.sliceAt,Option.map_some,Sem.run_bind,hu,Result.andThen_ok,Instr.slice,e1,hb,Cu g5,g6,Sem.run_pure]
   .simp only [A0]
    refine ⟨_,U.toNat - l.toNat,by rw [hlen],H1,H1,e4,by rw [hlen];rfl,?_⟩
    cases ad with
    |none=>
     simp_all
    |some ad=>
     simp only at e6
     obtain ⟨s1,s2⟩:=e6
     split
     .grind
     .rename_i ad' hc
      split at hc
      .rename_i hcap
       injection hc with hc
       subst hc
       refine ⟨.inl H1,?_⟩
       have:(es.take U.toNat).drop l.toNat=[]:=List.eq_nil_of_length_eq_zero H1
       rw [this];simp only [CQ]
      .simp only [Option.map_some,Option.some.injEq] at hc
       subst hc
       rename_i hne
       obtain ⟨b,off,spot⟩:=ad
       obtain rfl:spot=none:=s1.resolve_left H1
       rw [Di]
       exact ⟨.inr rfl,CQ.drop _ (CQ.take _ s2)⟩
  simp_all
 simp_all
theorem YK (hT:HG P T) (hC:∀f args st R,C f args st R->DE P f args st R/\Plain P f) (hK:Dd D I0 st0 w0 β env.BS a o.dst next K) (h:Rel D I0 st0 w0 I β env st a w)
 (k:FD T C o env st K Q):o.wp P a w next (DH D I0 st0 w0 Q):=by
 cases U:o.op<;>simp only [FD,U] at k<;>try exact k.elim
 case move x=>exact S4 hT hK h (.inl U) k
 case assign x=>exact S4 hT hK h (.inr U) k
 case pick c x y=>exact cK hT hK h U k
 case alloc t=>exact Zw hT hK h U k
 case box t x=>exact iU hT hK h U k
 case build t ps=>exact Zx hT hK h U k
 case buildSlice t n ps=>exact Pr hT hK h U k
 case load t x=>exact cI hT hK h U k
 case store t x y=>exact ZD hT hK h U k
 case nilCheck x=>exact S5 hK h U k
 case binOp op t x y u=>exact iT hT hK h U k
 case makeInterface t x=>exact Mz hT hK h U k
 case typeAssert x t' t ok=>exact Ps hT hK h U k
 case panic x=>exact ZA h U k
 case unOp op t x=>exact cL hK h k U
 case makeFunc fn first cap=>
  cases fn with
  |func f=>exact S3 hK h U k
  |_=>exact k.elim
 case slice t x lo hi mx=>
  cases mx with
  |none=>exact ZC hT hK h U GT
  |some mx=>
   cases hi with
   |none=>simp_all
   |some hi=>exact WU hT hK h U k
 case fieldAddr t x f=>exact Qr hT hK h U k
 case indexAddr t x i=>exact Qs hT hK h U k
 case index t x i=>exact Zz hT hK h U k
 case extract x i=>exact TG hK h U k
 case field t x f=>exact Zy hT hK h U k
 case convert t u x=>exact TF hT hK h U k
 case range t x=>exact ZB hT hK h U k
 case makeSlice t l c=>exact Qt hT hK h U k
 case next x b=>
  cases b with
  |true=>exact cJ hK h U k
  |false=>simp_all
 case call c=>
  cases hc:c.callee with
  |value f=>rw [hc] at k;exact cH hT hC hK h U hc k
  |invoke r m=>simp_all
  |builtin b=>
   rw [hc] at k
   cases b
   case len=>exact iV hT hK h U hc k
   case min=>exact UC hK h U (.inl ⟨hc,k⟩)
   case max=>exact UC hK h U (.inr ⟨hc,k⟩)
   case append=>
    obtain ⟨callee,⟨xl⟩,⟨tl⟩⟩:=c
    simp only at hc k
    subst hc
    split at k
    .rename_i x y t u
     refine WT (ty:=o.type) hT hK h (λc w' e=>?_) k
     simp [execOp,U,resolve,invoke,builtin,e]
    simp_all
   all_goals exact k.elim
theorem Dr {c:Value} {K:Env->Prop} {d:Option Tmp} (h:Rel D I0 st0 w0 I β env st a w) (U:Bg I β v c) (k:env.go d v K):∃env',Rel D I0 st0 w0 I β env' st (a.put d c) w/\K env':=by
 unfold Env.go at k
 split at k
 .obtain ⟨h1,k⟩:=AE.1 k
  exact ⟨_,h.put U lm,k⟩
 .exact ⟨_,h,k⟩
theorem To (h:Rel D I0 st0 w0 I β env st a w) (k:((all[j]?).bind (·.dst)).map env.get=some (.bool b)):yielded all.toArray a.tmps j=some b:=by
 cases hd:(all[j]?).bind (·.dst) with
 |none=>simp_all
 |some t=>
  rw [hd] at k
  simp only [Option.map_some,Option.some.injEq] at k
  have:=h.f.get t
  rw [k] at this
  have:=J1 this
  have hy:yielded all.toArray a.tmps j=match a.tmps[t]? with|some (.bool b)=>some b|_=>none:=by
   simp only [yielded,List.getElem?_toArray]
   rw [hd];rfl
  rw [hy]
  have hs:t<a.tmps.size:=by
   rcases Nat.lt_or_ge t a.tmps.size with hlt|U
   .exact hlt
   .simp [Array.getD,Nat.not_lt.2 U,undef] at this
  simp_all
theorem Qj (h:Rel D I0 st0 w0 I β env st a w) (k:((all[j]?).bind (·.dst)).map env.get=some (.Bl [])):yielded all.toArray a.tmps j=none:=by
 cases hd:(all[j]?).bind (·.dst) with
 |none=>simp_all
 |some t=>
  rw [hd] at k
  simp only [Option.map_some,Option.some.injEq] at k
  have:=h.f.get t
  rw [k] at this
  have U:A0 I (.Bl []) (a.tmps.getD t undef):=this
  simp only [A0,Ar] at U
  obtain ⟨vs,U,rfl⟩:=U
  have hy:yielded all.toArray a.tmps j=match a.tmps[t]? with|some (.bool b)=>some b|_=>none:=by
   simp only [yielded,List.getElem?_toArray]
   rw [hd];rfl
  rw [hy]
  cases hs:a.tmps[t]? with
  |none=>rfl
  |some c=>
   simp_all
theorem F6 (hT:HG P T) (hC:∀f args st R,C f args st R->DE P f args st R/\Plain P f) {all:List Oper}:∀{r:List Oper} {I:Mem} {β:Nat->Option Nat} {env:Env} {st:St} {a:Act} {w:World},Rel D I0 st0 w0 I β env st a w->
 IZ T C all Q r env st->wpList P all.toArray (DH D I0 st0 w0 Q) r a w
 |[],I,β,env,st,a,w,h,k=>⟨I,β,env,st,.normal,h,trivial,k⟩
 |o::r,I,β,env,st,a,w,h,k=>by
  rw [cd] at k
  have yes:∀env st,FD T C o env st (λv env st=>env.go o.dst v λenv=>IZ T C all Q r env st) Q->∀{I β a w},Rel D I0 st0 w0 I β env st a w->o.wp P a w (wpList P all.toArray (DH D I0 st0 w0 Q) r) (DH D I0 st0 w0 Q):=by
   intro env st k I β a w h
   refine YK hT hC (λI β env st v c w h hv _ k=>?_) h k
   obtain ⟨env',h1,h2⟩:=Dr h hv k
   exact F6 hT hC h1 h2
  have no:(env.go o.dst (.Bl []) λenv=>IZ T C all Q r env st)->wpList P all.toArray (DH D I0 st0 w0 Q) r (a.put o.dst undef) w:=by
   intro k
   obtain ⟨env',h1,h2⟩:=Dr h (c:=undef) (Bg.of (v:=.Bl []) (by simp only [A0];exact ⟨[],rfl,PP⟩)) k
   exact F6 hT hC h1 h2
  unfold Bx at k
  unfold wpList
  cases U:o.guard with
  |none=>
   rw [U] at k
   rw [if_pos (by simp [Region.wanted,U])]
   grind
  |some g=>
   obtain ⟨j,want⟩:=g
   rw [U] at k
   simp only at k
   split at k
   .rename_i b hb
    have hy:=To h hb
    have hw:Region.wanted o (yielded all.toArray a.tmps)=(b==want):=by
     simp only [Region.wanted,U,hy]
     cases b<;>cases want<;>rfl
    cases want<;>cases b<;>simp only [cond_true,cond_false,lit] at k
    .grind
    .simp_all
    .simp_all
    grind
   .rename_i hb
    have hy:=Qj h hb
    rw [if_neg (by simp only [Region.wanted,U,hy];simp_all)]
    grind
   simp_all
theorem dg {c:Code} {Q':AG->Env->St->Prop} {st:St} (h:AW P c Q env st) (k:∀e env st,Q e env st->Q' e env st):AW P c Q' env st:=
 λD I0 st0 w0 I β a w hr=>wp_mono (h D I0 st0 w0 I β a w hr) λe a w ⟨I,β,env,st,U,h1,h2,h3⟩=>⟨I,β,env,st,U,h1,h2,k _ _ _ h3⟩
theorem LO {c:Code} {Q:Exit->Act->World->Prop} (R:Nat->Act->World->Prop) {n0:Nat} (h0:R n0 a w)
 (round:∀n a w,R n a w->c.wp P (Exit.then (λa' w'=>∃m,m<n/\R m a' w') Q) a w):(Code.loop c).wp P Q a w:=by
 intro b k cs
 have key:∀n a w,R n a w->
  ∃e a' w',Q e a' w'/\Arrives P (lone (b.at a (.code c::.inLoop c::k)) cs w) b k cs e a' w':=by
  intro n
  induction n using Nat.strongRecOn with
  |_ n ih=>
   intro a w hR
   obtain ⟨e,a₁,w₁,hq,U⟩:=round n a w hR b (.inLoop c::k) cs
   cases e with
   |normal=>
    obtain ⟨m,hm,hR'⟩:=hq
    obtain ⟨e₂,a₂,w₂,hq₂,harr₂⟩:=ih m hm a₁ w₁ hR'
    exact ⟨e₂,a₂,w₂,hq₂,.of_steps (Steps.trans U (.one step_inLoop)) harr₂⟩
   |exit id=>exact ⟨_,a₁,w₁,hq,.pass (x:=.inLoop c) rfl (λ_ _=>.inl Pi) U⟩
   |goto l=>exact ⟨_,a₁,w₁,hq,.pass (x:=.inLoop c) rfl (λ_ _=>.inl Pi) U⟩
   |ret=>exact ⟨_,a₁,w₁,hq,.pass (x:=.inLoop c) rfl (λ_ _=>.inl Pi) U⟩
   |panic ch=>exact ⟨_,a₁,w₁,hq,.pass (x:=.inLoop c) rfl (λ_ _=>.inl Pi) U⟩
   |outgrown=>exact ⟨_,a₁,w₁,hq,.pass (x:=.inLoop c) rfl (λ_ _=>.inl Pi) U⟩
 obtain ⟨e,a',w',hq,U⟩:=key n0 a w h0
 exact ⟨e,a',w',hq,.of_steps (.one step_loop) U⟩
theorem Xi {c:Code} {Q:Exit->Act->World->Prop} (R:Nat->Nat->Act->World->Prop)
 (first:c.wp P (λe a w=>match e with| .goto l=>∃n,R l n a w|e=>Q e a w) a w)
 (pass:∀l n a w,R l n a w->∃rest,findLabel c l=some rest/\rest.wp P (λe a w=>match e with| .goto l=>∃m,m<n/\R l m a w|e=>Q e a w) a w):(Code.scope c).wp P Q a w:=by
 intro b k cs
 have key:∀n l a w rest,R l n a w->findLabel c l=some rest->∃e a' w',Q e a' w'/\Arrives P (lone (b.at a (.code rest::.inScope c::k)) cs w) b k cs e a' w':=by
  intro n
  induction n using Nat.strongRecOn with
  |_ n ih=>
   intro l a w rest hR hf
   obtain ⟨rest',hf',hp⟩:=pass l n a w hR
   rw [hf] at hf'
   cases hf'
   obtain ⟨e,U,w₁,hq,harr⟩:=hp b (.inScope c::k) cs
   cases e with
   |normal=>exact ⟨.normal,U,w₁,hq,Steps.trans harr (.one step_inScope)⟩
   |exit id=>exact ⟨.exit id,U,w₁,hq,λk' hk=>harr k' (by simp [exitTo,hk])⟩
   |goto l'=>
    obtain ⟨m,hm,hR'⟩:=hq
    obtain ⟨rest2,hf2,_⟩:=pass l' m U w₁ hR'
    obtain ⟨e₂,a₂,w₂,hq₂,harr₂⟩:=ih m hm l' U w₁ rest2 hR' hf2
    exact ⟨e₂,a₂,w₂,hq₂,.of_steps (harr _ (by simp [gotoIn,hf2])) harr₂⟩
   |ret=>exact ⟨_,U,w₁,hq,harr⟩
   |panic ch=>exact ⟨_,U,w₁,hq,harr⟩
   |outgrown=>exact ⟨_,U,w₁,hq,harr⟩
 obtain ⟨e,U,w₁,hq,harr⟩:=first b (.inScope c::k) cs
 cases e with
 |normal=>exact ⟨.normal,U,w₁,hq,.head step_scope (Steps.trans harr (.one step_inScope))⟩
 |exit id=>exact ⟨.exit id,U,w₁,hq,λk' hk=>.head step_scope (harr k' (by simp [exitTo,hk]))⟩
 |goto l'=>
  obtain ⟨n,hR⟩:=hq
  obtain ⟨rest,hf,_⟩:=pass l' n U w₁ hR
  obtain ⟨e₂,a₂,w₂,hq₂,harr₂⟩:=key n l' U w₁ rest hR hf
  exact ⟨e₂,a₂,w₂,hq₂,.of_steps (.head step_scope (harr _ (by simp [gotoIn,hf]))) harr₂⟩
 |ret=>exact ⟨_,U,w₁,hq,.of_steps (.one step_scope) harr⟩
 |panic ch=>exact ⟨_,U,w₁,hq,.of_steps (.one step_scope) harr⟩
 |outgrown=>exact ⟨_,U,w₁,hq,.of_steps (.one step_scope) harr⟩
end
section
variable {T:List (Nat×Ty)} {C:FuncId->List V->St->(AD->St->Prop)->Prop} {env env':Env}
theorem DQ (h:env.eval x=env'.eval x):env.CC T t x=env'.CC T t x:=by
 unfold Env.CC
 simp_all
theorem L2:∀{l:List Operand} {K U:List V->Prop},(∀x ∈ l,env.eval x=env'.eval x)->(∀vs,K vs->U vs)->Xn env l K->Xn env' l U
 |[],K,U,h,k,e=>k _ e
 |x::r,K,U,h,k,e=>by
  rw [XV] at e |-
  rw [<-h x List.mem_cons_self]
  rw [V.AY] at e |-
  obtain ⟨e1,e2⟩:=AE.1 e
  exact A7 e1 (L2 (λy hy=>h y (List.mem_cons_of_mem _ hy)) (λvs=>k _) e2)
theorem RU:∀{l:List Operand} {ts:List TypeId} {K U:List V->Prop},(∀x ∈ l,env.eval x=env'.eval x)->(∀vs,K vs->U vs)->aW T env ts l K->aW T env' ts l U
 |[],ts,K,U,h,k,e=>k _ e
 |x::r,ts,K,U,h,k,e=>by
  rw [T2] at e |-
  rw [<-DQ (h x List.mem_cons_self)]
  rw [V.AY] at e |-
  obtain ⟨e1,e2⟩:=AE.1 e
  exact A7 e1 (RU (λy hy=>h y (List.mem_cons_of_mem _ hy)) (λvs=>k _) e2)
theorem Jj:∀{l:List (Nat×Operand)} {K U:List (Nat×V)->Prop},(∀x ∈ l.map (·.2),env.eval x=env'.eval x)->(∀vs,K vs->U vs)->HL env l K->HL env' l U
 |[],K,U,h,k,e=>k _ e
 |(i,x)::r,K,U,h,k,e=>by
  rw [NU] at e |-
  rw [<-h x Pi]
  rw [V.AY] at e |-
  obtain ⟨e1,e2⟩:=AE.1 e
  exact A7 e1 (Jj (λy hy=>h y (List.mem_cons_of_mem _ hy)) (λvs=>k _) e2)
theorem Em {q U q':Prop} (h:p->U) (k:q->q'):BG b p q->BG b U q':=λ⟨x,y⟩=>⟨λe=>h (x e),λe=>k (y e)⟩
theorem Yn {q U q':Prop} (h:p->U) (k:q->q'):lit b p q->lit b U q':=by cases b;exact k;exact h
theorem Jp {cs:List V} {K':V->Prop} (h:∀v,K v->K' v):DS cs off ty K->DS cs off ty K':=by
 unfold DS
 intro e
 obtain ⟨e0,e⟩:=AE.1 e
 refine A7 e0 ?_
 revert e
 split
 .split
  .exact h _
  .intro e
   obtain ⟨U,e2⟩:=AE.1 e
   exact A7 U (Bq.2 (h _ (Bq.1 e2)))
 .split
  .exact h _
  .intro e
   obtain ⟨U,e2⟩:=AE.1 e
   exact A7 U (Bq.2 (h _ (Bq.1 e2)))
 .split
  .intro e;exact V.AY.2 (h _ (V.AY.1 e))
  grind
 grind
theorem M7 {U:List (Nat×Nat)}:∀{l:List (Nat×V)} {cs:List V} {K K':List V->Prop},(∀v,K v->K' v)->NX U cs l K->NX U cs l K'
 |[],cs,K,K',h,e=>Bq.2 (h _ (Bq.1 e))
 |(i,v)::r,cs,K,K',h,e=>by
  rw [R9] at e |-
  split
  .rename_i o s hx
   rw [hx] at e
   obtain ⟨e1,e⟩:=AE.1 e
   obtain ⟨e2,e⟩:=AE.1 e
   exact A7 e1 (A7 e2 (M7 h e))
  simp_all
theorem kH {op:BinOp} {x y:V} {K':V->Prop} (h:∀v,K v->K' v):bin op x y K->bin op x y K':=by
 unfold bin
 split
 .intro e
  obtain ⟨e1,e⟩:=AE.1 e
  refine A7 e1 ?_
  cases op<;>first
   |exact e.elim
   |exact Em (h _) (h _) e
   |(obtain ⟨r,U,h2⟩:=e;exact ⟨r,U,h _ h2⟩)
   |(obtain ⟨h0,r,U,h2⟩:=e;exact ⟨h0,r,U,h _ h2⟩)
   |(obtain ⟨h0,U⟩:=e;exact ⟨h0,h _ U⟩)
 .cases op<;>intro e<;>first
   |exact e.elim
   |exact Em (h _) (h _) e
   |(obtain ⟨h0,U⟩:=e;exact ⟨h0,h _ U⟩)
 grind
theorem YF {op:BinOp} {U:V->Prop} (h:∀v,K v->U v):Ni op ty v K->Ni op ty v U:=by
 unfold Ni
 grind
theorem bU {op:BinOp} {U:V->Prop} (h:∀v,K v->U v):SB op ty v K->SB op ty v U:=by
 unfold SB
 grind
theorem fY {op:BinOp} {x y:V} {U:V->Prop} (h:∀v,K v->U v):fX op ty x y K->fX op ty x y U:=by
 unfold fX
 split
 .unfold U0
  split
  .intro e
   obtain ⟨e1,e⟩:=AE.1 e
   refine A7 e1 ?_
   split at e
   .rename_i b hb
    cases op<;>first|exact Em (h _) (h _) e|exact e.elim
   omega
  grind
 .unfold Qz
  split
  .split
   .exact Em (Em (h _) (h _)) (Em (h _) (h _))
   .exact Em (Em (h _) (h _)) (Em (h _) (h _))
   grind
  grind
 .exact kH h
theorem Tu {sz:Nat} {own:Ay} {st:St} {K U:V->St->Prop} (h:∀v s,K v s->U v s):
 Ai sz bytes es own new st K->Ai sz bytes es own new st U:=by
 unfold Ai
 rintro ⟨h1,h2,e⟩
 obtain ⟨h3,e⟩:=AE.1 e
 refine ⟨h1,h2,A7 h3 ?_⟩
 grind
theorem Rm {sz b:Nat} {st:St} {K K':V->St->Prop} (h:∀v s,K v s->K' v s):
 E2 sz bytes b n cap new st K->E2 sz bytes b n cap new st K':=by
 unfold E2
 rintro ⟨h1,h2,e⟩
 obtain ⟨h3,h4,cs,h5,h6,e⟩:=AE.1 e
 exact ⟨h1,h2,A7 h3 ⟨h4,cs,h5,h6,λb' U m hb hm=>h _ _ (e b' U m hb hm)⟩⟩
theorem Dh (hC:∀f args st (R R':AD->St->Prop),(∀r s,R r s->R' r s)->C f args st R->C f args st R') {st st':St} {K K':V->Env->St->Prop} {Q':AG->Env->St->Prop}
 (hq:Ce o.op=true) (hs:st'=st\/(FE o.op=true/\∀b,st.box b=none)) (U:∀x ∈ o.op.operands.toList,env.eval x=env'.eval x) (hb:∀id cs,assoc env.boxes id=some cs->assoc env'.boxes id=some cs)
 (hK:∀v s s',((st'=st/\s'=s)\/(s=st/\s'=st'))->K v env s->K' v env' s') (hQ:∀v s,Q (.Ci v) env s->Q' (.Ci v) env' s):FD T C o env st K Q->FD T C o env' st' K' Q':=by
 have hk:∀v,K v env st->K' v env' st':=λv=>hK v st st' (.inr ⟨rfl,rfl⟩)
 cases ho:o.op<;>simp only [FD,ho,Ce,FE,Op.operands] at* <;>try exact id
 case move x=>
  rw [<-DQ (U x Pi)]
  intro e;exact V.AY.2 (hk _ (V.AY.1 e))
 case assign x=>
  rw [<-DQ (U x Pi)]
  intro e;exact V.AY.2 (hk _ (V.AY.1 e))
 case pick c a b=>
  rw [<-U c Pi,<-DQ (U a Pi),<-DQ (U b Pi)]
  split
  .exact Yn (λe=>V.AY.2 (hk _ (V.AY.1 e))) (λe=>V.AY.2 (hk _ (V.AY.1 e)))
  grind
 case alloc t=>cases hq
 case box t x=>cases hq
 case store t x y=>cases hq
 case range t x=>cases hq
 case next x b=>cases hq
 case makeSlice t l c=>cases hq
 case convert t u x=>
  grind
 case load t x=>
  rw [<-U x Pi]
  split
  .split
   .rename_i cs hcs
    rw [hb _ _ hcs]
    exact Jp λv=>hk v
   simp_all
  .rintro ⟨cs,h1,h2⟩
   rcases hs with rfl|⟨_,h0⟩
   .exact ⟨cs,h1,Jp (λv=>hk v) h2⟩
   simp_all
  .exact Jp λv=>hk v
  grind
 case nilCheck x=>
  grind
 case fieldAddr t x f=>
  rw [<-U x Pi]
  split
  .split
   .intro e;obtain ⟨e1,e⟩:=AE.1 e;grind
   grind
  .split
   .intro e;obtain ⟨e1,e⟩:=AE.1 e;grind
   grind
  .split
   .intro e;obtain ⟨e1,e⟩:=AE.1 e;grind
   grind
  grind
 case binOp op t x y u=>
  rw [<-U x Pi,<-U y Pi]
  split
  .exact YF λv=>hk v
  split
  .exact bU λv=>hk v
  .exact fY λv=>hk v
 case makeInterface t x=>
  rw [<-DQ (U x Pi)]
  split
  .exact id
  .intro e
   obtain ⟨e1,e⟩:=AE.1 (V.AY.1 e)
   exact V.AY.2 (A7 e1 (hk _ e))
  grind
 case typeAssert x t' t ok=>
  rw [<-U x Pi]
  split
  .exact id
  .split
   .rename_i u v _
    cases Nat.beq u t with
    |true=>
     intro e
     obtain ⟨e1,e⟩:=AE.1 e
     refine A7 e1 ?_
     cases ok with
     |true=>simp_all
     |false=>
      have e:v.force λv=>K v env st:=e
      show v.force λv=>K' v env' st'
      exact V.AY.2 (hk _ (V.AY.1 e))
    |false=>intro e;obtain ⟨e1,e⟩:=AE.1 e;simp_all
   .intro e;obtain ⟨e1,e⟩:=AE.1 e;simp_all
   grind
  grind
 case panic x=>
  grind
 case field t x f=>
  rw [<-U x Pi]
  split
  .split
   .split
    .intro e;exact V.AY.2 (hk _ (V.AY.1 e))
    grind
   grind
  grind
 case extract x i=>
  rw [<-U x Pi]
  split
  .split
   .intro e;exact V.AY.2 (hk _ (V.AY.1 e))
   grind
  grind
 case unOp op t x=>
  rw [<-U x Pi]
  split
  .exact Yn (hk _) (hk _)
  .simp_all
  grind
 case indexAddr t x i=>
  rw [<-U x Pi,<-U i Pi]
  split
  .intro e;obtain ⟨e1,h0,x,h1,h2⟩:=AE.1 e;simp_all
  .intro e;obtain ⟨e1,h0,h1⟩:=AE.1 e;simp_all
  .split
   .split
    .exact hk _
    .exact id
   .exact id
  grind
 case index t x i=>
  grind
 case build t ps=>
  split
  .exact Jj (λx hx=>U x H1) λvs=>M7 λv=>hk _
  .exact Jj (λx hx=>U x H1) λvs=>M7 λv=>hk _
  grind
 case buildSlice t n ps=>
  split
  .intro e
   obtain ⟨e1,e⟩:=AE.1 e
   obtain ⟨e2,e⟩:=AE.1 e
   obtain ⟨e3,e⟩:=AE.1 e
   refine A7 e1 (A7 e2 (A7 e3 (L2 (λx hx=>U x H1) (λvs e=>?_) e)))
   obtain ⟨e4,e⟩:=AE.1 e
   exact A7 e4 (IQ.2 (hk _ (IQ.1 e)))
  grind
 case makeFunc fn first cap=>
  cases fn with
  |func f=>
   intro e
   refine L2 (λx hx=>U x lm) (λa e=>?_) e
   exact L2 (λx hx=>U x lm) (λc=>hk _) e
  |_=>exact id
 case slice t x lo hi mx=>
  cases mx with
  |some mx=>
   cases hi with
   |none=>exact id
   |some hi=>
    have h0:env.eval x=env'.eval x:=U x Pi
    have h1:lo.map env.eval=lo.map env'.eval:=by
     cases lo with
     |none=>rfl
     |some y=>simp_all
    have h2:env.eval hi=env'.eval hi:=U hi Pi
    have h3:env.eval mx=env'.eval mx:=U mx Pi
    simp only [<-h0,<-h1,<-h2,<-h3]
    split
    .split
     .intro e;obtain ⟨e1,e2,e3⟩:=AE.1 e;simp_all
     grind
    grind
  |none=>
   have h0:env.eval x=env'.eval x:=U x Pi
   have h1:lo.map env.eval=lo.map env'.eval:=by
    cases lo with
    |none=>rfl
    |some y=>simp_all
   have h2:hi.map env.eval=hi.map env'.eval:=by
    cases hi with
    |none=>rfl
    |some y=>simp_all
   simp only [<-h0,<-h1,<-h2]
   split
   .split
    .intro e;obtain ⟨e1,e2,e3⟩:=AE.1 e;simp_all
    grind
   .grind
   .split
    .intro e;obtain ⟨e1,e2,e3⟩:=AE.1 e;simp_all
    grind
   grind
 case call c=>
  have ha:∀x ∈ c.args.toList,env.eval x=env'.eval x:=λx hx=>U x (by
   simp only [Call.operands]
   simp_all)
  have hm:c.args.toList.map env.eval=c.args.toList.map env'.eval:=List.map_congr_left ha
  cases hc:c.callee with
  |invoke r m=>simp_all
  |value f=>
   have hf:env.eval f=env'.eval f:=U f (by simp [Call.operands,hc])
   simp only [hc,<-hf]
   rcases hs with rfl|⟨h0,_⟩
   .split
    .refine RU ha λvs e=>Bq.2 (hC _ _ _ _ _ ?_ (Bq.1 e))
     rintro (v|v) s e
     .exact V.Rr.2 (hK _ _ _ (.inl ⟨rfl,rfl⟩) (V.Rr.1 e))
     simp_all
    grind
   grind
  |builtin b=>
   cases b<;>simp only [hc]<;>try exact id
   case len=>
    grind
   case min=>
    rw [<-hm]
    split
    .intro e;obtain ⟨e1,r,e2,e3⟩:=AE.1 e;simp_all
    grind
   case max=>
    rw [<-hm]
    split
    .intro e;obtain ⟨e1,r,e2,e3⟩:=AE.1 e;simp_all
    grind
   case append=>
    obtain ⟨callee,az,ts⟩:=c
    cases hc
    rcases hs with rfl|⟨h0,_⟩
    rotate_left
    .cases h0
    split
    .rename_i x y t u hx ht
     rw [<-DQ (T:=T) (ha x lm),<-DQ (T:=T) (ha y lm)]
     split
     .intro e;obtain ⟨e1,e⟩:=AE.1 e;exact A7 e1 (Tu (λv s=>hK v s s (.inl ⟨rfl,rfl⟩)) e)
     .intro e;obtain ⟨e1,e⟩:=AE.1 e;exact A7 e1 (Rm (λv s=>hK v s s (.inl ⟨rfl,rfl⟩)) e)
     grind
    grind
end
def Mq (ts:List (Nat×V)) (d:Option Nat) (v:V):List (Nat×V):=match d with
 |some t=>(t,v)::ts
 |none=>ts
def nt:List (Nat×V)->List Oper->List V->List Bool->List (Nat×V)
 |ts,o::r,v::vs,b::bs=>nt (if b then Mq ts o.dst v else ts) r vs bs
 |ts,_,_,_=>ts
theorem D9 {ts:List (Nat×V)} {t:Nat}:assoc (Mq ts d v) t=if d=some t then some v else assoc ts t:=by
 cases d with
 |none=>rfl
 |some s=>
  show assoc ((s,v)::ts) t=_
  rw [BF]
  simp_all
def aq (l:List Oper):Prop:=∀(i j:Nat) (o p:Oper) (t:Nat),l[i]? =some o->l[j]? =some p->i≠j->p.dst=some t->o.dst≠some t
theorem kF {a b:Nat} (h:a≠b):Nat.beq a b=false:=by
 cases hb:Nat.beq a b with
 |false=>rfl
 |true=>simp_all
theorem Kt {L:List (Option Nat)}:∀{bs:List (Nat×List V)} {id:Nat} {cs:List V},assoc (Bm L bs) id=some cs->assoc bs id=some cs/\(some id) ∉ L
 |[],id,cs,h=>by cases h
 |(k,c)::r,id,cs,h=>by
  have e:Bm L ((k,c)::r)=Bool.rec (motive:=λ_=>List (Nat×List V)) ((k,c)::Bm L r) (Bm L r) (L.contains (some k)):=rfl
  rw [e] at h
  rw [BF]
  cases hc:L.contains (some k) with
  |true=>
   rw [hc] at h
   obtain ⟨h1,h2⟩:=Kt (bs:=r) h
   have U:k≠id:=λe=>by simp_all
   rw [kF U]
   simp_all
  |false=>
   rw [hc] at h
   have h:assoc ((k,c)::Bm L r) id=some cs:=h
   rw [BF] at h
   cases hb:Nat.beq k id with
   |true=>
    simp_all
   |false=>rw [hb] at h;exact Kt (bs:=r) h
section
variable {D:List Deferred} {P:Program} {T:List (Nat×Ty)} {C:FuncId->List V->St->(AD->St->Prop)->Prop} {I0 I:Mem} {st0 st:St} {w0 w:World} {β:Nat->Option Nat} {env:Env} {a:Act}
theorem FV {K:Env->Prop} (h:env.go d v K):(∀t,d=some t->t<env.sz)/\K {env with tmps:=Mq env.tmps d v}:=by
 cases d with
 |none=>exact ⟨λt e=>(by cases e),h⟩
 |some t=>
  obtain ⟨h1,U⟩:=AE.1 h
  exact ⟨λs e=>by simp_all,U⟩
theorem PT {yes no:Prop} (h:Bx all o env yes no):
 (yes/\∀p q:Prop,p->Bx all o env p q)\/(no/\∀p q:Prop,q->Bx all o env p q):=by
 unfold Bx at h
 cases hg:o.guard with
 |none=>
  rw [hg] at h
  exact .inl ⟨h,λp q U=>by unfold Bx;simp_all⟩
 |some g=>
  obtain ⟨j,want⟩:=g
  rw [hg] at h
  simp only at h
  split at h
  .rename_i b hb
   cases want<;>cases b<;>simp only [cond_true,cond_false,lit] at h
   .exact .inl ⟨h,λp q U=>by unfold Bx;rw [hg];simp only [hb,lit,cond_false];exact U⟩
   .exact .inr ⟨h,λp q U=>by unfold Bx;rw [hg];simp only [hb,lit,cond_false];exact U⟩
   .exact .inr ⟨h,λp q U=>by unfold Bx;rw [hg];simp only [hb,lit,cond_true];exact U⟩
   .exact .inl ⟨h,λp q U=>by unfold Bx;rw [hg];simp only [hb,lit,cond_true];exact U⟩
  .rename_i hb
   exact .inr ⟨h,λp q U=>by unfold Bx;simp_all⟩
  simp_all
theorem Qa {cs new:List V} {K:List V->Prop} (h:GC cs off new K):off+new.length<=cs.length/\Qn cs=true/\new.all V.sc=true/\K (cs.take off++new++cs.drop (off+new.length)):=by
 unfold GC at h
 obtain ⟨U,h⟩:=AE.1 h
 obtain ⟨h1,h⟩:=AE.1 h
 obtain ⟨h2,h⟩:=AE.1 h
 exact ⟨Nat.le_of_ble_eq_true h1,U,h2,Bq.1 h⟩
structure Env.eqv (e e':Env):Prop where
 tmps:∀t,assoc e.tmps t=assoc e'.tmps t
 boxes:∀t,assoc e.boxes t=assoc e'.boxes t
 BS:e.BS=e'.BS
 sz:e.sz=e'.sz
theorem Rel.same (h:Rel D I0 st0 w0 I β e st a w) (k:e.eqv e'):Rel D I0 st0 w0 I β e' st a w:=
 ⟨h.fr,h.s,⟨h.f.size.trans k.sz,λt v x=>h.f.tmps t v ((k.tmps t).trans x),λid cs x=>h.f.box id cs ((k.boxes id).trans x),
   λid b x=>by rw [<-k.BS];exact h.f.BS id b x,h.f.inj,h.f.sep,h.f.defers⟩⟩
theorem gO {l:Array Bool} {d:Bool}:l.getD j d=(l.toList[j]?).getD d:=lm
theorem ez {l:List Nat} (U:∀t ∈ l,assoc e.tmps t=assoc e'.tmps t) (hn:e.BS=e'.BS) (hs:e.sz=e'.sz) (hg:e.gl=e'.gl):e.only bs l=e'.only bs l:=by
 unfold Env.only
 have:l.map (λt=>(t,e.get t))=l.map (λt=>(t,e'.get t)):=List.map_congr_left λt ht=>by unfold Env.get;simp_all
 simp_all
theorem Ro {e:Env}:∀{l:List Nat} {t:Nat},t ∈ l->assoc (l.map λt=>(t,e.get t)) t=some (e.get t)
 |x::r,t,h=>by
  rw [List.map_cons,BF]
  cases U:Nat.beq x t with
  |true=>simp_all
  |false=>
   rcases List.mem_cons.1 h with rfl|h
   .simp_all
   .exact Ro h
theorem Zu {t:Nat} (h:.tmp t ∈ o.op.operands.toList):t ∈ Oper.CX all o:=List.mem_append_left _ (List.mem_filterMap.2 ⟨.tmp t,h,rfl⟩)
theorem H0 (h:∀t ∈ Oper.CX all o,assoc e.tmps t=assoc e'.tmps t):∀x ∈ o.op.operands.toList,(e.only bs (Oper.CX all o)).eval x=e'.eval x:=by
 intro x hx
 cases x with
 |tmp t=>
  have U:t ∈ Oper.CX all o:=Zu hx
  show Env.get _ t=e'.get t
  unfold Env.get Env.only
  simp only
  rw [Ro U]
  unfold Env.get
  grind
 |_=>rfl
theorem RT (h:∀t ∈ Oper.CX all o,assoc e.tmps t=assoc e'.tmps t):∀x ∈ o.op.operands.toList,e.eval x=e'.eval x:=by
 intro x U
 cases x with
 |tmp t=>show Env.get _ t=Env.get _ t;unfold Env.get;rw [h t (Zu U)]
 |_=>rfl
theorem Jm {q:Prop} (h:∀t ∈ Oper.CX all o,assoc e.tmps t=assoc e'.tmps t) (k:Bx all o e p q):Bx all o e' p q:=by
 unfold Bx at *
 cases U:o.guard with
 |none=>simp_all
 |some g=>
  obtain ⟨j,want⟩:=g
  rw [U] at k
  simp only at k |-
  have:((all[j]?).bind (·.dst)).map e.get=((all[j]?).bind (·.dst)).map e'.get:=by
   cases hd:(all[j]?).bind (·.dst) with
   |none=>rfl
   |some t=>
    have:=h t (List.mem_append_right _ lm)
    simp only [Option.map_some,Env.get,this]
  simp_all
theorem Gn {q U q':Prop} (h:p->U) (h':q->q') (k:Bx all o e p q):Bx all o e U q':=by
 rcases PT k with ⟨k1,k2⟩|⟨k1,k2⟩
 .grind
 grind
end
section
variable {D:List Deferred} {P:Program} {T:List (Nat×Ty)} {C:FuncId->List V->St->(AD->St->Prop)->Prop} {I0 I:Mem} {st0 st:St} {w0 w:World} {β:Nat->Option Nat} {env:Env} {a:Act}
theorem NA (hT:HG P T) (hC:∀f args st R,C f args st R->DE P f args st R/\Plain P f) (hi:all[i]? =some o) {K:Env->St->Prop} {next:Act->World->Prop}
 (hn:∀{I β env st a w},Rel D I0 st0 w0 I β env st a w->K env st->next a w) (h:Rel D I0 st0 w0 I β env st a w)
 (k:Bx all o env (FD T C o env st (λv env st=>env.go o.dst v λenv=>K env st) Q) (env.go o.dst (.Bl []) λenv=>K env st)):
 wpOp P all.toArray (DH D I0 st0 w0 Q) i next a w:=by
 have yes:FD T C o env st (λv env st=>env.go o.dst v λenv=>K env st) Q->o.wp P a w next (DH D I0 st0 w0 Q):=by
  intro k
  refine YK hT hC (λI β env st v c w h hv _ k=>?_) h k
  obtain ⟨env',h1,h2⟩:=Dr h hv k
  exact hn h1 h2
 have no:(env.go o.dst (.Bl []) λenv=>K env st)->next (a.put o.dst undef) w:=by
  intro k
  obtain ⟨env',h1,h2⟩:=Dr h (c:=undef) (Bg.of (v:=.Bl []) (by simp only [A0];exact ⟨[],rfl,PP⟩)) k
  exact hn h1 h2
 unfold wpOp
 have hi':all.toArray[i]? =some o:=by simpa using hi
 simp only [hi']
 unfold Bx at k
 cases U:o.guard with
 |none=>
  rw [U] at k
  rw [if_pos (by simp [Region.wanted,U])]
  simp_all
 |some g=>
  obtain ⟨j,want⟩:=g
  rw [U] at k
  simp only at k
  split at k
  .rename_i b hb
   have hy:=To h hb
   have hw:Region.wanted o (yielded all.toArray a.tmps)=(b==want):=by
    simp only [Region.wanted,U,hy]
    cases b<;>cases want<;>rfl
   cases want<;>cases b<;>simp only [cond_true,cond_false,lit] at k
   .simp_all
   .simp_all
   .simp_all
   simp_all
  .rename_i hb
   have hy:=Qj h hb
   rw [if_neg (by simp only [Region.wanted,U,hy];simp_all)]
   grind
  simp_all
def BP (all:List Oper) (bs:List Bool) (i:Nat):Bool:=
 !(bs.getD i true)&&(match all[i]? with|some o=>o.after.toList.all (λe=> !(Region.binds .any e)||bs.getD e.on false)|none=>false)
theorem Fa {bs:List Bool} {listed:Array Bool} (hl:listed.toList=bs) (hb:bs.length=all.length):i ∈ Region.ready .any all.toArray listed↔i<all.length/\BP all bs i=true:=by
 have U:∀j d,listed.getD j d=bs.getD j d:=λj d=>by rw [gO,hl,List.getD_eq_getElem?_getD]
 rw [mem_ready]
 unfold BP
 grind
theorem U3 (hT:HG P T) (hC:∀f args st R,C f args st R->DE P f args st R/\Plain P f) {Inv:List Bool->Env->St->Prop}
 (step:∀(bs:List Bool) (env:Env) (st:St) (i:Nat) (o:Oper),bs.length=all.length->Inv bs env st->all[i]? =some o->BP all bs i=true->
   Bx all o env (FD T C o env st (λv env' st'=>env'.go o.dst v λU=>Inv (bs.set i true) U st') Q) (env.go o.dst (.Bl []) λenv'=>Inv (bs.set i true) env' st))
 (live:∀(bs:List Bool) (env:Env) (st:St),bs.length=all.length->Inv bs env st->bs=List.replicate all.length true\/∃j,j<all.length/\BP all bs j=true)
 (fin:∀(env:Env) (st:St),Inv (List.replicate all.length true) env st->∃env',env.eqv env'/\Q .normal env' st):
 ∀(fuel:Nat) (bs:List Bool) (listed:Array Bool) (I:Mem) (β:Nat->Option Nat) (env:Env) (st:St) (a:Act) (w:World),bs.length=all.length->listed.toList=bs->bs.count false<=fuel->
  Inv bs env st->Rel D I0 st0 w0 I β env st a w->wpAny P .any all.toArray (DH D I0 st0 w0 Q) fuel listed a w:=by
 have full:∀{bs:List Bool},bs.length=all.length->bs.count false=0->bs=List.replicate all.length true:=λ{bs} hb h0=>by
  rw [List.eq_replicate_iff]
  grind
 have noready:∀{j:Nat},BP all (List.replicate all.length true) j=true->j<all.length->False:=λ{j} h hj=>by
  unfold BP at h
  simp_all
 have done:∀{I β env st a w},Inv (List.replicate all.length true) env st->Rel D I0 st0 w0 I β env st a w->DH D I0 st0 w0 Q .normal a w:=λhi h=>by
  obtain ⟨env',h1,h2⟩:=fin _ _ hi
  exact ⟨_,_,env',_,.normal,h.same h1,trivial,h2⟩
 intro fuel
 induction fuel with
 |zero=>
  intro bs listed I β env st a w hb hl hf hi h
  have:=full hb H1
  subst this
  refine ⟨?_,done hi h⟩
  rw [List.eq_nil_iff_forall_not_mem]
  intro j hj
  obtain ⟨h1,h2⟩:=(Fa hl hb).1 hj
  grind
 |succ fuel ih=>
  intro bs listed I β env st a w hb hl hf hinv h
  refine ⟨λh0=>?_,λi hi=>?_⟩
  .rcases live bs env st hb hinv with rfl|⟨j,h1,h2⟩
   .grind
   .have:=(Fa hl hb).2 ⟨h1,h2⟩
    simp_all
  .obtain ⟨h1,h2⟩:=(Fa hl hb).1 hi
   have ho:all[i]? =some all[i]:=List.getElem?_eq_getElem h1
   refine NA hT hC (Q:=Q) ho (λ{I β env st a w} h k=>?_) h (step bs env st i _ hb hinv ho h2) (K:=λenv st=>Inv (bs.set i true) env st)
   have hbi:i<bs.length:=H1
   refine ih (bs.set i true) _ I β env st a w lm (by simp [hl]) ?_ k h
   have:=List.count_set (a:=true) (i:=i) (l:=bs) (b:=false) hbi
   unfold BP at h2
   simp_all
def writer (all:List Oper) (t:Nat):Option Nat:=(List.range all.length).find? λj=>match all[j]? with|some o=>o.dst==some t|none=>false
theorem Qi {t:Nat} (h:writer all t=some j):∃o,all[j]? =some o/\o.dst=some t:=by
 have:=List.find?_some h
 grind
theorem Z6 {t:Nat} (h:writer all t=none) (j:Nat) (o:Oper) (U:all[j]? =some o):o.dst≠some t:=by
 have:=List.find?_eq_none.1 h j (List.mem_range.2 (List.getElem?_eq_some_iff.1 U).1)
 simp_all
theorem jH (U:aq all) {t:Nat} (ho:all[j]? =some o) (hd:o.dst=some t):writer all t=some j:=by
 cases h:writer all t with
 |none=>exact absurd hd (Z6 h j o ho)
 |some k=>
  obtain ⟨p,h1,h2⟩:=Qi h
  by_cases e:j=k
  .rw [e]
  .exact absurd hd (U j k o p t ho h1 e h2)
noncomputable def Hv (all:List Oper) (ts:List (Nat×V)) (vs:Nat->V) (S:Nat->Bool) (t:Nat):Option V:=match writer all t with
 |some j=>if S j=true then some (vs j) else assoc ts t
 |none=>assoc ts t
theorem DA {ts:List (Nat×V)} {U:Nat->V} {S S':Nat->Bool} {t:Nat} (h:∀j o,all[j]? =some o->o.dst=some t->S j=S' j/\(S j=true->vs j=U j)):Hv all ts vs S t=Hv all ts U S' t:=by
 unfold Hv
 cases hw:writer all t with
 |none=>rfl
 |some j=>
  obtain ⟨o,h1,h2⟩:=Qi hw
  simp_all
def PD (vs:Nat->V) (i:Nat) (v:V):Nat->V:=λj=>if j=i then v else vs j
theorem G3 (U:aq all) {ts:List (Nat×V)} {S S':Nat->Bool} {l:List (Nat×V)} (ho:all[i]? =some o) (hl:∀t,assoc l t=Hv all ts vs S t) (hS:∀j,j≠i->S' j=S j) (hi:S' i=true) (t:Nat):
 assoc (Mq l o.dst v) t=Hv all ts (PD vs i v) S' t:=by
 rw [D9]
 split
 .rename_i hd
  unfold Hv
  rw [jH U ho hd]
  simp [hi,PD]
 .rename_i hd
  rw [hl]
  refine DA λj p hp hpd=>?_
  have hne:j≠i:=λe=>by simp_all
  exact ⟨(hS j hne).symm,λ_=>by simp [PD,hne]⟩
structure Re (all:List Oper) (sched:List (Nat×Bool)):Prop where
 back:∀pre i q r o,sched=pre++(i,q)::r->all[i]? =some o->∀e ∈ o.after,Region.binds .any e=true->e.on ∈ pre.map (·.1)
 kind:∀pre i q r,sched=pre++(i,q)::r->∃o,all[i]? =some o/\(bif q then FE o.op else (Ce o.op||Dt o.op))=true
 nodup:∀pre i q r,sched=pre++(i,q)::r->i ∉ pre.map (·.1)
 chain:∀pre i r,sched=pre++(i,false)::r->∀x ∈ r,reaches all all.length x.1 i=true
 cover:∀i,i<all.length->i ∈ sched.map (·.1)
 dst:aq all
 lo:∀(i j:Nat) (o p:Oper) (t:Nat),all[i]? =some o->all[j]? =some p->p.dst=some t->t ∈ Oper.CX all o->j<i->reaches all all.length i j=true
 hi:∀(i j:Nat) (o p:Oper) (t:Nat),all[i]? =some o->all[j]? =some p->p.dst=some t->t ∈ Oper.CX all o->i<j->reaches all all.length j i=true
theorem bQ (all:List Oper) (p:Nat×Bool) (r:List (Nat×Bool)) (done:List Nat):ei all (p::r) done=((match all[p.1]? with
 |some o=>(o.after.toList.all λe=> !(Region.binds .any e)||done.contains e.on)&&(bif p.2 then FE o.op else (Ce o.op||Dt o.op))
 |none=>false)&&(!(done.contains p.1)&&((p.2||r.all λx=>reaches all all.length x.1 p.1)&&ei all r (p.1::done)))):=rfl
theorem Yw {all:List Oper}:∀{l:List (Nat×Bool)} {done:List Nat},ei all l done=true->∀pre i q r,l=pre++(i,q)::r->
 ∃o,all[i]? =some o/\(∀e ∈ o.after,Region.binds .any e=true->e.on ∈ done\/e.on ∈ pre.map (·.1))/\(bif q then FE o.op else (Ce o.op||Dt o.op))=true/\(i ∉ done/\i ∉ pre.map (·.1))/\(q=true\/∀x ∈ r,reaches all all.length x.1 i=true)
 |[],_,_,pre,i,q,r,e=>by simp_all
 |(k,b)::l,done,h,pre,i,q,r,e=>by
  rw [bQ] at h
  simp only [Bool.and_eq_true] at h
  obtain ⟨h1,h2,h3,U⟩:=h
  cases pre with
  |nil=>
   grind
  |cons p pre=>
   simp only [List.cons_append,List.cons.injEq] at e
   obtain ⟨rfl,rfl⟩:=e
   obtain ⟨o,k1,k2,k3,⟨k4,k5⟩,k6⟩:=Yw U pre i q r rfl
   grind
theorem Re.of (h:F5 sched all=true):Re all sched:=by
 unfold F5 at h
 simp only [Bool.and_eq_true,List.all_eq_true,List.mem_range,List.any_eq_true] at h
 obtain ⟨h1,h2,h3⟩:=h
 have hat:=Yw h2
 have lt:∀{i:Nat} {o:Oper},all[i]? =some o->i<all.length:=λe=>(List.getElem?_eq_some_iff.1 e).1
 have pair:∀(i j:Nat) (o p:Oper),all[i]? =some o->all[j]? =some p->i≠j->cf all i j o p=true:=by
  intro i j o p e1 e2 hij
  have:=h3 i (lt e1) j (lt e2)
  rw [e1,e2] at this
  simp only [Bool.or_eq_true] at this
  rcases this with g|g
  .simp_all
  .exact g
 have U:∀(i j:Nat) (o p:Oper) (t:Nat),all[i]? =some o->all[j]? =some p->i≠j->p.dst=some t->(o.dst≠some t)/\(t ∈ Oper.CX all o->(if Nat.blt j i then reaches all all.length i j else reaches all all.length j i)=true):=by
  intro i j o p t e1 e2 hij ht
  have:=pair i j o p e1 e2 hij
  simp only [cf,ht,Bool.and_eq_true,Bool.or_eq_true,Bool.not_eq_true',beq_eq_false_iff_ne] at this
  refine ⟨this.1,λhm=>?_⟩
  rcases this.2 with g|g
  .simp_all
  .exact g
 have nod:∀pre i q r,sched=pre++(i,q)::r->i ∉ pre.map (·.1):=λpre i q r e=>by grind
 refine ⟨λpre i q r o e ho x hx hb=>?_,λpre i q r e=>?_,nod,λpre i r e x hx=>?_,λi hi=>?_,λi j o p t e1 e2 hij ht=>(U i j o p t e1 e2 hij ht).1,λi j o p t e1 e2 ht hm hlt=>?_,λi j o p t e1 e2 ht hm hlt=>?_⟩
 .grind
 .grind
 .grind
 .simp_all
 .have:=(U i j o p t e1 e2 H1 ht).2 hm
  simp_all
 .have:=(U i j o p t e1 e2 H1 ht).2 hm
  rw [if_neg (by rw [Nat.blt_eq];omega)] at this
  omega
theorem Re.ahead {all:List Oper} {sched:List (Nat×Bool)} (M:Re all sched):∀(n:Nat) {i j:Nat},reaches all n i j=true->∀pre q r,sched=pre++(i,q)::r->j ∈ pre.map (·.1)
 |0,i,j,h,pre,q,r,e=>by cases h
 |n+1,i,j,h,pre,q,r,e=>by
  obtain ⟨o,ho,_⟩:=M.kind pre i q r e
  rw [reaches,ho] at h
  simp only [Bool.or_eq_true,List.any_eq_true,Bool.and_eq_true] at h
  rcases h with ⟨x,h1,U,h3⟩|⟨x,h1,⟨U,h3⟩,h4⟩
  .have:=Nat.eq_of_beq_eq_true h3
   subst this
   exact M.back pre i q r o e ho x lm U
  .have hm:=M.back pre i q r o e ho x lm U
   obtain ⟨p,hp,hpe⟩:=List.mem_map.1 hm
   obtain ⟨DM,r1,e1⟩:=List.append_of_mem hp
   have:=M.ahead n h4 DM p.2 (r1++(i,q)::r) GT
   simp_all
end
section
variable {D:List Deferred} {P:Program} {T:List (Nat×Ty)} {C:FuncId->List V->St->(AD->St->Prop)->Prop} {I0 I:Mem} {st0 st:St} {w0 w:World} {β:Nat->Option Nat} {env:Env} {a:Act}
theorem KV {K:Env->Prop} (h:∀t,d=some t->t<env.sz) (k:K {env with tmps:=Mq env.tmps d v}):env.go d v K:=by
 cases d with
 |none=>exact k
 |some t=>exact A7 lm k
theorem Ll (h:H7 S all i=true):G4 S all i=true:=by
 unfold H7 at h
 unfold G4
 simp_all
def yE (T:List (Nat×Ty)) (C:FuncId->List V->St->(AD->St->Prop)->Prop) (all:List Oper) (S:List (Nat×Bool)) (sti:St) (b0:List (Nat×List V)) (U:Env) (vs:Nat->V) (pre:List (Nat×Bool)) (j:Nat) (o:Oper):Prop:=
 (∀t,o.dst=some t->t<U.sz)/\∀e:Env,(∀t ∈ Oper.CX all o,assoc e.tmps t=Hv all U.tmps vs (λk=>decide (k ∈ pre.map (·.1))) t)->e.BS=U.BS->e.sz=U.sz->e.gl=U.gl->
   Bx all o e (BZ T C all o b0 e KY (vs j)\/(H7 S all j=true/\BZ T C all o U.boxes e sti (vs j))\/(G4 S all j=true/\BZ T C all o U.boxes e KY (vs j))) (vs j=.Bl [])
structure MF (T:List (Nat×Ty)) (C:FuncId->List V->St->(AD->St->Prop)->Prop) (all:List Oper) (sched:List (Nat×Bool)) (sti:St) (L:List Nat) (b0:List (Nat×List V)) (Q:AG->Env->St->Prop) (E0:Env)
 (vs:Nat->V) (pre post:List (Nat×Bool)) (Ef:Env) (bs:List Bool) (e:Env) (st:St):Prop where
 split:sched=pre++post
 sub:∀j,bs.getD j false=true->j ∈ pre.map (·.1)
 lC:∀j,(j,false) ∈ pre->bs.getD j false=true
 boxes:Ef.boxes=e.boxes
 n1:Ef.BS=E0.BS
 n2:e.BS=E0.BS
 s1:Ef.sz=E0.sz
 s2:e.sz=E0.sz
 g1:Ef.gl=E0.gl
 g2:e.gl=E0.gl
 tm:∀t,assoc e.tmps t=Hv all E0.tmps vs (λj=>bs.getD j false) t
 tf:∀t,assoc Ef.tmps t=Hv all E0.tmps vs (λk=>decide (k ∈ pre.map (·.1))) t
 bx:∀id cs,assoc b0 id=some cs->assoc e.boxes id=some cs
 go:Ee T C all sched L b0 Q post Ef st
 xe:(∀k,(k,false) ∉ pre)->st=sti
 rk:(∀k o,(k,false) ∈ pre->all[k]? =some o->Dt o.op=false)->e.boxes=E0.boxes
 hy:∀DM j r o,pre=DM++(j,true)::r->all[j]? =some o->yE T C all sched sti b0 E0 vs DM j o
 cl:∀i o,all[i]? =some o->bs.getD i false=true->∀x ∈ o.after,Region.binds .any x=true->bs.getD x.on false=true
def K4 (T:List (Nat×Ty)) (C:FuncId->List V->St->(AD->St->Prop)->Prop) (all:List Oper) (sched:List (Nat×Bool)) (U:St) (L:List Nat) (b0:List (Nat×List V)) (Q:AG->Env->St->Prop) (E0:Env) (bs:List Bool) (e:Env) (st:St):Prop:=
 ∃vs pre post Ef,MF T C all sched U L b0 Q E0 vs pre post Ef bs e st/\∀p r,post=p::r->p.2=false
theorem yE.PD {all:List Oper} {S:List (Nat×Bool)} {U:St} {b0:List (Nat×List V)} {E0:Env} {vs:Nat->V} {pre:List (Nat×Bool)} {j:Nat} {o:Oper} {i:Nat} {v:V} (h:yE T C all S U b0 E0 vs pre j o) (h1:i≠j) (h2:i ∉ pre.map (·.1)):yE T C all S U b0 E0 (PD vs i v) pre j o:=by
 refine ⟨h.1,λe he k1 k2 k3=>?_⟩
 have hj:Go.Aw.PD vs i v j=vs j:=if_neg (λe=>h1 e.symm)
 rw [hj]
 refine h.2 e (λt ht=>(he t ht).trans (DA λk p _ _=>⟨rfl,λhk=>?_⟩)) k1 k2 k3
 have hk:k ∈ pre.map (·.1):=of_decide_eq_true hk
 exact if_neg λ(e:k=i)=>h2 (e ▸ hk)
theorem Nq {α:Type} {pre DM r:List α} {x y:α} (h:pre++[x]=DM++y::r):(pre=DM/\x=y)\/∃U,pre=DM++y::U:=by
 rcases List.eq_nil_or_concat r with rfl|⟨U,z,rfl⟩
 .simp_all
 .rw [List.concat_eq_append,show DM++y::(U++[z])=(DM++y::U)++[z] by simp] at h
  have:=List.append_inj' h rfl
  simp_all
theorem Lu {all:List Oper} {sched:List (Nat×Bool)} (M:Re all sched) {sti:St} {L:List Nat} {b0:List (Nat×List V)} {Q:AG->Env->St->Prop} {E0:Env} {bs:List Bool} {e:Env} {st:St}:
 ∀(post:List (Nat×Bool)) (vs:Nat->V) (pre:List (Nat×Bool)) (U:Env),MF T C all sched sti L b0 Q E0 vs pre post U bs e st->K4 T C all sched sti L b0 Q E0 bs e st
 |[],vs,pre,U,h=>⟨vs,pre,[],U,h,λp r e=>by cases e⟩
 |(i,false)::r,vs,pre,U,h=>⟨vs,pre,_,U,h,λp r e=>by grind⟩
 |(i,true)::r,vs,pre,U,h=>by
  obtain ⟨o,ho,_⟩:=M.kind pre i true r h.split
  have hni:=M.nodup pre i true r h.split
  have hbi:bs.getD i false=false:=by
   cases hb:bs.getD i false with
   |false=>rfl
   |true=>exact absurd (h.sub i hb) hni
  have hgo:=h.go
  rw [Ng] at hgo
  simp only [ho] at hgo
  have hst:H7 sched all i=true->st=sti:=λhe=>h.xe λk hk=>by
   unfold H7 at he
   have h1:=List.all_eq_true.1 he (k,false) (by rw [h.split];simp_all)
   simp only [Bool.false_or] at h1
   obtain ⟨pa,ra,ea⟩:=List.append_of_mem hk
   have h2:=M.ahead _ h1 pa false (ra++(i,true)::r) (by rw [h.split,ea];simp)
   simp_all
  have hbx:G4 sched all i=true->U.boxes=E0.boxes:=λhe=>h.boxes.trans (h.rk λk ok hk hok=>by
   unfold G4 at he
   have h1:=List.all_eq_true.1 he (k,false) (by rw [h.split];simp_all)
   simp only [Bool.false_or,hok] at h1
   cases hst:Dt ok.op with
   |false=>rfl
   |true=>
    rw [hst] at h1
    simp only [Bool.not_true,Bool.false_or] at h1
    obtain ⟨pa,ra,ea⟩:=List.append_of_mem hk
    have h2:=M.ahead _ h1 pa false (ra++(i,true)::r) (by rw [h.split,ea];simp)
    simp_all)
  have hes:H7 sched all i=true->G4 sched all i=true:=Ll
  have key:∃v,U.go o.dst v (λenv=>Ee T C all sched L b0 Q r env st)/\Bx all o U (BZ T C all o b0 U KY v\/(H7 sched all i=true/\BZ T C all o E0.boxes U sti v)\/(G4 sched all i=true/\BZ T C all o E0.boxes U KY v)) (v=.Bl []):=by
   rcases PT hgo with ⟨⟨v,k1,k2⟩,k3⟩|⟨k1,k3⟩
   .exact ⟨v,V.SE.1 k2,k3 _ _ (k1.imp id λy=>y.imp (λy=>⟨y.1,lm⟩) λy=>⟨y.1,lm⟩)⟩
   .grind
  obtain ⟨v,k1,k2⟩:=key
  obtain ⟨hd,k1⟩:=FV k1
  have hmem:∀k,k≠i->(k ∈ (pre++[(i,true)]).map (·.1)↔k ∈ pre.map (·.1)):=λk hk=>by
   simp [hk]
  refine Lu M r (PD vs i v) (pre++[(i,true)]) {U with tmps:=Mq U.tmps o.dst v} ⟨by rw [h.split];simp,λj hj=>?_,λj hj=>?_,h.boxes,h.n1,h.n2,h.s1,h.s2,h.g1,h.g2,λt=>?_,λt=>?_,h.bx,k1,λhk=>h.xe λk hm=>hk k (List.mem_append_left _ hm),λhk=>h.rk λk o hm ho=>hk k o (List.mem_append_left _ hm) ho,λDM j r' o' hs ho'=>?_,h.cl⟩
  .rw [List.map_append];exact List.mem_append_left _ (h.sub j hj)
  .rcases List.mem_append.1 hj with g|g
   .exact h.lC j g
   .simp at g
  .rw [h.tm]
   refine DA λk p hk _=>⟨rfl,λhb=>?_⟩
   have:k≠i:=λe=>by simp_all
   exact (if_neg this).symm
  .exact G3 (S':=λk=>decide (k ∈ (pre++[(i,true)]).map (·.1))) M.dst ho h.tf (λj hj=>by simp_all) Pi t
  .rcases Nq hs with ⟨rfl,e2⟩|⟨r2,e2⟩
   .cases e2
    rw [ho] at ho'
    cases ho'
    refine ⟨λt ht=>by rw [<-h.s1];simp_all,λe' he q1 q2 q3=>?_⟩
    have hv:PD vs i v i=v:=if_pos rfl
    rw [hv]
    have ag:∀t ∈ Oper.CX all o,assoc U.tmps t=assoc e'.tmps t:=λt ht=>by
     rw [he t ht,h.tf t]
     refine DA λk p _ _=>⟨rfl,λhk=>?_⟩
     have hk:k ∈ pre.map (·.1):=of_decide_eq_true hk
     exact (if_neg λ(e:k=i)=>hni (e ▸ hk)).symm
    have:=Jm ag k2
    refine Gn (λx=>?_) (λx=>x) this
    unfold BZ at x |-
    rw [<-ez (bs:=b0) (e:=U) (e':=e') ag (by rw [h.n1,q1]) (by rw [h.s1,q2]) (by rw [h.g1,q3]),<-ez (bs:=E0.boxes) (e:=U) (e':=e') ag (by rw [h.n1,q1]) (by rw [h.s1,q2]) (by rw [h.g1,q3])]
    exact x
   .have hj:=h.hy DM j r2 o' e2 ho'
    refine hj.PD (λe=>?_) (λhm=>hni ?_)
    .simp_all
    simp_all
theorem Jb {y:Operand} (ho:o.op=.store t x y) {st:St} {K K':V->Env->St->Prop} {Q':AG->Env->St->Prop} (hL:Hx L e o=true)
 (he:∀x ∈ o.op.operands.toList,e.eval x=e'.eval x) (hb:e.boxes=e'.boxes) (hn:e.BS=e'.BS) (hs:e.sz=e'.sz) (hg:e.gl=e'.gl)
 (hK:∀s B,(∀id cs,id ∉ L->assoc e.boxes id=some cs->assoc B id=some cs)->K .Cc {e with boxes:=B} s->K' .Cc {e' with boxes:=B} s):FD T C o e st K Q->FD T C o e' st K' Q':=by
 have hx:e.eval x=e'.eval x:=he x (by rw [ho];simp [Op.operands])
 have hy:e.CC T t y=e'.CC T t y:=DQ (he y (by rw [ho];simp [Op.operands]))
 unfold Hx at hL
 rw [ho] at hL
 simp only at hL
 simp only [FD,ho]
 rw [<-hx]
 obtain ⟨ts,bs,n,sz,gl⟩:=e
 obtain ⟨ts',bs',n',sz',gl'⟩:=e'
 simp only at hb hn hs hg hL
 subst hb;subst hn;subst hs;subst hg
 split
 .rename_i id off hev
  rw [hev] at hL
  split
  .rename_i cs ty h1 h2
   have h1:assoc bs id=some cs:=h1
   simp only [h1,h2]
   rw [<-hy]
   intro k
   have k:=V.AY.1 k
   obtain ⟨k1,k⟩:=AE.1 k
   obtain ⟨k2,U,k3,k⟩:=Qa k
   refine V.AY.2 ?_
   refine A7 k1 ?_
   unfold GC
   refine A7 U (A7 lm (A7 k3 (Bq.2 ?_)))
   refine hK st _ (λid' cs' h3 h4=>?_) k
   rw [BF]
   have:Nat.beq id id'=false:=kF λe=>by simp_all
   simp_all
  simp_all
 .split
  .rename_i ty h2
   rw [<-hy]
   rintro ⟨cs,h1,k⟩
   refine ⟨cs,h1,?_⟩
   have k:=V.AY.1 k
   obtain ⟨k1,k⟩:=AE.1 k
   obtain ⟨k2,U,k3,k⟩:=Qa k
   refine V.AY.2 ?_
   refine A7 k1 ?_
   unfold GC
   refine A7 U (A7 lm (A7 k3 (Bq.2 ?_)))
   simp_all
  simp_all
 grind
theorem Fy {bs:List Bool} (hi:i<bs.length):(bs.set i true).getD j false=if j=i then true else bs.getD j false:=GT
theorem T9 (hT:HG P T) (hC:∀f args st R,C f args st R->DE P f args st R/\Plain P f) (hM:∀f args st (R R':AD->St->Prop),(∀r s,R r s->R' r s)->C f args st R->C f args st R')
 (hm:F5 sched all=true)
 (h:Ee T C all sched L (Bm (L.map some) env.boxes) Q sched env st) (hr:Rel D I0 st0 w0 I β env st a w):
 wpAny P .any all.toArray (DH D I0 st0 w0 Q) all.toArray.size (Array.replicate all.toArray.size false) a {w with drawn:=w.drawn+1}:=by
 have M:=Re.of hm
 have hr:=hr.Kx (Jd.drew w)
 have hb0:∀id cs,assoc (Bm (L.map some) env.boxes) id=some cs->assoc env.boxes id=some cs/\id ∉ L:=λid cs e=>by
  obtain ⟨h1,h2⟩:=Kt e
  simp_all
 have hget:∀bs:List Bool,∀j,j<bs.length->bs.getD j true=bs.getD j false:=λbs j hj=>by simp_all
 have ready:∀{bs:List Bool} {i:Nat} {o:Oper},all[i]? =some o->bs.length=all.length->BP all bs i=true->bs.getD i false=false/\∀x ∈ o.after,Region.binds .any x=true->bs.getD x.on false=true:=by
  intro bs i o ho hb hrd
  have hi:i<bs.length:=by rw [hb];exact (List.getElem?_eq_some_iff.1 ho).1
  unfold BP at hrd
  rw [ho,hget bs i hi] at hrd
  simp only [Bool.and_eq_true,Bool.not_eq_true',List.all_eq_true] at hrd
  refine ⟨hrd.1,λx hx hb=>?_⟩
  have:=hrd.2 x lm
  rw [hb] at this
  simpa using this
 have listed:∀{bs:List Bool},(∀i o,all[i]? =some o->bs.getD i false=true->∀x ∈ o.after,Region.binds .any x=true->bs.getD x.on false=true)->
  ∀(n:Nat) {i j:Nat} {o:Oper},reaches all n i j=true->all[i]? =some o->(∀x ∈ o.after,Region.binds .any x=true->bs.getD x.on false=true)->bs.getD j false=true:=by
  intro bs cl n
  induction n with
  |zero=>intro i j o h;cases h
  |succ n ih=>
   intro i j o h ho ha
   rw [reaches,ho] at h
   simp only [Bool.or_eq_true,List.any_eq_true,Bool.and_eq_true] at h
   rcases h with ⟨x,h1,h2,h3⟩|⟨x,h1,⟨h2,h3⟩,h4⟩
   .have:=Nat.eq_of_beq_eq_true h3
    grind
   .have hx:=ha x lm h2
    cases hp:all[x.on]? with
    |none=>
     cases n with
     |zero=>cases h4
     |succ n=>rw [reaches,hp] at h4;cases h4
    |some p=>grind
 refine U3 hT hC (Inv:=K4 T C all sched st L (Bm (L.map some) env.boxes) Q env) ?_ ?_ ?_ _ (List.replicate all.length false) _ _ β env st _ _ Pi Pi Pi ?_ hr
 .intro bs e st1 i o hbl hinv ho hrd
  obtain ⟨vs,pre,post,Ef,F,hh⟩:=hinv
  obtain ⟨hbi,haft⟩:=ready ho hbl hrd
  have hil:i<bs.length:=by rw [hbl];exact (List.getElem?_eq_some_iff.1 ho).1
  have CX:∀{DM:List (Nat×Bool)} {q:Bool} {r:List (Nat×Bool)},sched=DM++(i,q)::r->∀t ∈ Oper.CX all o,assoc e.tmps t=Hv all env.tmps vs (λk=>decide (k ∈ DM.map (·.1))) t:=by
   intro DM q r hs t ht
   rw [F.tm]
   refine DA λk p hk hd=>⟨?_,λ_=>rfl⟩
   rcases Nat.lt_trichotomy k i with hki|rfl|hki
   .have h1:=M.lo i k o p t ho hk hd ht hki
    have h2:=listed F.cl _ h1 ho haft
    have h3:=M.ahead _ h1 _ _ _ hs
    grind
   .show bs.getD k false=decide (k ∈ DM.map (·.1))
    rw [hbi,decide_eq_false (M.nodup _ _ _ _ hs)]
   .have h1:=M.hi i k o p t ho hk hd ht hki
    show bs.getD k false=decide (k ∈ DM.map (·.1))
    have h2:bs.getD k false=false:=by
     cases hb:bs.getD k false with
     |false=>rfl
     |true=>have:=listed F.cl _ h1 hk (F.cl k p hk hb);grind
    have h3:k ∉ DM.map (·.1):=λhm=>by
     obtain ⟨x,hx,hxe⟩:=List.mem_map.1 hm
     obtain ⟨pa,ra,ea⟩:=List.append_of_mem hx
     have h4:=M.ahead _ h1 pa x.2 (ra++(i,q)::r) GT
     exact M.nodup _ _ _ _ hs GT
    grind
  have cl':∀k p,all[k]? =some p->(bs.set i true).getD k false=true->∀x ∈ p.after,Region.binds .any x=true->(bs.set i true).getD x.on false=true:=by
   intro k p hp hk x hx hb
   rw [Fy hil] at hk |-
   split
   .rfl
   .split at hk
    .grind
    .exact F.cl k p hp hk x hx hb
  by_cases hmem:i ∈ pre.map (·.1)
  . 
   obtain ⟨⟨i',q⟩,hx,rfl⟩:=List.mem_map.1 hmem
   obtain ⟨DM,r,epre⟩:=List.append_of_mem hx
   cases q with
   |false=>have:=F.lC _ hx;grind
   |true=>
    have hs:sched=DM++(i',true)::(r++post):=by rw [F.split,epre];simp
    obtain ⟨hd,hy⟩:=F.hy DM i' r o epre ho
    have hy:=hy e (CX hs) F.n2 F.s2 F.g2
    obtain ⟨o',ho',U⟩:=M.kind _ _ _ _ hs
    have ho2:all[i']? =some o:=ho
    rw [ho2] at ho'
    cases ho'
    have U:FE o.op=true:=U
    have hqk:Ce o.op=true:=by
     revert U
     cases o.op<;>simp [FE,Ce]
    have step:e.go o.dst (vs i') (λe'=>K4 T C all sched st L (Bm (L.map some) env.boxes) Q env (bs.set i' true) e' st1):=by
     refine KV (λt ht=>by rw [F.s2];grind) ⟨vs,pre,post,Ef,⟨F.split,λj hj=>?_,λj hj=>?_,F.boxes,F.n1,F.n2,F.s1,F.s2,F.g1,F.g2,λt=>?_,F.tf,F.bx,F.go,F.xe,F.rk,F.hy,cl'⟩,hh⟩
     .rw [Fy hil] at hj
      split at hj
      .grind
      .exact F.sub j hj
     .rw [Fy hil]
      split
      .rfl
      .exact F.lC j hj
     .have:=G3 (S:=λj=>bs.getD j false) (S':=λj=>(bs.set i' true).getD j false) (v:=vs i') M.dst ho F.tm (λj hj=>by grind) GT t
      refine this.trans (DA λk p _ _=>⟨rfl,λ_=>?_⟩)
      unfold PD
      grind
    refine Gn (λx=>?_) (λx=>?_) hy
    .have hbx:G4 sched all i'=true->e.boxes=env.boxes:=λhe=>F.rk λk ok hk hok=>by
      unfold G4 at he
      have h1:=List.all_eq_true.1 he (k,false) GT
      simp only [Bool.false_or,hok] at h1
      cases hst:Dt ok.op with
      |false=>rfl
      |true=>
       rw [hst] at h1
       simp only [Bool.not_true,Bool.false_or] at h1
       have:=listed F.cl _ h1 hok (F.cl k ok hok (F.lC k hk))
       grind
     rcases x with x|⟨he,x⟩|⟨he,x⟩
     .unfold BZ at x
      refine Dh (T:=T) (C:=C) (env:=e.only (Bm (L.map some) env.boxes) (Oper.CX all o)) (env':=e) (st:=KY) (st':=st1) hM hqk (.inr ⟨U,λ_=>rfl⟩) (H0 λt _=>rfl) F.bx (λv s s' g k=>?_) (λ_ _ k=>k.elim) x
      grind
     .have hini:st1=st:=F.xe λk hk=>by
       unfold H7 at he
       have h1:=List.all_eq_true.1 he (k,false) GT
       simp only [Bool.false_or] at h1
       have h2:=F.lC k hk
       cases hp:all[k]? with
       |none=>
        grind
       |some p=>
        have:=listed F.cl _ h1 hp (F.cl k p hp h2)
        grind
      subst hini
      unfold BZ at x
      have hb:=hbx (Ll he)
      refine Dh (T:=T) (C:=C) (env:=e.only env.boxes (Oper.CX all o)) (env':=e) (st:=st1) (st':=st1) hM hqk (.inl rfl) (H0 λt _=>rfl) (λid cs h=>by rw [hb];exact h) (λv s s' g k=>?_) (λ_ _ k=>k.elim) x
      grind
     .unfold BZ at x
      have hb:=hbx he
      refine Dh (T:=T) (C:=C) (env:=e.only env.boxes (Oper.CX all o)) (env':=e) (st:=KY) (st':=st1) hM hqk (.inr ⟨U,λ_=>rfl⟩) (H0 λt _=>rfl) (λid cs h=>by rw [hb];exact h) (λv s s' g k=>?_) (λ_ _ k=>k.elim) x
      grind
    grind
  . 
   obtain ⟨x,hx,rfl⟩:=List.mem_map.1 (M.cover i (List.getElem?_eq_some_iff.1 ho).1)
   rw [F.split] at hx
   have hxp:x ∈ post:=by
    rcases List.mem_append.1 hx with g|g
    .grind
    .exact g
   cases post with
   |nil=>cases hxp
   |cons p r=>
    obtain ⟨k,q⟩:=p
    have hq:q=false:=hh _ _ rfl
    subst hq
    have hxe:x=(k,false):=by
     rcases List.mem_cons.1 hxp with g|g
     .exact g
     .have h1:=M.chain pre k r F.split x g
      have h2:=listed F.cl _ h1 ho haft
      exact absurd (F.sub k h2) (M.nodup _ _ _ _ F.split)
    subst hxe
    have ho:all[k]? =some o:=ho
    have hbi:bs.getD k false=false:=hbi
    have hil:k<bs.length:=hil
    have hmem:k ∉ pre.map (·.1):=hmem
    have hgo:=F.go
    rw [Ng] at hgo
    simp only [ho] at hgo
    have ag:∀t ∈ Oper.CX all o,assoc Ef.tmps t=assoc e.tmps t:=λt ht=>by rw [F.tf,CX F.split t ht]
    have hag:=RT (all:=all) (o:=o) ag
    have next:∀(v:V) (s:St) (B:List (Nat×List V)),(∀id cs,assoc (Bm (L.map some) env.boxes) id=some cs->assoc B id=some cs)->(Dt o.op=false->B=e.boxes)->
     Env.go {Ef with boxes:=B} o.dst v (λenv'=>Ee T C all sched L (Bm (L.map some) env.boxes) Q r env' s)->
     Env.go {e with boxes:=B} o.dst v (λe'=>K4 T C all sched st L (Bm (L.map some) env.boxes) Q env (bs.set k true) e' s):=by
     intro v s B hB hBe hk
     obtain ⟨hd,hk⟩:=FV hk
     have hd:∀t,o.dst=some t->t<Ef.sz:=hd
     have hmp:∀j,j≠k->(j ∈ (pre++[(k,false)]).map (·.1)↔j ∈ pre.map (·.1)):=λj hj=>by simp [hj]
     refine KV (λt ht=>by show t<e.sz;rw [F.s2,<-F.s1];grind) (Lu M r (PD vs k v) (pre++[(k,false)]) {Ef with boxes:=B,tmps:=Mq Ef.tmps o.dst v} ⟨by rw [F.split];simp,λj hj=>?_,λj hj=>?_,rfl,F.n1,F.n2,F.s1,F.s2,F.g1,F.g2,λt=>?_,λt=>?_,hB,hk,λhk=>absurd (List.mem_append_right _ List.mem_cons_self) (hk k),λhk=>(hBe (hk k o (List.mem_append_right _ List.mem_cons_self) ho)).trans (F.rk λk o hm ho=>hk k o (List.mem_append_left _ hm) ho),λDM j r' o' hs ho'=>?_,cl'⟩)
     .rw [Fy hil] at hj
      rw [List.map_append]
      split at hj
      .grind
      .exact List.mem_append_left _ (F.sub j hj)
     .rw [Fy hil]
      split
      .rfl
      .rename_i hne
       rcases List.mem_append.1 hj with g|g
       .exact F.lC j g
       grind
     .exact G3 (S:=λj=>bs.getD j false) (S':=λj=>(bs.set k true).getD j false) M.dst ho F.tm (λj hj=>by grind) GT t
     .exact G3 (S':=λj=>decide (j ∈ (pre++[(k,false)]).map (·.1))) M.dst ho F.tf (λj hj=>by grind) Pi t
     .rcases Nq hs with ⟨rfl,e2⟩|⟨r2,e2⟩
      .cases e2
      .have hj:=F.hy DM j r2 o' e2 ho'
       refine hj.PD (λe=>?_) (λhm=>hmem ?_)
       .grind
       grind
    have heE:∀(E:Env),{E with boxes:=E.boxes}=E:=λE=>rfl
    refine Jm ag (Gn (λx=>?_) (λx=>?_) hgo)
    .obtain ⟨x1,x⟩:=AE.1 x
     obtain ⟨o',ho',U⟩:=M.kind _ _ _ _ F.split
     rw [ho] at ho'
     cases ho'
     have U:(Ce o.op||Dt o.op)=true:=U
     cases hqk:Ce o.op with
     |true=>
      refine Dh (T:=T) (C:=C) (env:=Ef) (env':=e) (st:=st1) (st':=st1) hM hqk (.inl rfl) hag (λid cs hb=>by rw [<-F.boxes];exact hb) (λv s s' g hk=>?_) (λv s hk=>hk _) x
      have:s'=s:=by rcases g with ⟨_,g⟩|⟨g1,g2⟩;exact g;rw [g1,g2]
      subst this
      have:=next v s' e.boxes F.bx (λ_=>rfl) (by rw [<-F.boxes];exact hk)
      omega
     |false=>
      rw [hqk] at U
      have hst:Dt o.op=true:=by simpa using U
      cases hop:o.op with
      |store t p y=>
       refine Jb (T:=T) (C:=C) hop x1 hag F.boxes (by rw [F.n1,F.n2]) (by rw [F.s1,F.s2]) (by rw [F.g1,F.g2]) (λs B hB hk=>?_) x
       refine next .Cc s B (λid cs hb=>?_) (λh=>by grind) hk
       obtain ⟨_,h2⟩:=hb0 id cs hb
       exact hB id cs h2 (by rw [F.boxes];exact F.bx id cs hb)
      |_=>rw [hop] at hst;cases hst
    .have:=next (.Bl []) st1 e.boxes F.bx (λ_=>rfl) (by rw [<-F.boxes];exact x)
     omega
 .intro bs e st hbl hinv
  obtain ⟨vs,pre,post,Ef,F,hh⟩:=hinv
  by_cases hall:∀p ∈ sched,bs.getD p.1 false=true
  .left
   rw [List.eq_replicate_iff]
   refine ⟨hbl,λb hb=>?_⟩
   obtain ⟨j,hj,rfl⟩:=List.mem_iff_getElem.1 hb
   obtain ⟨p,hp,e⟩:=List.mem_map.1 (M.cover j H1)
   grind
  .right
   have hex:∃pr p po,sched=pr++p::po/\bs.getD p.1 false=false/\∀x ∈ pr,bs.getD x.1 false=true:=by
    clear F hh
    revert hall
    generalize sched=l
    intro hall
    induction l with
    |nil=>grind
    |cons x l ih=>
     cases hb:bs.getD x.1 false with
     |false=>exact ⟨[],x,l,rfl,hb,λy hy=>by cases hy⟩
     |true=>
      obtain ⟨pr,p,po,h1,h2,h3⟩:=ih λh=>hall λp hp=>by grind
      grind
   obtain ⟨pr,⟨k,q⟩,po,h1,h2,h3⟩:=hex
   obtain ⟨o,ho,_⟩:=M.kind _ _ _ _ h1
   have hk:k<all.length:=(List.getElem?_eq_some_iff.1 ho).1
   refine ⟨k,hk,?_⟩
   unfold BP
   rw [ho,hget bs k H1,h2]
   simp only [Bool.not_false,Bool.true_and,List.all_eq_true]
   intro x hx
   cases hb:Region.binds .any x with
   |false=>rfl
   |true=>
    obtain ⟨y,hy,e⟩:=List.mem_map.1 (M.back _ _ _ _ o h1 ho x GT hb)
    grind
 .intro e st hinv
  obtain ⟨vs,pre,post,Ef,F,hh⟩:=hinv
  have hp:post=[]:=by
   cases post with
   |nil=>rfl
   |cons p r=>
    obtain ⟨o,ho,_⟩:=M.kind _ _ _ _ F.split
    have:=F.sub p.1 GT
    exact absurd this (M.nodup _ _ _ _ F.split)
  subst hp
  refine ⟨Ef,⟨λt=>?_,λt=>by rw [F.boxes],by rw [F.n1,F.n2],by rw [F.s1,F.s2]⟩,F.go⟩
  rw [F.tm,F.tf]
  refine DA λk p hk _=>⟨?_,λ_=>rfl⟩
  have hlt:=(List.getElem?_eq_some_iff.1 hk).1
  have h1:(List.replicate all.length true).getD k false=true:=by rw [List.getD_eq_getElem?_getD,List.getElem?_replicate,if_pos hlt];rfl
  show (List.replicate all.length true).getD k false=decide (k ∈ pre.map (·.1))
  rw [h1,decide_eq_true (F.sub k h1)]
 .have hf:∀j,(List.replicate all.length false).getD j false=false:=λj=>by grind
  have h0:∀(vs:Nat->V) t,Hv all env.tmps vs (λj=>(List.replicate all.length false).getD j false) t=assoc env.tmps t:=λvs t=>by
   unfold Hv;grind
  refine Lu M sched (λ_=>.Cc) [] env ⟨rfl,λj hj=>(by grind),λj hj=>(by cases hj),rfl,rfl,rfl,rfl,rfl,rfl,rfl,λt=>(h0 _ t).symm,λt=>?_,λid cs hb=>(hb0 id cs hb).1,h,λ_=>rfl,λ_=>rfl,λDM j r o e=>(by cases DM<;>cases e),λi o ho hi=>(by grind)⟩
  unfold Hv
  grind
end
end Go.Aw
