/-
  Parts of a proof: lemmas that the last text uses.
-/
import Derived.Test.YtpaiiicnhgoijaaGreatDoorK4
import Derived.RangeFuncRecord
import Derived.RangeFuncSeq
import Derived.OrdersIn
set_option linter.unusedVariables false
set_option linter.unusedSimpArgs false
set_option maxHeartbeats 16000000
variable {f g:Go.FuncId} {args vs cs C:List Go.Aw.V} {w w':Go.World} {o:Bool} {ops:Array Go.Oper} {st0 S:Go.Aw.St} {Q:Go.Aw.AE->Go.Aw.Env->Go.Aw.St->Prop} {l:List Go.Aw.Nd} {r:Go.Loop} {b id d i:Nat} {v:Go.Value} {Im:Go.Aw.Mem} {K:Go.Aw.Ay->Go.Aw.St->Prop} {c:Go.Code} {U:Go.Oper} {fn:Go.Func} {x:List UInt8} {all:List Go.Oper} {ty:Go.TypeId} {k:Int} {P:Prop} {E:Go.Proofs.Z.Er->Go.Proofs.Z.Af->Prop} {mk:Nat->Go.Aw.V->List Go.Aw.V} {A:Go.Proofs.Z.Rd Go.Aw.Nd} {ks:List Int} {s:Go.Proofs.Z.Af} {n:Go.Aw.Nd} {sched:List (Nat×Bool)} {L:List Nat} {rows:List (Go.Aw.AB×List Go.Aw.Nd)} {p:Go.Aw.Nd->Bool}
namespace Go.Aw
open Go
abbrev fw (ro:Option Nat):Fence:={Fence.wide with round:=ro}
section
variable {P:Program} {n:Nat} {ro:Option Nat}
theorem cB {args:Array Value} {R:Ending->World->Prop} (h:Calls P f args w R):CallsIn (fw ro) n P f args w R:=callsIn_wide.2 h
theorem kB {row:String} {args:Array Value} {R:Value->World->Prop} (h:Rows P row args w R):RowsIn (fw ro) n P row args w R:=λc cs _=>let ⟨v,w',r,s⟩:=h c cs;⟨v,w',r,stepsIn_wide.2 s⟩
theorem l5 {o:Oper} {a:Act} {next next':Act->World->Prop} {Q0 Q:Exit->Act->World->Prop} (nd:∀c,o.op≠.defer c) (h:o.wp P a w next Q0) (hn:∀a w,next a w->next' a w) (hq:∀e a w,e≠.normal->Q0 e a w->Q e a w):o.wpIn (fw ro) n P a w next' Q:=by
 refine ⟨λ_ _=>trivial,?_⟩
 rw [Oper.semAt_eq _ _ _ nd]
 unfold Oper.wp at h
 generalize (execOp a.eval o).run P w=r at h
 cases r with
 |ok x w'=>
  cases x<;>simp only [Oper.upon] at h<;>simp only [Oper.uponIn]
  all_goals first
   |exact hn _ _ h
   |exact ⟨λe=>(by cases e),(cB h).mono λe w'' U=>by cases e<;>first|exact hn _ _ U|exact hq _ _ _ GT U|exact U.imp λa U=>U.imp λw U=>hq _ _ _ GT U⟩
   |exact ⟨λe=>(by cases e),(kB h).mono λv w'' U=>hn _ _ U⟩
 |halt x w'=>cases x<;>simp only [Oper.upon] at h<;>simp only [Oper.uponIn]<;>exact hq _ _ _ GT h
theorem NR {ops:Array Oper} {Q0 Q:Exit->Act->World->Prop} (hl:¬LetsOut Q0) (hq:∀e a w,e≠.normal->Q0 e a w->Q e a w) {l2:List Oper} (hN:∀a w,Q0 .normal a w->wpListIn (fw ro) n P ops Q l2 a w):
 ∀(l1:List Oper) (a:Act) (w:World),(∀o ∈ l1,∀c,o.op≠.defer c)->wpList P ops Q0 l1 a w->wpListIn (fw ro) n P ops Q (l1++l2) a w
 |[],a,w,_,h=>hN a w h
 |o::r,a,w,nd,h=>by
  have ih:=NR hl hq hN r
  unfold wpList at h
  rw [List.cons_append]
  unfold wpListIn
  split
  .rename_i hw
   rw [if_pos hw] at h
   rcases h with h|h
   .exact l5 (nd o List.mem_cons_self) h (λa w h=>ih a w (λo U=>nd o (List.mem_cons_of_mem _ U)) h) hq
   simp_all
  .rename_i hw
   rw [if_neg hw] at h
   exact ⟨λ_ _=>trivial,ih _ w (λo U=>nd o (List.mem_cons_of_mem _ U)) h⟩
theorem bW {ops:Array Oper} {md:Region.Mode} {Q0:Exit->Act->World->Prop} (hl:¬LetsOut Q0) (nd:∀o ∈ ops.toList,∀c,o.op≠.defer c):∀(fuel:Nat) (listed:Array Bool) (a:Act) (w:World),
 wpAny P md ops Q0 fuel listed a w->wpAnyIn (fw ro) n P md ops Q0 fuel listed a w
 |0,listed,a,w,h=>h
 |fuel+1,listed,a,w,h=>by
  have ih:=bW (md:=md) hl nd fuel
  refine ⟨h.1,λi hi=>?_⟩
  have U:=h.2 i hi
  unfold wpOp at U
  unfold wpOpIn
  split
  .simp_all
  .rename_i o ho
   rw [ho] at U
   dsimp only at U
   split
   .rename_i hw
    rw [if_pos hw] at U
    rcases U with U|U
    .exact l5 (nd o (by grind)) U (λa w h=>ih _ a w h) (λ_ _ _ _ h=>h)
    simp_all
   .rename_i hw
    rw [if_neg hw] at U
    exact ⟨λ_ _=>trivial,ih _ _ _ U⟩
theorem Ll {D:List Deferred} {I0:Mem} {w0:World}:¬LetsOut (B0 D I0 st0 w0 Q):=by
 rintro ⟨a,w,I,β,env,st,U,_,h,_⟩
 cases U<;>exact h
end
def NV (l:List Oper):Bool:=l.all λo=>match o.op with| .defer _=>false|_=>true
theorem Jd {l:List Oper} (h:NV l=true):∀o ∈ l,∀c,o.op≠.defer c:=λo U c e=>by
 have:=List.all_eq_true.1 h o U
 simp_all
def FG:Code->Bool
 | .skip=>true
 | .region _ ops _=>NV ops.toList
 | .seq x y=>FG x&&FG y
 | .cond _ x y=>FG x&&FG y
 | .block _ c=>FG c
 |_=>false
section
variable {P:Program} {T:List (Nat×Ty)}
def qK (P:Program) (ro:Option Nat) (c:Code) (Q:AE->Env->St->Prop) (env:Env) (st:St):Prop:=
 ∀n D I0 st0 w0 I β a w,Rel D I0 st0 w0 I β env st a w->c.wpIn (fw ro) n P (B0 D I0 st0 w0 Q) a w
theorem Km (hP:Q6 P T) (ro:Option Nat):∀(c:Code) {Q:AE->Env->St->Prop} {env:Env} {st:St},FG c=true->ND T (A3 P) c Q env st->qK P ro c Q env st
 | .skip,Q,env,st,_,k=>λn D I0 st0 w0 I β a w h=>wpIn_skip ⟨I,β,env,st,.normal,h,trivial,k⟩
 | .region id ops true,Q,env,st,U,k=>λn D I0 st0 w0 I β a w h=>by
   have hC:=B5 P
   have hM:∀f args st (R R':Ay->St->Prop),(∀r s,R r s->R' r s)->A3 P f args st R->A3 P f args st R':=λ_ _ _ _ _ h k=>k.mono h
   have k:(Gx env ops.toList ops.toList λk L=>(IX k ops.toList&&Hq L)=true/\Hj T (A3 P) ops.toList Q env env.boxes (A9 L env.boxes) ops.toList env st)\/∃(sched:List (Nat×Bool)) (L:List Nat),IA sched ops.toList=true/\E4 T (A3 P) ops.toList sched L (A9 (L.map some) env.boxes) Q sched env st:=k
   refine wpIn_region_any hP.m (bW Ll (Jd U) _ _ _ _ ?_)
   rcases k with k|⟨sched,L,k1,k2⟩
   .obtain ⟨h1,h2⟩:=H6.1 k
    have:=OC hP.t hC hM h1 h2 h
    omega
   .have:=QE hP.t hC hM k1 k2 h
    omega
 | .region id ops false,Q,env,st,U,k=>λn D I0 st0 w0 I β a w h=>by
   have:=EM hP.t (B5 P) h (show DP T (A3 P) ops.toList Q ops.toList env st from k)
   have h2:=NR (ro:=ro) (n:=n) (l2:=[]) Ll (λ_ _ _ _ h=>h) (λa w h=>h) ops.toList a w (Jd U) (by simpa using this)
   rw [List.append_nil] at h2
   exact wpIn_region_list h2
 | .seq x y,Q,env,st,U,k=>λn D I0 st0 w0 I β a w h=>by
   simp only [FG,Bool.and_eq_true] at U
   refine wpIn_seq (wpIn_mono (Km hP ro x U.1 (show ND T (A3 P) x _ env st from k) n D I0 st0 w0 I β a w h) ?_)
   rintro e a w ⟨I,β,env,st,ae,h1,h2,h3⟩
   cases ae with
   |normal=>cases e<;>first|exact Km hP ro y U.2 h3 n D I0 st0 w0 I β a w h1|exact h2.elim
   |exit i=>cases e<;>first|exact ⟨I,β,env,st,.exit i,h1,h2,h3⟩|exact h2.elim
   |goto i=>cases e<;>first|exact ⟨I,β,env,st,.goto i,h1,h2,h3⟩|exact h2.elim
   |ret=>cases e<;>first|exact ⟨I,β,env,st,.ret,h1,h2,h3⟩|exact h2.elim
   |BU v=>cases e<;>first|exact ⟨I,β,env,st,.BU v,h1,h2,h3⟩|exact h2.elim
 | .cond c x y,Q,env,st,U,k=>λn D I0 st0 w0 I β a w h=>by
   simp only [FG,Bool.and_eq_true] at U
   have hc:=h.f.eval c
   have k:(match env.eval c with
    | .bool t=>lit t (ND T (A3 P) x Q env st) (ND T (A3 P) y Q env st)
    |_=>False):=k
   split at k
   .rename_i t he
    rw [he] at hc
    have hc:=Jj hc
    cases t with
    |true=>exact wpIn_cond_true hc (Km hP ro x U.1 (show ND T (A3 P) x Q env st from k) n D I0 st0 w0 I β a w h)
    |false=>exact wpIn_cond_false hc (Km hP ro y U.2 (show ND T (A3 P) y Q env st from k) n D I0 st0 w0 I β a w h)
   simp_all
 | .block id c,Q,env,st,U,k=>λn D I0 st0 w0 I β a w h=>by
   refine wpIn_block (wpIn_mono (Km hP ro c U (show ND T (A3 P) c _ env st from k) n D I0 st0 w0 I β a w h) ?_)
   rintro e a w ⟨I,β,env,st,ae,h1,h2,h3⟩
   cases ae with
   |normal=>cases e<;>first|exact ⟨I,β,env,st,.normal,h1,trivial,h3⟩|exact h2.elim
   |exit i=>
    cases e<;>try exact h2.elim
    rename_i i'
    have h2:i'=i:=h2
    subst h2
    simp only [Oo] at h3
    show (if i'=id then B0 D I0 st0 w0 Q .normal a w else B0 D I0 st0 w0 Q (.exit i') a w)
    by_cases hi:i'=id
    .subst hi
     rw [if_pos rfl]
     simp only [Nat.beq_refl,cond_true] at h3
     exact ⟨I,β,env,st,.normal,h1,trivial,h3⟩
    .rw [if_neg hi]
     have:Nat.beq i' id=false:=by
      cases hb:Nat.beq i' id with
      |false=>rfl
      |true=>simp_all
     rw [this] at h3
     exact ⟨I,β,env,st,.exit i',h1,rfl,h3⟩
   |goto i=>cases e<;>first|exact ⟨I,β,env,st,.goto i,h1,h2,h3⟩|exact h2.elim
   |ret=>cases e<;>first|exact ⟨I,β,env,st,.ret,h1,h2,h3⟩|exact h2.elim
   |BU v=>cases e<;>first|exact ⟨I,β,env,st,.BU v,h1,h2,h3⟩|exact h2.elim
 | .loop _,_,_,_,U,_| .exit _,_,_,_,U,_| .goto _,_,_,_,U,_| .label _,_,_,_,U,_| .ret,_,_,_,U,_| .rangeFunc ..,_,_,_,U,_| .scope _,_,_,_,U,_| .refuse _,_,_,_,U,_=>by cases U
end
section
variable {D:List Deferred} {P:Program} {T:List (Nat×Ty)} {I0 I:Mem} {st0 st:St} {w0 w:World} {β:Nat->Option Nat} {env:Env} {a:Act}
theorem kn {l:Nat} {o:Nat} (U:w.heap[l]? =some (.loop r)) (h:w.cell? ⟨b,o,none⟩=some v):b≠l:=by
 rintro rfl
 simp [World.cell?,U] at h
theorem Ci.put {l:Nat} {r':Loop} (h:Ci I st w) (hl:w.heap[l]? =some (.loop r)):Ci I st (w.putObj l (.loop r')):=by
 have ne:∀{b:Nat} {c:Array Value} {ty:TypeId},w.heap[b]? =some (.cells c ty (0,0))->b≠l:=λe=>by grind
 refine ⟨λb o v e=>?_,λb n e=>?_,λb cs e=>?_,h.Hd,λb n e=>?_,h.QV⟩
 .have e:=h.cell b o v e
  rw [F4 (World.putObj_heap_other (kn hl e))];exact e
 .obtain ⟨c,ty,U,h2⟩:=h.shape b n e
  exact ⟨c,ty,by rw [World.putObj_heap_other (ne U)];exact U,h2⟩
 .obtain ⟨vs,ty,U,h2⟩:=h.box b cs e
  exact ⟨vs,ty,by rw [World.putObj_heap_other (ne U)];exact U,h2⟩
 .rw [World.putObj_size];exact h.hw b n e
def Idle (l:Nat) (st:St):Prop:=st.box l=none/\st.hw l=none
theorem Idle.fr {l:Nat} {I':Mem} {st':St} (h:Idle l st) (hl:l<w.heap.size) (U:Fr I st w I' st' w'):Idle l st'/\w'.heap[l]? =w.heap[l]? :=by
 refine ⟨?_,U.Kc l hl h.1 h.2⟩
 have:¬(st'.box l≠none\/st'.hw l≠none):=λe=>by
  rcases U.JY l e with e|e|e
  .omega
  .exact e h.1
  .exact e h.2
 exact ⟨Classical.byContradiction λe=>this (.inl e),Classical.byContradiction λe=>this (.inr e)⟩
theorem Ib {l:Nat} {o:Obj} (h:w.heap[l]? =some o):l<w.heap.size:=(Array.getElem?_eq_some_iff.1 h).1
def YS (P:Program) (l:Nat) (r:Loop) (Im:Mem) (vs:List V) (st:St) (K:St->Prop):Prop:=
 ∀n I w (U:List Value),Im.le I->Ci I st w->Ak I vs U->w.heap[l]? =some (.loop r)->Idle l st->
  YieldAt (fw none) n P l U.toArray w λe w'=>e=.returned (.bool true)/\∃I' st',Fr I st w I' st' w'/\Ci I' st' w'/\K st'
theorem YS.mono {l:Nat} {r:Loop} {Im:Mem} {vs:List V} {K K':St->Prop} (h:YS P l r Im vs st K) (k:∀st,K st->K' st):YS P l r Im vs st K':=λn I w U h1 h2 h3 h4 h5=>by
 obtain ⟨fn,tmps,assign,body,e,hr⟩:=h n I w U h1 h2 h3 h4 h5
 exact ⟨fn,tmps,assign,body,e,hr.mono λe w' ⟨e1,I',st',q1,q2,q3⟩=>⟨e1,I',st',q1,q2,k _ q3⟩⟩
def YK (P:Program) (T:List (Nat×Ty)) (assign body:Code) (env:Env) (st:St) (K:St->Prop):Prop:=
 ND T (A3 P) assign (BL (λenv st=>(env.boxes=[]/\(env.tmps.all λp=>p.2.plain)=true)/\ND T (A3 P) body (BL (λ_ st=>K st) hH) env st) hH) env st
theorem QR {v:V} {c:Value} (h:AR I β v c) (U:v.plain=true):AR I (λ_=>none) v c:=by
 cases v<;>first|exact h|cases U
theorem Rel.bare (h:Ha D w0.heap.size I β env st a w) (hb:env.boxes=[]) (hp:(env.tmps.all λp=>p.2.plain)=true) {st':St} {U:Mem} (hs:Ci U st' w') (hle:I.le U) {D':List Deferred}:Rel D' U st' w' U (λ_=>none) env st' {a with defers:=D'} w':=by
 refine ⟨Fr.refl,hs,⟨h.size,λt v e=>?_,λid cs e=>?_,(λid b e=>by cases e),(λi j b e=>by cases e),(λid b e=>by cases e),rfl⟩⟩
 .have hv:=List.all_eq_true.1 hp _ (Fi e)
  have:=QR (h.tmps t v e) hv
  have e2:v.plain=true:=hv
  cases v<;>first|exact AG.mono hle _ _ this|cases e2
 .rw [hb] at e;cases e
theorem gW (hP:Q6 P T) {l:Nat} {wm:World} {stm:St} {B:Nat} (hF:Ha D B Im β env stm a wm) (hb:env.boxes=[]) (hp:(env.tmps.all λp=>p.2.plain)=true) {fn:FuncId} {p1 p2:Tmp} {assign body:Code} {df:Nat}
 (hr:r={state:=.ready,pending:=none,fn,tmps:=a.tmps,params:=#[p1,p2],assign,body,defers:=df}) (ok:(FG assign&&FG body)=true) (hlt:(Nat.blt p1 env.sz&&Nat.blt p2 env.sz)=true) {v1 v2:V} {K:St->Prop} (hv:(v1.plain&&v2.plain)=true)
 (h:YK P T assign body {env with tmps:=(p2,v2)::(p1,v1)::env.tmps} st K):YS P l r Im [v1,v2] st K:=by
 intro n I w cargs hle hs hargs hl hid
 simp only [Ak] at hargs
 obtain ⟨c1,r1,rfl,q1,c2,r2,rfl,q2,rfl⟩:=hargs
 simp only [Bool.and_eq_true] at ok hlt hv
 have hl1:p1<env.sz:=by simpa [Nat.blt_eq] using hlt.1
 have hl2:p2<env.sz:=by simpa [Nat.blt_eq] using hlt.2
 have hy:=run_yield (P:=P) (args:=#[c1,c2]) hl ke
 rw [hr] at hy
 have ht:(#[p1,p2].zip #[c1,c2]).foldl (λtmps (x:Nat×Value)=>match x with|(t,a)=>tmps.setIfInBounds t a) a.tmps=(a.tmps.setIfInBounds p1 c1).setIfInBounds p2 c2:=by
  simp [Array.zip]
 dsimp only at hy
 rw [ht] at hy
 refine ⟨fn,_,assign,body,hy,roundIn_of_wpIn trivial ?_⟩
 have hsz:=hF.size
 have r0:Rel [] I st w I (λ_=>none) {env with tmps:=(p2,v2)::(p1,v1)::env.tmps} st {tmps:=(a.tmps.setIfInBounds p1 c1).setIfInBounds p2 c2,defers:=[]} w:=by
  refine ⟨Fr.refl,hs,⟨ke,λt v e=>?_,λid cs e=>?_,λid b e=>(by cases e),λi j b e=>(by cases e),λid b e=>(by cases e),rfl⟩⟩
  .have key:∀{x:V} {c:Value},AG I x c->x.plain=true->AR I (λ_=>none) x c:=λh _=>AR.of h
   rw [Bi] at e
   cases hb2:Nat.beq p2 t with
   |true=>
    simp_all
   |false=>
    rw [hb2] at e
    have hn2:p2≠t:=λx=>by simp_all
    simp only [cond_false] at e
    rw [Bi] at e
    cases hb1:Nat.beq p1 t with
    |true=>
     simp_all
    |false=>
     rw [hb1] at e
     have hn1:p1≠t:=λx=>by simp_all
     simp only [cond_false] at e
     have hpl:v.plain=true:=List.all_eq_true.1 hp _ (Fi e)
     have h0:=QR (hF.tmps t v e) hpl
     have:((a.tmps.setIfInBounds p1 c1).setIfInBounds p2 c2).getD t undef=a.tmps.getD t undef:=by
      simp [Array.getD_eq_getD_getElem?,Array.getElem?_setIfInBounds_ne hn2,Array.getElem?_setIfInBounds_ne hn1]
     rw [this]
     cases v<;>first|exact AG.mono hle _ _ h0|cases hpl
  .rw [show ({env with tmps:=(p2,v2)::(p1,v1)::env.tmps}:Env).boxes=[] from hb] at e;cases e
 have hltl:=Ib hl
 refine wpIn_mono (Km hP (some l) assign ok.1 h n [] I st w I _ _ w r0) ?_
 rintro e a1 w1 ⟨I1,β1,env1,st1,ae,r1,x1,k1⟩
 cases ae with
 |exit _|goto _|ret|BU _=>exact k1.elim
 |normal=>
 cases e with
 |exit _|goto _|ret|panic _|outgrown=>exact x1.elim
 |normal=>
 obtain ⟨⟨b1,b2⟩,k1⟩:=k1
 obtain ⟨hid1,U⟩:=hid.fr hltl r1.fr
 rw [hl] at U
 have hrdy:r.state=.ready:=by rw [hr]
 refine ⟨_,run_beginRound U hrdy,?_⟩
 have hs2:Ci I1 st1 (w1.putObj l (.loop {r with state:=.busy})):=r1.s.put U
 have r2:=Rel.bare (D':=[]) r1.f b1 b2 hs2 (Mem.le_refl _)
 have hd1:a1={a1 with defers:=[]}:=by
  have:=r1.f.defers
  cases a1;simp_all
 rw [hd1]
 refine wpIn_mono (Km hP (some l) body ok.2 k1 n [] I1 st1 _ I1 _ _ _ r2) ?_
 rintro e a3 w3 ⟨I3,β3,env3,st3,ae,r3,x3,k3⟩
 cases ae with
 |exit _|goto _|ret|BU _=>exact k3.elim
 |normal=>
 cases e with
 |exit _|goto _|ret|panic _|outgrown=>exact x3.elim
 |normal=>
 have hlt1:l<w1.heap.size:=Ib U
 obtain ⟨hid3,hl3⟩:=hid1.fr (w:=w1.putObj l (.loop {r with state:=.busy})) (by rw [World.putObj_size];omega) r3.fr
 rw [World.putObj_heap_same hlt1] at hl3
 refine ⟨_,_,run_endRound none hl3,?_⟩
 have hrr:({({r with state:=.busy}:Loop) with state:=if (none:Option Code).isNone then .ready else .done,pending:=none}:Loop)=r:=by rw [hr];rfl
 rw [hrr]
 refine ⟨rfl,I3,st3,?_,r3.s.put hl3,k3⟩
 have f1:=r1.fr
 have f3:=r3.fr
 have z1:(w1.putObj l (.loop {r with state:=.busy})).heap.size=w1.heap.size:=World.putObj_size
 have z3:(w3.putObj l (.loop r)).heap.size=w3.heap.size:=World.putObj_size
 have f13:Fr I1 st1 w1 I3 st3 (w3.putObj l (.loop r)):=by
  refine ⟨f3.os,f3.tape,f3.output,by rw [z3,<-z1];exact f3.size,λb hb h1 h2=>?_,f3.le,λb o h1 h2=>by rw [<-z1];exact f3.new b o h1 h2,λb h1 h2=>by rw [<-z1];exact f3.JZ b h1 h2,λb h1=>by rw [<-z1];exact f3.JY b h1⟩
  by_cases e:b=l
  .subst e
   rw [World.putObj_heap_same (Ib hl3),U]
  .rw [World.putObj_heap_other e,f3.Kc b AC h1 h2,World.putObj_heap_other e]
 exact f1.trans f13
def Oa (P:Program) (l:Nat) (r:Loop) (Im:Mem) (c:Code) (Q:AE->Env->St->Prop) (env:Env) (st:St):Prop:=
 ∀D I0 st0 w0 I β a w,Im.le I0->w0.heap[l]? =some (.loop r)->Idle l st0->Rel D I0 st0 w0 I β env st a w->c.wp P (B0 D I0 st0 w0 Q) a w
variable {l:Nat} {r:Loop} {Im:Mem} {Q:AE->Env->St->Prop}
theorem Oa.of (h:AW P c Q env st):Oa P l r Im c Q env st:=λD I0 st0 w0 I β a w _ _ _ U=>h D I0 st0 w0 I β a w U
theorem Fz {x y:Code} (h:Oa P l r Im x (BL (λenv st=>Oa P l r Im y Q env st) Q) env st):Oa P l r Im (.seq x y) Q env st:=λD I0 st0 w0 I β a w g1 g2 g3 hr=>by
 refine wp_seq (wp_mono (h D I0 st0 w0 I β a w g1 g2 g3 hr) ?_)
 rintro e a w ⟨I,β,env,st,ae,h1,U,h3⟩
 cases ae with
 |normal=>cases e<;>first|exact h3 D I0 st0 w0 I β a w g1 g2 g3 h1|exact U.elim
 |exit i=>cases e<;>first|exact ⟨I,β,env,st,.exit i,h1,U,h3⟩|exact U.elim
 |goto i=>cases e<;>first|exact ⟨I,β,env,st,.goto i,h1,U,h3⟩|exact U.elim
 |ret=>cases e<;>first|exact ⟨I,β,env,st,.ret,h1,U,h3⟩|exact U.elim
 |BU v=>cases e<;>first|exact ⟨I,β,env,st,.BU v,h1,U,h3⟩|exact U.elim
theorem Qg (h:Oa P l r Im c (Oo id Q) env st):Oa P l r Im (.block id c) Q env st:=λD I0 st0 w0 I β a w g1 g2 g3 hr=>by
 refine wp_block (wp_mono (h D I0 st0 w0 I β a w g1 g2 g3 hr) ?_)
 rintro e a w ⟨I,β,env,st,ae,h1,U,h3⟩
 cases ae with
 |normal=>cases e<;>first|exact ⟨I,β,env,st,.normal,h1,trivial,h3⟩|exact U.elim
 |exit i=>
  cases e<;>try exact U.elim
  rename_i i'
  have U:i'=i:=U
  subst U
  simp only [Oo] at h3
  show (if i'=id then B0 D I0 st0 w0 Q .normal a w else B0 D I0 st0 w0 Q (.exit i') a w)
  by_cases hi:i'=id
  .subst hi
   rw [if_pos rfl]
   simp only [Nat.beq_refl,cond_true] at h3
   exact ⟨I,β,env,st,.normal,h1,trivial,h3⟩
  .rw [if_neg hi]
   have:Nat.beq i' id=false:=by
    cases hb:Nat.beq i' id with
    |false=>rfl
    |true=>simp_all
   rw [this] at h3
   exact ⟨I,β,env,st,.exit i',h1,rfl,h3⟩
 |goto i=>cases e<;>first|exact ⟨I,β,env,st,.goto i,h1,U,h3⟩|exact U.elim
 |ret=>cases e<;>first|exact ⟨I,β,env,st,.ret,h1,U,h3⟩|exact U.elim
 |BU v=>cases e<;>first|exact ⟨I,β,env,st,.BU v,h1,U,h3⟩|exact U.elim
theorem bP (h:∃(α:Type) (E:α->Env) (S:α->St) (J:α->Prop) (μ:α->Nat) (x0:α),J x0/\(E x0).Ep env/\St.le (S x0) st/\
 ∀x,J x->Oa P l r Im c (BL (λenv' st'=>∃y,J y/\μ y<μ x/\(E y).Ep env'/\St.le (S y) st') Q) (E x) (S x)):Oa P l r Im (.loop c) Q env st:=λD I0 st0 w0 I β a w g1 g2 g3 hr=>by
 obtain ⟨α,E,S,J,μ,x0,h0,he,hs,round⟩:=h
 refine Nj (λn a w=>∃I β x,Rel D I0 st0 w0 I β (E x) (S x) a w/\J x/\n=μ x) (n0:=μ x0) ⟨I,_,x0,(hr.GQ hs).Iy (Env.Iz he),h0,rfl⟩ ?_
 rintro n a w ⟨I,β,x,h,hi,rfl⟩
 refine wp_mono (round x hi D I0 st0 w0 I β a w g1 g2 g3 h) ?_
 rintro e a w ⟨I,β,env,st,ae,h1,U,h3⟩
 cases ae with
 |normal=>
  cases e<;>try exact U.elim
  obtain ⟨y,q1,q2,q3,q4⟩:=h3
  exact ⟨μ y,q2,I,_,y,(h1.GQ q4).Iy (Env.Iz q3),q1,rfl⟩
 |exit i=>cases e<;>first|exact ⟨I,β,env,st,.exit i,h1,U,h3⟩|exact U.elim
 |goto i=>cases e<;>first|exact ⟨I,β,env,st,.goto i,h1,U,h3⟩|exact U.elim
 |ret=>cases e<;>first|exact ⟨I,β,env,st,.ret,h1,U,h3⟩|exact U.elim
 |BU v=>cases e<;>first|exact ⟨I,β,env,st,.BU v,h1,U,h3⟩|exact U.elim
theorem Y4 (hP:Q6 P T) {pre post:List Oper} {oc:Oper} {c:Call} {f:Operand} (hall:all=pre++oc::post) (hnd:NV all=true) (hc:oc.op=.call c) (hf:c.callee=.value f) (hg:oc.guard=none)
 (h:DP T (A3 P) all (BL (λenv st=>env.eval f=.bN l/\SS env c.args.toList λvs=>YS P l r Im vs st λst'=>env.go oc.dst (.bool true) λenv=>DP T (A3 P) all Q post env st') Q) pre env st):
 Oa P l r Im (.region id all.toArray false) Q env st:=λD I0 st0 w0 I β a w g1 g2 g3 hr=>by
 have hC:=B5 P
 have nd:=Jd hnd
 rw [<-wpIn_wide (n:=1)]
 refine wpIn_region_list (F:=fw none) (n:=1) ?_
 rw [show all.toArray.toList=pre++oc::post by rw [hall]]
 have hpre:∀o ∈ pre,∀c,o.op≠.defer c:=λo ho=>nd o ke
 refine NR (ro:=none) (n:=1) (Q0:=B0 D I0 st0 w0 (BL (λenv st=>env.eval f=.bN l/\SS env c.args.toList λvs=>YS P l r Im vs st λst'=>env.go oc.dst (.bool true) λenv=>DP T (A3 P) all Q post env st') Q)) Ll ?_ ?_ pre a w hpre (EM hP.t hC hr h)
 .rintro e a w hne ⟨I,β,env,st,ae,U,h2,h3⟩
  cases ae with
  |normal=>cases e<;>first|exact absurd rfl hne|exact h2.elim
  |exit i=>exact ⟨I,β,env,st,.exit i,U,h2,h3⟩
  |goto i=>exact ⟨I,β,env,st,.goto i,U,h2,h3⟩
  |ret=>exact ⟨I,β,env,st,.ret,U,h2,h3⟩
  |BU v=>exact ⟨I,β,env,st,.BU v,U,h2,h3⟩
 .rintro a1 w1 ⟨I1,β1,env1,st1,ae,U,h2,h3⟩
  cases ae with
  |exit _|goto _|ret|BU _=>exact h2.elim
  |normal=>
  obtain ⟨he,h3⟩:=h3
  have hfv:=U.f.eval f
  rw [he] at hfv
  have hfv':AG I1 (.bN l) (a1.eval f):=hfv
  simp only [AG] at hfv'
  obtain ⟨vs,q1,q2⟩:=Fl U.f h3
  obtain ⟨hid,hl⟩:=g3.fr (Ib g2) U.fr
  rw [g2] at hl
  obtain ⟨fn,tmps,assign,body,hy,hround⟩:=q2 (1 - 1) I1 w1 _ (Mem.le_trans g1 U.fr.le) U.s q1 hl hid
  have harr:(c.args.toList.map a1.eval).toArray=c.args.map a1.eval:=by apply Array.ext';simp
  rw [harr] at hy
  have hrun:(execOp a1.eval oc).run P w1=.ok (.round l fn tmps assign body) w1:=by
   simp only [execOp,hc,resolve,hf,hfv',Deferred.ofValue,Sem.run_bind,Sem.run_pure,Result.andThen_ok,invoke]
   simpa using hy
  unfold wpListIn
  rw [if_pos (by simp [Region.wanted,hg])]
  refine ⟨λ_ _=>trivial,?_⟩
  rw [Oper.semAt_eq _ _ _ ke,hrun]
  refine ⟨λe=>(by cases e),hround.mono λe w' ⟨e1,I2,st2,f1,f2,k⟩=>?_⟩
  subst e1
  have r2:=U.called f1 f2
  obtain ⟨env3,r3,k3⟩:=B2 r2 (c:=.bool true) (AR.of H1) k
  have hpost:∀o ∈ post,∀c,o.op≠.defer c:=λo ho=>nd o ke
  have:=NR (ro:=none) (n:=1) (l2:=[]) Ll (λ_ _ _ _ h=>h) (λa w h=>h) post _ w' hpost (EM hP.t hC r3 k3)
  simp_all
end
def bk:Obj->Bool
 | .loop _| .deferred _=>true
 |_=>false
section
variable {D:List Deferred} {P:Program} {T:List (Nat×Ty)} {I0 I:Mem} {st0 st:St} {w0 w:World} {β:Nat->Option Nat} {env:Env} {a:Act}
theorem iz {l o:Nat} {x:Obj} (U:w.heap[l]? =some x) (hx:bk x=true) (h:w.cell? ⟨b,o,none⟩=some v):b≠l:=by
 rintro rfl
 cases x<;>first|(simp [World.cell?,U] at h;done)|cases hx
theorem On {l:Nat} {x:Obj} {c:Array Value} (U:w.heap[l]? =some x) (hx:bk x=true) (h:w.heap[b]? =some (.cells c ty (0,0))):b≠l:=by
 rintro rfl
 rw [U] at h;cases h;cases hx
theorem Ci.aw {l:Nat} {x y:Obj} (h:Ci I st w) (hl:w.heap[l]? =some x) (hx:bk x=true):Ci I st (w.putObj l y):=by
 refine ⟨λb o v e=>?_,λb n e=>?_,λb cs e=>?_,h.Hd,λb n e=>?_,h.QV⟩
 .have e:=h.cell b o v e
  rw [F4 (World.putObj_heap_other (iz hl hx e))];exact e
 .obtain ⟨c,ty,U,h2⟩:=h.shape b n e
  exact ⟨c,ty,by rw [World.putObj_heap_other (On hl hx U)];exact U,h2⟩
 .obtain ⟨vs,ty,U,h2⟩:=h.box b cs e
  exact ⟨vs,ty,by rw [World.putObj_heap_other (On hl hx U)];exact U,h2⟩
 .rw [World.putObj_size];exact h.hw b n e
theorem Fr.aw {l:Nat} {y:Obj} (h:Fr I0 st0 w0 I st w) (hl:w0.heap.size<=l):Fr I0 st0 w0 I st (w.putObj l y):=
 ⟨h.os,h.tape,h.output,by rw [World.putObj_size];exact h.size,λb hb U h2=>by rw [World.putObj_heap_other AC];exact h.Kc b hb U h2,h.le,h.new,h.JZ,h.JY⟩
theorem Rel.aw {l:Nat} {x y:Obj} (h:Rel D I0 st0 w0 I β env st a w) (hl:w.heap[l]? =some x) (hx:bk x=true) (hw:w0.heap.size<=l):Rel D I0 st0 w0 I β env st a (w.putObj l y):=by
 refine ⟨h.fr.aw hw,h.s.aw hl hx,⟨h.f.size,h.f.tmps,λid cs e=>?_,h.f.Bj,h.f.inj,λid b e=>?_,h.f.defers⟩⟩
 .obtain ⟨b,h1,U⟩:=h.f.box id cs e
  refine ⟨b,h1,?_⟩
  have hne:b≠l:=by
   rintro rfl
   rcases U with ⟨vs,ty,U,_⟩|⟨s,pos,_,_,U⟩
   .exact On hl hx U rfl
   .rw [hl] at U;cases U;cases hx
  rw [World.putObj_heap_other hne];exact U
 .rw [World.putObj_size];exact h.f.sep id b e
theorem Ci.idle {l:Nat} (h:Ci I st w) (hl:w.heap.size<=l):Idle l st:=by
 refine ⟨?_,?_⟩
 .cases e:st.box l with
  |none=>rfl
  |some cs=>
   obtain ⟨vs,ty,U,_⟩:=h.box l cs e
   simp_all
 .cases e:st.hw l with
  |none=>rfl
  |some n=>have:=(h.hw l n e).1;omega
theorem Rj (hP:Q6 P T) (hf:P.funcs[f]? =some fn) (hb:fn.body=some c) (hres:fn.results.toList=[]) {l:Nat} {K:St->Prop} (hle:Nat.ble args.length fn.ntmps=true)
 (h:Oa P l r Im c (λae _ st=>(ae=.normal\/ae=.ret)/\K st) {tmps:=Iw 0 args,boxes:=[],Bj:=0,sz:=fn.ntmps,gl:=[]} st) {U:List Value} (hm:Im.le I) (hs:Ci I st w) (hargs:Ak I args U) (hl:w.heap[l]? =some (.loop r)) (hi:Idle l st):
 Calls P f U.toArray w λe w'=>(∃v,e=.returned v)/\∃I' st',Fr I st w I' st' w'/\Ci I' st' w'/\K st':=by
 refine calls_of_wp hf hb (wp_mono (h [] I st w I _ _ w hm hl hi (Gl [] hs hargs hle)) ?_)
 rintro e a w' ⟨I1,β1,env1,st1,ae,h1,h2,h3,h4⟩
 have hret:a.defers=[]/\∃v,(results fn a.tmps).run P w'=.ok v w'/\((∃v',Ending.returned v=.returned v')/\∃I' st',Fr I st w I' st' w'/\Ci I' st' w'/\K st'):=by
  obtain ⟨v,c,g1,g2,g3⟩:=CD (P:=P) (fn:=fn) (R:=λ_ s=>K s) hP.t h1 (by rw [hres];exact h4)
  exact ⟨h1.f.defers,c,g1,⟨_,rfl⟩,I1,st1,h1.fr,h1.s,g3⟩
 rcases h3 with rfl|rfl<;>(cases e<;>first|exact hret|exact h2.elim)
def nW (P:Program) (T:List (Nat×Ty)) (fn:Func) (g:Operand) (p1 p2:Tmp) (assign body rest:Code) (R:Ay->St->Prop) (env:Env) (st:St):Prop:=
 (env.boxes=[]/\(env.tmps.all λp=>p.2.plain)=true)/\∃(gf:FuncId) (caps:List V) (K:St->Prop),(env.eval g=.func gf [] caps/\Plain P gf)/\
   (∀(D:List Deferred) (B:Nat) (Im:Mem) (β:Nat->Option Nat) (a:Act) (wm:World) (l df:Nat) (fi:FuncId),Ha D B Im β env st a wm->
     ∀(I:Mem) (w:World) (U:List Value),Im.le I->Ci I st w->Ak I caps U->w.heap[l]? =some (.loop {state:=.ready,pending:=none,fn:=fi,tmps:=a.tmps,params:=#[p1,p2],assign,body,defers:=df})->Idle l st->
      Calls P gf (Value.func (.yield l) #[] #[]::U).toArray w λe w'=>(∃v,e=.returned v)/\∃I' st',Fr I st w I' st' w'/\Ci I' st' w'/\K st')/\
   ∀st',K st'->AW P rest (λae env st=>(ae=.normal\/ae=.ret)/\Ug T fn R env st) env st'
theorem Sl (hP:Q6 P T) {R:Ay->St->Prop} (hf:P.funcs[f]? =some fn) {c0 c1 c2 assign body rest:Code} {bid:Nat} {g:Operand} {p1 p2:Tmp}
 (hb : fn.body = some (.seq c0 (.seq c1 (.seq (.seq c2 (.block bid (.rangeFunc g #[p1, p2] assign body))) rest)))) (hn : (fn.name == "runtime.NumGoroutine") = false) (hle : Nat.ble args.length fn.ntmps = true)
 (h:AW P c0 (BL (λenv st=>AW P c1 (BL (λenv st=>AW P c2 (BL (bM (nW P T fn g p1 p2 assign body rest R)) hH) env st) hH) env st) hH) {tmps:=Iw 0 args,boxes:=[],Bj:=0,sz:=fn.ntmps,gl:=[]} st):A3 P f args st R:=by
 refine ⟨?_,fn,hf,ke,hn⟩
 intro I w cargs hs hargs
 rw [<-callsIn_wide (n:=3)]
 refine callsIn_of_wp_marks hf hb trivial ?_
 have norm:∀{c:Code} {Q:Env->St->Prop} {n:Nat} {D:List Deferred} {I0:Mem} {st0:St} {w0:World} {X:Act->World->Prop} {Y:Exit->Act->World->Prop} {a:Act} {w:World},c.wp P (B0 D I0 st0 w0 (BL Q hH)) a w->
  (∀I β env st a w,Rel D I0 st0 w0 I β env st a w->Q env st->X a w)->c.wpIn Fence.wide n P (Exit.then X Y) a w:=λh k=>by
  refine wpIn_wide.2 (wp_mono h ?_)
  rintro e a w ⟨I,β,env,st,ae,h1,h2,h3⟩
  cases ae with
  |exit _|goto _|ret|BU _=>exact h3.elim
  |normal=>
  cases e with
  |exit _|goto _|ret|panic _|outgrown=>exact h2.elim
  |normal=>exact k I β env st a w h1 h3
 refine wpIn_seq (norm (h [] I st w I _ _ w (Gl [] hs hargs hle)) λI1 β1 env1 st1 a1 w1 r1 k1=>?_)
 refine wpIn_seq (norm (k1 [] I st w I1 β1 a1 w1 r1) λI2 β2 env2 st2 a2 w2 r2 k2=>?_)
 refine wpIn_seq (wpIn_seq (norm (k2 [] I st w I2 β2 a2 w2 r2) λI3 β3 env3 st3 a3 U r3 k3=>?_))
 refine wpIn_block ?_
 obtain ⟨I4,β4,env4,st4,r4,k4⟩:=k3 [] I st w I3 β3 a3 U r3
 obtain ⟨⟨b1,b2⟩,gf,caps,K,⟨hg,fg,q1,q2,q3⟩,hit,hrest⟩:=k4
 have hgv:=r4.f.eval g
 rw [hg] at hgv
 have hgv':AG I4 (.func gf [] caps) (a3.eval g):=hgv
 simp only [AG,Ak] at hgv'
 obtain ⟨az,lb,hge,haz,hlb⟩:=hgv'
 subst haz
 refine wpIn_rangeFunc λfi hfi=>?_
 obtain ⟨rec,hrec⟩:∃rec:Loop,rec={state:=.ready,pending:=none,fn:=fi,tmps:=a3.tmps,params:=#[p1,p2],assign,body,defers:=U.heap.size}:=⟨_,rfl⟩
 obtain ⟨W1,hW1⟩:∃W1,(U.alloc (.deferred (some []))).alloc (.loop rec)=W1:=⟨_,rfl⟩
 have hL1:W1.heap[U.heap.size+1]? =some (.loop rec):=by
  rw [<-hW1];have:=World.alloc_heap_new (U.alloc (.deferred (some []))) (.loop rec);rwa [World.size_alloc] at this
 have hK1:W1.heap[U.heap.size]? =some (.deferred (some [])):=by
  rw [<-hW1];exact (RowKit.Below.heap_alloc _ _ _ GT).trans (World.alloc_heap_new U _)
 have r5:Rel [] I st w I4 β4 env4 st4 a3 W1:=by rw [<-hW1];exact (r4.H4 (Fh.alloc _ _)).H4 (Fh.alloc _ _)
 have hidL:Idle (U.heap.size+1) st4:=r4.s.idle AC
 have hidD:Idle U.heap.size st4:=r4.s.idle (Nat.le_refl _)
 have hsz:w.heap.size<=U.heap.size:=r4.fr.size
 have heg:∀args w,(callFunc gf args).run P w=.ok (.enter gf args) w:=λargs w=>by
  have hb:fg.body.isNone=false:=by cases hb:fg.body<;>simp_all
  simp only [callFunc,Sem.run_bind,Sem.run_pure,Result.andThen_ok,run_program,q1]
  rw [q3]
  simp [hb]
 refine ⟨U.heap.size+1,[{target:=.collected U.heap.size,args:=#[]}],W1,{target:=.fn (.func gf) lb.toArray,args:=#[.func (.yield (U.heap.size+1)) #[] #[]]},W1,gf,#[.func (.yield (U.heap.size+1)) #[] #[]]++lb.toArray,W1,?_,?_,λ_ _=>trivial,?_,λe=>(by cases e),?_⟩
 .rw [<-hW1,hrec];exact run_enterLoop_outer _ _ _ _ _
 .simp only [resolve,hge,Deferred.ofValue,Sem.run_pure]
  simp [Act.eval]
 .simp [invoke,heg]
 .have hcall:=hit [] w.heap.size I4 β4 a3 U (U.heap.size+1) U.heap.size fi r4.f I4 W1 lb (Mem.le_refl _) r5.s hlb ke hidL
  have harr:(Value.func (.yield (U.heap.size+1)) #[] #[]::lb).toArray=#[.func (.yield (U.heap.size+1)) #[] #[]]++lb.toArray:=by apply Array.ext';simp
  rw [harr] at hcall
  refine (callsIn_wide.2 hcall).mono ?_
  rintro e W2 ⟨⟨v,rfl⟩,I6,st6,f6,s6,k6⟩
  have r6:=r5.called f6 s6
  obtain ⟨hidL6,hL6⟩:=hidL.fr (Ib hL1) f6
  obtain ⟨hidD6,hD6⟩:=hidD.fr (Ib hK1) f6
  rw [hL1] at hL6
  rw [hK1] at hD6
  refine ⟨none,W2.putObj (U.heap.size+1) (.loop {rec with state:=.exhausted}),by have:=run_endLoop (P:=P) hL6 (by grind);grind,?_⟩
  have r7:=r6.aw (y:=.loop {rec with state:=.exhausted}) hL6 rfl AC
  have hD7:(W2.putObj (U.heap.size+1) (.loop {rec with state:=.exhausted})).heap[U.heap.size]? =some (.deferred (some [])):=(World.putObj_heap_other AC).trans hD6
  generalize W2.putObj (U.heap.size+1) (.loop {rec with state:=.exhausted})=W3 at r7 hD7
  show rest.wpIn Fence.wide 3 P _ _ W3
  have r8:=Rel.bare (D':=[{target:=.collected U.heap.size,args:=#[]}]) r7.f b1 b2 r7.s (Mem.le_refl _)
  have hd0:a3.defers=[]:=r7.f.defers
  rw [hd0]
  refine wpIn_wide.2 (wp_mono (hrest st6 k6 _ I6 st6 W3 I6 _ _ W3 r8) ?_)
  rintro e a9 w9 ⟨I9,β9,env9,st9,ae,r9,x9,k9,q9⟩
  have hlast:LeavesInM Fence.wide 3 P fn a9.tmps (λe w'=>∃I' st' r,Fr I st w I' st' w'/\Ci I' st' w'/\Ue I' e r/\R r st') a9.defers .returning w9:=by
   rw [r9.f.defers]
   obtain ⟨_,hD9⟩:=hidD6.fr (Ib hD7) r9.fr
   rw [hD7] at hD9
   refine ⟨GT,.inl ⟨_,_,rfl,run_takeDeferred hD9,?_⟩⟩
   have hle9:W3.heap.size<=w9.heap.size:=r9.fr.size
   have hfr:Fr I st w I9 st9 w9:=r7.fr.trans r9.fr
   have r10:Rel [{target:=.collected U.heap.size,args:=#[]}] I st w I9 β9 env9 st9 a9 w9:=⟨hfr,r9.s,⟨r9.f.size,r9.f.tmps,r9.f.box,r9.f.Bj,r9.f.inj,λid b e=>by
    obtain ⟨h1,h2⟩:=r9.f.sep id b e
    grind,r9.f.defers⟩⟩
   have r11:=r10.aw (y:=.deferred none) hD9 rfl hsz
   obtain ⟨v,c,g1,g2,g3⟩:=CD (P:=P) hP.t r11 q9
   exact ⟨c,g1,I9,st9,.ret v,r11.fr,r11.s,g2,g3⟩
  rcases k9 with rfl|rfl
  .cases e<;>first|exact hlast|exact x9.elim
  .cases e<;>first|exact hlast|exact x9.elim
theorem XA (hP:Q6 P T) {l:Nat} (k:Nat) {c:Call} {f:Operand} (hk:all[k]? =some U) (hnd:NV all=true) (hc:U.op=.call c) (hf:c.callee=.value f) (hg:U.guard=none)
 (h:DP T (A3 P) all (BL (λenv st=>env.eval f=.bN l/\SS env c.args.toList λvs=>YS P l r Im vs st λst'=>env.go U.dst (.bool true) λenv=>DP T (A3 P) all Q (all.drop (k+1)) env st') Q) (all.take k) env st):
 Oa P l r Im (.region id all.toArray false) Q env st:=
 Y4 hP (by
  obtain ⟨h1,h2⟩:=List.getElem?_eq_some_iff.1 hk
  rw [<-h2,<-List.drop_eq_getElem_cons h1,List.take_append_drop]) hnd hc hf hg h
end
end Go.Aw
namespace Go.Proofs.Z
open Go Go.Aw
theorem ZW {l:List (List UInt8)} {K:Nat->Prop} (k:l.length<4611686018427387904->K l.length):∀m,m=(strs l).length->m<EF->K m:=λm U h=>by
 rw [show (strs l).length=l.length by simp [strs]] at U;subst U;exact k h
theorem VZ (s:List UInt8) (U pos:Nat):(Dn s U pos).length<=s.length - pos+1:=by
 fun_induction Dn s U pos with
 |case1 U pos h1 h2 ih=>rw [List.length_cons];omega
 |case2 U pos h1 h2 ih=>omega
 |case3 U pos h1=>rw [List.length_singleton];omega
def Pf (t:Tk):Bool:=t.kind==9&&(t.text==[108,101,116]||t.text==[119,104,101,114,101]||t.text==[100,111]||t.text==[111,102])
def VR (t:Tk) (k:Int) (x:List UInt8):Bool:=t.kind==k&&t.text==x
def lQ (t:Tk):Int:=t.line+((Dn t.text 0 0).length:Nat) - 1
def TQ (p:Option Tk) (t:Tk):Int:=match p with
 |none=>if (VR t 9 [109,111,100,117,108,101]||VR t 15 [123])=true then 17 else 16
 |some p=>if (Pf p&& !VR t 15 [123])=true then 16 else if (!(t.line==p.line)&& !(t.line==lQ p))=true then 17 else 0
def markT (m:Int) (t:Tk):List Tk:=if m=0 then [t] else [⟨m,[],t.line,t.Cj⟩,t]
def DE:Option Tk->List Tk->List Tk
 |_,[]=>[]
 |p,t::r=>markT (TQ p t) t++DE (some t) r
def Yk (l:List Tk):List Tk:=match l.getLast? with
 |none=>[⟨16,[],0,0⟩]
 |some t=>if Pf t=true then [⟨16,[],0,0⟩] else []
def Eb (l:List Tk):List Tk:=DE none l++Yk l
def ahead (l:List Tk) (i:Nat):Option Tk:=if i=0 then none else l[i - 1]?
def E3 (l:List Tk) (i:Nat):Int:=match l[i]? with
 |some t=>TQ (ahead l i) t
 |none=>0
section
variable {st:St} {K:Ay->St->Prop}
theorem Pg {t:Tk} (h:K (.ret (.bool (Pf t))) st):PC 82 [Ei t] st K:=by
 refine pB Tryz.func82 ?_
 repeat' ((conv=>whnf);first|(refine Bg ?_;intros)|(refine Bh ?_ ?_<;>intro _)|fail)
 all_goals conv=>whnf
 all_goals (refine Ao h ?_;clear h;simp_all [Pf])
theorem lW {t:Tk} (h:K (.ret (.bool (VR t k x))) st):PC 151 [Ei t,.int .i64 k,.str x] st K:=by
 refine pB Tryz.func151 ?_
 repeat' ((conv=>whnf);first|(refine Bg ?_;intros)|(refine Bh ?_ ?_<;>intro _)|fail)
 all_goals conv=>whnf
 all_goals (refine Ao h ?_;clear h;simp_all [VR])
theorem mW {t:Tk} (U:t.text.length<=100000000) (h2: -1000000000<=t.line) (h3:t.line<=1000000000) (h:K (.ret (.int .i64 (lQ t))) st):PC 152 [Ei t] st K:=by
 refine pB Tryz.func152 ?_
 have hb:=VZ t.text 0 0
 repeat' ((conv=>whnf);first|exact Cr|(refine Bg ?_;intros)|(refine Cs ?_ ?_ ?_;rotate_left)|(refine Bh ?_ ?_<;>intro _)|refine Yg U (λown ho=>?_)|refine ZW (λ_=>?_)|refine Ac [(0,true),(1,true),(2,true),(3,true),(4,false),(5,true),(6,true),(7,true),(8,true)] [] GE ?_|with_reducible refine WF ?_)
 all_goals conv=>whnf
 all_goals exact ⟨_,_,.inl rfl,AB.Bu ho,h⟩
theorem kN {l:List Tk} {own:AB} (h:∀c,st.fresh c->K (.ret (.func 150 [] [.ptr c 0])) (st.Aa c [.slice 4 (A5 l) own])):PC 81 [.slice 4 (A5 l) own] st K:=by
 refine AV Ad [] Tryz.func81 rfl Do rfl ?_
 refine Aj (Ai Ad ?_)
 repeat' ((conv=>whnf);first|(refine Bg ?_;intros)|(refine Bh ?_ ?_<;>intro _)|fail)
 refine Kh 1 0 rfl rfl rfl (λc U=>?_)
 refine Ai Ad ?_
 repeat' ((conv=>whnf);first|(refine Bg ?_;intros)|(refine Bh ?_ ?_<;>intro _)|fail)
 all_goals conv=>whnf
 all_goals exact ⟨_,_,.inl rfl,St.le_refl _,h c U⟩
end
def gy (l:List Tk):Bool:=l.all λt=>decide (t.text.length<=100000000)&&(decide (-1000000000<=t.line)&&decide (t.line<=1000000000))
def Xr:List UInt8:=[105,109,112,111,114,116,32,113,117,97,108,105,102,105,101,100,32,77,46,78,32,97,115,32,75,32,104,105,100,105,110,103,32,40,97,44,32,84,32,40,46,46,41,44,32,40,43,41,41,10,100,97,116,97,32,69,113,32,97,32,61,62,32,84,32,97,32,61,32,65,32,97,32,33,73,110,116,32,124,32,97,32,58,43,32,98,10,32,32,100,101,114,105,118,105,110,103,32,40,69,113,41,10,102,32,61,32,120]
def Xs:List UInt8:=[110,101,119,116,121,112,101,32,78,32,61,32,78,32,33,73,110,116]
def Lk (s:List UInt8):List Tk:=match Ia s with| .inr x=>x.AD| .inl _=>[]
theorem lg:(match Ia Xr with| .inr _=>true| .inl _=>false)=true:=EQ
theorem lh:(match Ia Xs with| .inr _=>true| .inl _=>false)=true:=EQ
theorem ld:(gy (Lk Xr)&&gy (Lk Xs)&&decide ((Lk Xr).length<=1000)&&decide ((Lk Xs).length<=1000)&&decide ((Eb (Lk Xr)).length<=200)&&decide ((Eb (Lk Xs)).length<=200))=true:=EQ
theorem pH:(match (Gc (Qe (Ht 4) (LY 4) (Gf 4) (C4 4) (FJ (C4 4) (Jb 3)) (Dl FW (FJ (C4 3) (Jb 2))))).run ⟨Eb (Lk Xr),0,[],0⟩ with
 | .inr (n,s')=>(n.kind==2&&s'.pos==(s'.AD.length:Nat))&&(n.kids.map (λk=>(k.kind,if k.kind=50 then k.kids.length else 0))==[(50,7),(42,0),(36,0)])
 | .inl _=>false)=true:=EQ
theorem pI:(match (Gc (Qe (Ht 4) (LY 4) (Gf 4) (C4 4) (FJ (C4 4) (Jb 3)) (Dl FW (FJ (C4 3) (Jb 2))))).run ⟨Eb (Lk Xs),0,[],0⟩ with
 | .inr _=>false
 | .inl (e,_)=>e.1==120)=true:=EQ
section
variable {st0 st st':St} {b d:Nat} {s:Af} {rows:List (AB×List Nd)} {K:Ay->St->Prop}
attribute [local irreducible] Go.Aw.Ag
theorem Cx.mono (h:Cx st0 b s st rows) (k:st.le st'):Cx st0 b s st' rows:=by
 refine ⟨?_,?_,h.mu⟩
 .rcases h.has with e|⟨t,u,o1,o2,e0,e⟩
  .exact .inl (k.1 _ _ e)
  .exact .inr ⟨t,u,o1,o2,e0,k.1 _ _ e⟩
 .obtain ⟨cs,U⟩:=h.rx
  refine ⟨cs,St.le_trans U.le k,λr hr'=>?_,U.ap⟩
  have:=U.ok r hr'
  obtain ⟨o,l⟩:=r
  cases o with
  |any=>exact this
  |full=>exact this
  |tok t=>exact ⟨this.1,k.2 _ _ this.2⟩
theorem Cx.mI {l new:List Int} {Q:V->St->Prop} (hc:Cx st0 b s st rows) (hb:l.length+new.length<=1000000000) (k:∀U st',Cx st0 b s st' rows->Q (.slice 1 (ints (l++new)) U) st'):Ag 1 8 (ints l) .full (ints new) st Q:=
 Hv (own:=.full) trivial hb λU ho=>k U _ (hc.mono (AB.Bu ho))
theorem kI (hc:Cx st0 b s st rows) (e:Ba s k x=true) (U:k≠0/\k≠21) (kk:∀st',Cx st0 b (Ab s).2.1 st' rows->K (.ret (Ei (Ab s).1)) st'):PC 139 [.ptr b 0] st K:=
 SA hc.has hc.hb (λ_ st' hu=>kk st' (hc.MG hu (Nat.le_of_lt (DM e U.1 U.2)))) (λn=>absurd (FX e U.1) n)
theorem Oj {Q:List V->Prop} (h:Has st b s) (U:Q (CB s)) (k2:∀t u o1 o2 e,Q (TC s t u o1 o2 e)):∃cs,st.box b=some cs/\Q cs:=by
 rcases h with e|⟨t,u,o1,o2,e0,e⟩
 .exact ⟨_,e,U⟩
 .exact ⟨_,e,k2 ..⟩
theorem JT {own:AB} (h:K (.ret (enc (Ar k l))) st):PC 122 [.int .i64 k,.slice 6 (l.map Az) own] st K:=by
 refine pB Tryz.func122 ?_
 repeat' ((conv=>whnf);(first|refine AZ ?_|refine A0 ?_ ?_|refine A1 ?_ ?_|fail)<;>intros)
 all_goals exact DH (St.le_refl _) BK h
theorem gA {a:Nd} {own:AB} (h:K (.ret (enc (Ar k [a]))) st):PC 122 [.int .i64 k,.slice 6 [Az a] own] st K:=JT (l:=[a]) h
theorem gB {a b:Nd} {own:AB} (h:K (.ret (enc (Ar k [a,b]))) st):PC 122 [.int .i64 k,.slice 6 [Az a,Az b] own] st K:=JT (l:=[a,b]) h
theorem gC {a b c:Nd} {own:AB} (h:K (.ret (enc (Ar k [a,b,c]))) st):PC 122 [.int .i64 k,.slice 6 [Az a,Az b,Az c] own] st K:=JT (l:=[a,b,c]) h
theorem gD {a b c d:Nd} {own:AB} (h:K (.ret (enc (Ar k [a,b,c,d]))) st):PC 122 [.int .i64 k,.slice 6 [Az a,Az b,Az c,Az d] own] st K:=JT (l:=[a,b,c,d]) h
theorem UO (hc:Cx st0 b s st rows) (U:∀st',Cx st0 b s st' rows->K (.ret (.bool (Ba s 15 x))) st'):PC 119 [pv b d,.str x] st K:=by
 refine pB Tryz.func119 ?_
 repeat' ((conv=>whnf);(first|refine AZ ?_|refine A0 ?_ ?_|refine A1 ?_ ?_|refine jC ‹_› ?_)<;>intros)
 all_goals conv=>whnf
 all_goals exact Ao (U _ ‹_›) ‹_›
theorem UN (hc:Cx st0 b s st rows) (e:Ba s 15 x=true) (U:∀st',Cx st0 b s st' rows->K (.ret (.bool true)) st'):PC 119 [pv b d,.str x] st K:=UO hc (by rw [e];exact U)
theorem YY (hc:Cx st0 b s st rows) (e:Ba s 15 x=false) (U:∀st',Cx st0 b s st' rows->K (.ret (.bool false)) st'):PC 119 [pv b d,.str x] st K:=UO hc (by rw [e];exact U)
theorem kW {Q:Prop} (hc:Cx st0 b s st rows) (h:if Ba s 15 x=true then P else Q) (U:∀st',Cx st0 b s st' rows->Ba s 15 x=true->P->K (.ret (.bool true)) st') (k2:∀st',Cx st0 b s st' rows->Ba s 15 x=false->Q->K (.ret (.bool false)) st'):
 PC 119 [pv b d,.str x] st K:=by
 cases e:Ba s 15 x with
 |true=>exact UN hc e λst' c=>U st' c e (by rw [if_pos e] at h;exact h)
 |false=>exact YY hc e λst' c=>k2 st' c e (by rw [if_neg (by rw [e];decide)] at h;exact h)
theorem kR (k:K (.BU (fault GX.1)) st):PC 159 [pv b d,.bool false] st K:=by
 refine pB Tryz.func159 ?_
 repeat' ((conv=>whnf);(first|refine AZ ?_|refine A0 ?_ ?_|refine A1 ?_ ?_|refine B6 ?_)<;>intros)
 all_goals exact ⟨_,_,.inl rfl,St.le_refl _,k⟩
theorem kS (k:K (.ret (.Bq [])) st):PC 159 [pv b d,.bool true] st K:=by
 refine pB Tryz.func159 ?_
 repeat' ((conv=>whnf);(first|refine AZ ?_|refine A0 ?_ ?_|refine A1 ?_ ?_|refine B6 ?_)<;>intros)
 all_goals exact ⟨_,_,.inl rfl,St.le_refl _,k⟩
theorem C9 {c:Bool} {Q:Unit->Af->Prop} (h:Rd.wp (G4 c) s Q E) (e:c=true) (U:Q () s->K (.ret (.Bq [])) st):PC 159 [pv b d,.bool true] st K:=by
 subst e
 unfold G4 at h
 rw [Rd.Ax,if_pos rfl,Rd.wp_ret] at h
 exact kS (U h)
theorem C8 {c:Bool} {Q:Unit->Af->Prop} (h:Rd.wp (G4 c) s Q E) (e:c=false) (U:E GX s->K (.BU (fault GX.1)) st):PC 159 [pv b d,.bool false] st K:=by
 subst e
 unfold G4 at h
 rw [Rd.Ax,if_neg Do,Rd.DG] at h
 exact kR (U h)
def oL (st0:St) (b:Nat) (f:FuncId) (args:List V) (A:Rd Nd):Prop:=∀{s:Af} {st:St} {rows:List (AB×List Nd)} {K:Ay->St->Prop},Cx st0 b s st rows->
 Rd.wp A s (λv s'=>∀st',Cx st0 b s' st' rows->K (.ret (enc v)) st') (λe s'=>∀st',Cy st0 b s' st' rows->K (.BU (fault e.1)) st')->PC f args st K
theorem AO.z {mk:Nat->List V} (h:AO enc f mk A):oL st0 b f (mk b) A:=h.ap
theorem oL.go {Q:Nd->Af->Prop} (U:oL st0 b f args A) (hc:Cx st0 b s st rows) (h:Rd.wp A s Q E)
 (k:∀v s' st',mu s'<=mu s->Cx st0 b s' st' rows->Q v s'->K (.ret (enc v)) st') (kb:∀e s' st',Cy st0 b s' st' rows->E e s'->K (.BU (fault e.1)) st'):PC f args st K:=
 U hc (Rd.wp_mono h (λv s' r q st' c=>k v s' st' (A.le _ _ _ r) c q) (λe s' _ q st' c=>kb e s' st' c q))
end
theorem FI (h:P:=by (with_reducible show ∃_,_);first|exact ⟨⟨_,_,_,_⟩,⟨‹_›,Rd.Dq ‹_› cb,f8,cb⟩,cb,Yl,St.le_refl _⟩|exact BE (Cx.y ‹_›) ‹_›|exact BE (Cx.y (Cx.drop ‹_›)) ‹_›|exact X6 ‹_› ‹_› rfl|exact CI ‹_› ‹_› rfl|exact CI ‹_› ‹_› BK|exact CI (Cx.drop ‹_›) ‹_› rfl|exact CI (Cx.drop ‹_›) ‹_› BK|exact BE ‹_› ‹_›|exact BE (Cy.drop ‹_›) ‹_›|exact BE (Cy.drop (Cy.drop ‹_›)) ‹_›|fail):P:=h
theorem PY {A:Prop} (k:A) (h:A->P:=by intro k;(with_reducible show Ag _ _ _ _ _ _ _);first|exact Cx.Ee ‹_› f9 k|exact Cx.Ee (Cx.push ‹_› _) f9 k|fail):P:=h k
theorem L2 {A:Prop} (k:A) (h:A->P:=by intro k;(with_reducible show PC _ _ _ _);first|((with_reducible show PC 156 _ _ _);exact VT ‹_› ‹_› k)|((with_reducible show PC 156 _ _ _);exact dT ‹_› ‹_› k)|((with_reducible show PC 119 _ _ _);exact UN ‹_› ‹_› k)|((with_reducible show PC 119 _ _ _);exact YY ‹_› ‹_› k)|((with_reducible show PC 83 _ _ _);exact Pt ‹_› k)|fail):P:=h k
theorem Qj {A B:Prop} (k:A) (l:B) (h:A->B->P:=by intro k l;(with_reducible show PC _ _ _ _);first|((with_reducible show PC 156 _ _ _);exact dS ‹_› ‹_› k l)|((with_reducible show PC 119 _ _ _);exact kW ‹_› ‹_› k l)|fail):P:=h k l
theorem IG {A:Prop} (k:A) (h:A->P:=by intro k;(with_reducible show PC _ _ _ _);first|((with_reducible show PC 121 _ _ _);exact LP ‹_› ‹_› ‹_› Do k)|((with_reducible show PC 121 _ _ _);exact LQ ‹_› ‹_› AC k)|fail):P:=h k
theorem Iv {A B:Prop} (k:A) (l:B) (h:A->B->P:=by intro k l;(with_reducible show PC _ _ _ _);first|((with_reducible show PC 121 _ _ _);exact Gb.go ‹_› ‹_› k l)|((with_reducible show PC 118 _ _ _);exact SP.go ‹_› ‹_› k l)|fail):P:=h k l
theorem qL {A:Prop} (k:A) (h:A->P:=by intro k;(with_reducible show PC _ _ _ _);first|((with_reducible show PC 171 _ _ _);exact Qn ‹_› ‹_› k)|fail):P:=h k
theorem PZ {A:Prop} (k:A) (h:A->P:=by intro k;(with_reducible show PC _ _ _ _);first|((with_reducible show PC 122 _ _ _);exact gA k)|((with_reducible show PC 122 _ _ _);exact gB k)|((with_reducible show PC 122 _ _ _);exact gC k)|((with_reducible show PC 122 _ _ _);exact gD k)|((with_reducible show PC 122 _ _ _);exact JT k)|fail):P:=h k
theorem Lh {A:Af->Rs} {hle:∀s v s',A s=.inr (v,s')->mu s'<=mu s} (U:EC A) (hf:CZ g (d:Int) A) (h0:d=0->∀s,A s=.inl (2,s)):
 AO enc 84 (λb=>[.ptr b 0,.func g [] [],.int .i64 (d:Int)]) (Jg A hle):=⟨λhc h=>O5 (d:=d) rfl hf h0 U hc.mu hc.has (UH U hc h)⟩
theorem Qt (U:1<=d) (h:d<=100):DC (d:Int)=d:=by unfold DC;split<;>omega
theorem aU {s':Af} (h:(Fa ks).run s=.inr (n,s')):∃o x c,n=Ar 3 [o,x,c]:=by
 unfold Fa at h
 obtain ⟨o,s1,_,h⟩:=Bl h
 obtain ⟨x,s2,_,h⟩:=Bl h
 obtain ⟨c,U,_,h⟩:=Bl h
 cases h
 exact ⟨o,x,c,rfl⟩
section
variable {st0 st:St} {b d:Nat} {s:Af} {rows:List (AB×List Nd)} {K:Ay->St->Prop}
attribute [local irreducible] Go.Aw.Ag
theorem gn (U:1<=d) (h:d<=100):AO enc 365 (λb=>[pv b d]) (Ht d):=by
 have hi:=Lh (hle:=λs v s' h=>Nat.le_of_lt (BT (BB _) _ _ _ h)) (Gi (EJ (d - 1))) (by have:=oP (deep:=(d:Int));rw [Qt U h] at this;exact this) (λe=>by omega)
 refine ⟨λ{st0 b s st rows K} hc h=>?_⟩
 unfold Ht at h
 refine pB Tryz.func365 ?_
 repeat' ((conv=>whnf);(first|refine AZ ?_|refine A0 ?_ ?_|refine A1 ?_ ?_|exact FI|refine Ae ?_|refine Fe.go (by first|exact AO.q) ?_ ?_)<;>intros)
theorem kY (U:1<=d) (h:d<=100):AO enc 158 (λb=>[pv b d]) (LY d):=by
 have hi:=Lh (hle:=λs v s' h=>Nat.le_of_lt (Fm (BT (BB _)) _ _ _ h)) (KO (Gi (EJ (d - 1)))) (by have:=qf (deep:=(d:Int));rw [Qt U h] at this;exact this) (λe=>by omega)
 refine ⟨λ{st0 b s st rows K} hc h=>?_⟩
 unfold LY at h
 refine pB Tryz.func158 ?_
 repeat' ((conv=>whnf);(first|refine AZ ?_|refine A0 ?_ ?_|refine A1 ?_ ?_|exact FI|refine Ae ?_|refine Fe.go (by first|exact AO.q) ?_ ?_)<;>intros)
theorem bw (U:1<=d) (h:d<=100):AO enc 161 (λb=>[pv b d]) (Gf d):=by
 have hi:=Lh (hle:=λs v s' h=>Nat.le_of_lt (GY (BT (BB _)) _ _ _ h)) (Kn (Gi (EJ (d - 1)))) (by have:=pL (deep:=(d:Int));rw [Qt U h] at this;exact this) (λe=>by omega)
 refine ⟨λ{st0 b s st rows K} hc h=>?_⟩
 unfold Gf at h
 refine pB Tryz.func161 ?_
 repeat' ((conv=>whnf);(first|refine AZ ?_|refine A0 ?_ ?_|refine A1 ?_ ?_|exact FI|refine Ae ?_|refine Fe.go (by first|exact AO.q) ?_ ?_)<;>intros)
theorem gw (U:1<=d) (h:d<=100):AO enc 173 (λb=>[pv b d]) (C4 d):=by
 have hi:=Lh (hle:=λs v s' h=>Nat.le_of_lt (OO (BT (BB _)) _ _ _ h)) (Qo (Gi (EJ (d - 1)))) (by have:=lS (deep:=(d:Int));rw [Qt U h] at this;exact this) (λe=>by omega)
 refine ⟨λ{st0 b s st rows K} hc h=>?_⟩
 unfold C4 at h
 refine pB Tryz.func173 ?_
 repeat' ((conv=>whnf);(first|refine AZ ?_|refine A0 ?_ ?_|refine A1 ?_ ?_|exact FI|refine Ae ?_|refine Fe.go (by first|exact AO.q) ?_ ?_)<;>intros)
theorem GJ {own:AB} (U:ks.contains 0=false):AO enc 193 (λb=>[pv b d,.slice 1 (ints ks) own]) (Fa ks):=by
 refine ⟨λ{st0 b s st rows K} hc h=>?_⟩
 simp only [Fa,Rd.wp_seq,Rd.wp_ret] at h
 refine pB Tryz.func193 ?_
 repeat' ((conv=>whnf);(first|exact CK|refine AZ ?_|(refine CL ?_ ?_ ?_;rotate_left)|refine A0 ?_ ?_|refine A1 ?_ ?_|refine Iv ?_ ?_|exact FI|refine PZ ?_|refine Ae ?_|refine Fe.go (by first|exact AO.q|exact (DX U).a) ?_ ?_|refine Ac [(0,true),(1,true),(3,true),(4,true),(5,true),(7,true),(8,true),(2,false),(6,false),(9,false),(10,true),(11,false),(12,false)] [1] GE ?_|with_reducible refine WF ?_)<;>intros)
theorem aT {own:AB} {Q:Nd->Af->Prop} (h0:ks.contains 0=false) (hc:Cx st0 b s st rows) (h:Rd.wp (Fa ks) s Q E)
 (k:∀o x c s' st',mu s'<=mu s->Cx st0 b s' st' rows->Q (Ar 3 [o,x,c]) s'->K (.ret (enc (Ar 3 [o,x,c]))) st') (kb:∀e s' st',Cy st0 b s' st' rows->E e s'->K (.BU (fault e.1)) st'):PC 193 [pv b d,.slice 1 (ints ks) own] st K:=
 (GJ h0).go hc h (λn s1 U hr hm hc h=>by obtain ⟨o,x,c,rfl⟩:=aU hr;exact k o x c s1 U hm hc h) kb
theorem MD:AO enc 172 (λb=>[pv b d]) PE:=by
 refine ⟨λ{st0 b s st rows K} hc h=>?_⟩
 simp only [PE,Rd.Ah,Rd.Ax,Rd.wp_seq,Rd.wp_ret,Rd.Gm] at h
 have U:=hc.mu
 refine pB Tryz.func172 ?_
 repeat' ((conv=>whnf);(first|refine Gj ‹_› ?_ ?_|refine AZ ?_|refine A0 ?_ ?_|refine A1 ?_ ?_|refine L2 ?_|refine Qj ?_ ?_|refine B6 ?_|exact FI|refine Ae ?_|refine Fe.go (by first|exact AO.q|exact (DX (ks:=[1]) rfl).a) ?_ ?_|refine Oj (Cx.has ‹_›) ?_ ?_|refine aT (ks:=[5,6]) rfl ‹_› ‹_› ?_ ?_|refine Wm (ks:=[_,_,_]) rfl AC ?_|refine FD ‹_› U ?_|refine B6 ?_)<;>intros)
theorem PT:AO enc 194 (λb=>[pv b d]) Lo:=by
 refine ⟨λ{st0 b s st rows K} hc h=>?_⟩
 simp only [Lo,Rd.Ah,Rd.Ax] at h
 refine pB Tryz.func194 ?_
 repeat' ((conv=>whnf);(first|refine AZ ?_|refine A0 ?_ ?_|refine A1 ?_ ?_|refine L2 ?_|refine Qj ?_ ?_|exact FI|refine Ae ?_|refine Fe.go (by first|exact AO.q|exact (DX (ks:=[1,2]) rfl).a|exact (GJ (ks:=[5,6]) rfl).a) ?_ ?_)<;>intros)
end
end Go.Proofs.Z
namespace Go.Aw
open Go
section
variable {D:List Deferred} {P:Program} {T:List (Nat×Ty)} {C:FuncId->List V->St->(Ay->St->Prop)->Prop} {I0 I:Mem} {st0 st:St} {w0 w:World} {β:Nat->Option Nat} {env:Env} {a:Act}
theorem Uc {J:Mem} {b:Nat}:∀{l:List V} {us:List Value} {o:Nat},Ak I l us->I.le J->(∀j c,us[j]? =some c->J.cell b (o+j)=some c)->CG J b o l
 |[],us,o,h,hl,U=>trivial
 |v::r,us,o,h,hl,U=>by
  simp only [Ak] at h
  obtain ⟨c,s,rfl,h1,h2⟩:=h
  exact ⟨⟨c,U 0 c rfl,AG.mono hl _ _ h1⟩,Uc h2 hl λj c e=>by rw [show o+1+j=o+(j+1) by omega];exact U (j+1) c (by simpa using e)⟩
theorem NB {env:Env} {st:St} (t id:Nat) (ht:env.get t=.BH id 0) (hb:assoc env.boxes id=some cs) (hn:Mo cs=true)
 (h:AW P c Q {env with tmps:=(t,.FK cs 0)::H0 id env.tmps,boxes:=GV id env.boxes} st):AW P c Q env st:=
 Kh t id ht hb hn λb hf D I0 st0 w0 I β a w hr=>by
  obtain ⟨vs,hv,hl,hr'⟩:=hr.freeze (b:=b) (cs:=cs) (by simp [St.Aa])
  refine h D I0 st0 w0 _ β a w (Rel.GQ ⟨hr'.fr,hr'.s,{hr'.f with tmps:=?_}⟩ (St.VW hf.1))
  intro t' v e
  have h0:=λv e=>hr'.f.tmps t' v e
  have h1:=hr.f.tmps t (.ptr b 0) (by rw [Bi];simp)
  rw [Bi] at e
  cases U:Nat.beq t t' with
  |true=>
   rw [U] at e
   have:=Nat.eq_of_beq_eq_true U
   subst this
   simp only [cond_true,Option.some.injEq] at e
   subst e
   have h2:AG I (.ptr b 0) (a.tmps.getD t undef):=h1
   refine AR.of ?_
   simp only [AG] at h2 |-
   exact ⟨b,0,h2,Uc hv hl λj c e=>by
    have:=Mem.Of (I:=I) (b:=b) (h:=0) (n:=vs.length) e
    simp_all⟩
  |false=>
   rw [U] at e
   exact h0 v (by rw [Bi,U];exact e)
theorem eD (hM:∀f args st (R R':Ay->St->Prop),(∀r s,R r s->R' r s)->C f args st R->C f args st R')
 (hm:IA sched all=true)
 (h:E4 T C all sched L (A9 (L.map some) env.boxes) Q sched env st):
 (∀(bs:List Bool) (e:Env) (st1:St) (i:Nat) (o:Oper),bs.length=all.length->JW T C all sched st L (A9 (L.map some) env.boxes) Q env bs e st1->all[i]? =some o->Bt all bs i=true->
   A8 all o e (Fg T C o e st1 (λv env' st'=>env'.go o.dst v λenv''=>JW T C all sched st L (A9 (L.map some) env.boxes) Q env (bs.set i true) env'' st') (λx _ s=>∀e',Q x e' s)) (e.go o.dst (.Bq []) λenv'=>JW T C all sched st L (A9 (L.map some) env.boxes) Q env (bs.set i true) env' st1))/\
 (∀(bs:List Bool) (e:Env) (st1:St),bs.length=all.length->JW T C all sched st L (A9 (L.map some) env.boxes) Q env bs e st1->bs=List.replicate all.length true\/∃j,j<all.length/\Bt all bs j=true)/\
 (∀(e:Env) (st1:St),JW T C all sched st L (A9 (L.map some) env.boxes) Q env (List.replicate all.length true) e st1->∃env',(e.eqv env'/\env'.boxes=e.boxes/\env'.gl=e.gl)/\Q .normal env' st1)/\
 JW T C all sched st L (A9 (L.map some) env.boxes) Q env (List.replicate all.length false) env st:=by
 have M:=Oc.of hm
 have hb0:∀id cs,assoc (A9 (L.map some) env.boxes) id=some cs->assoc env.boxes id=some cs/\id ∉ L:=λid cs e=>by
  obtain ⟨h1,h2⟩:=Gq e
  simp_all
 have hget:∀bs:List Bool,∀j,j<bs.length->bs.getD j true=bs.getD j false:=λbs j hj=>by simp_all
 have ready:∀{bs:List Bool} {i:Nat} {o:Oper},all[i]? =some o->bs.length=all.length->Bt all bs i=true->bs.getD i false=false/\∀x ∈ o.after,Region.binds .any x=true->bs.getD x.on false=true:=by
  intro bs i o ho hb hrd
  have hi:i<bs.length:=by rw [hb];exact (List.getElem?_eq_some_iff.1 ho).1
  unfold Bt at hrd
  rw [ho,hget bs i hi] at hrd
  simp only [Bool.and_eq_true,Bool.not_eq_true',List.all_eq_true] at hrd
  refine ⟨hrd.1,λx hx hb=>?_⟩
  have:=hrd.2 x ke
  rw [hb] at this
  simpa using this
 have listed:∀{bs:List Bool},(∀i o,all[i]? =some o->bs.getD i false=true->∀x ∈ o.after,Region.binds .any x=true->bs.getD x.on false=true)->
  ∀(n:Nat) {i j:Nat} {o:Oper},reaches all n i j=true->all[i]? =some o->(∀x ∈ o.after,Region.binds .any x=true->bs.getD x.on false=true)->bs.getD j false=true:=by
  intro bs cl n
  induction n with
  |zero=>intro i j o h;cases h
  |succ n ih=>
   intro i j o h ho ha
   rw [reaches,ho] at h
   simp only [Bool.or_eq_true,List.any_eq_true,Bool.and_eq_true] at h
   rcases h with ⟨x,h1,h2,h3⟩|⟨x,h1,⟨h2,h3⟩,h4⟩
   .have:=Nat.eq_of_beq_eq_true h3
    grind
   .have hx:=ha x ke h2
    cases hp:all[x.on]? with
    |none=>
     cases n with
     |zero=>cases h4
     |succ n=>rw [reaches,hp] at h4;cases h4
    |some p=>grind
 refine ⟨?_,?_,?_,?_⟩
 .intro bs e st1 i o hbl hinv ho hrd
  obtain ⟨vs,pre,post,Ef,F,hh⟩:=hinv
  obtain ⟨hbi,haft⟩:=ready ho hbl hrd
  have hil:i<bs.length:=by rw [hbl];exact (List.getElem?_eq_some_iff.1 ho).1
  have B1:∀{CP:List (Nat×Bool)} {q:Bool} {r:List (Nat×Bool)},sched=CP++(i,q)::r->∀t ∈ Oper.B1 all o,assoc e.tmps t=FR all env.tmps vs (λk=>decide (k ∈ CP.map (·.1))) t:=by
   intro CP q r hs t ht
   rw [F.tm]
   refine CE λk p hk hd=>⟨?_,λ_=>rfl⟩
   rcases Nat.lt_trichotomy k i with hki|rfl|hki
   .have h1:=M.lo i k o p t ho hk hd ht hki
    have h2:=listed F.cl _ h1 ho haft
    have h3:=M.ahead _ h1 _ _ _ hs
    grind
   .show bs.getD k false=decide (k ∈ CP.map (·.1))
    rw [hbi,decide_eq_false (M.nodup _ _ _ _ hs)]
   .have h1:=M.hi i k o p t ho hk hd ht hki
    show bs.getD k false=decide (k ∈ CP.map (·.1))
    have h2:bs.getD k false=false:=by
     cases hb:bs.getD k false with
     |false=>rfl
     |true=>have:=listed F.cl _ h1 hk (F.cl k p hk hb);grind
    have h3:k ∉ CP.map (·.1):=λhm=>by
     obtain ⟨x,hx,hxe⟩:=List.mem_map.1 hm
     obtain ⟨pa,ra,ea⟩:=List.append_of_mem hx
     have h4:=M.ahead _ h1 pa x.2 (ra++(i,q)::r) (by grind)
     exact M.nodup _ _ _ _ hs (by grind)
    grind
  have cl':∀k p,all[k]? =some p->(bs.set i true).getD k false=true->∀x ∈ p.after,Region.binds .any x=true->(bs.set i true).getD x.on false=true:=by
   intro k p hp hk x hx hb
   rw [Eo hil] at hk |-
   split
   .rfl
   .split at hk
    .grind
    .exact F.cl k p hp hk x hx hb
  by_cases hmem:i ∈ pre.map (·.1)
  . 
   obtain ⟨⟨i',q⟩,hx,rfl⟩:=List.mem_map.1 hmem
   obtain ⟨CP,r,epre⟩:=List.append_of_mem hx
   cases q with
   |false=>have:=F.dd _ hx;grind
   |true=>
    have hs:sched=CP++(i',true)::(r++post):=by rw [F.split,epre];simp
    obtain ⟨hd,hy⟩:=F.hy CP i' r o epre ho
    have hy:=hy e (B1 hs) F.n2 F.s2 F.g2
    obtain ⟨o',ho',U⟩:=M.kind _ _ _ _ hs
    have ho2:all[i']? =some o:=ho
    rw [ho2] at ho'
    cases ho'
    have U:Eu o.op=true:=U
    have hqk:BD o.op=true:=by
     revert U
     cases o.op<;>simp [Eu,BD]
    have step:e.go o.dst (vs i') (λe'=>JW T C all sched st L (A9 (L.map some) env.boxes) Q env (bs.set i' true) e' st1):=by
     refine MT (λt ht=>by rw [F.s2];grind) ⟨vs,pre,post,Ef,⟨F.split,λj hj=>?_,λj hj=>?_,F.boxes,F.n1,F.n2,F.s1,F.s2,F.g1,F.g2,λt=>?_,F.tf,F.bx,F.go,F.oG,F.jy,F.hy,cl'⟩,hh⟩
     .rw [Eo hil] at hj
      split at hj
      .grind
      .exact F.sub j hj
     .rw [Eo hil]
      split
      .rfl
      .exact F.dd j hj
     .have:=Fu (S:=λj=>bs.getD j false) (S':=λj=>(bs.set i' true).getD j false) (v:=vs i') M.dst ho F.tm (λj hj=>by grind) (by grind) t
      refine this.trans (CE λk p _ _=>⟨rfl,λ_=>?_⟩)
      unfold MG
      grind
    refine E2 (λx=>?_) (λx=>?_) hy
    .have hbx:Fv sched all i'=true->e.boxes=env.boxes:=λhe=>F.jy λk ok hk hok=>by
      unfold Fv at he
      have h1:=List.all_eq_true.1 he (k,false) (by grind)
      simp only [Bool.false_or,hok] at h1
      cases hst:CN ok.op with
      |false=>rfl
      |true=>
       rw [hst] at h1
       simp only [Bool.not_true,Bool.false_or] at h1
       have:=listed F.cl _ h1 hok (F.cl k ok hok (F.dd k hk))
       grind
     rcases x with x|⟨he,x⟩|⟨he,x⟩
     .unfold Bf at x
      refine CJ (T:=T) (C:=C) (env:=e.only (A9 (L.map some) env.boxes) (Oper.B1 all o)) (env':=e) (st:=IB) (st':=st1) hM hqk (.inr ⟨U,λ_=>rfl⟩) (Fq λt _=>rfl) F.bx (λv s s' g k=>?_) (λ_ _ k=>k.elim) x
      grind
     .have hini:st1=st:=F.oG λk hk=>by
       unfold Gr at he
       have h1:=List.all_eq_true.1 he (k,false) (by grind)
       simp only [Bool.false_or] at h1
       have h2:=F.dd k hk
       cases hp:all[k]? with
       |none=>
        grind
       |some p=>
        have:=listed F.cl _ h1 hp (F.cl k p hp h2)
        grind
      subst hini
      unfold Bf at x
      have hb:=hbx (IZ he)
      refine CJ (T:=T) (C:=C) (env:=e.only env.boxes (Oper.B1 all o)) (env':=e) (st:=st1) (st':=st1) hM hqk (.inl rfl) (Fq λt _=>rfl) (λid cs h=>by rw [hb];exact h) (λv s s' g k=>?_) (λ_ _ k=>k.elim) x
      grind
     .unfold Bf at x
      have hb:=hbx he
      refine CJ (T:=T) (C:=C) (env:=e.only env.boxes (Oper.B1 all o)) (env':=e) (st:=IB) (st':=st1) hM hqk (.inr ⟨U,λ_=>rfl⟩) (Fq λt _=>rfl) (λid cs h=>by rw [hb];exact h) (λv s s' g k=>?_) (λ_ _ k=>k.elim) x
      grind
    grind
  . 
   obtain ⟨x,hx,rfl⟩:=List.mem_map.1 (M.cover i (List.getElem?_eq_some_iff.1 ho).1)
   rw [F.split] at hx
   have hxp:x ∈ post:=by
    rcases List.mem_append.1 hx with g|g
    .grind
    .exact g
   cases post with
   |nil=>cases hxp
   |cons p r=>
    obtain ⟨k,q⟩:=p
    have hq:q=false:=hh _ _ rfl
    subst hq
    have hxe:x=(k,false):=by
     rcases List.mem_cons.1 hxp with g|g
     .exact g
     .have h1:=M.chain pre k r F.split x g
      have h2:=listed F.cl _ h1 ho haft
      exact absurd (F.sub k h2) (M.nodup _ _ _ _ F.split)
    subst hxe
    have ho:all[k]? =some o:=ho
    have hbi:bs.getD k false=false:=hbi
    have hil:k<bs.length:=hil
    have hmem:k ∉ pre.map (·.1):=hmem
    have hgo:=F.go
    rw [Kv] at hgo
    simp only [ho] at hgo
    have ag:∀t ∈ Oper.B1 all o,assoc Ef.tmps t=assoc e.tmps t:=λt ht=>by rw [F.tf,B1 F.split t ht]
    have hag:=Gs (all:=all) (o:=o) ag
    have next:∀(v:V) (s:St) (B:List (Nat×List V)),(∀id cs,assoc (A9 (L.map some) env.boxes) id=some cs->assoc B id=some cs)->(CN o.op=false->B=e.boxes)->
     Env.go {Ef with boxes:=B} o.dst v (λenv'=>E4 T C all sched L (A9 (L.map some) env.boxes) Q r env' s)->
     Env.go {e with boxes:=B} o.dst v (λe'=>JW T C all sched st L (A9 (L.map some) env.boxes) Q env (bs.set k true) e' s):=by
     intro v s B hB hBe hk
     obtain ⟨hd,hk⟩:=Gu hk
     have hd:∀t,o.dst=some t->t<Ef.sz:=hd
     have hmp:∀j,j≠k->(j ∈ (pre++[(k,false)]).map (·.1)↔j ∈ pre.map (·.1)):=λj hj=>by simp [hj]
     refine MT (λt ht=>by show t<e.sz;rw [F.s2,<-F.s1];grind) (Jc M r (MG vs k v) (pre++[(k,false)]) {Ef with boxes:=B,tmps:=NA Ef.tmps o.dst v} ⟨by rw [F.split];simp,λj hj=>?_,λj hj=>?_,rfl,F.n1,F.n2,F.s1,F.s2,F.g1,F.g2,λt=>?_,λt=>?_,hB,hk,λhk=>absurd (List.mem_append_right _ List.mem_cons_self) (hk k),λhk=>(hBe (hk k o (List.mem_append_right _ List.mem_cons_self) ho)).trans (F.jy λk o hm ho=>hk k o (List.mem_append_left _ hm) ho),λCP j r' o' hs ho'=>?_,cl'⟩)
     .rw [Eo hil] at hj
      rw [List.map_append]
      split at hj
      .grind
      .exact List.mem_append_left _ (F.sub j hj)
     .rw [Eo hil]
      split
      .rfl
      .rename_i hne
       rcases List.mem_append.1 hj with g|g
       .exact F.dd j g
       grind
     .exact Fu (S:=λj=>bs.getD j false) (S':=λj=>(bs.set k true).getD j false) M.dst ho F.tm (λj hj=>by grind) (by grind) t
     .exact Fu (S':=λj=>decide (j ∈ (pre++[(k,false)]).map (·.1))) M.dst ho F.tf (λj hj=>by grind) GT t
     .rcases KB hs with ⟨rfl,e2⟩|⟨r2,e2⟩
      .cases e2
      .have hj:=F.hy CP j r2 o' e2 ho'
       refine hj.MG (λe=>?_) (λhm=>hmem ?_)
       .grind
       grind
    have heE:∀(E:Env),{E with boxes:=E.boxes}=E:=λE=>rfl
    refine FE ag (E2 (λx=>?_) (λx=>?_) hgo)
    .obtain ⟨x1,x⟩:=An.1 x
     obtain ⟨o',ho',U⟩:=M.kind _ _ _ _ F.split
     rw [ho] at ho'
     cases ho'
     have U:(BD o.op||CN o.op)=true:=U
     cases hqk:BD o.op with
     |true=>
      refine CJ (T:=T) (C:=C) (env:=Ef) (env':=e) (st:=st1) (st':=st1) hM hqk (.inl rfl) hag (λid cs hb=>by rw [<-F.boxes];exact hb) (λv s s' g hk=>?_) (λv s hk=>hk) x
      have:s'=s:=by rcases g with ⟨_,g⟩|⟨g1,g2⟩;exact g;rw [g1,g2]
      subst this
      have:=next v s' e.boxes F.bx (λ_=>rfl) (by rw [<-F.boxes];exact hk)
      omega
     |false=>
      rw [hqk] at U
      have hst:CN o.op=true:=by simpa using U
      cases hop:o.op with
      |store t p y=>
       refine Jn (T:=T) (C:=C) hop x1 hag F.boxes (by rw [F.n1,F.n2]) (by rw [F.s1,F.s2]) (by rw [F.g1,F.g2]) (λs B hB hk=>?_) x
       refine next .BO s B (λid cs hb=>?_) (λh=>by grind) hk
       obtain ⟨_,h2⟩:=hb0 id cs hb
       exact hB id cs h2 (by rw [F.boxes];exact F.bx id cs hb)
      |_=>rw [hop] at hst;cases hst
    .have:=next (.Bq []) st1 e.boxes F.bx (λ_=>rfl) (by rw [<-F.boxes];exact x)
     omega
 .intro bs e st hbl hinv
  obtain ⟨vs,pre,post,Ef,F,hh⟩:=hinv
  by_cases hall:∀p ∈ sched,bs.getD p.1 false=true
  .left
   rw [List.eq_replicate_iff]
   refine ⟨hbl,λb hb=>?_⟩
   obtain ⟨j,hj,rfl⟩:=List.mem_iff_getElem.1 hb
   obtain ⟨p,hp,e⟩:=List.mem_map.1 (M.cover j AC)
   grind
  .right
   have hex:∃pr p po,sched=pr++p::po/\bs.getD p.1 false=false/\∀x ∈ pr,bs.getD x.1 false=true:=by
    clear F hh
    revert hall
    generalize sched=l
    intro hall
    induction l with
    |nil=>grind
    |cons x l ih=>
     cases hb:bs.getD x.1 false with
     |false=>exact ⟨[],x,l,rfl,hb,λy hy=>by cases hy⟩
     |true=>
      obtain ⟨pr,p,po,h1,h2,h3⟩:=ih λh=>hall λp hp=>by grind
      grind
   obtain ⟨pr,⟨k,q⟩,po,h1,h2,h3⟩:=hex
   obtain ⟨o,ho,_⟩:=M.kind _ _ _ _ h1
   have hk:k<all.length:=(List.getElem?_eq_some_iff.1 ho).1
   refine ⟨k,hk,?_⟩
   unfold Bt
   rw [ho,hget bs k AC,h2]
   simp only [Bool.not_false,Bool.true_and,List.all_eq_true]
   intro x hx
   cases hb:Region.binds .any x with
   |false=>rfl
   |true=>
    obtain ⟨y,hy,e⟩:=List.mem_map.1 (M.back _ _ _ _ o h1 ho x (by grind) hb)
    grind
 .intro e st hinv
  obtain ⟨vs,pre,post,Ef,F,hh⟩:=hinv
  have hp:post=[]:=by
   cases post with
   |nil=>rfl
   |cons p r=>
    obtain ⟨o,ho,_⟩:=M.kind _ _ _ _ F.split
    have:=F.sub p.1 (by grind)
    exact absurd this (M.nodup _ _ _ _ F.split)
  subst hp
  refine ⟨Ef,⟨⟨λt=>?_,λt=>by rw [F.boxes],by rw [F.n1,F.n2],by rw [F.s1,F.s2]⟩,F.boxes,by rw [F.g1,F.g2]⟩,F.go⟩
  rw [F.tm,F.tf]
  refine CE λk p hk _=>⟨?_,λ_=>rfl⟩
  have hlt:=(List.getElem?_eq_some_iff.1 hk).1
  have h1:(List.replicate all.length true).getD k false=true:=by rw [List.getD_eq_getElem?_getD,List.getElem?_replicate,if_pos hlt];rfl
  show (List.replicate all.length true).getD k false=decide (k ∈ pre.map (·.1))
  rw [h1,decide_eq_true (F.sub k h1)]
 .have hf:∀j,(List.replicate all.length false).getD j false=false:=λj=>by grind
  have h0:∀(vs:Nat->V) t,FR all env.tmps vs (λj=>(List.replicate all.length false).getD j false) t=assoc env.tmps t:=λvs t=>by
   unfold FR;grind
  refine Jc M sched (λ_=>.BO) [] env ⟨rfl,λj hj=>(by grind),λj hj=>(by cases hj),rfl,rfl,rfl,rfl,rfl,rfl,rfl,λt=>(h0 _ t).symm,λt=>?_,λid cs hb=>(hb0 id cs hb).1,h,λ_=>rfl,λ_=>rfl,λCP j r o e=>(by cases CP<;>cases e),λi o ho hi=>(by grind)⟩
  unfold FR
  grind
def NC (A:List Oper) (U os:Oper) (t:Nat):Bool:=
 U.after.toList.isEmpty&&(U.guard.isNone&&(os.guard.isNone&&(CN os.op&&(A.all (λo=>o.guard.isNone&&(BD o.op&&(!(o.dst==some t)&&(!((Oper.B1 A o).contains t)&&o.after.toList.all λe=>Nat.blt e.on A.length))))&&
  ((List.range (A.length+1)).all (λi=>os.after.toList.any λe=>Nat.beq e.on i&&Region.binds .any e)&&os.after.toList.all λe=>Nat.ble e.on A.length)))))
def Rb (T:List (Nat×Ty)) (C:FuncId->List V->St->(Ay->St->Prop)->Prop) (U os:Oper) (Q:AE->Env->St->Prop) (x:AE) (e:Env) (s:St):Prop:=match x with
 | .normal=>Fg T C U e s (λv e s=>e.go U.dst v λe=>Fg T C os e s (λv e s=>e.go os.dst v λe=>Q .normal e s) (λx _ s=>∀e',Q x e' s)) (λ_ _ _=>True)
 |x=>∀e',Q x e' s
structure oE (t:Nat) (z:List V) (e0 e:Env):Prop where
 boxes:e.boxes=(e0.Bj,z)::e0.boxes
 Bj:e.Bj=e0.Bj+1
 sz:e.sz=e0.sz
 gl:e.gl=e0.gl
 tm:∀s,assoc e.tmps s=if s=t then some (.BH e0.Bj 0) else assoc e0.tmps s
def p5 (I:List Bool->Env->St->Prop) (n t:Nat) (z:List V) (Q:AE->Env->St->Prop) (bs:List Bool) (e:Env) (s:St):Prop:=∃U x y,bs=U++[x,y]/\U.length=n/\
 ((x=false/\y=false/\I U e s)\/(x=true/\y=false/\∃e0,I U e0 s/\oE t z e0 e)\/(x=true/\y=true/\U=List.replicate n true/\∃env',e.eqv env'/\Q .normal env' s))
theorem HC {l r:List Bool} {d:Bool} (h:i<l.length):(l++r).getD i d=l.getD i d:=by
 rw [List.getD_eq_getElem?_getD,List.getD_eq_getElem?_getD,List.getElem?_append_left h]
theorem oE.get {t:Nat} {z:List V} {e0 e:Env} (h:oE t z e0 e) {s:Nat} (U:s≠t):e0.get s=e.get s:=by
 unfold Env.get
 rw [h.tm,if_neg U]
theorem oE.go {t:Nat} {z:List V} {e0 e:Env} (h:oE t z e0 e) {d:Option Nat} (hd:d≠some t) (v:V):oE t z {e0 with tmps:=NA e0.tmps d v} {e with tmps:=NA e.tmps d v}:=
 ⟨h.boxes,h.Bj,h.sz,h.gl,λs=>by
   show assoc (NA e.tmps d v) s=if s=t then some (.BH e0.Bj 0) else assoc (NA e0.tmps d v) s
   rw [DA,DA,h.tm]
   by_cases U:d=some s
   .rw [if_pos U,if_pos U,if_neg (λe=>hd (by rw [U,e]))]
   .rw [if_neg U,if_neg U]⟩
theorem JW.facts {sti:St} {b0:List (Nat×List V)} {U:Env} {bs:List Bool} {e:Env} {st:St} (hq:∀(k:Nat) (o:Oper),all[k]? =some o->CN o.op=false) (h:JW T C all sched sti L b0 Q U bs e st):
 e.Bj=U.Bj/\e.sz=U.sz/\e.gl=U.gl/\e.boxes=U.boxes:=by
 obtain ⟨vs,pre,post,Ef,F,_⟩:=h
 exact ⟨F.n2,F.s2,F.g2,F.jy λk o _ ho=>hq k o ho⟩
theorem Qa {o:Op} (h:BD o=true):CN o=false:=by
 cases o<;>first|rfl|cases h
theorem bU {e:Env} {s:St} {K:V->Env->St->Prop} {z:Ty} (ho:U.op=.alloc ty) (hz:assoc T ty=some z):Fg T C U e s K Q=Ic e s U.dst z.zero.cells K:=by
 simp only [Fg,ho,hz]
theorem SV (hT:FV P T) (hC:∀f args st R,C f args st R->Co P f args st R/\Plain P f) (hM:∀f args st (R R':Ay->St->Prop),(∀r s,R r s->R' r s)->C f args st R->C f args st R')
 {A:List Oper} {oa os:Oper} {z:Ty} {t:Nat} (hm:IA sched A=true) (hk:NC A oa os t=true) (ho:oa.op=.alloc ty) (hd:oa.dst=some t) (hz:assoc T ty=some z) (hts:t<env.sz) (hgl:env.Nr (some t)=false)
 (h:E4 T C A sched L (A9 (L.map some) env.boxes) (Rb T C oa os Q) sched env st) (hr:Rel D I0 st0 w0 I β env st a w):
 wpAny P .any (A++[oa,os]).toArray (B0 D I0 st0 w0 Q) (A++[oa,os]).toArray.size (Array.replicate (A++[oa,os]).toArray.size false) a {w with drawn:=w.drawn+1}:=by
 obtain ⟨step,live,fin,start⟩:=eD (T:=T) (C:=C) hM hm h
 have hr:=hr.H4 (Fh.drew w)
 generalize hI:JW T C A sched st L (A9 (L.map some) env.boxes) (Rb T C oa os Q) env=I0' at step live fin start
 unfold NC at hk
 simp only [Bool.and_eq_true,List.all_eq_true,List.any_eq_true,List.mem_range,Bool.not_eq_true'] at hk
 obtain ⟨k1,k2,k3,k4,k5,k6,k7⟩:=hk
 have hAo:∀(i:Nat) (o:Oper),A[i]? =some o->o.guard=none/\BD o.op=true/\o.dst≠some t/\t ∉ Oper.B1 A o/\∀e ∈ o.after.toList,e.on<A.length:=λi o hi=>by
  obtain ⟨h1,h2,h3,h4,h5⟩:=k5 o (List.mem_of_getElem? hi)
  refine ⟨by simpa using h1,h2,by simpa using h3,by simpa using h4,λe he=>?_⟩
  have:=h5 e he
  rw [Nat.blt_eq] at this;exact this
 have facts:∀{bs e s},I0' bs e s->e.Bj=env.Bj/\e.sz=env.sz/\e.gl=env.gl/\e.boxes=env.boxes:=λ{bs e s} hi=>by
  rw [<-hI] at hi
  exact JW.facts (λk o ho=>Qa (hAo k o ho).2.1) hi
 have fresh:assoc env.boxes env.Bj=none:=by
  cases e:assoc env.boxes env.Bj with
  |none=>rfl
  |some cs=>
   obtain ⟨b,hb,_⟩:=hr.f.box _ _ e
   exact absurd (hr.f.Bj _ _ hb) (Nat.lt_irrefl _)
 have hga:oa.guard=none:=by simpa using k2
 have hgs:os.guard=none:=by simpa using k3
 have hla:(A++[oa,os]).length=A.length+2:=GT
 refine XE hT hC (Inv:=p5 I0' A.length t z.zero.cells Q) ?_ ?_ ?_ _ (List.replicate (A++[oa,os]).length false) _ _ β env st _ _ GT GT GT ?_ hr
 .rintro bs e s i o hbl ⟨bA,x,y,rfl,hlen,hc⟩ U hrd
  have rdA:i<A.length->Bt A bA i=true:=λhi=>by
   rw [List.getElem?_append_left hi] at U
   unfold Bt at hrd |-
   rw [List.getElem?_append_left hi,U] at hrd
   rw [U]
   rw [HC AC] at hrd
   simp only [Bool.and_eq_true,List.all_eq_true] at hrd |-
   refine ⟨hrd.1,λe he=>?_⟩
   have:=hrd.2 e he
   rwa [HC (by rw [hlen];exact (hAo i o U).2.2.2.2 e he)] at this
  rcases Nat.lt_trichotomy i A.length with hi|rfl|hi
  .have hrA:=rdA hi
   rw [List.getElem?_append_left hi] at U
   obtain ⟨g1,g2,g3,g4,g5⟩:=hAo i o U
   have hset:∀x y,(bA++[x,y]).set i true=bA.set i true++[x,y]:=λx y=>List.set_append_left _ _ AC
   have hls:(bA.set i true).length=A.length:=by simpa using hlen
   unfold A8
   rw [g1]
   rcases hc with ⟨rfl,rfl,hc⟩|⟨rfl,rfl,e0,hc,ha⟩|⟨rfl,rfl,hc,_⟩
   .have:=step bA e s i o hlen hc U hrA
    unfold A8 at this
    rw [g1] at this
    refine CJ (env:=e) (env':=e) (st:=s) (st':=s) hM g2 (.inl rfl) (λ_ _=>rfl) (λid cs h=>h) (λv s1 s2 g k=>?_) (λv s1 k=>k e e) this
    have hs:s2=s1:=by rcases g with ⟨_,g⟩|⟨g1,g2⟩;exact g;rw [g1,g2]
    subst hs
    obtain ⟨q1,q2⟩:=Gu k
    exact MT q1 ⟨bA.set i true,false,false,hset _ _,hls,.inl ⟨rfl,rfl,q2⟩⟩
   .have:=step bA e0 s i o hlen hc U hrA
    unfold A8 at this
    rw [g1] at this
    have hf:=facts hc
    refine CJ (env:=e0) (env':=e) (st:=s) (st':=s) hM g2 (.inl rfl) (λx hx=>?_) (λid cs h=>?_) (λv s1 s2 g k=>?_) (λv s1 k=>k e e) this
    .cases x with
     |tmp t'=>
      refine ha.get λe=>g4 ?_
      subst e
      exact List.mem_append.2 (.inl (List.mem_filterMap.2 ⟨.tmp t',hx,rfl⟩))
     |const v=>rfl
     |func f=>rfl
     |global g=>rfl
    .rw [ha.boxes,Bi]
     cases hb:Nat.beq e0.Bj id with
     |false=>exact h
     |true=>
      have:=Nat.eq_of_beq_eq_true hb
      subst this
      rw [hf.2.2.2,hf.1,fresh] at h
      cases h
    .have hs:s2=s1:=by rcases g with ⟨_,g⟩|⟨g1,g2⟩;exact g;rw [g1,g2]
     subst hs
     obtain ⟨q1,q2⟩:=Gu k
     exact MT (λt' ht'=>by rw [ha.sz];exact q1 t' ht') ⟨bA.set i true,true,false,hset _ _,hls,.inr (.inl ⟨rfl,rfl,_,q2,ha.go g3 v⟩)⟩
   .unfold Bt at hrA
    rw [hc,List.getD_eq_getElem?_getD,List.getElem?_replicate,if_pos hi] at hrA
    simp at hrA
  .have hoo:o=oa:=by
    rw [List.getElem?_append_right (Nat.le_refl _),Nat.sub_self] at U
    simpa using U.symm
   subst hoo
   have hx:x=false:=by
    unfold Bt at hrd
    rw [List.getD_eq_getElem?_getD,List.getElem?_append_right AC,hlen,Nat.sub_self] at hrd
    cases x with
    |false=>rfl
    |true=>simp at hrd
   subst hx
   rcases hc with ⟨_,rfl,hc⟩|⟨hc,_⟩|⟨hc,_⟩
   .have hf:=facts hc
    unfold A8
    rw [hga]
    have hg2:e.Nr o.dst=false:=by
     rw [hd]
     unfold Env.Nr at hgl |-
     rw [hf.2.2.1];exact hgl
    simp only [Fg,ho,hz]
    unfold Ic
    rw [hg2]
    refine Bb.2 ?_
    refine MT (λt' ht'=>?_) ⟨bA,true,false,?_,hlen,.inr (.inl ⟨rfl,rfl,e,hc,⟨rfl,rfl,rfl,rfl,λs'=>?_⟩⟩)⟩
    .rw [hd] at ht'
     cases ht'
     show t<e.sz
     rw [hf.2.1];exact hts
    .rw [List.set_append_right _ _ AC,hlen,Nat.sub_self];rfl
    .show assoc (NA e.tmps o.dst (.BH e.Bj 0)) s'=_
     rw [DA,hd]
     by_cases h1:s'=t
     .rw [if_pos (by rw [h1]),if_pos h1]
     .rw [if_neg (λe=>h1 (Option.some.inj e).symm),if_neg h1]
   .cases hc
   .cases hc
  .have hi2:i=A.length+1:=by
    have:=(List.getElem?_eq_some_iff.1 U).1
    omega
   subst hi2
   have hoo:o=os:=by
    rw [List.getElem?_append_right AC,show A.length+1 - A.length=1 by omega] at U
    simpa using U.symm
   subst hoo
   unfold Bt at hrd
   rw [U] at hrd
   simp only [Bool.and_eq_true,List.all_eq_true,Bool.not_eq_true'] at hrd
   obtain ⟨r1,r2⟩:=hrd
   have hon:∀j,j<A.length+1->(bA++[x,y]).getD j false=true:=λj hj=>by
    obtain ⟨e',he',hb⟩:=k6 j hj
    have h1:=r2 e' he'
    rw [Nat.eq_of_beq_eq_true hb.1,hb.2] at h1
    simpa using h1
   have hy:y=false:=by
    rw [List.getD_eq_getElem?_getD,List.getElem?_append_right AC,hlen,show A.length+1 - A.length=1 by omega] at r1
    simpa using r1
   have hx:x=true:=by
    have:=hon A.length AC
    rw [List.getD_eq_getElem?_getD,List.getElem?_append_right AC,hlen,Nat.sub_self] at this
    simpa using this
   have hbA:bA=List.replicate A.length true:=by
    rw [List.eq_replicate_iff]
    refine ⟨hlen,λb hb=>?_⟩
    obtain ⟨j,hj,rfl⟩:=List.mem_iff_getElem.1 hb
    have:=hon j AC
    rw [HC hj,List.getD_eq_getElem?_getD,List.getElem?_eq_getElem hj] at this
    simpa using this
   subst hy;subst hx
   rcases hc with ⟨hc,_⟩|⟨_,_,e0,hc,ha⟩|⟨_,hc,_⟩
   .cases hc
   .rw [hbA] at hc
    obtain ⟨env',⟨q1,q2,q3⟩,q4⟩:=fin e0 s hc
    have hf:=facts hc
    have q4:Fg T C oa env' s (λv e s=>e.go oa.dst v λe=>Fg T C o e s (λv e s=>e.go o.dst v λe=>Q .normal e s) (λx _ s=>∀e',Q x e' s)) (λ_ _ _=>True):=q4
    have hg2:env'.Nr oa.dst=false:=by
     rw [hd]
     unfold Env.Nr at hgl |-
     rw [q3,hf.2.2.1];exact hgl
    rw [bU ho hz] at q4
    unfold Ic at q4
    rw [hg2] at q4
    obtain ⟨_,q5⟩:=Gu (Bb.1 q4)
    unfold A8
    rw [hgs]
    have tmq:∀s',assoc (NA env'.tmps oa.dst (.BH env'.Bj 0)) s'=assoc e.tmps s':=λs'=>by
     rw [DA,hd,<-q1.tmps,<-q1.Bj,ha.tm]
     by_cases h1:s'=t
     .rw [if_pos (by rw [h1]),if_pos h1]
     .rw [if_neg (λe=>h1 (Option.some.inj e).symm),if_neg h1]
    have ev:∀x:Operand,Env.eval ⟨NA env'.tmps oa.dst (.BH env'.Bj 0),(env'.Bj,z.zero.cells)::env'.boxes,env'.Bj+1,env'.sz,env'.gl⟩ x=e.eval x:=λx=>by
     cases x with
     |tmp t'=>
      have:=tmq t'
      show Env.get _ t'=e.get t'
      unfold Env.get
      dsimp only
      rw [this]
     |const v=>rfl
     |func f=>rfl
     |global g=>rfl
    cases hop:o.op with
    |store ty' px vx=>
     obtain ⟨L',hL'⟩:∃L',HQ L' ⟨NA env'.tmps oa.dst (.BH env'.Bj 0),(env'.Bj,z.zero.cells)::env'.boxes,env'.Bj+1,env'.sz,env'.gl⟩ o=true:=by
      unfold HQ
      rw [hop]
      dsimp only
      cases hv:Env.eval ⟨NA env'.tmps oa.dst (.BH env'.Bj 0),(env'.Bj,z.zero.cells)::env'.boxes,env'.Bj+1,env'.sz,env'.gl⟩ px with
      |BH id off=>exact ⟨[id],GT⟩
      |_=>exact ⟨[],rfl⟩
     refine Jn (T:=T) (C:=C) hop hL' (λx _=>ev x) (by rw [ha.boxes,q2,<-q1.Bj]) (by rw [ha.Bj,<-q1.Bj]) (by rw [ha.sz,<-q1.sz]) (by rw [ha.gl,q3]) (λs' B hB hk=>?_) q5
     obtain ⟨p1,p2⟩:=Gu hk
     refine MT (λt' ht'=>by have:=p1 t' ht';rw [show ({e with boxes:=B}:Env).sz=e.sz from rfl,ha.sz,q1.sz];exact this) ⟨bA,true,true,?_,hlen,.inr (.inr ⟨rfl,rfl,hbA,⟨NA (NA env'.tmps oa.dst (.BH env'.Bj 0)) o.dst .BO,B,env'.Bj+1,env'.sz,env'.gl⟩,⟨λs''=>?_,λ_=>rfl,?_,?_⟩,p2⟩)⟩
     .rw [List.set_append_right _ _ AC,hlen,show A.length+1 - A.length=1 by omega];rfl
     .show assoc (NA e.tmps o.dst .BO) s''=assoc (NA (NA env'.tmps oa.dst (.BH env'.Bj 0)) o.dst .BO) s''
      rw [DA,DA (ts:=NA env'.tmps oa.dst (.BH env'.Bj 0)),tmq]
     .show e.Bj=env'.Bj+1
      rw [ha.Bj,q1.Bj]
     .show e.sz=env'.sz
      rw [ha.sz,q1.sz]
    |_=>rw [hop] at k4;cases k4
   .cases hc
 .rintro bs e s hbl ⟨bA,x,y,rfl,hlen,hc⟩
  have lift:∀{j:Nat} {x y:Bool},j<A.length->Bt A bA j=true->Bt (A++[oa,os]) (bA++[x,y]) j=true:=λ{j x y} hj hq=>by
   unfold Bt at hq |-
   rw [HC AC,List.getElem?_append_left hj]
   have hoj:A[j]? =some A[j]:=List.getElem?_eq_getElem hj
   rw [hoj] at hq |-
   simp only [Bool.and_eq_true,List.all_eq_true] at hq |-
   refine ⟨hq.1,λe he=>?_⟩
   rw [HC (by rw [hlen];exact (hAo j _ hoj).2.2.2.2 e he)]
   exact hq.2 e he
  rcases hc with ⟨rfl,rfl,hc⟩|⟨rfl,rfl,e0,hc,ha⟩|⟨rfl,rfl,hc,_⟩
  .refine .inr ⟨A.length,AC,?_⟩
   unfold Bt
   rw [List.getElem?_append_right (Nat.le_refl _),Nat.sub_self,List.getD_eq_getElem?_getD,List.getElem?_append_right AC,hlen,Nat.sub_self]
   have:oa.after.toList=[]:=by simpa using k1
   simp [this]
  .rcases live bA e0 s hlen hc with h1|⟨j,h1,h2⟩
   .refine .inr ⟨A.length+1,AC,?_⟩
    unfold Bt
    rw [List.getElem?_append_right AC,List.getD_eq_getElem?_getD,List.getElem?_append_right AC,hlen,show A.length+1 - A.length=1 by omega]
    rw [Bool.and_eq_true]
    refine ⟨rfl,?_⟩
    show (os.after.toList.all λe=> !(Region.binds .any e)||(bA++[true,false]).getD e.on false)=true
    rw [List.all_eq_true]
    intro e he
    have hle:e.on<=A.length:=Nat.le_of_ble_eq_true (k7 e he)
    rw [Bool.or_eq_true]
    refine .inr ?_
    rcases Nat.lt_or_eq_of_le hle with h2|h2
    .rw [HC AC,h1,List.getD_eq_getElem?_getD,List.getElem?_replicate,if_pos h2];rfl
    .rw [List.getD_eq_getElem?_getD,List.getElem?_append_right AC,h2,hlen,Nat.sub_self];rfl
   .exact .inr ⟨j,AC,lift h1 h2⟩
  .refine .inl ?_
   rw [hc,hla,List.replicate_succ',List.replicate_succ',List.append_assoc]
   rfl
 .rintro e s ⟨bA,x,y,hbs,hlen,hc⟩
  have hlast:(bA++[x,y]).getD A.length false=true/\(bA++[x,y]).getD (A.length+1) false=true:=by
   rw [<-hbs,List.getD_eq_getElem?_getD,List.getD_eq_getElem?_getD,List.getElem?_replicate,List.getElem?_replicate,if_pos AC,if_pos AC]
   exact ⟨rfl,rfl⟩
  have hy:y=true:=by
   have:=hlast.2
   rw [List.getD_eq_getElem?_getD,List.getElem?_append_right AC,hlen,show A.length+1 - A.length=1 by omega] at this
   simpa using this
  rcases hc with ⟨_,hc,_⟩|⟨_,hc,_⟩|⟨_,_,_,h1⟩
  .rw [hy] at hc;cases hc
  .rw [hy] at hc;cases hc
  .exact h1
 .refine ⟨List.replicate A.length false,false,false,?_,GT,.inl ⟨rfl,rfl,start⟩⟩
  rw [hla,List.replicate_succ',List.replicate_succ',List.append_assoc]
  rfl
theorem cf (hP:Q6 P T) (hC:∀f args st R,C f args st R->Co P f args st R/\Plain P f) (hM:∀f args st (R R':Ay->St->Prop),(∀r s,R r s->R' r s)->C f args st R->C f args st R')
 (A:List Oper) (U os:Oper) (sched:List (Nat×Bool)) (L:List Nat) {z:Ty} {t:Nat} (he:ops=(A++[U,os]).toArray) (hm:IA sched A=true) (hk:NC A U os t=true) (ho:U.op=.alloc ty) (hd:U.dst=some t) (hz:assoc T ty=some z) (hts:t<env.sz) (hgl:env.Nr (some t)=false)
 (h:E4 T C A sched L (A9 (L.map some) env.boxes) (Rb T C U os Q) sched env st):AW P (.region id ops true) Q env st:=λD I0 st0 w0 I β a w hr=>
 wp_region_any hP.m (by
  subst he
  exact SV hP.t hC hM hm hk ho hd hz hts hgl h hr)
theorem Zb (hP:Q6 P T) (hC:∀f args st R,C f args st R->Co P f args st R/\Plain P f) (hM:∀f args st (R R':Ay->St->Prop),(∀r s,R r s->R' r s)->C f args st R->C f args st R')
 (k t:Nat) (sched:List (Nat×Bool)) (L:List Nat) {os:Oper} {z:Ty} (h1:ops.toList[k]? =some U) (h2:ops.toList[k+1]? =some os) (h3:ops.toList.length=k+2) (hm:IA sched (ops.toList.take k)=true) (hk:NC (ops.toList.take k) U os t=true) (ho:U.op=.alloc ty) (hd:U.dst=some t) (hz:assoc T ty=some z) (hts:t<env.sz) (hgl:env.Nr (some t)=false)
 (h:E4 T C (ops.toList.take k) sched L (A9 (L.map some) env.boxes) (Rb T C U os Q) sched env st):AW P (.region id ops true) Q env st:=by
 refine cf hP hC hM _ U os sched L (by
  have e1:ops.toList.drop k=[U,os]:=by
   obtain ⟨g1,g2⟩:=List.getElem?_eq_some_iff.1 h1
   obtain ⟨g3,g4⟩:=List.getElem?_eq_some_iff.1 h2
   rw [List.drop_eq_getElem_cons g1,g2,List.drop_eq_getElem_cons g3,g4,List.drop_eq_nil_of_le AC]
  rw [<-e1,List.take_append_drop]) hm hk ho hd hz hts hgl h
end
end Go.Aw
namespace Go.Proofs.Z
open Go Go.Aw
structure mA (f:FuncId) (mk:Nat->V->List V) (A:List Nd->Rd (List Nd×Nd)):Prop where
 ap:∀{st0:St} {b:Nat} {s:Af} {st:St} {rows:List (AB×List Nd)} {K:Ay->St->Prop} {own:AB} {l:List Nd},l.length<=90000000->Cx st0 b s st ((own,l)::rows)->
 Rd.wp (A l) s (λp s'=>∀own' st',Cx st0 b s' st' ((own',p.1++[p.2])::rows)->K (.ret (.slice 6 ((p.1++[p.2]).map Az) own')) st') (λe s'=>∀st',Cy st0 b s' st' rows->K (.BU (fault e.1)) st')->PC f (mk b (.slice 6 (l.map Az) own)) st K
theorem mA.go {A:List Nd->Rd (List Nd×Nd)} {st:St} {Q:List Nd×Nd->Af->Prop} {own:AB} (hf:mA f mk A) (hl:l.length<=90000000) (hc:Cx st0 b s st ((own,l)::rows)) (h:Rd.wp (A l) s Q E)
 (k:∀l' x U s' st',(A l).run s=.inr ((l',x),s')->mu s'<=mu s->Cx st0 b s' st' ((U,l'++[x])::rows)->Q (l',x) s'->K (.ret (.slice 6 ((l'++[x]).map Az) U)) st') (kb:∀e s' st',Cy st0 b s' st' rows->E e s'->K (.BU (fault e.1)) st'):PC f (mk b (.slice 6 (l.map Az) own)) st K:=
 hf.ap hl hc (Rd.wp_mono h (λv s' r q own st' c=>k v.1 v.2 own s' st' r ((A l).le _ _ _ r) c q) (λe s' _ q st' c=>kb e s' st' c q))
theorem DI {x:Nd} {Q:List V->Prop} (k:Q (Az x)):0<=(((l++[x]).length:Nat):Int) - 1/\∃e,((l++[x]).map Az)[((((l++[x]).length:Nat):Int) - 1).toNat]? =some e/\Q e:=
 ⟨by rw [List.length_append];show (0:Int)<=((l.length+1:Nat):Int) - 1;omega,Az x,by
   rw [show ((((l++[x]).length:Nat):Int) - 1).toNat=l.length by rw [List.length_append];show (((l.length+1:Nat):Int) - 1).toNat=_;omega,List.map_append,List.getElem?_append_right (by rw [List.length_map];exact Nat.le_refl _),List.length_map,Nat.sub_self]
   rfl,k⟩
theorem HE {R:Rd Nd} {p:List Nd×Nd} {s':Af} (h:(J7 R l).run s=.inr (p,s')):p.1.length<=l.length+2:=by
 unfold J7 at h
 obtain ⟨r,s1,_,h⟩:=Bl h
 replace h:(if Ba s1 10 [61,62]=true then Rd.seq AH λa=>.seq R λq=>.ret (l++[r]++[a],q) else .ret (l,r):Rd (List Nd×Nd)).run s1=.inr (p,s'):=h
 split at h
 .obtain ⟨a,s2,_,h⟩:=Bl h
  obtain ⟨q,U,_,h⟩:=Bl h
  cases h
  simp
 .cases h;exact Nat.le_add_right _ _
section
variable {st0 st:St} {b d:Nat} {s:Af} {rows:List (AB×List Nd)} {K:Ay->St->Prop} {A B R W F D E:Rd Nd}
attribute [local irreducible] Go.Aw.Ag
theorem LV (hr:AO enc 158 (λb=>[pv b d]) R):mA 162 (λb v=>[pv b d,v]) (J7 R):=by
 refine ⟨λ{st0 b s st rows K own l} hl hc h=>?_⟩
 simp only [J7,Rd.Ah,Rd.Ax,Rd.wp_seq,Rd.wp_ret] at h
 have U:=hc.mu
 refine pB Tryz.func162 ?_
 repeat' ((conv=>whnf);(first|refine AZ ?_|refine A0 ?_ ?_|refine A1 ?_ ?_|refine SR ?_ ?_|refine L2 ?_|refine Qj ?_ ?_|refine IG ?_|refine Iv ?_ ?_|exact FI|refine PY ?_|refine Ae ?_|refine Fe.go (by first|exact AO.q|exact ‹_›.a) ?_ ?_)<;>intros)
theorem Dy {own:AB} (h:K (.ret (.bool (Du n ks))) st):PC 166 [enc n,.slice 1 (ints ks) own] st K:=by
 refine pB Tryz.func166 ?_
 repeat' ((conv=>whnf);(first|refine AZ ?_|refine A0 ?_ ?_|refine A1 ?_ ?_|refine MQ ?_)<;>intros)
 all_goals conv=>whnf
 all_goals (refine Ao h ?_;clear h;simp_all [Du])
theorem PV (U:AO enc 365 (λb=>[pv b d]) A):AO enc 300 (λb=>[pv b d]) (LM A):=by
 refine ⟨λ{st0 b s st rows K} hc h=>?_⟩
 simp only [LM,Rd.wp_seq,Rd.wp_ret] at h
 refine pB Tryz.func300 ?_
 repeat' ((conv=>whnf);(first|exact CK|refine AZ ?_|(refine CL ?_ ?_ ?_;rotate_left)|refine A0 ?_ ?_|refine A1 ?_ ?_|refine IG ?_|refine Iv ?_ ?_|exact FI|refine PZ ?_|refine Ae ?_|refine Fe.go (by first|exact AO.q) ?_ ?_|refine Ac [(0,true),(1,true),(3,true),(2,false),(4,false),(5,true),(6,false),(7,false)] [1] GE ?_|with_reducible refine WF ?_)<;>intros)
theorem kQ (hc:Cx st0 b s st rows) (h:∀st',Cx st0 b s st' rows->K (.ret (.bool (SL (Ab s).1))) st'):PC 299 [pv b d] st K:=by
 refine pB Tryz.func299 ?_
 repeat' ((conv=>whnf);(first|refine AZ ?_|refine A0 ?_ ?_|refine A1 ?_ ?_|refine L2 ?_|exact FI|refine Ae ?_)<;>intros)
 all_goals conv=>whnf
 all_goals (refine Ao (h _ ‹_›) ?_;clear h;simp_all [SL])
theorem LX (h:K (.ret (.bool (GA n))) st):PC 222 [enc n] st K:=by
 refine pB Tryz.func222 ?_
 repeat' ((conv=>whnf);(first|refine AZ ?_|refine A0 ?_ ?_|refine A1 ?_ ?_|refine Dy (ks:=[2]) ?_|refine Dy (ks:=[6]) ?_)<;>intros)
 all_goals conv=>whnf
 all_goals (refine Ao h ?_;clear h;simp_all [GA])
theorem bu {t:Tk} (h:K (.ret (.bool (YX t))) st):PC 70 [Ei t] st K:=by
 refine pB Tryz.func70 ?_
 repeat' ((conv=>whnf);(first|refine AZ ?_|refine A0 ?_ ?_|refine A1 ?_ ?_|refine KP ?_|refine RJ ?_)<;>intros)
 all_goals conv=>whnf
 all_goals (refine Ao h ?_;clear h;simp_all [YX])
theorem gH (ha:AO enc 365 (λb=>[pv b d]) A):AO enc 298 (λb=>[pv b d]) (Jo A):=by
 refine ⟨λ{st0 b s st rows K} hc h=>?_⟩
 simp only [Jo,Rd.Ah,Rd.Ax] at h
 have U:=hc.mu
 refine pB Tryz.func298 ?_
 repeat' ((conv=>whnf);(first|refine AZ ?_|refine A0 ?_ ?_|refine A1 ?_ ?_|refine L2 ?_|refine Qj ?_ ?_|exact FI|refine Ae ?_|refine Fe.go (by first|exact AO.q|exact (PV ha).a|exact (GJ (ks:=[6]) rfl).a) ?_ ?_|refine Oj (Cx.has ‹_›) ?_ ?_|refine kI ‹_› ‹_› Do ?_|refine FD ‹_› U ?_)<;>intros)
theorem gG:AO enc 225 (λb=>[pv b d]) Xo:=by
 refine ⟨λ{st0 b s st rows K} hc h=>?_⟩
 simp only [Xo,Rd.Ah,Rd.Ax,Rd.wp_seq,Rd.wp_ret,Rd.Gm] at h
 have hmu:=hc.mu
 refine AV Ad [] Tryz.func225 rfl Do rfl ?_
 refine Aj (Ai Ad ?_)
 repeat' ((conv=>whnf);(first|exact CK|refine AZ ?_|(refine CL ?_ ?_ ?_;rotate_left)|refine A0 ?_ ?_|refine A1 ?_ ?_|with_reducible refine WF ?_)<;>intros)
 refine Aj (Ai Ad ?_)
 repeat' ((conv=>whnf);first|refine Gj h (λe h=>?_) (λe h=>?_)|exact CK|(refine AZ ?_;intros)|(refine CL ?_ ?_ ?_;rotate_left)|(refine A0 ?_ ?_<;>intro e h)|(refine A1 ?_ ?_<;>intro _)|(refine L2 ?_;intro U hc)|(refine IG ?_;intro s1 U hz hm hc h)|(refine Iv ?_ ?_<;>(first|intro n s1 U hr hm hc h|intro e s1 U hc h))|refine B6 ?_|exact FI|refine PZ ?_|refine Ae (λe1=>?_)|with_reducible refine WF ?_)
 refine Aj (Ai Ad ?_)
 repeat' ((conv=>whnf);first|exact CK|(refine AZ ?_;intros)|(refine CL ?_ ?_ ?_;rotate_left)|(refine A0 ?_ ?_<;>intro e h)|(refine A1 ?_ ?_<;>intro _)|(refine L2 ?_;intro U hc)|(refine IG ?_;intro s1 U hz hm hc h)|(refine Iv ?_ ?_<;>(first|intro n s1 U hr hm hc h|intro e s1 U hc h))|refine B6 ?_|exact FI|refine PZ ?_|refine Ae (λe1=>?_)|refine Oj hc.has ?_ (λt u o1 o2 e=>?_)|with_reducible refine WF ?_)
 all_goals refine Aj (Ai Ad ?_)
 all_goals (repeat' ((conv=>whnf);first|exact CK|(refine AZ ?_;intros)|(refine CL ?_ ?_ ?_;rotate_left)|(refine A0 ?_ ?_<;>intro e h)|(refine A1 ?_ ?_<;>intro _)|(refine L2 ?_;intro U hc)|(refine IG ?_;intro s1 U hz hm hc h)|(refine Iv ?_ ?_<;>(first|intro n s1 U hr hm hc h|intro e s1 U hc h))|refine B6 ?_|exact FI|refine PZ ?_|refine Ae (λe1=>?_)|with_reducible refine WF ?_))
 all_goals refine Aj (Zb Ad (B5 _) (λ_ _ _ _ _ h k=>k.mono h) 10 5 [(0,true),(1,true),(2,true),(3,true),(5,true),(6,true),(4,false),(7,false),(8,true),(9,false)] [] rfl rfl rfl EQ EQ rfl rfl rfl (Nat.le_of_ble_eq_true rfl) rfl ?_)
 all_goals (repeat' ((conv=>whnf);first|exact CK|(refine AZ ?_;intros)|(refine CL ?_ ?_ ?_;rotate_left)|(refine A0 ?_ ?_<;>intro e h)|(refine A1 ?_ ?_<;>intro _)|(refine L2 ?_;intro U hc)|(refine IG ?_;intro s1 U hz hm hc h)|(refine Iv ?_ ?_<;>(first|intro n s1 U hr hm hc h|intro e s1 U hc h))|refine B6 ?_|exact FI|refine PZ ?_|refine Ae (λe1=>?_)|refine AO.go (DX (ks:=[1,2,3,4]) rfl) hc h (λn s1 U hr hm hc h=>?_) (λe s1 U hc h=>?_)|fail|with_reducible refine WF ?_))
 all_goals refine Ai Ad ?_
 all_goals (repeat' ((conv=>whnf);first|refine Gj h (λe h=>?_) (λe h=>?_)|exact CK|(refine AZ ?_;intros)|(refine CL ?_ ?_ ?_;rotate_left)|(refine A0 ?_ ?_<;>intro e h)|(refine A1 ?_ ?_<;>intro _)|(refine L2 ?_;intro U hc)|(refine IG ?_;intro s1 U hz hm hc h)|(refine Iv ?_ ?_<;>(first|intro n s1 U hr hm hc h|intro e s1 U hc h))|refine B6 ?_|exact FI|refine PZ ?_|refine Ae (λe1=>?_)|refine Wm (ks:=[_,_,_]) rfl AC ?_|refine FD hc hmu (λU hc=>?_)|refine B6 ?_|fail|with_reducible refine WF ?_))
structure U9 (f:FuncId) (mk:Nat->V->List V) (A:List Nd->Rd Nd):Prop where
 ap:∀{st0:St} {b:Nat} {s:Af} {st:St} {rows:List (AB×List Nd)} {K:Ay->St->Prop} {own:AB} {l:List Nd},l.length<=900000000->Cx st0 b s st ((own,l)::rows)->
 Rd.wp (A l) s (λv s'=>∀st',Cx st0 b s' st' rows->K (.ret (enc v)) st') (λe s'=>∀st',Cy st0 b s' st' rows->K (.BU (fault e.1)) st')->PC f (mk b (.slice 6 (l.map Az) own)) st K
theorem U9.go {A:List Nd->Rd Nd} {st:St} {Q:Nd->Af->Prop} {E:Er->Af->Prop} {own:AB} (U:U9 f mk A) (hl:l.length<=900000000) (hc:Cx st0 b s st ((own,l)::rows)) (h:Rd.wp (A l) s Q E)
 (k:∀v s' st',(A l).run s=.inr (v,s')->mu s'<=mu s->Cx st0 b s' st' rows->Q v s'->K (.ret (enc v)) st') (kb:∀e s' st',Cy st0 b s' st' rows->E e s'->K (.BU (fault e.1)) st'):PC f (mk b (.slice 6 (l.map Az) own)) st K:=
 U.ap hl hc (Rd.wp_mono h (λv s' r q st' c=>k v s' st' r ((A l).le _ _ _ r) c q) (λe s' _ q st' c=>kb e s' st' c q))
theorem Nf (hd:AO enc 226 (λb=>[pv b d]) Jy):U9 164 (λb v=>[pv b d,.int .i64 k,v]) (KZ k):=by
 refine ⟨λ{st0 b s st rows K own l} hl hc h=>?_⟩
 simp only [KZ,Rd.Ah,Rd.Ax,Rd.wp_seq,Rd.wp_ret] at h
 have U:=hc.mu
 refine pB Tryz.func164 ?_
 repeat' ((conv=>whnf);(first|refine AZ ?_|refine A0 ?_ ?_|refine A1 ?_ ?_|refine L2 ?_|refine Qj ?_ ?_|exact FI|refine PZ ?_|refine PY ?_|refine Ae ?_|refine Fe.go (by first|exact AO.q) ?_ ?_)<;>intros)
theorem UQ (hr:AO enc 158 (λb=>[pv b d]) R) (hw:AO enc 161 (λb=>[pv b d]) W) (hs:∀{n:Nd} {st:St} {K:Ay->St->Prop},K (.ret (.bool (D6 n))) st->PC 160 [enc n] st K):
 AO enc 87 (λb=>[pv b d]) (LN R W):=by
 refine ⟨λ{st0 b s st rows K} hc h=>?_⟩
 simp only [LN,Rd.wp_seq,Rd.wp_ret] at h
 have U:=hc.mu
 refine pB Tryz.func87 ?_
 repeat' ((conv=>whnf);(first|exact CK|refine AZ ?_|(refine CL ?_ ?_ ?_;rotate_left)|refine A0 ?_ ?_|refine A1 ?_ ?_|refine IG ?_|refine Iv ?_ ?_|exact FI|refine PZ ?_|refine PY ?_|refine Ae ?_|refine Fe.go (by first|exact AO.q|exact ‹_›.a) ?_ ?_|refine hs ?_|refine C9 ‹_› ‹_› ?_|refine C8 ‹_› ‹_› ?_|refine Vi AC rfl ?_|refine Cx.Ee (l:=[_,_]) (Cx.push ‹_› _) (Nat.le_of_ble_eq_true rfl) ?_|refine Ac [(0,true),(1,true),(3,true),(2,false),(4,false),(5,true),(6,true)] [] GE ?_|refine Ac [(0,true),(1,true),(2,true),(3,true),(4,false),(5,false)] [] GE ?_|with_reducible refine WF ?_)<;>intros)
end
theorem Rd.Z3 {σ β:Type} {body:σ->Rd (Sum σ β)} {I:σ->Prop} {P:β->Prop} (h1:∀x s x' s',I x->(body x).run s=.inr (.inl x',s')->I x') (h2:∀x s y s',I x->(body x).run s=.inr (.inr y,s')->P y) (x:σ) (s:Af) (hx:I x):∀y s',(Rd.loop body x).run s=.inr (y,s')->P y:=by
 show ∀y s',Rd.iter body x s=.inr (y,s')->P y
 fun_induction Rd.iter body x s with
 |case1 x s e h=>intro y s' U;cases U
 |case2 x s y s1 h=>intro y s' U;cases U;exact h2 _ _ _ _ hx h
 |case3 x s x' s1 h hlt ih=>exact ih (h1 _ _ _ _ hx h)
 |case4 x s x' s1 h hlt=>intro y s' U;cases U
theorem T8 {s':Af} (h:(Mp A).run s=.inr (l,s')):l≠[]:=by
 unfold Mp at h
 obtain ⟨n,s1,_,h⟩:=Bl h
 refine Rd.Z3 (body:=WX A) (I:=λl=>l≠[]) (P:=λl=>l≠[]) (λx s x' s' U h=>?_) (λx s y s' U h=>?_) [n] s1 GT l s' h
 all_goals replace h:(if SL (Ab s).1=true then Rd.seq (Jo A) λn=>.ret (.inl (x++[n])) else .ret (.inr x):Rd (Sum (List Nd) (List Nd))).run s=.inr (_,s'):=h
 all_goals split at h
 .obtain ⟨n,s2,_,h⟩:=Bl h;cases h;simp
 .cases h
 .obtain ⟨n,s2,_,h⟩:=Bl h;cases h
 .cases h;exact U
theorem jB (h:Ba s k x=true) (U:k≠21):(Ab s).1.kind≠21:=λe=>by
 unfold Ba at h
 rw [e] at h
 simp only [Bool.and_eq_true,beq_iff_eq] at h
 exact U h.1.symm
theorem VG (U:Rd.A2 A):Rd.A2 (Jo A):=Rd.A2.look λs v s' h=>by
 split at h
 .rename_i hi
  exact Rd.A2.at (λ_ _ e=>GH e (jB hi Do)) h
 split at h
 .split at h
  .exact Rd.A2.seq (Ko Do) s v s' h
  .exact U _ _ _ h
 .exact U _ _ _ h
theorem lT (h:l≠[]):∃x,l[((0:Int)).toNat]? =some x/\l.headD FN=x:=by
 cases l with
 |nil=>exact absurd rfl h
 |cons x r=>exact ⟨x,rfl,rfl⟩
section
variable {st0 st:St} {b d:Nat} {s:Af} {rows:List (AB×List Nd)} {K:Ay->St->Prop} {A B R W F D E:Rd Nd}
attribute [local irreducible] Go.Aw.Ag
abbrev pF (l:List Nd) (own:AB):V:=.slice 6 (l.map Az) own
theorem QY (hA:Rd.A2 A) (hp:AO enc 298 (λb=>[pv b d]) (Jo A)):lF pF (λl=>l) 221 (λb=>[pv b d]) (Mp A):=by
 refine ⟨λ{st0 b s st rows K} hc h=>?_⟩
 simp only [Mp,Rd.wp_seq] at h
 have hmu:=hc.mu
 refine pB Tryz.func221 ?_
 repeat' ((conv=>whnf);(first|refine AZ ?_|refine A0 ?_ ?_|refine A1 ?_ ?_|refine SR ?_ ?_|exact FI|refine PY ?_|refine Ae ?_|refine Fe.go (by first|exact AO.q) ?_ ?_)<;>intros)
 refine Cd (λl own=>[(3,.slice 6 (l.map Az) own)]) (λ_ _=>[]) [1] [0] (λl own=>(own,l)::rows) (λl=>l.length) .full (Cx.push ‹_› _) ‹_› (by show 1+_<=_;omega) Yl ?_
 intro l s1 st1 U hc h hl hm1
 simp only [WX,Rd.Ah,Rd.Ax,Rd.wp_seq,Rd.wp_ret,Rd.Bk] at h
 repeat' ((conv=>whnf);(first|refine AZ ?_|refine A0 ?_ ?_|refine A1 ?_ ?_|refine SR ?_ ?_|exact FI|refine PY ?_|refine Ae ?_|refine kQ ‹_› ?_|refine AO.jt (hp) (VG hA) ‹_› ‹_› ?_ ?_)<;>intros)
theorem HS {item:Rd Nd} {fs:List V} {own:AB} {Q:List Nd->Af->Prop} {E:Er->Af->Prop} (hi:oL st0 b g (fs++cs) item) (hl:l.length<=90000000) (hc:Cx st0 b s st ((own,l)::rows)) (h:Rd.wp (FB item x l) s Q E)
 (k:∀l' U s' st',mu s'<=mu s->Cx st0 b s' st' ((U,l')::rows)->Q l' s'->K (.ret (.slice 6 (l'.map Az) U)) st') (kb:∀e s' st',Cy st0 b s' st' rows->E e s'->K (.BU (fault e.1)) st'):
 PC 170 [pv b d,.slice 6 (l.map Az) own,.str x,.func g fs cs] st K:=by
 replace h:=Rd.wp_mono (Q':=λl' s'=>∀U st',Cx st0 b s' st' ((U,l')::rows)->K (.ret (.slice 6 (l'.map Az) U)) st') (E':=λe s'=>∀st',Cy st0 b s' st' rows->K (.BU (fault e.1)) st') h (λv s' r q own st' c=>k v own s' st' ((FB item x l).le _ _ _ r) c q) (λe s' _ q st' c=>kb e s' st' c q)
 clear k kb
 simp only [FB,Rd.wp_seq,Rd.wp_ret] at h
 have hmu:=hc.mu
 refine pB Tryz.func170 ?_
 repeat' ((conv=>whnf);(first|refine AZ ?_|refine A0 ?_ ?_|refine A1 ?_ ?_|refine SR ?_ ?_|fail)<;>intros)
 refine Cd (x0:=(true,l)) (λ(p:Bool×List Nd) own=>[(9,.bool p.1),(1,.slice 6 (p.2.map Az) own)]) (λ_ _=>[]) [2,3,4] [0] (λp own=>(own,p.2)::rows) (λp=>p.2.length) own ‹_› ‹_› UV Yl ?_
 intro p s1 st1 own1 hc h hl hm1
 obtain ⟨f,l⟩:=p
 dsimp only at hc hl
 simp only [Rn,Rd.Ah,Rd.Ax,Rd.wp_seq,Rd.wp_ret,Rd.Bk] at h
 cases f
 all_goals simp only [Bool.false_eq_true,if_false,if_true] at h
 all_goals (repeat' ((conv=>whnf);first|(refine AZ ?_;intros)|(refine A0 ?_ ?_<;>intro e h)|(refine A1 ?_ ?_<;>intro _)|refine SR (λ_=>?_) ?_|exact ⟨⟨(false,_),_,_,_⟩,⟨hc,Rd.Dq h cb,f8,cb⟩,cb,Yl,St.le_refl _⟩|(refine L2 ?_;intro st1 hc)|(refine Qj ?_ ?_<;>intro st1 hc e h)|(refine IG ?_;intro s1 st1 hz hm hc h)|(refine Iv ?_ ?_<;>(first|intro n s1 st1 hr hm hc h|intro e s1 st1 hc h))|exact FI|(refine PY ?_;intro own1 st1 hc)|refine Ae (λe1=>?_)|refine Lb ?_|refine oL.go hi hc h (λn s1 st1 hm hc h=>?_) (λe s1 st1 hc h=>?_)))
end
theorem Zq {W:Rd Nd} {s':Af} (h:(HZ A W).run s=.inr (n,s')):n.kids≠[]:=by
 have hB:∀{l:List Nd} {s:Af},l≠[]->(KX A l).run s=.inr (n,s')->n.kids≠[]:=λ{l s} hl h=>by
  have hC:(Jv A l).run s=.inr (n,s')->n.kids≠[]:=λh=>by
   obtain ⟨a,s1,_,h⟩:=Bl h
   obtain ⟨o,s2,_,h⟩:=Bl h
   obtain ⟨r,s3,_,h⟩:=Bl h
   obtain ⟨c,s4,_,h⟩:=Bl h
   cases h;simp [Ar,Nd.kids]
  replace h:(if ((Ab s).1.kind==6)=true then Jv A l else if Ba s 15 [96]=true then Jv A l else .seq (G4 (GA (l.headD FN))) λ_=>.ret (Ar 48 l):Rd Nd).run s=.inr (n,s'):=h
  split at h
  .exact hC h
  .split at h
   .exact hC h
   .obtain ⟨a,s1,_,h⟩:=Bl h
    cases h;exact hl
 obtain ⟨l,s1,h1,h⟩:=Bl h
 have hl:=T8 h1
 split at h
 .replace h:(if Ba s1 15 [123]=true then Rd.seq AH λo=>.seq (FB (LU A W) [125] (l++[o])) λl=>.ret (Ar 48 l) else KX A l:Rd Nd).run s1=.inr (n,s'):=h
  split at h
  .obtain ⟨o,s2,_,h⟩:=Bl h
   obtain ⟨l2,s3,U,h⟩:=Bl h
   obtain ⟨l3,s4,_,U⟩:=Bl U
   obtain ⟨c,s5,_,U⟩:=Bl U
   cases U;cases h
   simp [Ar,Nd.kids]
  .exact hB hl h
 .exact hB hl h
section
variable {st0 st:St} {b d c:Nat} {s:Af} {rows:List (AB×List Nd)} {K:Ay->St->Prop} {A B R W F D E:Rd Nd}
attribute [local irreducible] Go.Aw.Ag
theorem bm (hs:AO enc 300 (λb=>[pv b d]) (LM A)) (hw:AO enc 161 (λb=>[pv b d]) W):AO enc 223 (λb=>[pv b d]) (LU A W):=by
 refine ⟨λ{st0 b s st rows K} hc h=>?_⟩
 simp only [LU,Rd.Ah,Rd.Ax,Rd.wp_seq,Rd.wp_ret] at h
 have hmu:=hc.mu
 refine pB Tryz.func223 ?_
 repeat' ((conv=>whnf);(first|refine AZ ?_|refine A0 ?_ ?_|refine A1 ?_ ?_|refine L2 ?_|refine Qj ?_ ?_|refine IG ?_|refine Iv ?_ ?_|exact FI|refine PZ ?_|refine PY ?_|refine Ae ?_|refine Fe.go (by first|exact AO.q|exact MD.a) ?_ ?_)<;>intros)
 refine Cd (λl own=>[(3,.slice 6 (l.map Az) own)]) (λ_ _=>[]) [1,2] [0,1] (λl own=>(own,l)::rows) (λl=>l.length) .full (Cx.push ‹_› _) ‹_› (by show 1+_<=_;omega) Yl ?_
 intro l s1 st1 U hc h hl hm1
 simp only [dF,Rd.Ah,Rd.Ax,Rd.wp_seq,Rd.wp_ret,Rd.Bk] at h
 repeat' ((conv=>whnf);(first|refine AZ ?_|refine A0 ?_ ?_|refine A1 ?_ ?_|refine L2 ?_|refine Qj ?_ ?_|refine IG ?_|refine Iv ?_ ?_|exact FI|refine PZ ?_|refine PY ?_|refine Ae ?_|refine Fe.go (by first|exact AO.q|exact MD.a) ?_ ?_)<;>intros)
abbrev pz (b d:Nat):V:=.FK [.ptr b 0,.int .i64 (d:Int)] 0
theorem K0:AO enc 302 (λb=>[pz b d]) (CA [2,4]):=by
 refine ⟨λ{st0 b s st rows K} hc h=>?_⟩
 refine pB Tryz.func302 ?_
 repeat' ((conv=>whnf);(first|refine AZ ?_|refine A0 ?_ ?_|refine A1 ?_ ?_|exact FI|refine Ae ?_|refine Fe.go (by first|exact AO.q|exact (DX (ks:=[2,4]) rfl).a) ?_ ?_)<;>intros)
theorem LR:AO enc 226 (λb=>[pv b d]) Jy:=by
 refine ⟨λ{st0 b s st rows K} hc h=>?_⟩
 simp only [Jy,Rd.Ah,Rd.Ax,Rd.wp_seq,Rd.wp_ret] at h
 have hmu:=hc.mu
 refine AV Ad [] Tryz.func226 rfl Do rfl ?_
 refine Aj (Ai Ad ?_)
 repeat' ((conv=>whnf);(first|exact CK|refine AZ ?_|(refine CL ?_ ?_ ?_;rotate_left)|refine A0 ?_ ?_|refine A1 ?_ ?_|with_reducible refine WF ?_)<;>intros)
 refine Aj (Ai Ad ?_)
 repeat' ((conv=>whnf);first|exact CK|(refine AZ ?_;intros)|(refine CL ?_ ?_ ?_;rotate_left)|(refine A0 ?_ ?_<;>intro e h)|(refine A1 ?_ ?_<;>intro _)|refine Gb.go hc h (λo s1 U hr hm hc h=>?_) (λe s1 U hc h=>?_)|exact BE hc h|with_reducible refine WF ?_)
 refine NB 1 0 rfl rfl rfl ?_
 refine Ai Ad ?_
 repeat' ((conv=>whnf);(first|exact CK|refine AZ ?_|(refine CL ?_ ?_ ?_;rotate_left)|refine A0 ?_ ?_|refine A1 ?_ ?_|refine L2 ?_|refine Qj ?_ ?_|refine IG ?_|refine Iv ?_ ?_|exact FI|refine PZ ?_|refine PY ?_|refine Ae ?_|refine Fe.go (by first|exact AO.q|exact K0.a) ?_ ?_|refine Lb ?_|refine HS (l:=[_,_]) (fs:=[]) (cs:=[pz b d]) K0.z (Nat.le_of_ble_eq_true rfl) ‹_› ‹_› ?_ ?_|refine Cx.Ee (l:=[_]) (Cx.push ‹_› [_]) (Nat.le_of_ble_eq_true rfl) ?_|refine Ac [(0,true),(1,true),(2,true),(3,true),(7,true),(4,false),(5,true),(6,false),(8,false),(9,false),(10,false)] [1] GE ?_|with_reducible refine WF ?_)<;>intros)
theorem ow {own:AB} (U:∀x ∈ l,CH f p x) (h:K (.ret (.bool (l.any p))) st):PC 229 [.slice 6 (l.map Az) own,.func f [] []] st K:=
 au (args':=[.slice 6 (Cp l) .any,.func f [] []]) (by rw [<-BJ];rfl) (Ix U h)
theorem kH {x:Nd}:CH 301 E9 x:=by
 intro st R h
 refine pB Tryz.func301 ?_
 repeat' ((conv=>whnf);(first|refine AZ ?_|refine A0 ?_ ?_|refine A1 ?_ ?_|fail)<;>intros)
 all_goals conv=>whnf
 all_goals (refine Ao h ?_;clear h;simp_all [E9])
theorem k8 {own:AB} {Q:Nd->Af->Prop} {E:Er->Af->Prop} (hc:Cx st0 b s st ((own,l)::rows)) (h:Rd.wp (YP l) s Q E)
 (k:∀v st',Cx st0 b s st' rows->Q v s->K (.ret (enc v)) st') (kb:∀e st',Cy st0 b s st' rows->E e s->K (.BU (fault e.1)) st'):PC 224 [pv b d,.slice 6 (l.map Az) own] st K:=by
 refine pB Tryz.func224 ?_
 unfold YP at h
 by_cases U:l.length=1
 .have hn:(l.length:Int)=1:=AC
  obtain ⟨x,rfl⟩:=List.length_eq_one_iff.1 U
  rw [if_pos U,Rd.wp_ret] at h
  have h:=k _ st hc.drop h
  repeat' ((conv=>whnf);(first|exact CK|refine AZ ?_|(refine CL ?_ ?_ ?_;rotate_left)|refine A0 ?_ ?_|refine A1 ?_ ?_|refine BP (l:=[x]) ?_|refine Vi AC rfl ?_|with_reducible refine WF ?_)<;>intros)
  all_goals exact Be rfl h
 .have hn:¬(l.length:Int)=1:=AC
  rw [if_neg U,Rd.wp_seq] at h
  simp only [Rd.wp_ret] at h
  repeat' ((conv=>whnf);first|exact CK|(refine AZ ?_;intros)|(refine CL ?_ ?_ ?_;rotate_left)|(refine A0 ?_ ?_<;>intro e h)|(refine A1 ?_ ?_<;>intro _)|refine BP (l:=l) (λ_=>?_)|refine ow (l:=l) (λx hx=>kH) ?_|refine C9 h (by simp only [show l.any E9=false by assumption,Bool.not_false]) (λh=>?_)|refine C8 h (by simp only [show l.any E9=true by assumption,Bool.not_true]) (λh=>?_)|refine JT (l:=l) ?_|exact Be rfl (k _ _ hc.drop h)|exact λe'=>⟨_,_,.inl rfl,St.le_refl _,kb _ _ hc.drop.y h⟩|refine Ac [(0,true),(1,true),(2,false),(3,true),(4,false)] [] GE ?_|with_reducible refine WF ?_)
theorem Xm (hA:Rd.A2 A) (hp:AO enc 298 (λb=>[pv b d]) (Jo A)) (hf:AO enc 223 (λb=>[pv b d]) (LU A W)):AO enc 163 (λb=>[pv b d]) (HZ A W):=by
 refine ⟨λ{st0 b s st rows K} hc h=>?_⟩
 have hmu:=hc.mu
 simp only [HZ,KX,Jv,Rd.Ah,Rd.Ax,Rd.wp_seq,Rd.wp_ret] at h
 refine AV Ad [] Tryz.func163 rfl Do rfl ?_
 refine Aj (Ai Ad ?_)
 repeat' ((conv=>whnf);(first|exact CK|refine AZ ?_|(refine CL ?_ ?_ ?_;rotate_left)|refine A0 ?_ ?_|refine A1 ?_ ?_|with_reducible refine WF ?_)<;>intros)
 refine Aj (Ai Ad ?_)
 repeat' ((conv=>whnf);first|exact CK|(refine AZ ?_;intros)|(refine CL ?_ ?_ ?_;rotate_left)|(refine A0 ?_ ?_<;>intro e h)|(refine A1 ?_ ?_<;>intro _)|refine lF.go (QY hA hp) hc h (λl own1 s1 st1 hr hm hc h=>?_) (λe s1 st1 hc h=>?_)|exact BE hc h|with_reducible refine WF ?_)
 obtain ⟨x,hx,hd⟩:=lT (T8 hr)
 rw [hd] at h
 refine Ai Ad ?_
 have e2:(l.length==1)=true↔(l.length:Int)=1:=by rw [beq_iff_eq];omega
 have hB:((l.length:Int)=1/\GA x=true/\Ba s1 15 [123]=true)\/((l.length:Int)=1/\GA x=true/\Ba s1 15 [123]=false)\/((l.length:Int)=1/\GA x=false)\/¬((l.length:Int)=1):=by
  by_cases e:(l.length:Int)=1
  .cases GA x<;>cases Ba s1 15 [123]<;>simp [e]
  .simp [e]
 have e3:¬((l.length:Int)=1)->(l.length==1)=false:=λe=>by
  cases e4:l.length==1 with
  |true=>exact absurd (e2.1 e4) e
  |false=>rfl
 rcases hB with ⟨U,em,eb⟩|hB
 .simp only [e2.2 U,em,eb,Bool.and_self,if_true] at h
  repeat' ((conv=>whnf);(first|exact CK|refine AZ ?_|(refine CL ?_ ?_ ?_;rotate_left)|refine A0 ?_ ?_|refine A1 ?_ ?_|refine L2 ?_|refine Qj ?_ ?_|refine IG ?_|refine Iv ?_ ?_|exact FI|refine PZ ?_|refine PY ?_|refine BP ?_|refine Ae ?_|refine BP (l:=l) ?_|refine Ti (es:=l.map Az) (x:=Az x) (by rw [List.getElem?_map,hx]<;>rfl) AC ?_|refine LX ?_|refine HS (l:=l++[_]) (fs:=[pv b d]) (cs:=[]) hf.z So ‹_› ‹_› ?_ ?_|refine Ac [(0,true),(1,true),(2,true),(3,true),(7,true),(8,true),(4,false),(5,true),(6,false),(9,false),(10,false),(11,false)] [1] GE ?_|refine Ac [(0,true),(1,true),(2,true),(3,true),(4,false),(5,false)] [] GE ?_|refine Ac [(0,true),(1,true),(2,true),(3,true),(4,false),(5,false),(6,true),(7,false),(8,false)] [1] GE ?_|with_reducible refine WF ?_)<;>intros)
 cases e6:((Ab s1).1.kind==6)
 all_goals cases e9:Ba s1 15 [96]
 all_goals (simp only [e6,e9,if_true,Bool.false_eq_true,if_false] at h)
 all_goals rcases hB with ⟨U,em,eb⟩|⟨U,em⟩|U
 all_goals first
  |simp only [e2.2 U,em,eb,Bool.and_self,Bool.true_and,Bool.false_eq_true,if_true,if_false] at h
  |simp only [e2.2 U,em,Bool.true_and,Bool.false_eq_true,if_false] at h
  |simp only [e3 U,Bool.false_and,Bool.false_eq_true,if_false] at h
 all_goals (repeat' ((conv=>whnf);(first|exact CK|refine AZ ?_|(refine CL ?_ ?_ ?_;rotate_left)|refine A0 ?_ ?_|refine A1 ?_ ?_|refine L2 ?_|refine Qj ?_ ?_|refine IG ?_|refine Iv ?_ ?_|exact FI|refine PZ ?_|refine PY ?_|refine BP ?_|refine Ae ?_|refine BP (l:=l) ?_|refine Ti (es:=l.map Az) (x:=Az x) (by rw [List.getElem?_map,hx]<;>rfl) AC ?_|refine LX ?_|refine k8 ‹_› ‹_› ?_ ?_|refine Fe.go (by first|exact AO.q|exact gG.a) ?_ ?_|refine lF.go (QY hA hp) ‹_› ‹_› ?_ ?_|refine C9 ‹_› ‹_› ?_|refine C8 ‹_› ‹_› ?_|refine C9 ‹_› rfl ?_|refine C8 ‹_› rfl ?_|refine Ac [(0,true),(1,true),(2,true),(3,true),(7,true),(8,true),(4,false),(5,true),(6,false),(9,false),(10,false),(11,false)] [1] GE ?_|refine Ac [(0,true),(1,true),(2,true),(3,true),(4,false),(5,false)] [] GE ?_|refine Ac [(0,true),(1,true),(2,true),(3,true),(4,false),(5,false),(6,true),(7,false),(8,false)] [1] GE ?_|with_reducible refine WF ?_)<;>intros))
end
def PB (n:Nd):Nat->Bool
 |0=>D6 n
 |k+1=>(n.kids.drop (k+1)).all (Du · [1])
theorem Sy {k:Nat}:PB n (k+1)=(n.kids.drop (k+1)).all (Du · [1]):=rfl
theorem EX {x:Nd} {K:Int->Prop} (h:l.length<=90000000) (k:K (((l++[x]).length:Int) - 1)):∃r,r=IntKind.i64.wrap (((l++[x]).length:Int) - 1)/\K r:=
 Wq (by rw [List.length_append];show _<=((l.length+1:Nat):Int) - 1;omega) (by rw [List.length_append];show ((l.length+1:Nat):Int) - 1<=_;omega) k
theorem jx {R:Rd Nd} {p:List Nd×Nd} {s':Af} (h:(J7 R [n]).run s=.inr (p,s')):p.1.length<=90000000:=Nat.le_trans (HE h) (Nat.le_of_ble_eq_true rfl)
theorem dP {R:Rd Nd} {p:List Nd×Nd} {s':Af} {x y z:Nd} (h:(J7 R [n]).run s=.inr (p,s')):(p.1++[x]++[y]++[z]).length<=900000000:=by
 have U:p.1.length<=3:=HE h
 rw [List.length_append,List.length_append,List.length_append]
 show p.1.length+1+1+1<=_
 omega
theorem Tc {k:Nat} {x:Nd} (h:l[k]? =some x):l.drop k=x::l.drop (k+1):=by
 obtain ⟨U,h2⟩:=List.getElem?_eq_some_iff.1 h
 rw [<-h2,List.drop_eq_getElem_cons U]
section
variable {st0 st:St} {b d c:Nat} {s:Af} {rows:List (AB×List Nd)} {K:Ay->St->Prop} {A B R W F D E:Rd Nd}
attribute [local irreducible] Go.Aw.Ag
theorem MC {st:St} (h:K (.ret (.bool (D6 n))) st):PC 160 [enc n] st K:=by
 refine pB Tryz.func160 ?_
 by_cases hk:n.kind=39
 .skip
  repeat' ((conv=>whnf);(first|refine AZ ?_|refine A0 ?_ ?_|refine A1 ?_ ?_|fail)<;>intros)
  refine Mj 14 [12,13] n.kids.length (λk=>k<=n.kids.length/\D6 n=PB n k) ⟨Nat.zero_le _,rfl⟩ Yl ?_
  rintro k ⟨hk1,hi⟩
  by_cases hlt:k<n.kids.length
  .obtain ⟨x,hx⟩:∃x,n.kids[(k:Int).toNat]? =some x:=⟨_,List.getElem?_eq_getElem hlt⟩
   have hdr:=Tc (show n.kids[k]? =some x from hx)
   by_cases h0:k=0
   .subst h0
    have hz:((0:Nat):Int)=0:=rfl
    have e:D6 n=(Du x [2]&&PB n 1):=by
     unfold D6 PB
     rw [hk,beq_self_eq_true,if_pos rfl]
     cases hkk:n.kids with
     |nil=>rw [hkk] at hx;cases hx
     |cons y r=>rw [hkk] at hx;cases hx;simp
    cases hb:Du x [2] with
    |true=>
     have U:∀{st:St} {K:Ay->St->Prop} {own:AB},K (.ret (.bool true)) st->PC 166 [enc x,.slice 1 [[.int .i64 2]] own] st K:=λh=>Dy (ks:=[2]) (by rw [hb];exact h)
     repeat' ((conv=>whnf);first|(refine AZ ?_;intros)|(refine A0 ?_ ?_<;>intro e h)|(refine A1 ?_ ?_<;>intro _)|refine U ?_)
     all_goals conv=>whnf
     all_goals exact ⟨1,⟨hlt,by rw [e,hb,Bool.true_and]⟩,Nat.sub_lt_sub_left hlt (Nat.lt_succ_self 0),Yl,St.le_refl _⟩
    |false=>
     have U:∀{st:St} {K:Ay->St->Prop} {own:AB},K (.ret (.bool false)) st->PC 166 [enc x,.slice 1 [[.int .i64 2]] own] st K:=λh=>Dy (ks:=[2]) (by rw [hb];exact h)
     rw [e,hb,Bool.false_and] at h
     repeat' ((conv=>whnf);first|(refine AZ ?_;intros)|(refine A0 ?_ ?_<;>intro e h)|(refine A1 ?_ ?_<;>intro _)|refine U ?_)
     all_goals exact Be rfl h
   .have e:PB n k=(Du x [1]&&PB n (k+1)):=by
     obtain ⟨j,rfl⟩:∃j,k=j+1:=⟨k - 1,AC⟩
     rw [Sy,Sy,hdr,List.all_cons]
    have hpos:(k:Int)>0:=AC
    cases hb:Du x [1] with
    |true=>
     have U:∀{st:St} {K:Ay->St->Prop} {own:AB},K (.ret (.bool true)) st->PC 166 [enc x,.slice 1 [[.int .i64 1]] own] st K:=λh=>Dy (ks:=[1]) (by rw [hb];exact h)
     repeat' ((conv=>whnf);first|(refine AZ ?_;intros)|(refine A0 ?_ ?_<;>intro e h)|(refine A1 ?_ ?_<;>intro _)|refine U ?_)
     all_goals conv=>whnf
     all_goals exact ⟨k+1,⟨hlt,by rw [hi,e,hb,Bool.true_and]⟩,Nat.sub_lt_sub_left hlt (Nat.lt_succ_self k),Yl,St.le_refl _⟩
    |false=>
     have U:∀{st:St} {K:Ay->St->Prop} {own:AB},K (.ret (.bool false)) st->PC 166 [enc x,.slice 1 [[.int .i64 1]] own] st K:=λh=>Dy (ks:=[1]) (by rw [hb];exact h)
     rw [hi,e,hb,Bool.false_and] at h
     repeat' ((conv=>whnf);first|(refine AZ ?_;intros)|(refine A0 ?_ ?_<;>intro e h)|(refine A1 ?_ ?_<;>intro _)|refine U ?_)
     all_goals exact Be rfl h
  .have hk2:k=n.kids.length:=AC
   have h1:D6 n=true:=by
    rw [hi]
    cases k with
    |zero=>
     have h2:n.kids=[]:=List.length_eq_zero_iff.1 hk2.symm
     unfold PB D6
     rw [hk,h2];rfl
    |succ k=>rw [Sy,List.drop_eq_nil_of_le AC];rfl
   rw [h1] at h
   repeat' ((conv=>whnf);first|(refine AZ ?_;intros)|(refine A0 ?_ ?_<;>intro e h)|(refine A1 ?_ ?_<;>intro _)|fail)
   all_goals exact Be rfl h
 .have e:D6 n=Du n [2]:=by
   unfold D6
   rw [if_neg (by rw [beq_iff_eq];exact hk)]
  rw [e] at h
  repeat' ((conv=>whnf);first|(refine AZ ?_;intros)|(refine A0 ?_ ?_<;>intro e h)|(refine A1 ?_ ?_<;>intro _)|refine Dy (ks:=[2]) ?_)
  all_goals conv=>whnf
  all_goals (refine Ao h ?_;clear h;simp_all)
theorem gq (hc1:AO enc 163 (λb=>[pv b d]) (HZ A W)) (hr1:AO enc 158 (λb=>[pv b d]) R):AO enc 88 (λb=>[pv b d]) (XR A R W):=by
 refine ⟨λ{st0 b s st rows K} hc h=>?_⟩
 simp only [XR,Rd.wp_seq] at h
 have hmu:=hc.mu
 refine pB Tryz.func88 ?_
 repeat' ((conv=>whnf);first|exact CK|(refine AZ ?_;intros)|(refine CL ?_ ?_ ?_;rotate_left)|(refine A0 ?_ ?_<;>intro e h)|(refine A1 ?_ ?_<;>intro _)|(refine L2 ?_;intro U hc)|(refine Qj ?_ ?_<;>intro U hc e h)|(refine IG ?_;intro s1 U hz hm hc h)|(refine Iv ?_ ?_<;>(first|intro n s1 U hr hm hc h|intro e s1 U hc h))|exact FI|(refine PY ?_;intro own1 U hc)|refine BP (λ_=>?_)|refine Ae (λe1=>?_)|refine mA.go (l:=[_]) (LV hr1) (Nat.le_of_ble_eq_true rfl) (hc.push _) h (λl x own1 s1 U hh hm hc h=>?_) (λe s1 U hc h=>?_)|refine DI ?_|refine EX (jx hh) ?_|refine MC ?_|refine C9 h ‹_› (λh=>?_)|refine C8 h ‹_› (λh=>?_)|refine Ac [(0,true),(1,true),(2,true),(3,false),(4,true),(5,false),(6,true)] [] GE ?_|refine Ac [(0,true),(1,true),(2,true),(3,true),(4,true),(5,true),(6,true),(7,false),(8,false)] [] GE ?_|with_reducible refine WF ?_)
 have hl2:l.length<=3:=HE hh
 refine Cd (x0:=([61],l++[x])) (λ(p:List UInt8×List Nd) own=>[(4,.str p.1),(3,.slice 6 (p.2.map Az) own)]) (λ_ _=>[]) [1,2] [0,1] (λp own=>(own,p.2)::rows) (λp=>p.2.length) _ ‹_› ‹_› (by dsimp only;simp only [List.length_append,List.length_cons,List.length_nil];omega) Yl ?_
 intro p s1 U own1 hc h hl hm1
 obtain ⟨x,l⟩:=p
 dsimp only at hc hl
 simp only [lN,Rd.Ah,Rd.Ax,Rd.wp_seq,Rd.wp_ret,Rd.Bk] at h
 repeat' ((conv=>whnf);first|exact CK|(refine AZ ?_;intros)|(refine CL ?_ ?_ ?_;rotate_left)|(refine A0 ?_ ?_<;>intro e h)|(refine A1 ?_ ?_<;>intro _)|exact ⟨⟨(_,_),_,_,_⟩,⟨hc,Rd.Dq h cb,f8,cb⟩,cb,Yl,St.le_refl _⟩|(refine L2 ?_;intro U hc)|(refine Qj ?_ ?_<;>intro U hc e h)|(refine IG ?_;intro s1 U hz hm hc h)|(refine Iv ?_ ?_<;>(first|intro n s1 U hr hm hc h|intro e s1 U hc h))|exact FI|(refine PY ?_;intro own1 U hc)|refine BP (λ_=>?_)|refine Ae (λe1=>?_)|refine AO.go hc1 hc h (λn s1 U hr hm hc h=>?_) (λe s1 U hc h=>?_)|refine U9.go (l:=l) (Nf LR) AC hc h (λn s1 U hr hm hc h=>?_) (λe s1 U hc h=>?_)|with_reducible refine WF ?_)
theorem ns (h:n.kids≠[]):∃x,n.kids[((0:Int)).toNat]? =some x/\n.kids.headD FN=x:=lT h
theorem bq {st:St} (hn:n.kids≠[]) (h:K (.ret (.bool (R9 n))) st):PC 165 [enc n] st K:=by
 refine pB Tryz.func165 ?_
 obtain ⟨x,hx,hd⟩:=ns hn
 unfold R9 at h
 rw [hd] at h
 cases hm:GA x with
 |false=>
  rw [hm,if_neg Do] at h
  have U:∀{st:St} {K:Ay->St->Prop},K (.ret (.bool false)) st->PC 222 [enc x] st K:=λh=>LX (by rw [hm];exact h)
  repeat' ((conv=>whnf);first|(refine AZ ?_;intros)|(refine A0 ?_ ?_<;>intro e h)|(refine A1 ?_ ?_<;>intro _)|refine U ?_)
  all_goals exact Be rfl h
 |true=>
  rw [hm,if_pos rfl] at h
  have U:∀{st:St} {K:Ay->St->Prop},K (.ret (.bool true)) st->PC 222 [enc x] st K:=λh=>LX (by rw [hm];exact h)
  by_cases h2:n.kids.length=2
  .obtain ⟨y,hy⟩:∃y,n.kids[((1:Int)).toNat]? =some y:=⟨_,List.getElem?_eq_getElem (show 1<n.kids.length by omega)⟩
   have hy2:n.kids[1]? =some y:=hy
   rw [if_pos h2,hy2] at h
   repeat' ((conv=>whnf);first|(refine AZ ?_;intros)|(refine A0 ?_ ?_<;>intro e h)|(refine A1 ?_ ?_<;>intro _)|refine U ?_)
   all_goals conv=>whnf
   all_goals (refine Ao h ?_;clear h;simp_all [E9])
  .by_cases h4:n.kids.length=4
   .obtain ⟨y,hy⟩:∃y,n.kids[((2:Int)).toNat]? =some y:=⟨_,List.getElem?_eq_getElem (show 2<n.kids.length by omega)⟩
    have hy2:n.kids[2]? =some y:=hy
    rw [if_neg h2,hy2] at h
    by_cases hk:y.kind=13
    .by_cases h3:y.kids.length=3
     .obtain ⟨z,hz⟩:∃z,y.kids[((2:Int)).toNat]? =some z:=⟨_,List.getElem?_eq_getElem (show 2<y.kids.length by omega)⟩
      have hz2:y.kids[2]? =some z:=hz
      repeat' ((conv=>whnf);first|(refine AZ ?_;intros)|(refine A0 ?_ ?_<;>intro e h)|(refine A1 ?_ ?_<;>intro _)|refine U ?_)
      all_goals conv=>whnf
      all_goals (refine Ao h ?_;clear h;simp_all [E9])
     .skip
      repeat' ((conv=>whnf);first|(refine AZ ?_;intros)|(refine A0 ?_ ?_<;>intro e h)|(refine A1 ?_ ?_<;>intro _)|refine U ?_)
      all_goals conv=>whnf
      all_goals (refine Ao h ?_;clear h;simp_all [E9])
    .skip
     repeat' ((conv=>whnf);first|(refine AZ ?_;intros)|(refine A0 ?_ ?_<;>intro e h)|(refine A1 ?_ ?_<;>intro _)|refine U ?_)
     all_goals conv=>whnf
     all_goals (refine Ao h ?_;clear h;simp_all [E9])
   .rw [if_neg h2,if_neg (λe=>h4 e.1)] at h
    repeat' ((conv=>whnf);first|(refine AZ ?_;intros)|(refine A0 ?_ ?_<;>intro e h)|(refine A1 ?_ ?_<;>intro _)|refine U ?_)
    all_goals exact Be rfl h
theorem UK (hc1:AO enc 163 (λb=>[pv b d]) (HZ A W)) (hr1:AO enc 158 (λb=>[pv b d]) R):AO enc 89 (λb=>[pv b d]) (Lq A R W):=by
 refine ⟨λ{st0 b s st rows K} hc h=>?_⟩
 simp only [Lq,Rd.wp_seq] at h
 have hmu:=hc.mu
 refine AV Ad [] Tryz.func89 rfl Do rfl ?_
 refine Aj (Ai Ad ?_)
 repeat' ((conv=>whnf);(first|exact CK|refine AZ ?_|(refine CL ?_ ?_ ?_;rotate_left)|refine A0 ?_ ?_|refine A1 ?_ ?_|with_reducible refine WF ?_)<;>intros)
 refine Aj (Ai Ad ?_)
 repeat' ((conv=>whnf);first|exact CK|(refine AZ ?_;intros)|(refine CL ?_ ?_ ?_;rotate_left)|(refine A0 ?_ ?_<;>intro e h)|(refine A1 ?_ ?_<;>intro _)|(refine IG ?_;intro s1 U hz hm hc h)|(refine Iv ?_ ?_<;>(first|intro n s1 U hr hm hc h|intro e s1 U hc h))|exact FI|(refine PY ?_;intro own1 U hc)|refine BP (λ_=>?_)|refine Ae (λe1=>?_)|refine mA.go (l:=[_]) (LV hr1) (Nat.le_of_ble_eq_true rfl) (hc.push _) h (λl x own1 s1 U hh hm hc h=>?_) (λe s1 U hc h=>?_)|exact BE hc h|refine Ac [(0,true),(1,true),(2,true),(3,false),(4,true),(5,false),(6,true)] [] GE ?_|refine Ac [(0,true),(1,true),(2,true),(3,true),(4,true),(5,true),(6,true),(7,false),(8,false)] [] GE ?_|refine Ac [(0,true),(1,true),(2,true),(3,true),(4,true),(5,true),(6,true),(7,false),(8,false)] [] GE ?_|with_reducible refine WF ?_)
 have hl2:l.length<=3:=HE hh
 refine Ai Ad ?_
 repeat' ((conv=>whnf);first|exact CK|(refine AZ ?_;intros)|(refine CL ?_ ?_ ?_;rotate_left)|(refine A0 ?_ ?_<;>intro e h)|(refine A1 ?_ ?_<;>intro _)|(refine IG ?_;intro s1 U hz hm hc h)|(refine Iv ?_ ?_<;>(first|intro n s1 U hr hm hc h|intro e s1 U hc h))|exact FI|(refine PY ?_;intro own1 U hc)|refine BP (λ_=>?_)|refine Ae (λe1=>?_)|refine DI ?_|refine EX f9 ?_|refine MC ?_|refine AO.go hc1 hc h (λn s1 U hr hm hc h=>?_) (λe s1 U hc h=>?_)|refine bq (Zq hr) ?_|refine C9 h ‹_› (λh=>?_)|refine C8 h ‹_› (λh=>?_)|refine U9.go (Nf LR) (dP hh) hc h (λn s1 U hr hm hc h=>?_) (λe s1 U hc h=>?_)|refine Ac [(0,true),(1,true),(2,true),(3,false),(4,true),(5,false),(6,true)] [] GE ?_|refine Ac [(0,true),(1,true),(2,true),(3,true),(4,true),(5,true),(6,true),(7,false),(8,false)] [] GE ?_|refine Ac [(0,true),(1,true),(2,true),(3,true),(4,true),(5,true),(6,true),(7,false),(8,false)] [] GE ?_|with_reducible refine WF ?_)
abbrev oZ (g:FuncId):V:=.FK [.func g [] []] 0
theorem iB {x:Nd} {st:St} (U:∀{n:Nd} {st:St} {K:Ay->St->Prop},K (.ret (.bool (p n))) st->PC g [enc n] st K) (h:K (.ret (.bool (!p x))) st):PC 230 [enc x,oZ g] st K:=by
 refine pB Tryz.func230 ?_
 repeat' ((conv=>whnf);first|(refine AZ ?_;intros)|(refine A0 ?_ ?_<;>intro e h)|(refine A1 ?_ ?_<;>intro _)|refine U ?_)
 all_goals conv=>whnf
 all_goals (refine Ao h ?_;clear h;simp_all)
theorem nu {st:St} (U:∀x st (K:Ay->St->Prop),K (.ret (.bool (p x))) st->PC f [enc x,oZ g] st K) (h:K (.ret (.int .i64 (Cq p l 0))) st):PC 304 [.slice 6 (Cp l) .any,.func f [] [oZ g]] st K:=by
 refine pB Tryz.func304 ?_
 repeat' ((conv=>whnf);(first|refine AZ ?_|refine A0 ?_ ?_|refine A1 ?_ ?_|fail)<;>intros)
 refine Mj 8 [6,7,0,1] l.length (λk=>k<=l.length/\(Cq p l 0=Cq p (l.drop k) k)) ⟨Nat.zero_le _,rfl⟩ Yl ?_
 rintro k ⟨hk,hi⟩
 repeat' ((conv=>whnf);first|(refine AZ ?_;intros)|(refine A0 ?_ ?_<;>intro e h)|(refine A1 ?_ ?_<;>intro _)|refine U _ _ _ ?_)
 all_goals conv=>whnf
 all_goals try (have e:=Tc ‹l[Int.toNat k]? =some _›;rw [Int.toNat_natCast] at e;rw [e,Cq] at hi;clear e)
 all_goals first
  |(refine ⟨k+1,⟨AC,?_⟩,AC,Yl,St.le_refl _⟩;clear h;simp_all)
  |(refine fin h ?_;clear h;simp_all;done)
  |(refine fin h ?_;rw [hi,List.drop_eq_nil_of_le AC];rfl)
theorem mG {st:St} (hf:∀x st (K:Ay->St->Prop),K (.ret (.bool (p x))) st->PC f [enc x,oZ g] st K) (h:K (.ret (.bool (l.any p))) st):PC 229 [.slice 6 (Cp l) .any,.func f [] [oZ g]] st K:=by
 refine pB Tryz.func229 ?_
 refine nu hf ?_
 have key:=Gy (p:=p) (l:=l) (i:=0) AC
 refine Wh (λU=>?_) (λU=>?_)
 .exact Ao h (key.1 U)
 .refine Ao h ?_
  simp_all
theorem XD:(!l.any λx=> !p x)=l.all p:=by
 rw [List.all_eq_not_any_not]
theorem mE (h:(l.any λx=> !p x)=true):l.all p=false:=by rw [<-XD,h];rfl
theorem ic (h:(l.any λx=> !p x)=false):l.all p=true:=by rw [<-XD,h];rfl
theorem Gd (hg:∀{n:Nd} {st:St} {K:Ay->St->Prop},K (.ret (.bool (p n))) st->PC g [enc n] st K) (hd1:AO enc 84 (λb=>[.ptr b 0,.func 228 [] [],.int .i64 ((d:Int) - 1)]) D) (hd0:d<=100):
 U9 167 (λb v=>[pv b d,.int .i64 k,v,.func g [] []]) (λl=>XJ D k l p):=by
 refine ⟨λ{st0 b s st rows K own l} hl hc h=>?_⟩
 simp only [XJ,Rd.Ah,Rd.Ax,Rd.wp_seq,Rd.wp_ret] at h
 refine AV Ad [] Tryz.func167 rfl Do rfl ?_
 refine Aj (Ai Ad ?_)
 repeat' ((conv=>whnf);(first|exact CK|refine AZ ?_|(refine CL ?_ ?_ ?_;rotate_left)|refine A0 ?_ ?_|refine A1 ?_ ?_|with_reducible refine WF ?_)<;>intros)
 refine NB 7 1 rfl rfl rfl ?_
 refine Ai Ad ?_
 repeat' ((conv=>whnf);first|exact CK|(refine AZ ?_;intros)|(refine CL ?_ ?_ ?_;rotate_left)|(refine A0 ?_ ?_<;>intro e h)|(refine A1 ?_ ?_<;>intro _)|(refine L2 ?_;intro U hc)|(refine Qj ?_ ?_<;>intro U hc e h)|(refine IG ?_;intro s1 U hz hm hc h)|(refine Iv ?_ ?_<;>(first|intro n s1 U hr hm hc h|intro e s1 U hc h))|exact FI|refine PZ ?_|(refine PY ?_;intro own1 U hc)|refine Ae (λe1=>?_)|refine Wq (a:=(d:Int) - 1) AC AC ?_|refine AO.go hd1 hc h (λn s1 U hr hm hc h=>?_) (λe s1 U hc h=>?_)|refine mG (p:=λx=> !p x) (λx st K h=>iB hg h) ?_|refine C9 h (ic ‹_›) (λh=>?_)|refine C8 h (mE ‹_›) (λh=>?_)|refine Ac [(0,true),(1,true),(2,true),(3,true),(4,false),(5,true),(6,false)] [] GE ?_|with_reducible refine WF ?_)
theorem IW {st:St} (h:K (.ret (.bool true)) st):PC 168 [enc n] st K:=by
 refine pB Tryz.func168 ?_
 repeat' ((conv=>whnf);(first|refine AZ ?_|refine A0 ?_ ?_|refine A1 ?_ ?_|fail)<;>intros)
 all_goals exact Be rfl h
theorem G2 {st:St} (h:K (.ret (.bool (n.kind==36))) st):PC 169 [enc n] st K:=by
 refine pB Tryz.func169 ?_
 repeat' ((conv=>whnf);(first|refine AZ ?_|refine A0 ?_ ?_|refine A1 ?_ ?_|fail)<;>intros)
 all_goals conv=>whnf
 all_goals (refine Ao h ?_;clear h;simp_all)
theorem aZ (hr1:AO enc 158 (λb=>[pv b d]) R) (hd1:AO enc 84 (λb=>[.ptr b 0,.func 228 [] [],.int .i64 ((d:Int) - 1)]) D) (hd0:d<=100):AO enc 90 (λb=>[pv b d]) (Rl R D):=by
 refine ⟨λ{st0 b s st rows K} hc h=>?_⟩
 simp only [Rl,Rd.wp_seq] at h
 have hmu:=hc.mu
 refine AV Ad [] Tryz.func90 rfl Do rfl ?_
 refine Aj (Ai Ad ?_)
 repeat' ((conv=>whnf);(first|exact CK|refine AZ ?_|(refine CL ?_ ?_ ?_;rotate_left)|refine A0 ?_ ?_|refine A1 ?_ ?_|with_reducible refine WF ?_)<;>intros)
 refine Aj (Ai Ad ?_)
 repeat' ((conv=>whnf);first|exact CK|(refine AZ ?_;intros)|(refine CL ?_ ?_ ?_;rotate_left)|(refine A0 ?_ ?_<;>intro e h)|(refine A1 ?_ ?_<;>intro _)|(refine IG ?_;intro s1 U hz hm hc h)|(refine Iv ?_ ?_<;>(first|intro n s1 U hr hm hc h|intro e s1 U hc h))|exact FI|refine BP (λ_=>?_)|refine Ae (λe1=>?_)|refine mA.go (l:=[_]) (LV hr1) (Nat.le_of_ble_eq_true rfl) (hc.push _) h (λl x own1 s1 U hh hm hc h=>?_) (λe s1 U hc h=>?_)|exact BE hc h|refine Ac [(0,true),(1,true),(2,true),(3,false),(4,true),(5,false),(6,true)] [] GE ?_|refine Ac [(0,true),(1,true),(2,true),(3,true),(4,true),(5,true),(6,true),(7,true),(8,true),(9,true),(10,true),(11,true),(12,true),(13,true),(14,true),(15,true),(16,false),(17,true),(18,true),(19,true),(20,true),(21,true),(22,true),(23,true),(24,false),(25,true),(26,false)] [] GE ?_|with_reducible refine WF ?_)
 have hl2:l.length<=3:=HE hh
 refine Ai Ad ?_
 by_cases hk:x.kind=39
 .by_cases h2:(x.kids.length:Int)=2
  .have h2':x.kids.length=2:=AC
   obtain ⟨y0,hx0⟩:∃y,x.kids[((0:Int)).toNat]? =some y:=⟨_,List.getElem?_eq_getElem (show 0<x.kids.length by omega)⟩
   obtain ⟨y1,hx1⟩:∃y,x.kids[((1:Int)).toNat]? =some y:=⟨_,List.getElem?_eq_getElem (show 1<x.kids.length by omega)⟩
   have hy0:x.kids[0]? =some y0:=hx0
   have hy1:x.kids[1]? =some y1:=hx1
   have hN:He x=(Du y0 [2]&&Du y1 [1]):=by unfold He;rw [hk,h2',hy0,hy1];rfl
   cases i0:Du y0 [2]
   .have hcl:He x=false:=by rw [hN,i0];rfl
    repeat' ((conv=>whnf);first|exact CK|(refine AZ ?_;intros)|(refine CL ?_ ?_ ?_;rotate_left)|(refine A0 ?_ ?_<;>intro e h)|(refine A1 ?_ ?_<;>intro _)|(refine IG ?_;intro s1 U hz hm hc h)|(refine Iv ?_ ?_<;>(first|intro n s1 U hr hm hc h|intro e s1 U hc h))|exact FI|refine BP (λ_=>?_)|refine Ae (λe1=>?_)|refine DI ?_|refine EX AC ?_|refine Wm hx0 AC ?_|refine Wm hx1 AC ?_|refine Dy (ks:=[2]) ?_|refine Dy (ks:=[1]) ?_|refine C9 h hcl (λh=>?_)|refine C8 h hcl (λh=>?_)|refine U9.go (l:=l++[x]) (Gd (d:=d) (λh=>IW h) hd1 hd0) (by rw [List.length_append]<;>exact Nat.le_trans (Nat.add_le_add_right hl2 _) (Nat.le_of_ble_eq_true rfl)) hc h (λn s1 U hr hm hc h=>?_) (λe s1 U hc h=>?_)|refine Ac [(0,true),(1,true),(2,true),(3,false),(4,true),(5,false),(6,true)] [] GE ?_|refine Ac [(0,true),(1,true),(2,true),(3,true),(4,true),(5,true),(6,true),(7,true),(8,true),(9,true),(10,true),(11,true),(12,true),(13,true),(14,true),(15,true),(16,false),(17,true),(18,true),(19,true),(20,true),(21,true),(22,true),(23,true),(24,false),(25,true),(26,false)] [] GE ?_|with_reducible refine WF ?_)
   cases i1:Du y1 [1]
   .have hcl:He x=false:=by rw [hN,i0,i1];rfl
    repeat' ((conv=>whnf);first|exact CK|(refine AZ ?_;intros)|(refine CL ?_ ?_ ?_;rotate_left)|(refine A0 ?_ ?_<;>intro e h)|(refine A1 ?_ ?_<;>intro _)|(refine IG ?_;intro s1 U hz hm hc h)|(refine Iv ?_ ?_<;>(first|intro n s1 U hr hm hc h|intro e s1 U hc h))|exact FI|refine BP (λ_=>?_)|refine Ae (λe1=>?_)|refine DI ?_|refine EX AC ?_|refine Wm hx0 AC ?_|refine Wm hx1 AC ?_|refine Dy (ks:=[2]) ?_|refine Dy (ks:=[1]) ?_|refine C9 h hcl (λh=>?_)|refine C8 h hcl (λh=>?_)|refine U9.go (l:=l++[x]) (Gd (d:=d) (λh=>IW h) hd1 hd0) (by rw [List.length_append]<;>exact Nat.le_trans (Nat.add_le_add_right hl2 _) (Nat.le_of_ble_eq_true rfl)) hc h (λn s1 U hr hm hc h=>?_) (λe s1 U hc h=>?_)|refine Ac [(0,true),(1,true),(2,true),(3,false),(4,true),(5,false),(6,true)] [] GE ?_|refine Ac [(0,true),(1,true),(2,true),(3,true),(4,true),(5,true),(6,true),(7,true),(8,true),(9,true),(10,true),(11,true),(12,true),(13,true),(14,true),(15,true),(16,false),(17,true),(18,true),(19,true),(20,true),(21,true),(22,true),(23,true),(24,false),(25,true),(26,false)] [] GE ?_|with_reducible refine WF ?_)
   .have hcl:He x=true:=by rw [hN,i0,i1];rfl
    repeat' ((conv=>whnf);first|exact CK|(refine AZ ?_;intros)|(refine CL ?_ ?_ ?_;rotate_left)|(refine A0 ?_ ?_<;>intro e h)|(refine A1 ?_ ?_<;>intro _)|(refine IG ?_;intro s1 U hz hm hc h)|(refine Iv ?_ ?_<;>(first|intro n s1 U hr hm hc h|intro e s1 U hc h))|exact FI|refine BP (λ_=>?_)|refine Ae (λe1=>?_)|refine DI ?_|refine EX AC ?_|refine Wm hx0 AC ?_|refine Wm hx1 AC ?_|refine Dy (ks:=[2]) ?_|refine Dy (ks:=[1]) ?_|refine C9 h hcl (λh=>?_)|refine C8 h hcl (λh=>?_)|refine U9.go (l:=l++[x]) (Gd (d:=d) (λh=>IW h) hd1 hd0) (by rw [List.length_append]<;>exact Nat.le_trans (Nat.add_le_add_right hl2 _) (Nat.le_of_ble_eq_true rfl)) hc h (λn s1 U hr hm hc h=>?_) (λe s1 U hc h=>?_)|refine Ac [(0,true),(1,true),(2,true),(3,false),(4,true),(5,false),(6,true)] [] GE ?_|refine Ac [(0,true),(1,true),(2,true),(3,true),(4,true),(5,true),(6,true),(7,true),(8,true),(9,true),(10,true),(11,true),(12,true),(13,true),(14,true),(15,true),(16,false),(17,true),(18,true),(19,true),(20,true),(21,true),(22,true),(23,true),(24,false),(25,true),(26,false)] [] GE ?_|with_reducible refine WF ?_)
  .have hcl:He x=false:=by unfold He;rw [show (x.kids.length==2)=false by cases e:x.kids.length==2 with|true=>exact absurd (by rw [beq_iff_eq] at e;omega) h2|false=>rfl];simp
   repeat' ((conv=>whnf);first|exact CK|(refine AZ ?_;intros)|(refine CL ?_ ?_ ?_;rotate_left)|(refine A0 ?_ ?_<;>intro e h)|(refine A1 ?_ ?_<;>intro _)|(refine IG ?_;intro s1 U hz hm hc h)|(refine Iv ?_ ?_<;>(first|intro n s1 U hr hm hc h|intro e s1 U hc h))|exact FI|refine BP (λ_=>?_)|refine Ae (λe1=>?_)|refine DI ?_|refine EX AC ?_|refine Dy (ks:=[2]) ?_|refine Dy (ks:=[1]) ?_|refine C9 h hcl (λh=>?_)|refine C8 h hcl (λh=>?_)|refine U9.go (l:=l++[x]) (Gd (d:=d) (λh=>IW h) hd1 hd0) (by rw [List.length_append]<;>exact Nat.le_trans (Nat.add_le_add_right hl2 _) (Nat.le_of_ble_eq_true rfl)) hc h (λn s1 U hr hm hc h=>?_) (λe s1 U hc h=>?_)|refine Ac [(0,true),(1,true),(2,true),(3,false),(4,true),(5,false),(6,true)] [] GE ?_|refine Ac [(0,true),(1,true),(2,true),(3,true),(4,true),(5,true),(6,true),(7,true),(8,true),(9,true),(10,true),(11,true),(12,true),(13,true),(14,true),(15,true),(16,false),(17,true),(18,true),(19,true),(20,true),(21,true),(22,true),(23,true),(24,false),(25,true),(26,false)] [] GE ?_|with_reducible refine WF ?_)
 .have hcl:He x=false:=by unfold He;rw [show (x.kind==39)=false by cases e:x.kind==39 with|true=>exact absurd (by simpa using e) hk|false=>rfl];rfl
  repeat' ((conv=>whnf);first|exact CK|(refine AZ ?_;intros)|(refine CL ?_ ?_ ?_;rotate_left)|(refine A0 ?_ ?_<;>intro e h)|(refine A1 ?_ ?_<;>intro _)|(refine IG ?_;intro s1 U hz hm hc h)|(refine Iv ?_ ?_<;>(first|intro n s1 U hr hm hc h|intro e s1 U hc h))|exact FI|refine BP (λ_=>?_)|refine Ae (λe1=>?_)|refine DI ?_|refine EX AC ?_|refine Dy (ks:=[2]) ?_|refine Dy (ks:=[1]) ?_|refine C9 h hcl (λh=>?_)|refine C8 h hcl (λh=>?_)|refine U9.go (l:=l++[x]) (Gd (d:=d) (λh=>IW h) hd1 hd0) (by rw [List.length_append]<;>exact Nat.le_trans (Nat.add_le_add_right hl2 _) (Nat.le_of_ble_eq_true rfl)) hc h (λn s1 U hr hm hc h=>?_) (λe s1 U hc h=>?_)|refine Ac [(0,true),(1,true),(2,true),(3,false),(4,true),(5,false),(6,true)] [] GE ?_|refine Ac [(0,true),(1,true),(2,true),(3,true),(4,true),(5,true),(6,true),(7,true),(8,true),(9,true),(10,true),(11,true),(12,true),(13,true),(14,true),(15,true),(16,false),(17,true),(18,true),(19,true),(20,true),(21,true),(22,true),(23,true),(24,false),(25,true),(26,false)] [] GE ?_|with_reducible refine WF ?_)
theorem SJ (hr1:AO enc 158 (λb=>[pv b d]) R) (hd1:AO enc 84 (λb=>[.ptr b 0,.func 228 [] [],.int .i64 ((d:Int) - 1)]) D) (hd0:d<=100):AO enc 91 (λb=>[pv b d]) (JF R D):=by
 refine ⟨λ{st0 b s st rows K} hc h=>?_⟩
 simp only [JF,Rd.wp_seq] at h
 have hmu:=hc.mu
 refine AV Ad [] Tryz.func91 rfl Do rfl ?_
 refine Aj (Ai Ad ?_)
 repeat' ((conv=>whnf);(first|exact CK|refine AZ ?_|(refine CL ?_ ?_ ?_;rotate_left)|refine A0 ?_ ?_|refine A1 ?_ ?_|with_reducible refine WF ?_)<;>intros)
 refine Aj (Ai Ad ?_)
 repeat' ((conv=>whnf);first|exact CK|(refine AZ ?_;intros)|(refine CL ?_ ?_ ?_;rotate_left)|(refine A0 ?_ ?_<;>intro e h)|(refine A1 ?_ ?_<;>intro _)|(refine IG ?_;intro s1 U hz hm hc h)|(refine Iv ?_ ?_<;>(first|intro n s1 U hr hm hc h|intro e s1 U hc h))|exact FI|refine BP (λ_=>?_)|refine Ae (λe1=>?_)|refine mA.go (l:=[_]) (LV hr1) (Nat.le_of_ble_eq_true rfl) (hc.push _) h (λl x own1 s1 U hh hm hc h=>?_) (λe s1 U hc h=>?_)|exact BE hc h|refine Ac [(0,true),(1,true),(2,true),(3,false),(4,true),(5,false),(6,true)] [] GE ?_|refine Ac [(0,true),(1,true),(2,true),(3,true),(4,true),(5,true),(6,true),(7,true),(8,true),(9,true),(10,true),(11,true),(12,true),(13,true),(14,true),(15,true),(16,false),(17,true),(18,false)] [] GE ?_|with_reducible refine WF ?_)
 have hl2:l.length<=3:=HE hh
 refine Ai Ad ?_
 by_cases hk:x.kind=39
 .by_cases h2:(x.kids.length:Int)=2
  .have h2':x.kids.length=2:=AC
   obtain ⟨y0,hx0⟩:∃y,x.kids[((0:Int)).toNat]? =some y:=⟨_,List.getElem?_eq_getElem (show 0<x.kids.length by omega)⟩
   obtain ⟨y1,hx1⟩:∃y,x.kids[((1:Int)).toNat]? =some y:=⟨_,List.getElem?_eq_getElem (show 1<x.kids.length by omega)⟩
   have hy0:x.kids[0]? =some y0:=hx0
   have hy1:x.kids[1]? =some y1:=hx1
   have hN:Lg x=Du y0 [2,4]:=by unfold Lg;rw [hk,h2',hy0];rfl
   cases i0:Du y0 [2,4]
   .have hcl:Lg x=false:=by rw [hN,i0]
    repeat' ((conv=>whnf);first|exact CK|(refine AZ ?_;intros)|(refine CL ?_ ?_ ?_;rotate_left)|(refine A0 ?_ ?_<;>intro e h)|(refine A1 ?_ ?_<;>intro _)|(refine IG ?_;intro s1 U hz hm hc h)|(refine Iv ?_ ?_<;>(first|intro n s1 U hr hm hc h|intro e s1 U hc h))|exact FI|refine BP (λ_=>?_)|refine Ae (λe1=>?_)|refine DI ?_|refine EX AC ?_|refine Wm hx0 AC ?_|refine Wm hx1 AC ?_|refine Dy (ks:=[2,4]) ?_|refine Dy (ks:=[1]) ?_|refine C9 h hcl (λh=>?_)|refine C8 h hcl (λh=>?_)|refine U9.go (l:=l++[x]) (Gd (d:=d) (λh=>G2 h) hd1 hd0) (by rw [List.length_append]<;>exact Nat.le_trans (Nat.add_le_add_right hl2 _) (Nat.le_of_ble_eq_true rfl)) hc h (λn s1 U hr hm hc h=>?_) (λe s1 U hc h=>?_)|refine Ac [(0,true),(1,true),(2,true),(3,false),(4,true),(5,false),(6,true)] [] GE ?_|refine Ac [(0,true),(1,true),(2,true),(3,true),(4,true),(5,true),(6,true),(7,true),(8,true),(9,true),(10,true),(11,true),(12,true),(13,true),(14,true),(15,true),(16,false),(17,true),(18,false)] [] GE ?_|with_reducible refine WF ?_)
   .have hcl:Lg x=true:=by rw [hN,i0]
    repeat' ((conv=>whnf);first|exact CK|(refine AZ ?_;intros)|(refine CL ?_ ?_ ?_;rotate_left)|(refine A0 ?_ ?_<;>intro e h)|(refine A1 ?_ ?_<;>intro _)|(refine IG ?_;intro s1 U hz hm hc h)|(refine Iv ?_ ?_<;>(first|intro n s1 U hr hm hc h|intro e s1 U hc h))|exact FI|refine BP (λ_=>?_)|refine Ae (λe1=>?_)|refine DI ?_|refine EX AC ?_|refine Wm hx0 AC ?_|refine Wm hx1 AC ?_|refine Dy (ks:=[2,4]) ?_|refine Dy (ks:=[1]) ?_|refine C9 h hcl (λh=>?_)|refine C8 h hcl (λh=>?_)|refine U9.go (l:=l++[x]) (Gd (d:=d) (λh=>G2 h) hd1 hd0) (by rw [List.length_append]<;>exact Nat.le_trans (Nat.add_le_add_right hl2 _) (Nat.le_of_ble_eq_true rfl)) hc h (λn s1 U hr hm hc h=>?_) (λe s1 U hc h=>?_)|refine Ac [(0,true),(1,true),(2,true),(3,false),(4,true),(5,false),(6,true)] [] GE ?_|refine Ac [(0,true),(1,true),(2,true),(3,true),(4,true),(5,true),(6,true),(7,true),(8,true),(9,true),(10,true),(11,true),(12,true),(13,true),(14,true),(15,true),(16,false),(17,true),(18,false)] [] GE ?_|with_reducible refine WF ?_)
  .have hcl:Lg x=false:=by unfold Lg;rw [show (x.kids.length==2)=false by cases e:x.kids.length==2 with|true=>exact absurd (by rw [beq_iff_eq] at e;omega) h2|false=>rfl];simp
   repeat' ((conv=>whnf);first|exact CK|(refine AZ ?_;intros)|(refine CL ?_ ?_ ?_;rotate_left)|(refine A0 ?_ ?_<;>intro e h)|(refine A1 ?_ ?_<;>intro _)|(refine IG ?_;intro s1 U hz hm hc h)|(refine Iv ?_ ?_<;>(first|intro n s1 U hr hm hc h|intro e s1 U hc h))|exact FI|refine BP (λ_=>?_)|refine Ae (λe1=>?_)|refine DI ?_|refine EX AC ?_|refine Dy (ks:=[2,4]) ?_|refine Dy (ks:=[1]) ?_|refine C9 h hcl (λh=>?_)|refine C8 h hcl (λh=>?_)|refine U9.go (l:=l++[x]) (Gd (d:=d) (λh=>G2 h) hd1 hd0) (by rw [List.length_append]<;>exact Nat.le_trans (Nat.add_le_add_right hl2 _) (Nat.le_of_ble_eq_true rfl)) hc h (λn s1 U hr hm hc h=>?_) (λe s1 U hc h=>?_)|refine Ac [(0,true),(1,true),(2,true),(3,false),(4,true),(5,false),(6,true)] [] GE ?_|refine Ac [(0,true),(1,true),(2,true),(3,true),(4,true),(5,true),(6,true),(7,true),(8,true),(9,true),(10,true),(11,true),(12,true),(13,true),(14,true),(15,true),(16,false),(17,true),(18,false)] [] GE ?_|with_reducible refine WF ?_)
 .have hcl:Lg x=false:=by unfold Lg;rw [show (x.kind==39)=false by cases e:x.kind==39 with|true=>exact absurd (by simpa using e) hk|false=>rfl];rfl
  repeat' ((conv=>whnf);first|exact CK|(refine AZ ?_;intros)|(refine CL ?_ ?_ ?_;rotate_left)|(refine A0 ?_ ?_<;>intro e h)|(refine A1 ?_ ?_<;>intro _)|(refine IG ?_;intro s1 U hz hm hc h)|(refine Iv ?_ ?_<;>(first|intro n s1 U hr hm hc h|intro e s1 U hc h))|exact FI|refine BP (λ_=>?_)|refine Ae (λe1=>?_)|refine DI ?_|refine EX AC ?_|refine Dy (ks:=[2,4]) ?_|refine Dy (ks:=[1]) ?_|refine C9 h hcl (λh=>?_)|refine C8 h hcl (λh=>?_)|refine U9.go (l:=l++[x]) (Gd (d:=d) (λh=>G2 h) hd1 hd0) (by rw [List.length_append]<;>exact Nat.le_trans (Nat.add_le_add_right hl2 _) (Nat.le_of_ble_eq_true rfl)) hc h (λn s1 U hr hm hc h=>?_) (λe s1 U hc h=>?_)|refine Ac [(0,true),(1,true),(2,true),(3,false),(4,true),(5,false),(6,true)] [] GE ?_|refine Ac [(0,true),(1,true),(2,true),(3,true),(4,true),(5,true),(6,true),(7,true),(8,true),(9,true),(10,true),(11,true),(12,true),(13,true),(14,true),(15,true),(16,false),(17,true),(18,false)] [] GE ?_|with_reducible refine WF ?_)
end
theorem jY {a b:Bool} {Q:Prop}:(if (if a=true then true else b)=true then P else Q)=if a=true then P else if b=true then P else Q:=by cases a<;>cases b<;>simp
section
variable {st0 st:St} {b d:Nat} {s:Af} {rows:List (AB×List Nd)} {K:Ay->St->Prop} {A B R W F D E:Rd Nd}
attribute [local irreducible] Go.Aw.Ag
theorem gk {k':Int} {x':List UInt8} {Q:Nd->Af->Prop} {E:Er->Af->Prop} (hc:Cx st0 b s st rows) (h:if Ba (Ab s).2.1 k' x'=true then P else AH.wp s Q E) (e:Ba s k x=true) (U:k≠0/\k≠21) (kk:∀st',mu (Ab s).2.1<mu s->Cx st0 b (Ab s).2.1 st' rows->K (.ret (enc (Bp (Ab s).1))) st'):PC 121 [.ptr b 0] st K:=
 KD hc.has hc.hb (λ_ st' hu=>kk st' (DM e U.1 U.2) (hc.MG hu (Nat.le_of_lt (DM e U.1 U.2)))) (λn=>absurd (FX e U.1) n)
theorem dM {s0:Af} (hc:Cx st0 b s st rows) (U:mu (Ab s0).2.1<mu s0) (hb:mu s0<=100000000) (k:∀st',Cx st0 b s0 st' rows->K (.ret (.Bq [])) st'):PC 72 [.ptr b 0,.agg s0.cells] st K:=FD hc hb k
theorem pJ {U:Int} {y:List UInt8} {Q:Nd->Af->Prop} {E:Er->Af->Prop} (hc:Cx st0 b (Ab s).2.1 st rows) (h:if Ba (Ab s).2.1 k x=true then P else AH.wp s Q E) (e:Ba s U y=true) (hk:U≠0)
 (k1:∀st',Cx st0 b (Ab s).2.1 st' rows->P->K (.ret (.bool true)) st') (U:∀st',Cx st0 b (Ab s).2.1 st' rows->Q (Bp (Ab s).1) (Ab s).2.1->K (.ret (.bool false)) st'):PC 156 [.ptr b 0,.int .i64 k,.str x] st K:=by
 refine dS hc h (λst' c _ p=>k1 st' c p) (λst' c _ q=>U st' c ?_)
 unfold Rd.wp at q
 rw [DS (FX e hk)] at q
 exact q
theorem o8 {p:Prop} (e:Ba s 1 x=true) (k:(Ab s).1.kind=14):p:=by
 unfold Ba at e
 rw [k] at e
 cases e
theorem gz:AO enc 120 (λb=>[pv b d,.bool o]) (MW o):=by
 refine ⟨λ{st0 b s st rows K} hc h=>?_⟩
 have hmu:=hc.mu
 refine pB Tryz.func120 ?_
 cases o
 all_goals simp only [MW,TU,TT,Bool.false_eq_true,if_false,if_true,Rd.Ah,Rd.Ax,Rd.wp_seq,Rd.wp_ret] at h
 .skip
  repeat' ((conv=>whnf);first|refine Gj h (λe h=>?_) (λe h=>?_)|exact CK|(refine AZ ?_;intros)|(refine CL ?_ ?_ ?_;rotate_left)|(refine A0 ?_ ?_<;>intro e h)|(refine A1 ?_ ?_<;>intro _)|(refine L2 ?_;intro U hc)|(refine Qj ?_ ?_<;>intro U hc e h)|(refine IG ?_;intro s1 U hz hm hc h)|(refine Iv ?_ ?_<;>(first|intro n s1 U hr hm hc h|intro e s1 U hc h))|exact FI|refine PZ ?_|(refine PY ?_;intro own1 U hc)|refine Ae (λe1=>?_)|refine Cx.mI (l:=[1]) (new:=[3]) hc (Nat.le_of_ble_eq_true rfl) (λown1 U hc=>?_)|refine Cx.mI (l:=[2]) (new:=[4]) hc (Nat.le_of_ble_eq_true rfl) (λown1 U hc=>?_)|refine Cx.mI (l:=[5,6]) (new:=[7,8]) hc (Nat.le_of_ble_eq_true rfl) (λown1 U hc=>?_)|refine AO.go (DX (ks:=Kt false) rfl) hc h (λn s1 U hr hm hc h=>?_) (λe s1 U hc h=>?_)|refine AO.go (DX (ks:=PD false) rfl) hc h (λn s1 U hr hm hc h=>?_) (λe s1 U hc h=>?_)|refine AO.go (GJ (ks:=aS false) rfl) hc h (λn s1 U hr hm hc h=>?_) (λe s1 U hc h=>?_)|refine Cx.Ee (l:=[_]) (hc.push [_]) (Nat.le_of_ble_eq_true rfl) (λown1 U hc=>?_)|refine Cx.mH (l:=[_,_]) hc (Nat.le_of_ble_eq_true rfl) (λown1 U hc=>?_)|refine HS (l:=[_,_]) (fs:=[pv b d]) (cs:=[]) PT.z (Nat.le_of_ble_eq_true rfl) hc h (λl own1 s1 U hm hc h=>?_) (λe s1 U hc h=>?_)|refine Ac [(0,true),(1,true),(3,true),(4,true),(5,true),(2,false),(6,false),(7,true),(8,false),(9,false)] [1] GE ?_|refine Ac [(0,true),(1,true),(2,true),(4,true),(5,true),(3,false),(6,false),(7,true),(8,false),(9,false),(10,false)] [1] GE ?_|with_reducible refine WF ?_)
 .skip
  repeat' ((conv=>whnf);first|refine Gj h (λe h=>?_) (λe h=>?_)|exact CK|(refine AZ ?_;intros)|(refine CL ?_ ?_ ?_;rotate_left)|(refine A0 ?_ ?_<;>intro e h)|(refine A1 ?_ ?_<;>intro _)|(refine L2 ?_;intro U hc)|(refine Qj ?_ ?_<;>intro U hc e h)|(refine IG ?_;intro s1 U hz hm hc h)|(refine Iv ?_ ?_<;>(first|intro n s1 U hr hm hc h|intro e s1 U hc h))|exact FI|refine PZ ?_|(refine PY ?_;intro own1 U hc)|refine Ae (λe1=>?_)|refine AO.go (DX (ks:=Kt true) rfl) hc h (λn s1 U hr hm hc h=>?_) (λe s1 U hc h=>?_)|refine AO.go (DX (ks:=PD true) rfl) hc h (λn s1 U hr hm hc h=>?_) (λe s1 U hc h=>?_)|refine AO.go (GJ (ks:=aS true) rfl) hc h (λn s1 U hr hm hc h=>?_) (λe s1 U hc h=>?_)|refine Cx.Ee (l:=[_]) (hc.push [_]) (Nat.le_of_ble_eq_true rfl) (λown1 U hc=>?_)|refine Cx.mH (l:=[_,_]) hc (Nat.le_of_ble_eq_true rfl) (λown1 U hc=>?_)|refine HS (l:=[_,_]) (fs:=[pv b d]) (cs:=[]) PT.z (Nat.le_of_ble_eq_true rfl) hc h (λl own1 s1 U hm hc h=>?_) (λe s1 U hc h=>?_)|refine Ac [(0,true),(1,true),(3,true),(4,true),(5,true),(2,false),(6,false),(7,true),(8,false),(9,false)] [1] GE ?_|refine Ac [(0,true),(1,true),(2,true),(4,true),(5,true),(3,false),(6,false),(7,true),(8,false),(9,false),(10,false)] [1] GE ?_|with_reducible refine WF ?_)
theorem QW:AO enc 49 (λb=>[pv b d,.bool o]) (Hp o):=by
 refine ⟨λ{st0 b s st rows K} hc h=>?_⟩
 simp only [Hp,Rd.wp_seq,Rd.wp_ret] at h
 have hmu:=hc.mu
 refine pB Tryz.func49 ?_
 repeat' ((conv=>whnf);(first|refine AZ ?_|refine A0 ?_ ?_|refine A1 ?_ ?_|refine L2 ?_|refine Qj ?_ ?_|refine IG ?_|refine Iv ?_ ?_|exact FI|refine PZ ?_|refine PY ?_|refine Ae ?_)<;>intros)
 refine Cd (λl own=>[(5,.slice 6 (l.map Az) own)]) (λ_ _=>[]) [1,2,4] [0,1] (λl own=>(own,l)::rows) (λl=>l.length) .full (Cx.push ‹_› _) ‹_› (by show 1+_<=_;omega) Yl ?_
 intro l s1 st1 U hc h hl hm1
 simp only [Kw,Vt,Rd.Ah,Rd.Ax,Rd.wp_seq,Rd.wp_ret,Rd.Bk] at h
 repeat' ((conv=>whnf);(first|refine AZ ?_|refine A0 ?_ ?_|refine A1 ?_ ?_|refine L2 ?_|refine Qj ?_ ?_|refine IG ?_|refine Iv ?_ ?_|exact FI|refine PZ ?_|refine PY ?_|refine Ae ?_|refine Fe.go (by first|exact AO.q|exact (gz (o:=o)).a) ?_ ?_)<;>intros)
theorem UJ:AO enc 86 (λb=>[pv b d]) Le:=by
 refine ⟨λ{st0 b s st rows K} hc h=>?_⟩
 simp only [Le,RR,RT,RU,Rd.Ah,Rd.Ax,Rd.wp_seq,Rd.wp_ret] at h
 have U:=hc.mu
 refine pB Tryz.func86 ?_
 repeat' ((conv=>whnf);(first|refine AZ ?_|refine A0 ?_ ?_|refine A1 ?_ ?_|refine L2 ?_|refine Qj ?_ ?_|refine IG ?_|refine Iv ?_ ?_|exact FI|refine PZ ?_|refine PY ?_|refine Ae ?_|refine Fe.go (by first|exact AO.q|exact (DX (ks:=[2,4]) rfl).a|exact (QW (o:=true)).a) ?_ ?_|refine Cx.Ee (l:=[_]) (Cx.push ‹_› [_]) (Nat.le_of_ble_eq_true rfl) ?_)<;>intros)
theorem UI (hf:AO enc 173 (λb=>[pv b d]) F):AO enc 93 (λb=>[pv b d]) (Ld F):=by
 refine ⟨λ{st0 b s st rows K} hc h=>?_⟩
 simp only [Ld,OX,Tu,Lc,OY,Rd.Ah,Rd.Ax,Rd.wp_seq,Rd.wp_ret,jY] at h
 have U:=hc.mu
 refine pB Tryz.func93 ?_
 repeat' ((conv=>whnf);(first|exact o8 ‹_› ‹_›|refine pJ ‹_› ‹_› ‹_› Do ?_ ?_|refine gk ‹_› ‹_› ‹_› Do ?_|refine AZ ?_|refine A0 ?_ ?_|refine A1 ?_ ?_|refine L2 ?_|refine Qj ?_ ?_|refine IG ?_|refine Iv ?_ ?_|refine qL ?_|exact FI|refine PZ ?_|refine PY ?_|refine Ae ?_|refine Fe.go (by first|exact AO.q|exact (DX (ks:=[1]) rfl).a|exact MD.a) ?_ ?_|refine Oj (Cx.has ‹_›) ?_ ?_|refine dM ‹_› ‹_› AC ?_|refine Cx.Ee (l:=[_]) (Cx.push ‹_› [_]) (Nat.le_of_ble_eq_true rfl) ?_)<;>intros)
theorem SH (hw:AO enc 161 (λb=>[pv b d]) W):AO enc 92 (λb=>[pv b d]) (Jx W):=by
 refine ⟨λ{st0 b s st rows K} hc h=>?_⟩
 simp only [Jx,Rd.wp_seq,Rd.wp_ret] at h
 have hmu:=hc.mu
 refine pB Tryz.func92 ?_
 repeat' ((conv=>whnf);first|exact CK|(refine AZ ?_;intros)|(refine CL ?_ ?_ ?_;rotate_left)|(refine A0 ?_ ?_<;>intro e h)|(refine A1 ?_ ?_<;>intro _)|(refine IG ?_;intro s1 U hz hm hc h)|(refine Iv ?_ ?_<;>(first|intro n s1 U hr hm hc h|intro e s1 U hc h))|exact FI|refine PZ ?_|refine Ae (λe1=>?_)|refine HS (l:=[_,_]) (fs:=[pv b d]) (cs:=[]) hw.z (Nat.le_of_ble_eq_true rfl) (hc.push _) h (λl own1 s1 U hm hc h=>?_) (λe s1 U hc h=>?_)|refine Ac [(0,true),(1,true),(3,true),(4,true),(2,false),(5,false),(6,true),(7,true)] [] GE ?_|with_reducible refine WF ?_)
end
theorem Cx.mb {st:St} {c:Nat} {cs':List V} (h:Cx (st0.Aa c cs) b s st rows) (U:c≠b):Cx (st0.Aa c cs') b s (st.Aa c cs') rows:=by
 obtain ⟨c0,hr⟩:=h.rx
 refine ⟨?_,⟨c0,?_⟩,h.mu⟩
 .rcases h.has with e|⟨q1,q2,q3,q4,q5,e⟩
  .exact .inl (by rw [St.As U];exact e)
  .exact .inr ⟨q1,q2,q3,q4,q5,by rw [St.As U];exact e⟩
 .rw [PQ U] at hr |-
  exact hr.Aa
section
variable {st0 st:St} {b d c:Nat} {s:Af} {rows:List (AB×List Nd)} {K R:Ay->St->Prop} {A B C D E F:Rd Nd}
attribute [local irreducible] Go.Aw.Ag
theorem lf (h1:AO enc 86 (λb=>[pv b d]) Le) (h2:AO enc 87 (λb=>[pv b d]) (LN B C)) (h3:AO enc 88 (λb=>[pv b d]) (XR A B C)) (h4:AO enc 89 (λb=>[pv b d]) (Lq A B C))
 (h5:AO enc 90 (λb=>[pv b d]) (Rl B F)) (h6:AO enc 91 (λb=>[pv b d]) (JF B F)) (h7:AO enc 92 (λb=>[pv b d]) (Jx C)) (h8:AO enc 93 (λb=>[pv b d]) (Ld D))
 (he:AO enc 84 (λb=>[.ptr b 0,.func 85 [] [],.int .i64 (d:Int)]) E):AO enc 40 (λb=>[pv b d]) (Qe A B C D E F):=by
 refine ⟨λ{st0 b s st rows K} hc h=>?_⟩
 simp only [Qe,Rd.Ah,Rd.Ax] at h
 have U:=hc.mu
 refine pB Tryz.func40 ?_
 repeat' ((conv=>whnf);(first|refine AZ ?_|refine A0 ?_ ?_|refine A1 ?_ ?_|refine L2 ?_|exact FI|refine Ae ?_|refine Fe.go (by first|exact AO.q) ?_ ?_)<;>intros)
theorem cv {c2:Nat} {Q:Nd->Af->Prop} {E:Er->Af->Prop} (ht:AO enc 40 (λb=>[pv b d]) A) (hF:Rd.A2 A) (f2:st0.box c2=none/\c2≠b)
 (hc:Cx (st0.Aa c2 [.bool (l.any λx=> !(x.kind==50))]) b s st rows) (h:Rd.wp (SK A l) s Q E)
 (k:∀n s1 U,mu s1<mu s->Cx (st0.Aa c2 [.bool ((l++[n]).any λx=> !(x.kind==50))]) b s1 U rows->Q n s1->K (.ret (enc n)) U)
 (kb:∀e s1 U,Cy st0 b s1 U rows->E e s1->K (.BU (fault e.1)) U):PC 71 [pz b d,.ptr c2 0] st K:=by
 simp only [SK,Rd.Ah,Rd.wp_seq,Rd.Ax,Rd.wp_ret,Rd.Gm] at h
 simp only [List.any_append,List.any_cons,List.any_nil,Bool.or_false] at k
 have hmu:=hc.mu
 generalize (l.any λx=> !(x.kind==50))=o at hc h k
 refine AV Ad [] Tryz.func71 rfl Do rfl ?_
 refine Aj (Ai Ad ?_)
 repeat' ((conv=>whnf);(first|refine AZ ?_|refine A0 ?_ ?_|refine A1 ?_ ?_|fail)<;>intros)
 refine Aj (Ai Ad ?_)
 repeat' ((conv=>whnf);first|(refine AZ ?_;intros)|(refine A0 ?_ ?_<;>intro e h)|(refine A1 ?_ ?_<;>intro _)|refine B6 ?_|exact FI|refine Ae (λe1=>?_)|refine Oj hc.has ?_ (λt u o1 o2 e=>?_))
 all_goals refine Aj (Ai Ad ?_)
 all_goals (repeat' ((conv=>whnf);first|(refine AZ ?_;intros)|(refine A0 ?_ ?_<;>intro e h)|(refine A1 ?_ ?_<;>intro _)|refine B6 ?_|exact FI|refine Ae (λe1=>?_)|refine AO.jt ht hF hc h (λn s1 U hr hm hc h=>?_) (λe s1 U hc h=>?_)|exact ⟨_,_,.inl rfl,St.le_refl _,kb _ _ _ (hc.unbox f2) h⟩|fail))
 all_goals cases hk:n.kind==50
 all_goals cases o
 all_goals simp only [hk,Bool.and_false,Bool.and_true,Bool.false_and,Bool.true_and,Bool.false_eq_true,if_false,if_true] at h
 all_goals have hk2:=hk
 all_goals simp only [beq_iff_eq,beq_eq_false_iff_ne] at hk2
 all_goals refine Ai Ad ?_
 all_goals (repeat' ((conv=>whnf);first|(refine AZ ?_;intros)|(refine A0 ?_ ?_<;>intro e h)|(refine A1 ?_ ?_<;>intro _)|refine At (Cx.boxed hc f2) ?_|refine FD hc hmu (λU hc=>?_)|refine B6 ?_|exact Be rfl (k _ _ _ hm (by rw [hk]<;>exact Cx.mb hc f2.2) h)|exact Be rfl (k _ _ _ hm (by exact Cx.mb hc f2.2) h)|exact ⟨_,_,.inl rfl,St.le_refl _,kb _ _ _ (hc.y.unbox f2) h⟩|fail))
theorem VF {X:Af->Rs} {hle:∀s v s',X s=.inr (v,s')->mu s'<=mu s} (h:∀s v s',X s=.inr (v,s')->mu s'<mu s):Rd.A2 (Jg X hle):=λs v s' e=>h s v s' (by
 unfold Jg at e
 dsimp only at e
 split at e
 .split at e<;>cases e
 .rename_i U;rw [U];injection e with e;rw [e])
theorem pQ {hle:∀s v s',Dw A s=.inr (v,s')->mu s'<=mu s} {Q:Nd->Af->Prop} {E:Er->Af->Prop} (h:Rd.wp A s Q E):Rd.wp (Jg (Dw A) hle) s Q E:=by
 have e:(Jg (Dw A) hle).run s=A.run s:=by
  unfold Jg Dw
  dsimp only
  cases U:A.run s with
  |inl p=>simp only [U];rw [dif_neg p.1.2]
  |inr p=>simp only [U]
 unfold Rd.wp at h |-
 rw [e];exact h
theorem lU (hf:CZ g (d:Int) (Dw A)) (h0:d=0->∀s,Dw A s=.inl (2,s)):AO enc 84 (λb=>[.ptr b 0,.func g [] [],.int .i64 (d:Int)]) A:=
 ⟨λ{st0 b s st rows K} hc h=>(Lh (A:=Dw A) (hle:=λs v s' e=>by
   unfold Dw at e
   split at e
   .cases e
   .rename_i p hp;cases e;exact A.le _ _ _ hp) (λs e s' U=>by
   unfold Dw at U
   split at U
   .rename_i p hp;cases U;exact p.1.2
   .cases U) hf h0).ap hc (pQ h)⟩
theorem ZT (U:1<=d) (h1:d<=100):AO enc 84 (λb=>[.ptr b 0,.func 85 [] [],.int .i64 (d:Int)]) (S8 d):=
 lU (λs hm st R h=>lC (deep:=(d:Int)) hm (by rw [Qt U h1];exact h)) (λe=>by omega)
theorem VQ (U:d<=100):AO enc 84 (λb=>[.ptr b 0,.func 228 [] [],.int .i64 (d:Int)]) (Vw d):=
 lU (λs hm st R h=>gS (deep:=(d:Int)) hm (by
  cases d with
  |zero=>exact h
  |succ d=>rw [Qt (Nat.succ_le_succ (Nat.zero_le d)) U];exact h)) (λe=>by subst e;intro s;rfl)
theorem kV (h0:1<=d) (U:d<=100):AO enc 40 (λb=>[pv b d]) (oA d):=by
 have ha:=gn h0 U
 have hr:=kY h0 U
 have hw:=bw h0 U
 have hA:Rd.A2 (Ht d):=VF λs v s' e=>BT (BB _) _ _ _ e
 have hc:=Xm hA (gH ha) (bm (PV ha) hw)
 have hd:AO enc 84 (λb=>[.ptr b 0,.func 228 [] [],.int .i64 ((d:Int) - 1)]) (Vw (d - 1)):=by
  have:=VQ (d:=d - 1) AC
  rwa [show (((d - 1:Nat)):Int)=(d:Int) - 1 by omega] at this
 exact lf UJ (UQ hr hw MC) (gq hc hr) (UK hc hr) (aZ hr hd U) (SJ hr hd U) (SH hw) (UI (gw h0 U)) (ZT h0 U)
theorem aY (ht:AO enc 40 (λb=>[pv b d]) A) (hF:Rd.A2 A):AO enc 28 (λb=>[pv b d]) (Gc A):=by
 refine ⟨λ{st0 b s st rows K} hc h=>?_⟩
 refine AV Ad [] Tryz.func28 rfl Do rfl ?_
 refine Aj (Ai Ad ?_)
 repeat' ((conv=>whnf);(first|refine AZ ?_|refine A0 ?_ ?_|refine A1 ?_ ?_|fail)<;>intros)
 refine NB 1 0 rfl rfl rfl ?_
 refine Aj (Ai Ad ?_)
 repeat' ((conv=>whnf);(first|refine AZ ?_|refine A0 ?_ ?_|refine A1 ?_ ?_|fail)<;>intros)
 refine Kh 3 2 rfl rfl rfl (λc fc=>?_)
 have U:=hc.RO fc
 have hc:=hc.Sp (cs:=[.bool false]) fc
 have hB:∀{K:Ay->St->Prop},Rd.wp (Gc A) s (λn s'=>∀(l:List Nd) st',Cx (st0.Aa c [.bool (l.any λx=> !(x.kind==50))]) b s' st' rows->K (.ret (enc n)) st') (λe s'=>∀st',Cy st0 b s' st' rows->K (.BU (fault e.1)) st')->PC 69 [.ptr b 0,.func 70 [] [],.func 71 [] [pz b d,.ptr c 0]] (st.Aa c [.bool false]) K:=λh=>
  Qq (fs:=[]) (cs:=[pz b d,.ptr c 0]) (starts:=YX) (base:=λl=>st0.Aa c [.bool (l.any λx=> !(x.kind==50))]) (item:=SK A) (λk=>bu k)
   (λl s st rows K Q E hc h k kb=>cv ht hF U hc h k kb) (λhc=>hc.unbox U) hc h
 refine Ai Ad ?_
 repeat' ((conv=>whnf);first|(refine AZ ?_;intros)|(refine A0 ?_ ?_<;>intro e h)|(refine A1 ?_ ?_<;>intro _)|refine hB (Rd.wp_mono h (λv s' r q l st' hk=>?_) (λe s' r q st' hk=>?_))|exact CI (hk.unbox U) q rfl|exact CI (hk.unbox U) q BK|exact BE hk q|fail)
theorem Xl (U:1<=d) (h1:d<=100):AO enc 28 (λb=>[pv b d]) (EB d):=aY (kV U h1) (VH d)
end
section
variable {st0 st:St} {b d c:Nat} {s:Af} {K R:Ay->St->Prop}
theorem kZ (hA:AO enc g (λb=>[pv b d]++cs) A) (hx:st.box c=some [.func g [] cs]) (hs:Has st b s) (hm:mu s<=100000000) (ht:El st b K (Dw A s)):PC 68 [.ptr b 0,.int .i64 (d:Int),.ptr c 0] st K:=by
 have U:∀{K:Ay->St->Prop},El st b K (Dw A s)->PC g ([pv b d]++cs) st K:=λh=>UG hA hs hm h
 refine pB Tryz.func68 ?_
 unfold Dw at *
 cases hr:A.run s with
 |inl p=>
  rw [hr] at ht U
  repeat' ((conv=>whnf);first|(refine AZ ?_;intros)|(refine A0 ?_ ?_<;>intro e h)|(refine A1 ?_ ?_<;>intro _)|refine At hx ?_|refine Bb.2 ?_|refine U (λst1 hu=>?_))
  all_goals exact ⟨_,_,.inl rfl,St.le_refl _,ht _ hu⟩
 |inr p=>
  rw [hr] at ht U
  repeat' ((conv=>whnf);first|(refine AZ ?_;intros)|(refine A0 ?_ ?_<;>intro e h)|(refine A1 ?_ ?_<;>intro _)|refine At hx ?_|refine Bb.2 ?_|refine U (λst1 hu=>?_))
  all_goals exact Be rfl (ht _ hu)
theorem gJ {deep:Int} {A:Nat->Rd Nd} (hA:∀d:Nat,1<=d->d<=100->AO enc g (λb=>[pv b d]++cs) (A d)) (hm:mu s<=100000000) (h:K (.ret (K4 (Ce s deep (Dw (A (DC deep)) s)))) st):
 PC 27 [Bn s,.int .i64 deep,.func g [] cs] st K:=by
 refine AV Ad [] Tryz.func27 rfl Do rfl ?_
 refine Aj (Ai Ad ?_)
 repeat' ((conv=>whnf);(first|refine AZ ?_|refine A0 ?_ ?_|refine A1 ?_ ?_|fail)<;>intros)
 refine Kh 5 1 rfl rfl rfl (λc fc=>?_)
 refine Ai Ad ?_
 have hq:¬deep<1->∀(b:Nat) (U:St) (R:Ay->St->Prop),(st.Aa c [.func g [] cs]).le U->Has U b s->El U b R (Dw (A (DC deep)) s)->PC 68 [.ptr b 0,.int .i64 (if 100<deep then 100 else deep),.ptr c 0] U R:=λhd b U R hle hs ht=>by
  have e:(if 100<deep then 100 else deep)=((DC deep:Nat):Int):=by unfold DC;split<;>omega
  rw [e]
  exact kZ (hA _ (by unfold DC;split<;>omega) (by unfold DC;split<;>omega)) (hle.1 _ _ (St.Al ..)) hs hm ht
 obtain ⟨n,s',e,hq3⟩:∃n s' e,Ce s deep (Dw (A (DC deep)) s)=(n,s',e):=⟨_,_,_,rfl⟩
 rw [hq3] at h
 have hcat:∀{K:Ay->St->Prop},K (.ret (Qv n s' e)) (st.Aa c [.func g [] cs])->PC 67 [Bn s,.int .i64 deep,.func 68 [] [.ptr c 0]] (st.Aa c [.func g [] cs]) K:=λk=>XM (s:=s) (q:=Dw (A (DC deep)) s) hq (by rw [hq3];exact k)
 repeat' ((conv=>whnf);(first|refine AZ ?_|refine A0 ?_ ?_|refine A1 ?_ ?_|refine hcat ?_)<;>intros)
 all_goals exact DH (St.Aq (St.le_refl _) fc.1 _) rfl h
theorem bK {deep:Int} (hm:mu s<=100000000) (h:K (.ret (K4 (Ce s deep (Dw (EB (DC deep)) s)))) st):PC 12 [Bn s,.int .i64 deep] st K:=by
 refine pB Tryz.func12 ?_
 repeat' ((conv=>whnf);(first|refine AZ ?_|refine A0 ?_ ?_|refine A1 ?_ ?_|refine gJ (s:=s) (cs:=[]) (A:=EB) (λd U h1=>Xl U h1) hm ?_)<;>intros)
 all_goals exact Be rfl h
end
def Y6 (l:List Tk):Prop:=∀t ∈ l,t.text.length<=100000000/\ -1000000000<=t.line/\t.line<=1000000000
theorem Y6.at {l:List Tk} (h:Y6 l) {t:Tk} (e:l[i]? =some t):t.text.length<=100000000/\ -1000000000<=t.line/\t.line<=1000000000:=h t (List.mem_of_getElem? e)
theorem mv {L:Nat} {v:V} {m U:Int} {st:St} {K K':St->Prop} (h:YS Tryz.prog L r Im [v,.int .i64 U] st K) (e:U=m) (k:∀st,K st->K' st):YS Tryz.prog L r Im [v,.int .i64 m] st K':=by subst e;exact h.mono k
section
variable {st:St} {l:List Tk} {own:AB} {c L:Nat} {r:Loop} {Im:Mem}
attribute [local irreducible] Go.Aw.Ag
theorem ny (hok:Y6 l) (hn:l.length<=100000000) {J:Nat->St->Prop} (hJ:∀i st,J i st->st.box c=some [.slice 4 (A5 l) own]) (hY:∀i st,i<l.length->J i st->YS Tryz.prog L r Im [.int .i64 (i:Int),.int .i64 (E3 l i)] st (J (i+1))) (h0:J 0 st)
 {I:Mem} {cargs:List Value} (hm:Im.le I) (hs:Ci I st w) (U:Ak I [.ptr c 0] cargs) (hl:w.heap[L]? =some (.loop r)) (hi:Idle L st):
 Calls Tryz.prog 150 (Value.func (.yield L) #[] #[]::cargs).toArray w λe w'=>(∃v,e=.returned v)/\∃I' st',Fr I st w I' st' w'/\Ci I' st' w'/\J l.length st':=by
 refine Rj Ad Tryz.func150 rfl rfl (r:=r) (Im:=Im) (args:=[.bN L,.ptr c 0]) (K:=J l.length) rfl ?_ hm hs (by
  simp only [Ak] at U |-
  exact ⟨_,_,rfl,by simp only [AG],U⟩) hl hi
 have hb:=hJ 0 st h0
 refine Fz (Oa.of (Ai Ad ?_))
 repeat' ((conv=>whnf);first|exact Cr|(refine Bg ?_;intros)|(refine Cs ?_ ?_ ?_;rotate_left)|(refine Bh ?_ ?_<;>intro _)|refine At hb ?_|with_reducible refine WF ?_)
 refine Qg ?_
 refine bP ?_
 refine Pa (α:=Nat×St) (λx=>[(8,.int .i64 (x.1:Int))]) (λ_=>[]) [0,1,6,7] [] (λx=>x.2) (λx=>x.1<=l.length/\J x.1 x.2) (λx=>l.length - x.1) (0,st) ⟨Nat.zero_le _,h0⟩ Yl (St.le_refl _) ?_
 rintro ⟨i,st1⟩ ⟨hi1,hj⟩
 dsimp only at hi1 hj |-
 have hb1:=hJ i st1 hj
 refine Fz (Oa.of (Ai Ad ?_))
 by_cases hlt:i<l.length
 .obtain ⟨t,ht⟩:∃t,l[(i:Int).toNat]? =some t:=⟨_,List.getElem?_eq_getElem AC⟩
  have ht':l[i]? =some t:=ht
  have hlt2:(i:Int)<(l.length:Int):=AC
  repeat' ((conv=>whnf);first|exact Cr|(refine Bg ?_;intros)|(refine Cs ?_ ?_ ?_;rotate_left)|(refine Bh ?_ ?_<;>intro _)|with_reducible refine WF ?_)
  refine Fz (Oa.of (Ai Ad ?_))
  repeat' ((conv=>whnf);first|exact Cr|(refine Bg ?_;intros)|(refine Cs ?_ ?_ ?_;rotate_left)|(refine Bh ?_ ?_<;>intro _)|with_reducible refine WF ?_)
  refine Fz ?_
  refine Qg ?_
  refine Fz (Oa.of (Ai Ad ?_))
  repeat' ((conv=>whnf);first|exact Cr|(refine Bg ?_;intros)|(refine Cs ?_ ?_ ?_;rotate_left)|(refine Bh ?_ ?_<;>intro _)|with_reducible refine WF ?_)
  refine Fz (Oa.of (Ai Ad ?_))
  repeat' ((conv=>whnf);first|exact Cr|(refine Bg ?_;intros)|(refine Cs ?_ ?_ ?_;rotate_left)|(refine Bh ?_ ?_<;>intro _)|with_reducible refine WF ?_)
  have hy:=hY i st1 hlt hj
  refine Fz (Oa.of (Ai Ad ?_))
  have ho:=hok.at ht'
  clear hY U hs hm hl hi
  by_cases hz:i=0
  .subst hz
   have hma:E3 l 0=if (VR t 9 [109,111,100,117,108,101]||VR t 15 [123])=true then 17 else 16:=by unfold E3;rw [ht'];rfl
   repeat' ((conv=>whnf);first|exact Cr|(refine Bg ?_;intros)|(refine Cs ?_ ?_ ?_;rotate_left)|(refine Bh ?_ ?_<;>intro _)|refine lW ?_|with_reducible refine WF ?_)
   all_goals refine Fz (XA Ad 3 rfl rfl rfl rfl rfl ?_)
   all_goals (repeat' ((conv=>whnf);first|exact Cr|(refine Bg ?_;intros)|(refine Cs ?_ ?_ ?_;rotate_left)|(refine Bh ?_ ?_<;>intro _)|refine ⟨rfl,?_⟩|refine mv hy (by rw [hma]<;>simp [*]) (λst2 hj2=>?_)|with_reducible refine WF ?_))
   all_goals refine Oa.of (Ai Ad ?_)
   all_goals (repeat' ((conv=>whnf);first|exact Cr|(refine Bg ?_;intros)|(refine Cs ?_ ?_ ?_;rotate_left)|(refine Bh ?_ ?_<;>intro _)|with_reducible refine WF ?_))
   all_goals refine Oa.of (Ai Ad ?_)
   all_goals (repeat' ((conv=>whnf);first|exact Cr|(refine Bg ?_;intros)|(refine Cs ?_ ?_ ?_;rotate_left)|(refine Bh ?_ ?_<;>intro _)|with_reducible refine WF ?_))
   all_goals conv=>whnf
   all_goals exact ⟨(0+1,st2),⟨hlt,hj2⟩,UV,Yl,St.le_refl _⟩
  .obtain ⟨p,hp⟩:∃p,l[((i:Int) - 1).toNat]? =some p:=⟨_,List.getElem?_eq_getElem AC⟩
   have hp':l[i - 1]? =some p:=by rw [<-hp];congr 1;omega
   have hop:=hok.at hp'
   have hma:E3 l i=TQ (some p) t:=by unfold E3 ahead;rw [ht',if_neg hz,hp']
   unfold TQ at hma
   have hz2:¬(i:Int)=0:=AC
   repeat' ((conv=>whnf);first|exact Cr|(refine Bg ?_;intros)|(refine Cs ?_ ?_ ?_;rotate_left)|(refine Bh ?_ ?_<;>intro _)|refine At hb1 ?_|refine lW ?_|refine Pg ?_|refine mW hop.1 hop.2.1 hop.2.2 ?_|refine Ac [(0,true),(1,true),(2,true),(3,true),(4,true),(5,true),(6,true),(7,true),(8,true),(9,true),(10,true),(11,true),(12,true),(13,true),(14,true),(15,true),(16,true),(17,false),(18,true),(19,true),(20,true)] [] GE ?_|with_reducible refine WF ?_)
   all_goals refine Fz (XA Ad 3 rfl rfl rfl rfl rfl ?_)
   all_goals (repeat' ((conv=>whnf);first|exact Cr|(refine Bg ?_;intros)|(refine Cs ?_ ?_ ?_;rotate_left)|(refine Bh ?_ ?_<;>intro _)|refine ⟨rfl,?_⟩|refine mv hy (by rw [hma]<;>simp [*]) (λst2 hj2=>?_)|with_reducible refine WF ?_))
   all_goals refine Oa.of (Ai Ad ?_)
   all_goals (repeat' ((conv=>whnf);first|exact Cr|(refine Bg ?_;intros)|(refine Cs ?_ ?_ ?_;rotate_left)|(refine Bh ?_ ?_<;>intro _)|with_reducible refine WF ?_))
   all_goals refine Oa.of (Ai Ad ?_)
   all_goals (repeat' ((conv=>whnf);first|exact Cr|(refine Bg ?_;intros)|(refine Cs ?_ ?_ ?_;rotate_left)|(refine Bh ?_ ?_<;>intro _)|with_reducible refine WF ?_))
   all_goals conv=>whnf
   all_goals exact ⟨(i+1,st2),⟨hlt,hj2⟩,UV,Yl,St.le_refl _⟩
 .have hlt2:¬(i:Int)<(l.length:Int):=AC
  obtain rfl:i=l.length:=AC
  repeat' ((conv=>whnf);first|exact Cr|(refine Bg ?_;intros)|(refine Cs ?_ ?_ ?_;rotate_left)|(refine Bh ?_ ?_<;>intro _)|with_reducible refine WF ?_)
  refine Fz (Oa.of (Ai Ad ?_))
  repeat' ((conv=>whnf);first|exact Cr|(refine Bg ?_;intros)|(refine Cs ?_ ?_ ?_;rotate_left)|(refine Bh ?_ ?_<;>intro _)|with_reducible refine WF ?_)
  all_goals conv=>whnf
  all_goals exact ⟨.inl rfl,hj⟩
end
end Go.Proofs.Z
namespace Go.Aw
theorem AB.My {own:AB} {n:Nat}:(own.st S n).box=S.box:=by cases own<;>rfl
theorem AB.SE {own:AB} {n:Nat}:(own.st S n).Aa b C=own.st (S.Aa b C) n:=by cases own<;>rfl
theorem Uz {own:AB} {n:Nat}:(own.st (S.Aa b C) n).box b=some C:=by rw [AB.My];simp [St.Aa]
theorem AB.HD {own:AB} (h:own.BG S) (hb:S.box b≠none):own.BG (S.Aa b C):=by
 cases own with
 |any=>exact h
 |full=>exact trivial
 |tok t=>
  have h:S.fresh t:=h
  refine (show (S.Aa b C).fresh t from ⟨?_,h.2⟩)
  have:t≠b:=by rintro rfl;exact hb h.1
  simp only [St.Aa]
  rw [if_neg this];exact h.1
theorem AB.O0 {own:AB} {D:List V} (h:own.BG (S.Aa b C)):own.BG (S.Aa b D):=by
 cases own with
 |any=>exact h
 |full=>exact trivial
 |tok t=>
  have h:(S.Aa b C).fresh t:=h
  refine (show (S.Aa b D).fresh t from ⟨?_,h.2⟩)
  have U:=h.1
  simp only [St.Aa] at U |-
  split at U
  .cases U
  .rename_i e;rw [if_neg e];exact U
end Go.Aw
namespace Go.Proofs.Z
open Go Go.Aw
theorem FC (l:List Tk):(A5 l).length=l.length:=by unfold A5;rw [List.length_map]
theorem KK {l:List Tk} {x:Tk} {own:AB} {st:St} {K:V->St->Prop} (h:own.BG st) (hb:l.length+1<=1000000000)
 (k:∀U:AB,U.BG st->K (.slice 4 (A5 (l++[x])) U) (U.st st ((l++[x]).length*4))):Ag 4 40 (A5 l) own [x.cells] (own.st st (l.length*4)) K:=by
 have:=F3 (sz:=4) (bytes:=40) (es:=A5 l) (new:=[x.cells]) (K:=K) h (by rw [FC];show (l.length+1)*40<=_;omega) (by rw [FC];show l.length+1<EF;simp only [EF];omega) rfl (λU ho=>by
  have:=k U ho
  rw [FC]
  have e:A5 l++[x.cells].map (·.map V.IM)=A5 (l++[x]):=by unfold A5;rw [List.map_append];rfl
  rw [e]
  rw [List.length_append] at this
  exact this)
 rw [FC] at this
 exact this
abbrev oH (m:Int) (t:Tk):Tk:=⟨m,[],t.line,t.Cj⟩
theorem Zk {st:St} {c:Bool} (U:∀(st:St) (K:Ay->St->Prop),K (.ret (.bool c)) st->PC f args st K) (e:c=true) (k:K (.ret (.bool true)) st):PC f args st K:=U st K (by rw [e];exact k)
theorem cw {st:St} {c:Bool} (U:∀(st:St) (K:Ay->St->Prop),K (.ret (.bool c)) st->PC f args st K) (e:c=false) (k:K (.ret (.bool false)) st):PC f args st K:=U st K (by rw [e];exact k)
theorem Hy {st:St} {c:Nat} (h:b≠c):(st.Aa b cs).box c=st.box c:=by simp [St.Aa,Ne.symm h]
theorem ig {l:List Tk} {x:Tk} {own:AB} {K:V->St->Prop} (h:own.BG (S.Aa b C)) (hb:l.length+1<=1000000000)
 (k:∀U:AB,U.BG (S.Aa b C)->K (.slice 4 (A5 (l++[x])) U) (U.st (S.Aa b C) ((l++[x]).length*4))):Ag 4 40 (A5 l) own [x.cells] ((own.st S (l.length*4)).Aa b C) K:=by
 rw [AB.SE];exact KK h hb k
theorem Pc:∀(a:List Tk) (p:Option Tk) (t:Tk),DE p (a++[t])=DE p a++markT (TQ (a.getLast?.or p) t) t
 |[],p,t=>by simp [DE]
 |x::r,p,t=>by
  rw [List.cons_append,DE,Pc r (some x) t,DE,List.append_assoc]
  congr 3
  cases r with
  |nil=>rfl
  |cons y r=>rw [List.getLast?_cons_cons];cases h:(y::r).getLast? with
   |none=>simp at h
   |some z=>rfl
theorem Mk:∀(a:List Tk) (p:Option Tk),(DE p a).length<=2*a.length
 |[],p=>Nat.le_refl _
 |x::r,p=>by
  have:=Mk r (some x)
  rw [DE,List.length_append,List.length_cons]
  unfold markT
  split<;>simp only [List.length_cons,List.length_nil]<;>omega
theorem V1 {l:List Tk} {t:Tk} (h:l[i]? =some t):DE none (l.take (i+1))=DE none (l.take i)++markT (E3 l i) t:=by
 have U:=(List.getElem?_eq_some_iff.1 h).1
 have e:l.take (i+1)=l.take i++[t]:=by rw [List.take_add_one,h];rfl
 rw [e,Pc]
 congr 3
 unfold E3 ahead
 rw [h]
 dsimp only
 congr 1
 cases i with
 |zero=>rfl
 |succ i=>
  rw [if_neg AC,List.getLast?_take,if_neg AC]
  have:l[i+1 - 1]? =some l[i]:=by rw [Nat.add_sub_cancel];exact List.getElem?_eq_getElem AC
  rw [this];rfl
section
variable {st:St} {l:List Tk} {own:AB} {K:Ay->St->Prop}
attribute [local irreducible] Go.Aw.Ag
theorem jQ (hok:Y6 l) (hn:l.length<=100000000) (h:K (.ret (.slice 4 (A5 (Eb l)) .any)) st):PC 39 [.slice 4 (A5 l) own] st K:=by
 refine A3.ends (Sl Ad Tryz.func39 rfl Do rfl ?_)
 refine Ai Ad ?_
 repeat' ((conv=>whnf);first|exact Cr|(refine Bg ?_;intros)|(refine Cs ?_ ?_ ?_;rotate_left)|(refine Bh ?_ ?_<;>intro _)|refine GM (λ_=>?_) ?_|with_reducible refine WF ?_)
 refine Ai Ad ?_
 repeat' ((conv=>whnf);first|exact Cr|(refine Bg ?_;intros)|(refine Cs ?_ ?_ ?_;rotate_left)|(refine Bh ?_ ?_<;>intro _)|refine GM (λ_=>?_) ?_|refine ⟨⟨AC,AC,AC,(by unfold EF<;>omega)⟩,.inl ⟨rfl,λb0 f0=>?_⟩⟩|with_reducible refine WF ?_)
 refine Ai Ad ?_
 repeat' ((conv=>whnf);first|exact Cr|(refine Bg ?_;intros)|(refine Cs ?_ ?_ ?_;rotate_left)|(refine Bh ?_ ?_<;>intro _)|refine GM (λ_=>?_) ?_|refine kN (λc fc=>?_)|with_reducible refine WF ?_)
 conv=>whnf
 refine bM.qz 1 0 rfl rfl rfl (λb1 f1=>?_)
 refine bM.qz 3 1 rfl rfl rfl (λb3 f3=>?_)
 refine bM.here ?_
 obtain ⟨S,hS⟩:∃S,S=(st.Aa c [.slice 4 (A5 l) own]).Aa b1 [.slice 4 (A5 l) own]:=⟨_,rfl⟩
 have n0c:c≠b0:=by
  rintro rfl
  have:=fc.2
  simp [St.BZ] at this
 have n01:b1≠b0:=by
  rintro rfl
  have:=f1.2
  simp [St.BZ,St.Aa] at this
 have n03:b3≠b0:=by
  rintro rfl
  have:=f3.2
  simp [St.BZ,St.Aa] at this
 have nc1:b1≠c:=by
  rintro rfl
  have:=f1.1
  rw [St.Al] at this;cases this
 have n31:b3≠b1:=by
  rintro rfl
  have:=f3.1
  rw [St.Al] at this;cases this
 have n3c:b3≠c:=by
  rintro rfl
  have:=f3.1
  rw [Hy (Ne.symm n31),St.Al] at this;cases this
 have fc0:st.box c=none:=fc.1
 have f10:st.box b1=none:=by have:=f1.1;rw [Hy (Ne.symm nc1)] at this;exact this
 have f30:st.box b3=none:=by have:=f3.1;rw [Hy (Ne.symm n31),Hy (Ne.symm n3c)] at this;exact this
 have hSc:S.box c=some [.slice 4 (A5 l) own]:=by rw [hS,Hy nc1,St.Al]
 have hS1:S.box b1=some [.slice 4 (A5 l) own]:=by rw [hS,St.Al]
 have hle:∀X,st.le (S.Aa b3 X):=λX=>by
  rw [hS];exact St.Aq (St.Aq (St.Aq (St.le_refl _) fc0 _) f10 _) f30 _
 have hgo:AB.BG (S.Aa b3 [.slice 4 [] (.tok b0)]) (.tok b0):=by
  refine (show (S.Aa b3 _).fresh b0 from ⟨?_,by rw [hS];exact f0.2⟩)
  rw [Hy n03,hS,Hy n01,Hy n0c];exact f0.1
 obtain ⟨J,hJ⟩:∃J:Nat->St->Prop,J=λi st'=>∃o:AB,o.BG (S.Aa b3 [.slice 4 (A5 (DE none (l.take i))) o])/\st'=o.st (S.Aa b3 [.slice 4 (A5 (DE none (l.take i))) o]) ((DE none (l.take i)).length*4):=⟨_,rfl⟩
 refine ⟨⟨rfl,rfl⟩,150,[.ptr c 0],J l.length,⟨rfl,⟨_,Tryz.func150,Do,Do⟩⟩,?_,?_⟩
 .intro D B Im β a wm L df fi hF I w cargs hm hs hargs hl hi
  refine ny (own:=own) hok hn (J:=J) (λi st1 hj=>?_) (λi st1 hlt hj=>?_) ?_ hm hs hargs hl hi
  .rw [hJ] at hj
   obtain ⟨o,_,rfl⟩:=hj
   rw [AB.My,Hy n3c,hSc]
  .refine gW Ad hF rfl rfl rfl Do rfl rfl ?_
   rw [hJ] at hj
   obtain ⟨o,hgo,rfl⟩:=hj
   obtain ⟨t,ht⟩:∃t,l[(i:Int).toNat]? =some t:=⟨_,List.getElem?_eq_getElem AC⟩
   have htk:=V1 (l:=l) (i:=i) (t:=t) ht
   have hlen2:=Mk (l.take i) none
   have hti:(l.take i).length<=l.length:=NE
   generalize hout:DE none (l.take i)=out at *
   have hb3:(o.st (S.Aa b3 [.slice 4 (A5 out) o]) (out.length*4)).box b3=some [.slice 4 (A5 out) o]:=by rw [AB.My,St.Al]
   have hb1:(o.st (S.Aa b3 [.slice 4 (A5 out) o]) (out.length*4)).box b1=some [.slice 4 (A5 l) own]:=by rw [AB.My,Hy n31,hS1]
   have hlo:out.length+1<=1000000000:=AC
   unfold YK
   by_cases hz:E3 l i=0
   .have hfin:∀o2:AB,o2.BG (S.Aa b3 [.slice 4 (A5 out) o])->J (i+1) ((o2.st (S.Aa b3 [.slice 4 (A5 out) o]) ((out++[t]).length*4)).Aa b3 [.slice 4 (A5 (out++[t])) o2]):=λo2 h2=>by
     rw [hJ]
     refine ⟨o2,?_,?_⟩
     .rw [htk];unfold markT;rw [if_pos hz];exact AB.O0 h2
     .rw [htk];unfold markT;rw [if_pos hz,AB.SE,St.set_set]
    repeat' ((conv=>whnf);first|exact Cr|(refine Bg ?_;intros)|(refine Cs ?_ ?_ ?_;rotate_left)|(refine Bh ?_ ?_<;>intro _)|refine GM (λ_=>?_) ?_|refine ⟨⟨rfl,rfl⟩,?_⟩|refine At hb3 ?_|refine At hb1 ?_|refine KK (x:=t) hgo hlo (λo2 h2=>?_)|refine At Uz ?_|exact hfin o2 h2|refine Ac [(0,true),(1,true),(2,true),(3,true),(4,true),(5,true),(6,true),(7,true),(8,true),(9,true),(10,true),(11,true),(12,true),(13,true),(14,false),(15,false)] [1] GE ?_|refine Ac [(0,true),(1,true),(2,true),(3,true),(4,true),(5,true),(6,false),(7,false)] [1] GE ?_|with_reducible refine WF ?_)
   .have hlo2:(out++[oH (E3 l i) t]).length+1<=1000000000:=by rw [List.length_append,List.length_singleton];omega
    have hfin:∀o2 o3:AB,o2.BG (S.Aa b3 [.slice 4 (A5 out) o])->o3.BG ((S.Aa b3 [.slice 4 (A5 out) o]).Aa b3 [.slice 4 (A5 (out++[oH (E3 l i) t])) o2])->
     J (i+1) ((o3.st ((S.Aa b3 [.slice 4 (A5 out) o]).Aa b3 [.slice 4 (A5 (out++[oH (E3 l i) t])) o2]) ((out++[oH (E3 l i) t]++[t]).length*4)).Aa b3 [.slice 4 (A5 (out++[oH (E3 l i) t]++[t])) o3]):=λo2 o3 h2 h3=>by
     rw [hJ]
     refine ⟨o3,?_,?_⟩
     .rw [htk];unfold markT;rw [if_neg hz,St.set_set] at *;exact AB.O0 h3
     .rw [htk];unfold markT;rw [if_neg hz,AB.SE,St.set_set,St.set_set,List.append_assoc];rfl
    have hb1':∀(o2:AB) n C,((o2.st (S.Aa b3 [.slice 4 (A5 out) o]) n).Aa b3 C).box b1=some [.slice 4 (A5 l) own]:=λo2 n C=>by rw [Hy n31,AB.My,Hy n31,hS1]
    repeat' ((conv=>whnf);first|exact Cr|(refine Bg ?_;intros)|(refine Cs ?_ ?_ ?_;rotate_left)|(refine Bh ?_ ?_<;>intro _)|refine GM (λ_=>?_) ?_|refine ⟨⟨rfl,rfl⟩,?_⟩|refine At hb3 ?_|refine At hb1 ?_|refine At (hb1' _ _ _) ?_|refine At (St.Al ..) ?_|refine KK (x:=oH (E3 l i) t) hgo hlo (λo2 h2=>?_)|refine ig (x:=t) (AB.HD h2 (by rw [St.Al]<;>simp)) hlo2 (λo3 h3=>?_)|refine At Uz ?_|exact hfin o2 o3 h2 h3|refine Ac [(0,true),(1,true),(2,true),(3,true),(4,true),(5,true),(6,true),(7,true),(8,true),(9,true),(10,true),(11,true),(12,true),(13,true),(14,false),(15,false)] [1] GE ?_|refine Ac [(0,true),(1,true),(2,true),(3,true),(4,true),(5,true),(6,false),(7,false)] [1] GE ?_|with_reducible refine WF ?_)
  .rw [hJ]
   exact ⟨.tok b0,hgo,by rw [hS];rfl⟩
 .intro st' hk
  rw [hJ,List.take_length] at hk
  obtain ⟨o,hgo,rfl⟩:=hk
  have hb3:(o.st (S.Aa b3 [.slice 4 (A5 (DE none l)) o]) ((DE none l).length*4)).box b3=some [.slice 4 (A5 (DE none l)) o]:=Uz
  have hb1:(o.st (S.Aa b3 [.slice 4 (A5 (DE none l)) o]) ((DE none l).length*4)).box b1=some [.slice 4 (A5 l) own]:=by rw [AB.My,Hy n31,hS1]
  have hlen2:=Mk l none
  have hlo:(DE none l).length+1<=1000000000:=AC
  refine Ai Ad ?_
  have hle1:st.le (o.st (S.Aa b3 [.slice 4 (A5 (DE none l)) o]) ((DE none l).length*4)):=St.le_trans (hle _) (AB.Bu hgo)
  have hle2:∀(o2:AB) (n:Nat) (C D:List V),o2.BG (S.Aa b3 C)->st.le ((o2.st (S.Aa b3 C) n).Aa b3 D):=λo2 n C D h2=>by
   rw [AB.SE,St.set_set];exact St.le_trans (hle _) (AB.Bu (AB.O0 h2))
  have U:∀x:List Tk,Yk l=x->K (.ret (.slice 4 (A5 (DE none l++x)) .any)) st:=λx e=>by
   have:=h;unfold Eb at this;rw [e] at this;exact this
  cases hlast:l.getLast? with
  |none=>
   obtain rfl:l=[]:=List.getLast?_eq_none_iff.1 hlast
   have U:=U [⟨16,[],0,0⟩] rfl
   have hz0:(([]:List Tk).length:Int)=0:=rfl
   repeat' ((conv=>whnf);first|exact Cr|(refine Bg ?_;intros)|(refine Cs ?_ ?_ ?_;rotate_left)|(refine Bh ?_ ?_<;>intro _)|refine GM (λ_=>?_) ?_|refine At hb1 ?_|refine At hb3 ?_|refine KK (x:=⟨16,[],0,0⟩) hgo hlo (λo2 h2=>?_)|refine At Uz ?_|refine At (St.Al ..) ?_|with_reducible refine WF ?_)
   all_goals conv=>whnf
   all_goals refine ⟨.inr rfl,?_⟩
   all_goals conv=>whnf
   all_goals exact ⟨_,_,.inr rfl,hle2 o2 _ _ _ h2,U⟩
  |some t=>
   have hpos:0<l.length:=List.length_pos_iff.2 (λe=>by rw [e] at hlast;cases hlast)
   have ht:l[((l.length:Nat) - 1:Int).toNat]? =some t:=by
    rw [List.getLast?_eq_getElem?] at hlast
    rw [<-hlast];congr 1;omega
   have hne:¬(l.length:Int)=0:=AC
   cases ho:Pf t with
   |true=>
    have U:=U [⟨16,[],0,0⟩] (by unfold Yk;rw [hlast];simp [ho])
    repeat' ((conv=>whnf);first|exact Cr|(refine Bg ?_;intros)|(refine Cs ?_ ?_ ?_;rotate_left)|(refine Bh ?_ ?_<;>intro _)|refine GM (λ_=>?_) ?_|refine At hb1 ?_|refine At hb3 ?_|refine Zk (λst K h=>Pg h) ho ?_|refine KK (x:=⟨16,[],0,0⟩) hgo hlo (λo2 h2=>?_)|refine At Uz ?_|refine At (St.Al ..) ?_|with_reducible refine WF ?_)
    all_goals conv=>whnf
    all_goals refine ⟨.inr rfl,?_⟩
    all_goals conv=>whnf
    all_goals exact ⟨_,_,.inr rfl,hle2 o2 _ _ _ h2,U⟩
   |false=>
    have U:=U [] (by unfold Yk;rw [hlast];simp [ho])
    rw [List.append_nil] at U
    repeat' ((conv=>whnf);first|exact Cr|(refine Bg ?_;intros)|(refine Cs ?_ ?_ ?_;rotate_left)|(refine Bh ?_ ?_<;>intro _)|refine GM (λ_=>?_) ?_|refine At hb1 ?_|refine At hb3 ?_|refine cw (λst K h=>Pg h) ho ?_|with_reducible refine WF ?_)
    all_goals conv=>whnf
    all_goals refine ⟨.inr rfl,?_⟩
    all_goals conv=>whnf
    all_goals exact ⟨_,_,.inr rfl,hle1,U⟩
end
end Go.Proofs.Z
namespace Go.Proofs.Z
open Go Go.Aw
open Rd (Ap)
theorem YV {l:List Tk} (h:gy l=true):Y6 l:=λt U=>by
 have:=List.all_eq_true.1 h t U
 simp only [Bool.and_eq_true,decide_eq_true_eq] at this
 exact ⟨this.1,this.2.1,this.2.2⟩
theorem cF {s':Af} {deep:Int} {A:Nat->Rd Nd} (U:¬deep<1) (e:(A (DC deep)).run s=.inr (n,s')):Ce s deep (Dw (A (DC deep)) s)=(n,s',0):=by
 unfold Ce Dw
 rw [if_neg U,e]
section
variable {st:St} {K:Ay->St->Prop}
theorem nC {s:List UInt8} {x:Lx} (hs:Ia s=.inr x) (h:∀w1 w2 st',st.le st'->K (.ret (.Bq [.slice 4 (A5 x.AD) w1,.slice 5 (J6 x.notes) w2,.int .i64 0,.int .i64 0])) st'):PC 22 [.str s] st K:=by
 refine pf (λi' e' U=>?_) (λi' e' st' hle U=>?_) (λx w1 w2 st' U hle=>?_)
 .rw [hs] at U;cases U
 .rw [hs] at U;cases U
 .rw [hs] at U;injection U with U;subst U;exact h w1 w2 st' hle
end
theorem qN (h:s.AD.length<=1000/\s.Ca.length<=1000):mu s<=100000000:=by unfold mu;omega
theorem gp {s:List UInt8} (h:(match Ia s with| .inr _=>true| .inl _=>false)=true):∃x,Ia s=.inr x/\x.AD=Lk s:=by
 unfold Lk
 cases e:Ia s with
 |inl p=>rw [e] at h;cases h
 |inr x=>exact ⟨x,rfl,rfl⟩
theorem qP:∃n s',(EB 4).run ⟨Eb (Lk Xr),0,[],0⟩=.inr (n,s')/\n.kind=2/\s'.pos=(s'.AD.length:Nat)/\∃k1 k2 k3,n.kids=[k1,k2,k3]/\k1.kids.length=7/\k2.kind=42/\k3.kind=36:=by
 have h:=pH
 cases e:(EB 4).run ⟨Eb (Lk Xr),0,[],0⟩ with
 |inl p=>rw [show (Gc (Qe (Ht 4) (LY 4) (Gf 4) (C4 4) (FJ (C4 4) (Jb 3)) (Dl FW (FJ (C4 3) (Jb 2))))).run _=_ from e] at h;cases h
 |inr p=>
  obtain ⟨n,s'⟩:=p
  rw [show (Gc (Qe (Ht 4) (LY 4) (Gf 4) (C4 4) (FJ (C4 4) (Jb 3)) (Dl FW (FJ (C4 3) (Jb 2))))).run _=_ from e] at h
  simp only [Bool.and_eq_true,beq_iff_eq] at h
  obtain ⟨⟨h1,h2⟩,U⟩:=h
  refine ⟨n,s',rfl,h1,h2,?_⟩
  match hk:n.kids,U with
  |[k1,k2,k3],U=>
   simp only [List.map_cons,List.map_nil,List.cons.injEq,and_true,Prod.mk.injEq] at U
   obtain ⟨⟨a,b⟩,⟨c,_⟩,d,_⟩:=U
   rw [if_pos a] at b
   exact ⟨k1,k2,k3,rfl,b,c,d⟩
  |[],U=>simp at U
  |[_],U=>simp at U
  |[_,_],U=>simp at U
  |_::_::_::_::_,U=>simp at U
theorem qQ:∃e s',(EB 4).run ⟨Eb (Lk Xs),0,[],0⟩=.inl (e,s')/\e.1=120:=by
 have h:=pI
 cases e:(EB 4).run ⟨Eb (Lk Xs),0,[],0⟩ with
 |inr p=>rw [show (Gc (Qe (Ht 4) (LY 4) (Gf 4) (C4 4) (FJ (C4 4) (Jb 3)) (Dl FW (FJ (C4 3) (Jb 2))))).run _=_ from e] at h;cases h
 |inl p=>
  obtain ⟨e',s'⟩:=p
  rw [show (Gc (Qe (Ht 4) (LY 4) (Gf 4) (C4 4) (FJ (C4 4) (Jb 3)) (Dl FW (FJ (C4 3) (Jb 2))))).run _=_ from e] at h
  exact ⟨e',s',rfl,beq_iff_eq.1 h⟩
section
variable {st:St} {K:Ay->St->Prop}
theorem YZ {s:List UInt8} {x:Lx} (hs:Ia s=.inr x) (hok:Y6 x.AD) (hn:x.AD.length<=100000000) (h:∀st',st.le st'->K (.ret (Bn ⟨Eb x.AD,0,[],0⟩)) st'):PC 15 [.str s] st K:=by
 refine pB Tryz.func15 ?_
 repeat' ((conv=>whnf);first|(refine Bg ?_;intros)|(refine Bh ?_ ?_<;>intro _)|refine nC hs (λw1 w2 st1 U=>?_)|refine jQ hok hn ?_)
 all_goals exact ⟨_,_,.inr rfl,St.le_refl _,h st1 U⟩
theorem Q5 {s':Af} {deep e:Int} (U:mu s<=100000000) (hq:Ce s deep (Dw (EB (DC deep)) s)=(n,s',e)) (h:K (.ret (Qv n s' e)) st):PC 12 [Bn s,.int .i64 deep] st K:=bK U (by rw [hq];exact h)
theorem UP {v:Bool} (U:v=(decide (s.AD.length<=1000)&&decide (s.Ca.length<=1000))) (h:K (.ret (.bool v)) st):PC 10 [Bn s] st K:=by
 refine pB Tryz.func10 ?_
 repeat' ((conv=>whnf);first|(refine Bg ?_;intros)|(refine Bh ?_ ?_<;>intro _)|fail)
 all_goals conv=>whnf
 all_goals (refine Ao h ?_;clear h;rw [U])
 all_goals simp only [Bool.and_eq_true,decide_eq_true_eq,Bool.and_eq_false_iff,decide_eq_false_iff_not]
 all_goals omega
theorem UF (h:∀st',st.le st'->K (.ret (.bool true)) st'):PC 11 [] st K:=by
 refine pB Tryz.func11 ?_
 obtain ⟨x,hx,U⟩:=gp lg
 obtain ⟨y,hy,hyt⟩:=gp lh
 have hok:=ld
 simp only [Bool.and_eq_true,decide_eq_true_eq] at hok
 obtain ⟨⟨⟨⟨⟨o1,o2⟩,o3⟩,o4⟩,o5⟩,o6⟩:=hok
 obtain ⟨n,s1,r1,a1,a3,k1,k2,k3,a4,a5,a6,a7⟩:=qP
 obtain ⟨e,s2,r2,b1⟩:=qQ
 have hk0:n.kids[(0:Int).toNat]? =some k1:=by rw [a4];rfl
 have hk1:n.kids[(1:Int).toNat]? =some k2:=by rw [a4];rfl
 have hk2:n.kids[(2:Int).toNat]? =some k3:=by rw [a4];rfl
 have hkl:(n.kids.length:Int)=3:=by rw [a4];rfl
 have hk7:(k1.kids.length:Int)=7:=by rw [a5];rfl
 have hm1:mu ⟨Eb x.AD,0,[],0⟩<=100000000:=by rw [U];unfold mu;simp only [List.length_nil];omega
 have hm2:mu ⟨Eb y.AD,0,[],0⟩<=100000000:=by rw [hyt];unfold mu;simp only [List.length_nil];omega
 have c1:Ce ⟨Eb x.AD,0,[],0⟩ 4 (Dw (EB (DC 4)) ⟨Eb x.AD,0,[],0⟩)=(n,s1,0):=by rw [U];exact cF (A:=EB) Do r1
 have c2:Ce ⟨Eb y.AD,0,[],0⟩ 4 (Dw (EB (DC 4)) ⟨Eb y.AD,0,[],0⟩)=(FN,s2,120):=by
  rw [hyt]
  unfold Ce Dw
  rw [if_neg Do,show (EB (DC 4)).run _=_ from r2,<-b1]
 repeat' ((conv=>whnf);first|(refine Bg ?_;intros)|(refine Bh ?_ ?_<;>intro _)|refine YZ hx (by rw [U]<;>exact YV o1) (by rw [U]<;>omega) (λst1 hle1=>?_)|refine YZ hy (by rw [hyt]<;>exact YV o2) (by rw [hyt]<;>omega) (λst2 hle2=>?_)|refine Q5 hm1 c1 ?_|refine Q5 hm2 c2 ?_)
 all_goals conv=>whnf
 all_goals exact fin (h _ (St.le_trans hle1 hle2)) rfl
end
end Go.Proofs.Z
namespace Go.Proofs.Z
open Go Go.Aw
section
variable {st:St} {K:Ay->St->Prop}
attribute [local irreducible] Go.Aw.Ag
theorem Z8:AO enc 48 (λb=>[pv b d]++[.FK [.bool o] 0]) (Hp o):=by
 refine ⟨λ{st0 b s st rows K} hc h=>?_⟩
 refine pB Tryz.func48 ?_
 repeat' ((conv=>whnf);first|(refine AZ ?_;intros)|(refine A0 ?_ ?_<;>intro e h)|(refine A1 ?_ ?_<;>intro _)|refine AO.go (QW (o:=o)) hc h (λn s1 U hr hm hc h=>?_) (λe s1 U hc h=>?_)|exact CI hc h rfl|exact CI hc h BK|exact BE hc h|fail)
theorem bL (U:mu s<=100000000) (h:K (.ret (K4 (Ce s 1 (Dw (Hp o) s)))) st):PC 20 [Bn s,.bool o] st K:=by
 refine AV Ad [] Tryz.func20 rfl Do rfl ?_
 refine Aj (Ai Ad ?_)
 repeat' ((conv=>whnf);first|(refine AZ ?_;intros)|(refine A0 ?_ ?_<;>intro e h)|(refine A1 ?_ ?_<;>intro _)|fail)
 refine NB 3 1 rfl rfl rfl ?_
 refine Ai Ad ?_
 repeat' ((conv=>whnf);first|(refine AZ ?_;intros)|(refine A0 ?_ ?_<;>intro e h)|(refine A1 ?_ ?_<;>intro _)|refine gJ (s:=s) (deep:=1) (cs:=[.FK [.bool o] 0]) (A:=λ_=>Hp o) (λd h0 h1=>Z8) U ?_)
 all_goals exact Be rfl h
end
theorem Z4 {σ σ' β:Type} {body:σ->Rd (Sum σ β)} {U:σ'->Rd (Sum σ' β)} (f:σ'->σ) (h1:∀x s e s',(U x).run s=.inl (e,s')->(body (f x)).run s=.inl (e,s')) (h2:∀x s y s',(U x).run s=.inr (.inl y,s')->(body (f x)).run s=.inr (.inl (f y),s'))
 (h3:∀x s b s',(U x).run s=.inr (.inr b,s')->(body (f x)).run s=.inr (.inr b,s')) (x:σ') (s:Af):Rd.iter U x s=Rd.iter body (f x) s:=by
 fun_induction Rd.iter U x s with
 |case1 x s p h=>rw [show Rd.iter body (f x) s=.inl p by rw [Rd.iter,h1 _ _ p.1 p.2 h]]
 |case2 x s y s1 h=>rw [show Rd.iter body (f x) s=.inr (y,s1) by rw [Rd.iter,h3 _ _ _ _ h]]
 |case3 x s x' s1 h hlt ih=>
  rw [show Rd.iter body (f x) s=Rd.iter body (f x') s1 by rw [Rd.iter,h2 _ _ _ _ h];simp only [hlt,if_true]]
  exact ih
 |case4 x s x' s1 h hlt=>rw [show Rd.iter body (f x) s=.inl (⟨2,Do⟩,s) by rw [Rd.iter,h2 _ _ _ _ h];simp only [hlt,if_false]]
abbrev nV (n:Nd) (s:Af):List V:=(match BM n s 0 with| .agg cs=>cs|_=>[])
def Mn (o:Bool) (p:List Nd×(Nd×Af)):Rd (Sum (List Nd×(Nd×Af)) (List Nd)):=.look λs=>if Ba s 15 [41]=true then .ret (.inr p.1) else .seq (MW o) λn=>.look λs=>if Ba s 15 [44]=true then .seq AH λc=>.ret (.inl (p.1++[n]++[c],(n,s))) else .ret (.inr (p.1++[n]))
theorem jW (x:List Nd×(Nd×Af)) (s:Af):Rd.iter (Mn o) x s=Rd.iter (Kw o) x.1 s:=by
 have key:∀(x:List Nd×(Nd×Af)) s,(Kw o x.1).run s=(match (Mn o x).run s with| .inl p=>.inl p| .inr (.inl y,s')=>.inr (.inl y.1,s')| .inr (.inr b,s')=>.inr (.inr b,s')):=λx s=>by
  unfold Kw Mn Vt Rd.look
  dsimp only
  split
  .rfl
  .unfold Rd.seq
   dsimp only
   cases (MW o).run s with
   |inl p=>rfl
   |inr p=>
    dsimp only
    split
    .dsimp only
     cases AH.run p.2 with
     |inl q=>rfl
     |inr q=>rfl
    .rfl
 exact Z4 (λp:List Nd×(Nd×Af)=>p.1) (λx s e s' h=>by rw [key,h]) (λx s y s' h=>by rw [key,h]) (λx s b s' h=>by rw [key,h]) x s
theorem bI {q:Nd×Af} {Q:List Nd->Af->Prop} (h:Rd.wp (Rd.loop (Kw o) l) s Q E):Rd.wp (Rd.loop (Mn o) (l,q)) s Q E:=by
 unfold Rd.wp at h |-
 rw [show (Rd.loop (Mn o) (l,q)).run s=(Rd.loop (Kw o) l).run s from jW _ _]
 exact h
section
variable {st0 st:St} {s:Af} {rows:List (AB×List Nd)} {K R:Ay->St->Prop} {Q:Nd->Af->Prop} {E:Er->Af->Prop}
attribute [local irreducible] Go.Aw.Ag
theorem gV (hm:mu s<=100000000) (hc:Rx st0 st rows) (h:Rd.wp (Hp o) s (λv s'=>∀st',Rx st0 st' rows->K (.ret (BM v s' 0)) st') (λe s'=>∀st',Rx st0 st' rows->K (.ret (BM FN s' e.1)) st')):PC 21 [Bn s,.bool o] st K:=by
 simp only [Hp,Rd.wp_seq,Rd.wp_ret] at h
 refine pB Tryz.func21 ?_
 repeat' ((conv=>whnf);first|(refine Bg ?_;intros)|(refine Bh ?_ ?_<;>intro _)|refine GM (λ_=>?_) ?_|refine gX (l:=[]) Do (Nat.zero_le _) hm (hc.push []) h (λn s1 own1 U hr hmm hm1 hc h=>?_) (λe n s1 own1 U he hc h=>?_)|refine Y3 ‹_› ?_|exact B8 hc.drop h rfl|fail)
 have h:=bI (q:=(n,s1)) h
 refine Yi (x0:=([n],(n,s1))) (λ(p:List Nd×(Nd×Af)) s own=>[(5,.slice 6 (p.1.map Az) own)]) (λp s own=>[(0,s.cells),(2,nV p.2.1 p.2.2)]) [1,2,4,6] [1] (λp own=>(own,p.1)::rows) (λp=>p.1.length) own1 hm1 hc h (by show 1+_<=_;omega) Yl ?_
 intro p s3 st3 own3 hm3 hm4 hc h hl
 obtain ⟨l,q⟩:=p
 dsimp only at hc hl
 simp only [Mn,Rd.Ah,Rd.Ax,Rd.wp_seq,Rd.wp_ret,Rd.Bk] at h
 repeat' ((conv=>whnf);first|(refine Bg ?_;intros)|(refine Bh ?_ ?_<;>intro _)|refine GM (λ_=>?_) ?_|exact ⟨⟨_,_,_,_⟩,⟨‹_›,(by first|omega|(dsimp only<;>omega)|(simp only [List.length_append,List.length_cons,List.length_nil]<;>omega)|(dsimp only<;>simp only [List.length_append,List.length_cons,List.length_nil]<;>omega)),hc,Rd.Dq h (by first|omega|(dsimp only<;>omega)|(simp only [List.length_append,List.length_cons,List.length_nil]<;>omega)|(dsimp only<;>simp only [List.length_append,List.length_cons,List.length_nil]<;>omega)),(by first|omega|(dsimp only<;>omega)|(simp only [List.length_append,List.length_cons,List.length_nil]<;>omega)|(dsimp only<;>simp only [List.length_append,List.length_cons,List.length_nil]<;>omega))⟩,(by first|omega|(dsimp only<;>omega)|(simp only [List.length_append,List.length_cons,List.length_nil]<;>omega)|(dsimp only<;>simp only [List.length_append,List.length_cons,List.length_nil]<;>omega)),Yl,St.le_refl _⟩|refine Qf ‹_› h (λe h=>?_) (λe h=>?_)|refine Kj.go (gU (o:=o)) ‹_› hc h (λn s1 U hr hmm hm1 hc h=>?_) (λe n s1 U he hc h=>?_)|refine Rx.Ee (l:=l) hc AC (λown1 U hc=>?_)|refine KH (l:=l++[_]) (by rw [List.length_append]<;>show l.length+1<=_<;>omega) ‹_› hc h (O6 ‹_› Do) (λs2 own2 st2 hlt hm2 hc h=>?_)|refine Gg (l:=l) AC ‹_› hc h (λc s1 U hmm hm1 hc h=>?_) (λe n s1 U he hc h=>?_)|refine Gg (l:=l++[_]) (by rw [List.length_append]<;>show l.length+1<=_<;>omega) ‹_› hc h (λc s1 U hmm hm1 hc h=>?_) (λe n s1 U he hc h=>?_)|refine lB ?_|refine Y3 ‹_› ?_|exact B8 hc h rfl|exact B8 hc.drop h rfl|fail)
end
section
variable {st:St} {K R:Ay->St->Prop}
theorem lD {e:Int} (h:R (.ret (.bool true)) st):PC 13 [enc n,Bn s,.int .i64 e,BM n s e] st R:=by
 refine pB Tryz.func13 ?_
 repeat' ((conv=>whnf);first|(refine Bg ?_;intros)|(refine Bh ?_ ?_<;>intro _)|refine aH _ (Nat.le_refl _) ?_|refine Um ?_)
 all_goals exact fin h rfl
theorem S9 {own:Bool} (h:∀st',R (.ret (.bool true)) st'):PC 7 [Bn s,.bool own] st R:=by
 refine pB Tryz.func7 ?_
 by_cases hs:s.AD.length<=1000/\s.Ca.length<=1000
 .have hm:=qN hs
  have hv:true=(decide (s.AD.length<=1000)&&decide (s.Ca.length<=1000)):=by simp [hs]
  obtain ⟨n,t,e,U⟩:∃n t e,Ce s 1 (Dw (Hp own) s)=(n,t,e):=⟨_,_,_,rfl⟩
  have hn:∀{st:St} {K:Ay->St->Prop},K (.ret (Qv n t e)) st->PC 20 [Bn s,.bool own] st K:=λh=>bL hm (by rw [U];exact h)
  have hr:∀{st:St} {K:Ay->St->Prop},(∀st',K (.ret (BM n t e)) st')->PC 21 [Bn s,.bool own] st K:=λ{st K} h=>by
   refine gV (st0:=st) (rows:=[]) hm Rx.start ?_
   unfold Ce Dw at U
   rw [if_neg Do] at U
   unfold Rd.wp
   cases hA:(Hp own).run s with
   |inl p=>rw [hA] at U;cases U;exact λst' _=>h st'
   |inr p=>rw [hA] at U;cases U;exact λst' _=>h st'
  cases own
  all_goals (repeat' ((conv=>whnf);first|exact Cr|(refine Bg ?_;intros)|(refine Cs ?_ ?_ ?_;rotate_left)|(refine Bh ?_ ?_<;>intro _)|refine UP hv ?_|refine UF (λst1 hle1=>?_)|refine hn ?_|refine hr (λst2=>?_)|refine lD ?_|refine Ac [(0,false),(1,true),(2,true),(3,true),(4,true),(5,true),(6,true),(7,false),(8,false),(9,true),(10,true)] [] GE ?_|fail|with_reducible refine WF ?_))
  all_goals exact fin (h _) rfl
 .have hv:false=(decide (s.AD.length<=1000)&&decide (s.Ca.length<=1000)):=by
   symm;simp only [Bool.and_eq_false_iff,decide_eq_false_iff_not];omega
  repeat' ((conv=>whnf);first|exact Cr|(refine Bg ?_;intros)|(refine Cs ?_ ?_ ?_;rotate_left)|(refine Bh ?_ ?_<;>intro _)|refine UP hv ?_|refine UF (λst1 hle1=>?_)|with_reducible refine WF ?_)
  all_goals exact fin (h _) rfl
end
section
variable {H:Type}
theorem Vo:Tryz.prog.cellsOf 3=1:=EQ
theorem Zs {n:Nat} {d:DataW H} (h:dec Tryz.prog n 23 d=some vs):∃l:List Int,vs=[.slice 1 (ints l) .any]:=by
 obtain ⟨m,es,ds,rfl,rfl,U,hb⟩:=Qr Tryz.underlying23 h
 obtain ⟨l,rfl,hs⟩:=Oz (f:=λn=>[V.int .i64 n]) (w:=λ_=>0) (λd vs h=>by
  obtain ⟨k,rfl⟩:=Jw Tryz.underlying3 h
  exact ⟨k,rfl,Nat.zero_le _⟩) U
 exact ⟨l,by rw [Vo];rfl⟩
theorem Zt {n:Nat} {d:DataW H} (h:dec Tryz.prog n 25 d=some vs):∃s:Af,vs=s.cells:=by
 obtain ⟨m,ds,us,rfl,hl,hm,rfl,hb⟩:=OA Tryz.underlying25 h
 match ds,hl with
 |[d0,d1,d2,d3],_=>
  simp only [List.zip_cons_cons,List.zip_nil_right] at hm
  obtain ⟨u0,r0,h0,U,rfl⟩:=B4 hm
  obtain ⟨u1,r1,h1,hm1,rfl⟩:=B4 U
  obtain ⟨u2,r2,h2,hm2,rfl⟩:=B4 hm1
  obtain ⟨u3,r3,h3,hm3,rfl⟩:=B4 hm2
  cases hm3
  obtain ⟨ts,rfl,_⟩:=Zu h0
  obtain ⟨p,rfl⟩:=Jw Tryz.underlying3 h1
  obtain ⟨os,rfl⟩:=Zs h2
  obtain ⟨w,rfl⟩:=Jw Tryz.underlying3 h3
  exact ⟨⟨ts,p,os,w⟩,rfl⟩
end
section
variable {P:Program} {W:World} {H:Type}
theorem cO {n:Nat} {t:TypeId} {d:DataW H} (U:P.underlying t=some .bool) (h:dec P n t d=some vs):∃b,vs=[.bool b]:=by
 cases n with
 |zero=>cases h
 |succ n=>
  unfold dec at h
  rw [U] at h
  split at h<;>first|(injection h with h;exact ⟨_,h.symm⟩)|(exfalso;simp_all;done)
theorem Sr {I:Mem} {u:V} {base:Nat} {t:TypeId} (U:P.underlying t=some .bool) (hv:Value.okWide P W .any base t v) (h:Ak I [u] v.cells.toList):AG I u v:=kv (Vn (.inr (.inr (.inr U))) hv) h
end
end Go.Proofs.Z
