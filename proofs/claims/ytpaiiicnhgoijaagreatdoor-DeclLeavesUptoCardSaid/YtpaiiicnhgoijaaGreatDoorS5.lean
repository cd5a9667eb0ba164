/-
  Parts of a proof: lemmas that the last text uses.
-/
import Derived.Test.YtpaiiicnhgoijaaGreatDoorS4
set_option linter.unusedVariables false
set_option linter.unusedSimpArgs false
set_option maxHeartbeats 16000000
variable {l:List Go.Aw.Nd} {b id d i bo:Nat} {o c:Bool} {ty:Go.TypeId} {f g:Go.FuncId} {fn:Go.Func} {r:Go.Loop} {Im:Go.Aw.Mem} {args cs C:List Go.Aw.V} {K R:Go.Aw.Ay->Go.Aw.St->Prop} {U:Go.Oper} {Q:Go.Aw.AG->Go.Aw.Env->Go.Aw.St->Prop} {all:List Go.Oper} {k:Int} {x:List UInt8} {P:Prop} {E:Go.Proofs.Z.Er->Go.Proofs.Z.Ag->Prop} {mk:Nat->Go.Aw.V->List Go.Aw.V} {A:Go.Proofs.Z.Rd Go.Aw.Nd} {ks:List Int} {s s':Go.Proofs.Z.Ag} {n:Go.Aw.Nd} {sched:List (Nat×Bool)} {L:List Nat} {ops:Array Go.Oper} {st0 S:Go.Aw.St} {rows:List (Go.Aw.AB×List Go.Aw.Nd)} {p:Go.Aw.Nd->Bool}
namespace Go.Aw
open Go
def bk:Obj->Bool
 | .loop _| .deferred _=>true
 |_=>false
section
variable {D:List Deferred} {P:Program} {T:List (Nat×Ty)} {I0 I:Mem} {st0 st:St} {w0 w:World} {β:Nat->Option Nat} {env:Env} {a:Act}
theorem kn {l o:Nat} {x:Obj} {v:Value} (U:w.heap[l]? =some x) (hx:bk x=true) (h:w.cell? ⟨b,o,none⟩=some v):b≠l:=by
 rintro rfl
 cases x<;>first|(simp [World.cell?,U] at h;done)|cases hx
theorem O9 {l:Nat} {x:Obj} {c:Array Value} (U:w.heap[l]? =some x) (hx:bk x=true) (h:w.heap[b]? =some (.cells c ty (0,0))):b≠l:=by
 rintro rfl
 rw [U] at h;cases h;cases hx
theorem Co.cB {l:Nat} {x y:Obj} (h:Co I st w) (hl:w.heap[l]? =some x) (hx:bk x=true):Co I st (w.putObj l y):=by
 refine ⟨λb o v e=>?_,λb n e=>?_,λb cs e=>?_,h.Hp,λb n e=>?_,h.RX⟩
 .have e:=h.cell b o v e
  rw [Gb (World.putObj_heap_other (kn hl hx e))];exact e
 .obtain ⟨c,ty,U,h2⟩:=h.shape b n e
  exact ⟨c,ty,by rw [World.putObj_heap_other (O9 hl hx U)];exact U,h2⟩
 .obtain ⟨vs,ty,U,h2⟩:=h.box b cs e
  exact ⟨vs,ty,by rw [World.putObj_heap_other (O9 hl hx U)];exact U,h2⟩
 .rw [World.putObj_size];exact h.hw b n e
theorem Fr.cB {l:Nat} {y:Obj} (h:Fr I0 st0 w0 I st w) (hl:w0.heap.size<=l):Fr I0 st0 w0 I st (w.putObj l y):=
 ⟨h.os,h.tape,h.output,by rw [World.putObj_size];exact h.size,λb hb U h2=>by rw [World.putObj_heap_other AC];exact h.KM b hb U h2,h.le,h.new,h.Kw,h.Kv⟩
theorem Rel.cB {l:Nat} {x y:Obj} (h:Rel D I0 st0 w0 I β env st a w) (hl:w.heap[l]? =some x) (hx:bk x=true) (hw:w0.heap.size<=l):Rel D I0 st0 w0 I β env st a (w.putObj l y):=by
 refine ⟨h.fr.cB hw,h.s.cB hl hx,⟨h.f.size,h.f.tmps,λid cs e=>?_,h.f.Bj,h.f.inj,λid b e=>?_,h.f.defers⟩⟩
 .obtain ⟨b,h1,U⟩:=h.f.box id cs e
  refine ⟨b,h1,?_⟩
  have hne:b≠l:=by
   rintro rfl
   rcases U with ⟨vs,ty,U,_⟩|⟨s,pos,_,_,U⟩
   .exact O9 hl hx U rfl
   .rw [hl] at U;cases U;cases hx
  rw [World.putObj_heap_other hne];exact U
 .rw [World.putObj_size];exact h.f.sep id b e
theorem Co.idle {l:Nat} (h:Co I st w) (hl:w.heap.size<=l):Idle l st:=by
 refine ⟨?_,?_⟩
 .cases e:st.box l with
  |none=>rfl
  |some cs=>
   obtain ⟨vs,ty,U,_⟩:=h.box l cs e
   simp_all
 .cases e:st.hw l with
  |none=>rfl
  |some n=>have:=(h.hw l n e).1;omega
theorem Sk (hP:R7 P T) {c:Code} (hf:P.funcs[f]? =some fn) (hb:fn.body=some c) (hres:fn.results.toList=[]) {l:Nat} {K:St->Prop} (hle:Nat.ble args.length fn.ntmps=true)
 (h:OU P l r Im c (λae _ st=>(ae=.normal\/ae=.ret)/\K st) {tmps:=Jb 0 args,boxes:=[],Bj:=0,sz:=fn.ntmps,gl:=[]} st) {U:List Value} (hm:Im.le I) (hs:Co I st w) (hargs:Aj I args U) (hl:w.heap[l]? =some (.loop r)) (hi:Idle l st):
 Calls P f U.toArray w λe w'=>(∃v,e=.returned v)/\∃I' st',Fr I st w I' st' w'/\Co I' st' w'/\K st':=by
 refine calls_of_wp hf hb (wp_mono (h [] I st w I _ _ w hm hl hi (Gv [] hs hargs hle)) ?_)
 rintro e a w' ⟨I1,β1,env1,st1,ae,h1,h2,h3,h4⟩
 have hret:a.defers=[]/\∃v,(results fn a.tmps).run P w'=.ok v w'/\((∃v',Ending.returned v=.returned v')/\∃I' st',Fr I st w I' st' w'/\Co I' st' w'/\K st'):=by
  obtain ⟨v,c,g1,g2,g3⟩:=CF (P:=P) (fn:=fn) (R:=λ_ s=>K s) hP.t h1 (by rw [hres];exact h4)
  exact ⟨h1.f.defers,c,g1,⟨_,rfl⟩,I1,st1,h1.fr,h1.s,g3⟩
 rcases h3 with rfl|rfl<;>(cases e<;>first|exact hret|exact h2.elim)
def pI (P:Program) (T:List (Nat×Ty)) (fn:Func) (g:Operand) (p1 p2:Tmp) (assign body rest:Code) (R:Ay->St->Prop) (env:Env) (st:St):Prop:=
 (env.boxes=[]/\(env.tmps.all λp=>p.2.plain)=true)/\∃(gf:FuncId) (caps:List V) (K:St->Prop),(env.eval g=.func gf [] caps/\Plain P gf)/\
   (∀(D:List Deferred) (B:Nat) (Im:Mem) (β:Nat->Option Nat) (a:Act) (wm:World) (l df:Nat) (fi:FuncId),Hm D B Im β env st a wm->
     ∀(I:Mem) (w:World) (U:List Value),Im.le I->Co I st w->Aj I caps U->w.heap[l]? =some (.loop {state:=.ready,pending:=none,fn:=fi,tmps:=a.tmps,params:=#[p1,p2],assign,body,defers:=df})->Idle l st->
      Calls P gf (Value.func (.yield l) #[] #[]::U).toArray w λe w'=>(∃v,e=.returned v)/\∃I' st',Fr I st w I' st' w'/\Co I' st' w'/\K st')/\
   ∀st',K st'->AW P rest (λae env st=>(ae=.normal\/ae=.ret)/\Vn T fn R env st) env st'
theorem Tn (hP:R7 P T) (hf:P.funcs[f]? =some fn) {c0 c1 c2 assign body rest:Code} {bid:Nat} {g:Operand} {p1 p2:Tmp}
 (hb : fn.body = some (.seq c0 (.seq c1 (.seq (.seq c2 (.block bid (.rangeFunc g #[p1, p2] assign body))) rest)))) (hn : (fn.name == "runtime.NumGoroutine") = false) (hle : Nat.ble args.length fn.ntmps = true)
 (h:AW P c0 (B2 (λenv st=>AW P c1 (B2 (λenv st=>AW P c2 (B2 (dA (pI P T fn g p1 p2 assign body rest R)) jD) env st) jD) env st) jD) {tmps:=Jb 0 args,boxes:=[],Bj:=0,sz:=fn.ntmps,gl:=[]} st):A5 P f args st R:=by
 refine ⟨?_,fn,hf,ke,hn⟩
 intro I w cargs hs hargs
 rw [<-callsIn_wide (n:=3)]
 refine callsIn_of_wp_marks hf hb trivial ?_
 have norm:∀{c:Code} {Q:Env->St->Prop} {n:Nat} {D:List Deferred} {I0:Mem} {st0:St} {w0:World} {X:Act->World->Prop} {Y:Exit->Act->World->Prop} {a:Act} {w:World},c.wp P (B3 D I0 st0 w0 (B2 Q jD)) a w->
  (∀I β env st a w,Rel D I0 st0 w0 I β env st a w->Q env st->X a w)->c.wpIn Fence.wide n P (Exit.then X Y) a w:=λh k=>by
  refine wpIn_wide.2 (wp_mono h ?_)
  rintro e a w ⟨I,β,env,st,ae,h1,h2,h3⟩
  cases ae with
  |exit _|goto _|ret|BX _=>exact h3.elim
  |normal=>
  cases e with
  |exit _|goto _|ret|panic _|outgrown=>exact h2.elim
  |normal=>exact k I β env st a w h1 h3
 refine wpIn_seq (norm (h [] I st w I _ _ w (Gv [] hs hargs hle)) λI1 β1 env1 st1 a1 w1 r1 k1=>?_)
 refine wpIn_seq (norm (k1 [] I st w I1 β1 a1 w1 r1) λI2 β2 env2 st2 a2 w2 r2 k2=>?_)
 refine wpIn_seq (wpIn_seq (norm (k2 [] I st w I2 β2 a2 w2 r2) λI3 β3 env3 st3 a3 U r3 k3=>?_))
 refine wpIn_block ?_
 obtain ⟨I4,β4,env4,st4,r4,k4⟩:=k3 [] I st w I3 β3 a3 U r3
 obtain ⟨⟨b1,b2⟩,gf,caps,K,⟨hg,fg,q1,q2,q3⟩,hit,hrest⟩:=k4
 have hgv:=r4.f.eval g
 rw [hg] at hgv
 have hgv':AF I4 (.func gf [] caps) (a3.eval g):=hgv
 simp only [AF,Aj] at hgv'
 obtain ⟨az,lb,hge,haz,hlb⟩:=hgv'
 subst haz
 refine wpIn_rangeFunc λfi hfi=>?_
 obtain ⟨rec,hrec⟩:∃rec:Loop,rec={state:=.ready,pending:=none,fn:=fi,tmps:=a3.tmps,params:=#[p1,p2],assign,body,defers:=U.heap.size}:=⟨_,rfl⟩
 obtain ⟨W1,hW1⟩:∃W1,(U.alloc (.deferred (some []))).alloc (.loop rec)=W1:=⟨_,rfl⟩
 have hL1:W1.heap[U.heap.size+1]? =some (.loop rec):=by
  rw [<-hW1];have:=World.alloc_heap_new (U.alloc (.deferred (some []))) (.loop rec);rwa [World.size_alloc] at this
 have hK1:W1.heap[U.heap.size]? =some (.deferred (some [])):=by
  rw [<-hW1];exact (RowKit.Below.heap_alloc _ _ _ GT).trans (World.alloc_heap_new U _)
 have r5:Rel [] I st w I4 β4 env4 st4 a3 W1:=by rw [<-hW1];exact (r4.It (Fp.alloc _ _)).It (Fp.alloc _ _)
 have hidL:Idle (U.heap.size+1) st4:=r4.s.idle AC
 have hidD:Idle U.heap.size st4:=r4.s.idle (Nat.le_refl _)
 have hsz:w.heap.size<=U.heap.size:=r4.fr.size
 have heg:∀args w,(callFunc gf args).run P w=.ok (.enter gf args) w:=λargs w=>by
  have hb:fg.body.isNone=false:=by cases hb:fg.body<;>simp_all
  simp only [callFunc,Sem.run_bind,Sem.run_pure,Result.andThen_ok,run_program,q1]
  rw [q3]
  simp [hb]
 refine ⟨U.heap.size+1,[{target:=.collected U.heap.size,args:=#[]}],W1,{target:=.fn (.func gf) lb.toArray,args:=#[.func (.yield (U.heap.size+1)) #[] #[]]},W1,gf,#[.func (.yield (U.heap.size+1)) #[] #[]]++lb.toArray,W1,?_,?_,λ_ _=>trivial,?_,λe=>(by cases e),?_⟩
 .rw [<-hW1,hrec];exact run_enterLoop_outer _ _ _ _ _
 .simp only [resolve,hge,Deferred.ofValue,Sem.run_pure]
  simp [Act.eval]
 .simp [invoke,heg]
 .have hcall:=hit [] w.heap.size I4 β4 a3 U (U.heap.size+1) U.heap.size fi r4.f I4 W1 lb (Mem.le_refl _) r5.s hlb ke hidL
  have harr:(Value.func (.yield (U.heap.size+1)) #[] #[]::lb).toArray=#[.func (.yield (U.heap.size+1)) #[] #[]]++lb.toArray:=by apply Array.ext';simp
  rw [harr] at hcall
  refine (callsIn_wide.2 hcall).mono ?_
  rintro e W2 ⟨⟨v,rfl⟩,I6,st6,f6,s6,k6⟩
  have r6:=r5.called f6 s6
  obtain ⟨hidL6,hL6⟩:=hidL.fr (IB hL1) f6
  obtain ⟨hidD6,hD6⟩:=hidD.fr (IB hK1) f6
  rw [hL1] at hL6
  rw [hK1] at hD6
  refine ⟨none,W2.putObj (U.heap.size+1) (.loop {rec with state:=.exhausted}),by have:=run_endLoop (P:=P) hL6 (by grind);grind,?_⟩
  have r7:=r6.cB (y:=.loop {rec with state:=.exhausted}) hL6 rfl AC
  have hD7:(W2.putObj (U.heap.size+1) (.loop {rec with state:=.exhausted})).heap[U.heap.size]? =some (.deferred (some [])):=(World.putObj_heap_other AC).trans hD6
  generalize W2.putObj (U.heap.size+1) (.loop {rec with state:=.exhausted})=W3 at r7 hD7
  show rest.wpIn Fence.wide 3 P _ _ W3
  have r8:=Rel.bare (D':=[{target:=.collected U.heap.size,args:=#[]}]) r7.f b1 b2 r7.s (Mem.le_refl _)
  have hd0:a3.defers=[]:=r7.f.defers
  rw [hd0]
  refine wpIn_wide.2 (wp_mono (hrest st6 k6 _ I6 st6 W3 I6 _ _ W3 r8) ?_)
  rintro e a9 w9 ⟨I9,β9,env9,st9,ae,r9,x9,k9,q9⟩
  have hlast:LeavesInM Fence.wide 3 P fn a9.tmps (λe w'=>∃I' st' r,Fr I st w I' st' w'/\Co I' st' w'/\Vl I' e r/\R r st') a9.defers .returning w9:=by
   rw [r9.f.defers]
   obtain ⟨_,hD9⟩:=hidD6.fr (IB hD7) r9.fr
   rw [hD7] at hD9
   refine ⟨GT,.inl ⟨_,_,rfl,run_takeDeferred hD9,?_⟩⟩
   have hle9:W3.heap.size<=w9.heap.size:=r9.fr.size
   have hfr:Fr I st w I9 st9 w9:=r7.fr.trans r9.fr
   have r10:Rel [{target:=.collected U.heap.size,args:=#[]}] I st w I9 β9 env9 st9 a9 w9:=⟨hfr,r9.s,⟨r9.f.size,r9.f.tmps,r9.f.box,r9.f.Bj,r9.f.inj,λid b e=>by
    obtain ⟨h1,h2⟩:=r9.f.sep id b e
    grind,r9.f.defers⟩⟩
   have r11:=r10.cB (y:=.deferred none) hD9 rfl hsz
   obtain ⟨v,c,g1,g2,g3⟩:=CF (P:=P) hP.t r11 q9
   exact ⟨c,g1,I9,st9,.ret v,r11.fr,r11.s,g2,g3⟩
  rcases k9 with rfl|rfl
  .cases e<;>first|exact hlast|exact x9.elim
  .cases e<;>first|exact hlast|exact x9.elim
theorem YU (hP:R7 P T) {l:Nat} (k:Nat) {c:Call} {f:Operand} (hk:all[k]? =some U) (hnd:OE all=true) (hc:U.op=.call c) (hf:c.callee=.value f) (hg:U.guard=none)
 (h:DX T (A5 P) all (B2 (λenv st=>env.eval f=.dC l/\TQ env c.args.toList λvs=>YS P l r Im vs st λst'=>env.go U.dst (.bool true) λenv=>DX T (A5 P) all Q (all.drop (k+1)) env st') Q) (all.take k) env st):
 OU P l r Im (.region id all.toArray false) Q env st:=
 au hP (by
  obtain ⟨h1,h2⟩:=List.getElem?_eq_some_iff.1 hk
  rw [<-h2,<-List.drop_eq_getElem_cons h1,List.take_append_drop]) hnd hc hf hg h
end
end Go.Aw
namespace Go.Proofs.Z
open Go Go.Aw
theorem bS {l:List (List UInt8)} {K:Nat->Prop} (k:l.length<4611686018427387904->K l.length):∀m,m=(strs l).length->m<En->K m:=λm U h=>by
 rw [show (strs l).length=l.length by simp [strs]] at U;subst U;exact k h
theorem XX (s:List UInt8) (U pos:Nat):(Dy s U pos).length<=s.length - pos+1:=by
 fun_induction Dy s U pos with
 |case1 U pos h1 h2 ih=>rw [List.length_cons];omega
 |case2 U pos h1 h2 ih=>omega
 |case3 U pos h1=>rw [List.length_singleton];omega
def P2 (t:Tk):Bool:=t.kind==9&&(t.text==[108,101,116]||t.text==[119,104,101,114,101]||t.text==[100,111]||t.text==[111,102])
def XI (t:Tk) (k:Int) (x:List UInt8):Bool:=t.kind==k&&t.text==x
def nA (t:Tk):Int:=t.line+((Dy t.text 0 0).length:Nat) - 1
def UX (p:Option Tk) (t:Tk):Int:=match p with
 |none=>if (XI t 9 [109,111,100,117,108,101]||XI t 15 [123])=true then 17 else 16
 |some p=>if (P2 p&& !XI t 15 [123])=true then 16 else if (!(t.line==p.line)&& !(t.line==nA p))=true then 17 else 0
def markT (m:Int) (t:Tk):List Tk:=if m=0 then [t] else [⟨m,[],t.line,t.Ce⟩,t]
def DK:Option Tk->List Tk->List Tk
 |_,[]=>[]
 |p,t::r=>markT (UX p t) t++DK (some t) r
def ZH (l:List Tk):List Tk:=match l.getLast? with
 |none=>[⟨16,[],0,0⟩]
 |some t=>if P2 t=true then [⟨16,[],0,0⟩] else []
def Ej (l:List Tk):List Tk:=DK none l++ZH l
def ahead (l:List Tk) (i:Nat):Option Tk:=if i=0 then none else l[i - 1]?
def E6 (l:List Tk) (i:Nat):Int:=match l[i]? with
 |some t=>UX (ahead l i) t
 |none=>0
section
variable {st:St} {K:Ay->St->Prop}
theorem P3 {t:Tk} (h:K (.ret (.bool (P2 t))) st):PC 82 [EZ t] st K:=by
 refine pB Tryz.func82 ?_
 repeat' ((conv=>whnf);first|(refine Bp ?_;intros)|(refine Bq ?_ ?_<;>intro _)|fail)
 all_goals conv=>whnf
 all_goals (refine Aq h ?_;clear h;simp_all [P2])
theorem nH {t:Tk} (h:K (.ret (.bool (XI t k x))) st):PC 151 [EZ t,.int .i64 k,.str x] st K:=by
 refine pB Tryz.func151 ?_
 repeat' ((conv=>whnf);first|(refine Bp ?_;intros)|(refine Bq ?_ ?_<;>intro _)|fail)
 all_goals conv=>whnf
 all_goals (refine Aq h ?_;clear h;simp_all [XI])
theorem oN {t:Tk} (U:t.text.length<=100000000) (h2: -1000000000<=t.line) (h3:t.line<=1000000000) (h:K (.ret (.int .i64 (nA t))) st):PC 152 [EZ t] st K:=by
 refine pB Tryz.func152 ?_
 have hb:=XX t.text 0 0
 repeat' ((conv=>whnf);first|exact CL|(refine Bp ?_;intros)|(refine CM ?_ ?_ ?_;rotate_left)|(refine Bq ?_ ?_<;>intro _)|refine ZF U (λown ho=>?_)|refine bS (λ_=>?_)|refine Ae [(0,true),(1,true),(2,true),(3,true),(4,false),(5,true),(6,true),(7,true),(8,true)] [] GE ?_|with_reducible refine WF ?_)
 all_goals conv=>whnf
 all_goals exact ⟨_,_,.inl rfl,AB.Bz ho,h⟩
theorem mw {l:List Tk} {own:AB} (h:∀c,st.fresh c->K (.ret (.func 150 [] [.ptr c 0])) (st.Aa c [.slice 4 (AD l) own])):PC 81 [.slice 4 (AD l) own] st K:=by
 refine A1 Ad [] Tryz.func81 rfl Do rfl ?_
 refine Ak (Am Ad ?_)
 repeat' ((conv=>whnf);first|(refine Bp ?_;intros)|(refine Bq ?_ ?_<;>intro _)|fail)
 refine KT 1 0 rfl rfl rfl (λc U=>?_)
 refine Am Ad ?_
 repeat' ((conv=>whnf);first|(refine Bp ?_;intros)|(refine Bq ?_ ?_<;>intro _)|fail)
 all_goals conv=>whnf
 all_goals exact ⟨_,_,.inl rfl,St.le_refl _,h c U⟩
end
def jf (l:List Tk):Bool:=l.all λt=>decide (t.text.length<=100000000)&&(decide (-1000000000<=t.line)&&decide (t.line<=1000000000))
def YJ:List UInt8:=[105,109,112,111,114,116,32,113,117,97,108,105,102,105,101,100,32,77,46,78,32,97,115,32,75,32,104,105,100,105,110,103,32,40,97,44,32,84,32,40,46,46,41,44,32,40,43,41,41,10,100,97,116,97,32,69,113,32,97,32,61,62,32,84,32,97,32,61,32,65,32,97,32,33,73,110,116,32,124,32,97,32,58,43,32,98,10,32,32,100,101,114,105,118,105,110,103,32,40,69,113,41,10,102,32,61,32,120]
def YK:List UInt8:=[110,101,119,116,121,112,101,32,78,32,61,32,78,32,33,73,110,116]
def L3 (s:List UInt8):List Tk:=match Iz s with| .inr x=>x.AA| .inl _=>[]
theorem mO:(match Iz YJ with| .inr _=>true| .inl _=>false)=true:=EQ
theorem mP:(match Iz YK with| .inr _=>true| .inl _=>false)=true:=EQ
theorem mM:(jf (L3 YJ)&&jf (L3 YK)&&decide ((L3 YJ).length<=1000)&&decide ((L3 YK).length<=1000)&&decide ((Ej (L3 YJ)).length<=200)&&decide ((Ej (L3 YK)).length<=200))=true:=EQ
theorem qV:(match (Ee (My (HC 4) (Mz 4) (Gn 4) (CT 4) (FT (CT 4) (IA 3)) (Da F5 (FT (CT 3) (IA 2))))).run ⟨Ej (L3 YJ),0,[],0⟩ with
 | .inr (n,s')=>(n.kind==2&&s'.pos==(s'.AA.length:Nat))&&(n.kids.map (λk=>(k.kind,if k.kind=50 then k.kids.length else 0))==[(50,7),(42,0),(36,0)])
 | .inl _=>false)=true:=EQ
theorem qW:(match (Ee (My (HC 4) (Mz 4) (Gn 4) (CT 4) (FT (CT 4) (IA 3)) (Da F5 (FT (CT 3) (IA 2))))).run ⟨Ej (L3 YK),0,[],0⟩ with
 | .inr _=>false
 | .inl (e,_)=>e.1==120)=true:=EQ
section
variable {st0 st st':St} {b d:Nat} {s:Ag} {rows:List (AB×List Nd)} {K:Ay->St->Prop}
attribute [local irreducible] Go.Aw.Ah
theorem Cx.mono (h:Cx st0 b s st rows) (k:st.le st'):Cx st0 b s st' rows:=by
 refine ⟨?_,?_,h.mu⟩
 .rcases h.has with e|⟨t,u,o1,o2,e0,e⟩
  .exact .inl (k.1 _ _ e)
  .exact .inr ⟨t,u,o1,o2,e0,k.1 _ _ e⟩
 .obtain ⟨cs,U⟩:=h.rx
  refine ⟨cs,St.le_trans U.le k,λr hr'=>?_,U.ap⟩
  have:=U.ok r hr'
  obtain ⟨o,l⟩:=r
  cases o with
  |any=>exact this
  |full=>exact this
  |tok t=>exact ⟨this.1,k.2 _ _ this.2⟩
theorem Cx.oz {l new:List Int} {Q:V->St->Prop} (hc:Cx st0 b s st rows) (hb:l.length+new.length<=1000000000) (k:∀U st',Cx st0 b s st' rows->Q (.slice 1 (ints (l++new)) U) st'):Ah 1 8 (ints l) .full (ints new) st Q:=
 O1 (own:=.full) trivial hb λU ho=>k U _ (hc.mono (AB.Bz ho))
theorem mn (U:Cx st0 b s st rows) (e:Bn s k x=true) (hk:k≠0/\k≠21) (kk:∀st',Cx st0 b (Ab s).2.1 st' rows->K (.ret (EZ (Ab s).1)) st'):PC 139 [.ptr b 0] st K:=
 Tx U.has U.hb (λ_ st' hu=>kk st' (U.Nl hu (Nat.le_of_lt (DU e hk.1 hk.2)))) (λn=>absurd (GQ e hk.1) n)
theorem O5 {Q:List V->Prop} (h:Has st b s) (U:Q (CD s)) (k2:∀t u o1 o2 e,Q (UB s t u o1 o2 e)):∃cs,st.box b=some cs/\Q cs:=by
 rcases h with e|⟨t,u,o1,o2,e0,e⟩
 .exact ⟨_,e,U⟩
 .exact ⟨_,e,k2 ..⟩
theorem Kp {own:AB} (h:K (.ret (enc (Au k l))) st):PC 122 [.int .i64 k,.slice 6 (l.map AM) own] st K:=by
 refine pB Tryz.func122 ?_
 repeat' ((conv=>whnf);(first|refine A2 ?_|refine A3 ?_ ?_|refine A4 ?_ ?_|fail)<;>intros)
 all_goals exact DS (St.le_refl _) B6 h
theorem jh {a:Nd} {own:AB} (h:K (.ret (enc (Au k [a]))) st):PC 122 [.int .i64 k,.slice 6 [AM a] own] st K:=Kp (l:=[a]) h
theorem ji {a b:Nd} {own:AB} (h:K (.ret (enc (Au k [a,b]))) st):PC 122 [.int .i64 k,.slice 6 [AM a,AM b] own] st K:=Kp (l:=[a,b]) h
theorem jk {a b c:Nd} {own:AB} (h:K (.ret (enc (Au k [a,b,c]))) st):PC 122 [.int .i64 k,.slice 6 [AM a,AM b,AM c] own] st K:=Kp (l:=[a,b,c]) h
theorem jl {a b c d:Nd} {own:AB} (h:K (.ret (enc (Au k [a,b,c,d]))) st):PC 122 [.int .i64 k,.slice 6 [AM a,AM b,AM c,AM d] own] st K:=Kp (l:=[a,b,c,d]) h
theorem VU (hc:Cx st0 b s st rows) (U:∀st',Cx st0 b s st' rows->K (.ret (.bool (Bn s 15 x))) st'):PC 119 [pv b d,.str x] st K:=by
 refine pB Tryz.func119 ?_
 repeat' ((conv=>whnf);(first|refine A2 ?_|refine A3 ?_ ?_|refine A4 ?_ ?_|refine lA ‹_› ?_)<;>intros)
 all_goals conv=>whnf
 all_goals exact Aq (U _ ‹_›) ‹_›
theorem VT (U:Cx st0 b s st rows) (e:Bn s 15 x=true) (kk:∀st',Cx st0 b s st' rows->K (.ret (.bool true)) st'):PC 119 [pv b d,.str x] st K:=VU U (by rw [e];exact kk)
theorem ak (U:Cx st0 b s st rows) (e:Bn s 15 x=false) (kk:∀st',Cx st0 b s st' rows->K (.ret (.bool false)) st'):PC 119 [pv b d,.str x] st K:=VU U (by rw [e];exact kk)
theorem mH {Q:Prop} (U:Cx st0 b s st rows) (h:if Bn s 15 x=true then P else Q) (k1:∀st',Cx st0 b s st' rows->Bn s 15 x=true->P->K (.ret (.bool true)) st') (k2:∀st',Cx st0 b s st' rows->Bn s 15 x=false->Q->K (.ret (.bool false)) st'):
 PC 119 [pv b d,.str x] st K:=by
 cases e:Bn s 15 x with
 |true=>exact VT U e λst' c=>k1 st' c e (by rw [if_pos e] at h;exact h)
 |false=>exact ak U e λst' c=>k2 st' c e (by rw [if_neg (by rw [e];decide)] at h;exact h)
theorem mC (k:K (.BX (fault Hc.1)) st):PC 159 [pv b d,.bool false] st K:=by
 refine pB Tryz.func159 ?_
 repeat' ((conv=>whnf);(first|refine A2 ?_|refine A3 ?_ ?_|refine A4 ?_ ?_|refine Ca ?_)<;>intros)
 all_goals exact ⟨_,_,.inl rfl,St.le_refl _,k⟩
theorem mD (k:K (.ret (.Bu [])) st):PC 159 [pv b d,.bool true] st K:=by
 refine pB Tryz.func159 ?_
 repeat' ((conv=>whnf);(first|refine A2 ?_|refine A3 ?_ ?_|refine A4 ?_ ?_|refine Ca ?_)<;>intros)
 all_goals exact ⟨_,_,.inl rfl,St.le_refl _,k⟩
theorem Di {Q:Unit->Ag->Prop} (h:Rd.wp (F9 c) s Q E) (e:c=true) (U:Q () s->K (.ret (.Bu [])) st):PC 159 [pv b d,.bool true] st K:=by
 subst e
 unfold F9 at h
 rw [Rd.As,if_pos rfl,Rd.wp_ret] at h
 exact mD (U h)
theorem Dh {Q:Unit->Ag->Prop} (h:Rd.wp (F9 c) s Q E) (e:c=false) (U:E Hc s->K (.BX (fault Hc.1)) st):PC 159 [pv b d,.bool false] st K:=by
 subst e
 unfold F9 at h
 rw [Rd.As,if_neg Do,Rd.DM] at h
 exact mC (U h)
def qg (st0:St) (b:Nat) (f:FuncId) (args:List V) (A:Rd Nd):Prop:=∀{s:Ag} {st:St} {rows:List (AB×List Nd)} {K:Ay->St->Prop},Cx st0 b s st rows->
 Rd.wp A s (λv s'=>∀st',Cx st0 b s' st' rows->K (.ret (enc v)) st') (λe s'=>∀st',Cy st0 b s' st' rows->K (.BX (fault e.1)) st')->PC f args st K
theorem AQ.z {mk:Nat->List V} (h:AQ enc f mk A):qg st0 b f (mk b) A:=h.ap
theorem qg.go {Q:Nd->Ag->Prop} (hf:qg st0 b f args A) (U:Cx st0 b s st rows) (h:Rd.wp A s Q E)
 (k:∀v s' st',mu s'<=mu s->Cx st0 b s' st' rows->Q v s'->K (.ret (enc v)) st') (kb:∀e s' st',Cy st0 b s' st' rows->E e s'->K (.BX (fault e.1)) st'):PC f args st K:=
 hf U (Rd.wp_mono h (λv s' r q st' c=>k v s' st' (A.le _ _ _ r) c q) (λe s' _ q st' c=>kb e s' st' c q))
end
theorem FR (h:P:=by (with_reducible show ∃_,_);first|exact ⟨⟨_,_,_,_⟩,⟨‹_›,Rd.Eu ‹_› cb,f7,cb⟩,cb,Yl,St.le_refl _⟩|exact BL (Cx.y ‹_›) ‹_›|exact BL (Cx.y (Cx.drop ‹_›)) ‹_›|exact Zo ‹_› ‹_› rfl|exact C2 ‹_› ‹_› rfl|exact C2 ‹_› ‹_› B6|exact C2 (Cx.drop ‹_›) ‹_› rfl|exact C2 (Cx.drop ‹_›) ‹_› B6|exact BL ‹_› ‹_›|exact BL (Cy.drop ‹_›) ‹_›|exact BL (Cy.drop (Cy.drop ‹_›)) ‹_›|fail):P:=h
theorem QJ {A:Prop} (k:A) (h:A->P:=by intro k;(with_reducible show Ah _ _ _ _ _ _ _);first|exact Cx.G1 ‹_› f8 k|exact Cx.G1 (Cx.push ‹_› _) f8 k|fail):P:=h k
theorem MC {A:Prop} (k:A) (h:A->P:=by intro k;(with_reducible show PC _ _ _ _);first|((with_reducible show PC 156 _ _ _);exact XK ‹_› ‹_› k)|((with_reducible show PC 156 _ _ _);exact fS ‹_› ‹_› k)|((with_reducible show PC 119 _ _ _);exact VT ‹_› ‹_› k)|((with_reducible show PC 119 _ _ _);exact ak ‹_› ‹_› k)|((with_reducible show PC 83 _ _ _);exact Qf ‹_› k)|fail):P:=h k
theorem Q4 {A B:Prop} (k:A) (l:B) (h:A->B->P:=by intro k l;(with_reducible show PC _ _ _ _);first|((with_reducible show PC 156 _ _ _);exact fR ‹_› ‹_› k l)|((with_reducible show PC 119 _ _ _);exact mH ‹_› ‹_› k l)|fail):P:=h k l
theorem Jl {A:Prop} (k:A) (h:A->P:=by intro k;(with_reducible show PC _ _ _ _);first|((with_reducible show PC 121 _ _ _);exact Mt ‹_› ‹_› ‹_› Do k)|((with_reducible show PC 121 _ _ _);exact Mu ‹_› ‹_› AC k)|fail):P:=h k
theorem Ja {A B:Prop} (k:A) (l:B) (h:A->B->P:=by intro k l;(with_reducible show PC _ _ _ _);first|((with_reducible show PC 121 _ _ _);exact Gk.go ‹_› ‹_› k l)|((with_reducible show PC 118 _ _ _);exact TN.go ‹_› ‹_› k l)|fail):P:=h k l
theorem se {A:Prop} (k:A) (h:A->P:=by intro k;(with_reducible show PC _ _ _ _);first|((with_reducible show PC 171 _ _ _);exact Rb ‹_› ‹_› k)|fail):P:=h k
theorem QK {A:Prop} (k:A) (h:A->P:=by intro k;(with_reducible show PC _ _ _ _);first|((with_reducible show PC 122 _ _ _);exact jh k)|((with_reducible show PC 122 _ _ _);exact ji k)|((with_reducible show PC 122 _ _ _);exact jk k)|((with_reducible show PC 122 _ _ _);exact jl k)|((with_reducible show PC 122 _ _ _);exact Kp k)|fail):P:=h k
theorem L1 {A:Ag->Rs} {hle:∀s v s',A s=.inr (v,s')->mu s'<=mu s} (hB:El A) (hf:C8 g (d:Int) A) (h0:d=0->∀s,A s=.inl (2,s)):
 AQ enc 84 (λb=>[.ptr b 0,.func g [] [],.int .i64 (d:Int)]) (HB A hle):=⟨λU h=>PT (d:=d) rfl hf h0 hB U.mu U.has (VO hB U h)⟩
theorem Rk (U:1<=d) (h:d<=100):CR (d:Int)=d:=by unfold CR;split<;>omega
theorem cU (h:(Fg ks).run s=.inr (n,s')):∃o x c,n=Au 3 [o,x,c]:=by
 unfold Fg at h
 obtain ⟨o,s1,_,h⟩:=Bk h
 obtain ⟨x,s2,_,h⟩:=Bk h
 obtain ⟨c,U,_,h⟩:=Bk h
 cases h
 exact ⟨o,x,c,rfl⟩
section
variable {st0 st:St} {b d:Nat} {s:Ag} {rows:List (AB×List Nd)} {K:Ay->St->Prop}
attribute [local irreducible] Go.Aw.Ah
theorem iY (U:1<=d) (h:d<=100):AQ enc 365 (λb=>[pv b d]) (HC d):=by
 have hi:=L1 (hle:=λs v s' h=>Nat.le_of_lt (BV (BF _) _ _ _ h)) (Cq (B9 (d - 1))) (by have:=ql (deep:=(d:Int));rw [Rk U h] at this;exact this) (λe=>by omega)
 refine ⟨λ{st0 b s st rows K} hc h=>?_⟩
 unfold HC at h
 refine pB Tryz.func365 ?_
 repeat' ((conv=>whnf);(first|refine A2 ?_|refine A3 ?_ ?_|refine A4 ?_ ?_|exact FR|refine Ac ?_|refine Fj.go (by first|exact AQ.q) ?_ ?_)<;>intros)
theorem mJ (U:1<=d) (h:d<=100):AQ enc 158 (λb=>[pv b d]) (Mz d):=by
 have hi:=L1 (hle:=λs v s' h=>Nat.le_of_lt (Ft (BV (BF _)) _ _ _ h)) (HH (Cq (B9 (d - 1)))) (by have:=rC (deep:=(d:Int));rw [Rk U h] at this;exact this) (λe=>by omega)
 refine ⟨λ{st0 b s st rows K} hc h=>?_⟩
 unfold Mz at h
 refine pB Tryz.func158 ?_
 repeat' ((conv=>whnf);(first|refine A2 ?_|refine A3 ?_ ?_|refine A4 ?_ ?_|exact FR|refine Ac ?_|refine Fj.go (by first|exact AQ.q) ?_ ?_)<;>intros)
theorem dm (U:1<=d) (h:d<=100):AQ enc 161 (λb=>[pv b d]) (Gn d):=by
 have hi:=L1 (hle:=λs v s' h=>Nat.le_of_lt (Hd (BV (BF _)) _ _ _ h)) (Gw (Cq (B9 (d - 1)))) (by have:=qZ (deep:=(d:Int));rw [Rk U h] at this;exact this) (λe=>by omega)
 refine ⟨λ{st0 b s st rows K} hc h=>?_⟩
 unfold Gn at h
 refine pB Tryz.func161 ?_
 repeat' ((conv=>whnf);(first|refine A2 ?_|refine A3 ?_ ?_|refine A4 ?_ ?_|exact FR|refine Ac ?_|refine Fj.go (by first|exact AQ.q) ?_ ?_)<;>intros)
theorem je (U:1<=d) (h:d<=100):AQ enc 173 (λb=>[pv b d]) (CT d):=by
 have hi:=L1 (hle:=λs v s' h=>Nat.le_of_lt (PD (BV (BF _)) _ _ _ h)) (J3 (Cq (B9 (d - 1)))) (by have:=nC (deep:=(d:Int));rw [Rk U h] at this;exact this) (λe=>by omega)
 refine ⟨λ{st0 b s st rows K} hc h=>?_⟩
 unfold CT at h
 refine pB Tryz.func173 ?_
 repeat' ((conv=>whnf);(first|refine A2 ?_|refine A3 ?_ ?_|refine A4 ?_ ?_|exact FR|refine Ac ?_|refine Fj.go (by first|exact AQ.q) ?_ ?_)<;>intros)
theorem GZ {own:AB} (U:ks.contains 0=false):AQ enc 193 (λb=>[pv b d,.slice 1 (ints ks) own]) (Fg ks):=by
 refine ⟨λ{st0 b s st rows K} hc h=>?_⟩
 simp only [Fg,Rd.wp_seq,Rd.wp_ret] at h
 refine pB Tryz.func193 ?_
 repeat' ((conv=>whnf);(first|exact CN|refine A2 ?_|(refine CO ?_ ?_ ?_;rotate_left)|refine A3 ?_ ?_|refine A4 ?_ ?_|refine Ja ?_ ?_|exact FR|refine QK ?_|refine Ac ?_|refine Fj.go (by first|exact AQ.q|exact (D3 U).a) ?_ ?_|refine Ae [(0,true),(1,true),(3,true),(4,true),(5,true),(7,true),(8,true),(2,false),(6,false),(9,false),(10,true),(11,false),(12,false)] [1] GE ?_|with_reducible refine WF ?_)<;>intros)
theorem cT {own:AB} {Q:Nd->Ag->Prop} (h0:ks.contains 0=false) (U:Cx st0 b s st rows) (h:Rd.wp (Fg ks) s Q E)
 (k:∀o x c s' st',mu s'<=mu s->Cx st0 b s' st' rows->Q (Au 3 [o,x,c]) s'->K (.ret (enc (Au 3 [o,x,c]))) st') (kb:∀e s' st',Cy st0 b s' st' rows->E e s'->K (.BX (fault e.1)) st'):PC 193 [pv b d,.slice 1 (ints ks) own] st K:=
 (GZ h0).go U h (λn s1 st1 hr hm U h=>by obtain ⟨o,x,c,rfl⟩:=cU hr;exact k o x c s1 st1 hm U h) kb
theorem Nk:AQ enc 172 (λb=>[pv b d]) Lg:=by
 refine ⟨λ{st0 b s st rows K} hc h=>?_⟩
 simp only [Lg,Rd.Af,Rd.As,Rd.wp_seq,Rd.wp_ret,Rd.Eg] at h
 have U:=hc.mu
 refine pB Tryz.func172 ?_
 repeat' ((conv=>whnf);(first|refine Gq ‹_› ?_ ?_|refine A2 ?_|refine A3 ?_ ?_|refine A4 ?_ ?_|refine MC ?_|refine Q4 ?_ ?_|refine Ca ?_|exact FR|refine Ac ?_|refine Fj.go (by first|exact AQ.q|exact (D3 (ks:=[1]) rfl).a) ?_ ?_|refine O5 (Cx.has ‹_›) ?_ ?_|refine cT (ks:=[5,6]) rfl ‹_› ‹_› ?_ ?_|refine Wm (ks:=[_,_,_]) rfl AC ?_|refine FM ‹_› U ?_|refine Ca ?_)<;>intros)
theorem QA:AQ enc 194 (λb=>[pv b d]) L7:=by
 refine ⟨λ{st0 b s st rows K} U h=>?_⟩
 simp only [L7,Rd.Af,Rd.As] at h
 refine pB Tryz.func194 ?_
 repeat' ((conv=>whnf);(first|refine A2 ?_|refine A3 ?_ ?_|refine A4 ?_ ?_|refine MC ?_|refine Q4 ?_ ?_|exact FR|refine Ac ?_|refine Fj.go (by first|exact AQ.q|exact (D3 (ks:=[1,2]) rfl).a|exact (GZ (ks:=[5,6]) rfl).a) ?_ ?_)<;>intros)
end
end Go.Proofs.Z
namespace Go.Aw
open Go
section
variable {D:List Deferred} {P:Program} {T:List (Nat×Ty)} {C:FuncId->List V->St->(Ay->St->Prop)->Prop} {I0 I:Mem} {st0 st:St} {w0 w:World} {β:Nat->Option Nat} {env:Env} {a:Act}
theorem Vj {J:Mem} {b:Nat}:∀{l:List V} {us:List Value} {o:Nat},Aj I l us->I.le J->(∀j c,us[j]? =some c->J.cell b (o+j)=some c)->CI J b o l
 |[],us,o,h,hl,U=>trivial
 |v::r,us,o,h,hl,U=>by
  simp only [Aj] at h
  obtain ⟨c,s,rfl,h1,h2⟩:=h
  exact ⟨⟨c,U 0 c rfl,AF.mono hl _ _ h1⟩,Vj h2 hl λj c e=>by rw [show o+1+j=o+(j+1) by omega];exact U (j+1) c (by simpa using e)⟩
theorem R6 {c:Code} {env:Env} {st:St} (t id:Nat) (ht:env.get t=.BK id 0) (hb:assoc env.boxes id=some cs) (hn:M4 cs=true)
 (h:AW P c Q {env with tmps:=(t,.Gg cs 0)::Ir id env.tmps,boxes:=Ha id env.boxes} st):AW P c Q env st:=
 KT t id ht hb hn λb hf D I0 st0 w0 I β a w hr=>by
  obtain ⟨vs,hv,hl,hr'⟩:=hr.freeze (b:=b) (cs:=cs) (by simp [St.Aa])
  refine h D I0 st0 w0 _ β a w (Rel.G4 ⟨hr'.fr,hr'.s,{hr'.f with tmps:=?_}⟩ (St.XN hf.1))
  intro t' v e
  have h0:=λv e=>hr'.f.tmps t' v e
  have h1:=hr.f.tmps t (.ptr b 0) (by rw [Bi];simp)
  rw [Bi] at e
  cases U:Nat.beq t t' with
  |true=>
   rw [U] at e
   have:=Nat.eq_of_beq_eq_true U
   subst this
   simp only [cond_true,Option.some.injEq] at e
   subst e
   have h2:AF I (.ptr b 0) (a.tmps.getD t undef):=h1
   refine AV.of ?_
   simp only [AF] at h2 |-
   exact ⟨b,0,h2,Vj hv hl λj c e=>by
    have:=Mem.OZ (I:=I) (b:=b) (h:=0) (n:=vs.length) e
    simp_all⟩
  |false=>
   rw [U] at e
   exact h0 v (by rw [Bi,U];exact e)
theorem gE (hM:∀f args st (R R':Ay->St->Prop),(∀r s,R r s->R' r s)->C f args st R->C f args st R')
 (hm:Jg sched all=true)
 (h:E7 T C all sched L (Bc (L.map some) env.boxes) Q sched env st):
 (∀(bs:List Bool) (e:Env) (st1:St) (i:Nat) (o:Oper),bs.length=all.length->Ks T C all sched st L (Bc (L.map some) env.boxes) Q env bs e st1->all[i]? =some o->Bt all bs i=true->
   Bb all o e (Fl T C o e st1 (λv env' st'=>env'.go o.dst v λenv''=>Ks T C all sched st L (Bc (L.map some) env.boxes) Q env (bs.set i true) env'' st') (λx _ s=>∀e',Q x e' s)) (e.go o.dst (.Bu []) λenv'=>Ks T C all sched st L (Bc (L.map some) env.boxes) Q env (bs.set i true) env' st1))/\
 (∀(bs:List Bool) (e:Env) (st1:St),bs.length=all.length->Ks T C all sched st L (Bc (L.map some) env.boxes) Q env bs e st1->bs=List.replicate all.length true\/∃j,j<all.length/\Bt all bs j=true)/\
 (∀(e:Env) (st1:St),Ks T C all sched st L (Bc (L.map some) env.boxes) Q env (List.replicate all.length true) e st1->∃env',(e.eqv env'/\env'.boxes=e.boxes/\env'.gl=e.gl)/\Q .normal env' st1)/\
 Ks T C all sched st L (Bc (L.map some) env.boxes) Q env (List.replicate all.length false) env st:=by
 have M:=OW.of hm
 have hb0:∀id cs,assoc (Bc (L.map some) env.boxes) id=some cs->assoc env.boxes id=some cs/\id ∉ L:=λid cs e=>by
  obtain ⟨h1,h2⟩:=GA e
  simp_all
 have hget:∀bs:List Bool,∀j,j<bs.length->bs.getD j true=bs.getD j false:=λbs j hj=>by simp_all
 have ready:∀{bs:List Bool} {i:Nat} {o:Oper},all[i]? =some o->bs.length=all.length->Bt all bs i=true->bs.getD i false=false/\∀x ∈ o.after,Region.binds .any x=true->bs.getD x.on false=true:=by
  intro bs i o ho hb hrd
  have hi:i<bs.length:=by rw [hb];exact (List.getElem?_eq_some_iff.1 ho).1
  unfold Bt at hrd
  rw [ho,hget bs i hi] at hrd
  simp only [Bool.and_eq_true,Bool.not_eq_true',List.all_eq_true] at hrd
  refine ⟨hrd.1,λx hx hb=>?_⟩
  have:=hrd.2 x ke
  rw [hb] at this
  simpa using this
 have listed:∀{bs:List Bool},(∀i o,all[i]? =some o->bs.getD i false=true->∀x ∈ o.after,Region.binds .any x=true->bs.getD x.on false=true)->
  ∀(n:Nat) {i j:Nat} {o:Oper},reaches all n i j=true->all[i]? =some o->(∀x ∈ o.after,Region.binds .any x=true->bs.getD x.on false=true)->bs.getD j false=true:=by
  intro bs cl n
  induction n with
  |zero=>intro i j o h;cases h
  |succ n ih=>
   intro i j o h ho ha
   rw [reaches,ho] at h
   simp only [Bool.or_eq_true,List.any_eq_true,Bool.and_eq_true] at h
   rcases h with ⟨x,h1,h2,h3⟩|⟨x,h1,⟨h2,h3⟩,h4⟩
   .have:=Nat.eq_of_beq_eq_true h3
    grind
   .have hx:=ha x ke h2
    cases hp:all[x.on]? with
    |none=>
     cases n with
     |zero=>cases h4
     |succ n=>rw [reaches,hp] at h4;cases h4
    |some p=>grind
 refine ⟨?_,?_,?_,?_⟩
 .intro bs e st1 i o hbl hinv ho hrd
  obtain ⟨vs,pre,post,Ef,F,hh⟩:=hinv
  obtain ⟨hbi,haft⟩:=ready ho hbl hrd
  have hil:i<bs.length:=by rw [hbl];exact (List.getElem?_eq_some_iff.1 ho).1
  have B4:∀{CX:List (Nat×Bool)} {q:Bool} {r:List (Nat×Bool)},sched=CX++(i,q)::r->∀t ∈ Oper.B4 all o,assoc e.tmps t=F0 all env.tmps vs (λk=>decide (k ∈ CX.map (·.1))) t:=by
   intro CX q r hs t ht
   rw [F.tm]
   refine CG λk p hk hd=>⟨?_,λ_=>rfl⟩
   rcases Nat.lt_trichotomy k i with hki|rfl|hki
   .have h1:=M.lo i k o p t ho hk hd ht hki
    have h2:=listed F.cl _ h1 ho haft
    have h3:=M.ahead _ h1 _ _ _ hs
    grind
   .show bs.getD k false=decide (k ∈ CX.map (·.1))
    rw [hbi,decide_eq_false (M.nodup _ _ _ _ hs)]
   .have h1:=M.hi i k o p t ho hk hd ht hki
    show bs.getD k false=decide (k ∈ CX.map (·.1))
    have h2:bs.getD k false=false:=by
     cases hb:bs.getD k false with
     |false=>rfl
     |true=>have:=listed F.cl _ h1 hk (F.cl k p hk hb);grind
    have h3:k ∉ CX.map (·.1):=λhm=>by
     obtain ⟨x,hx,hxe⟩:=List.mem_map.1 hm
     obtain ⟨pa,ra,ea⟩:=List.append_of_mem hx
     have h4:=M.ahead _ h1 pa x.2 (ra++(i,q)::r) (by grind)
     exact M.nodup _ _ _ _ hs (by grind)
    grind
  have cl':∀k p,all[k]? =some p->(bs.set i true).getD k false=true->∀x ∈ p.after,Region.binds .any x=true->(bs.set i true).getD x.on false=true:=by
   intro k p hp hk x hx hb
   rw [Ex hil] at hk |-
   split
   .rfl
   .split at hk
    .grind
    .exact F.cl k p hp hk x hx hb
  by_cases hmem:i ∈ pre.map (·.1)
  . 
   obtain ⟨⟨i',q⟩,hx,rfl⟩:=List.mem_map.1 hmem
   obtain ⟨CX,r,epre⟩:=List.append_of_mem hx
   cases q with
   |false=>have:=F.ff _ hx;grind
   |true=>
    have hs:sched=CX++(i',true)::(r++post):=by rw [F.split,epre];simp
    obtain ⟨hd,hy⟩:=F.hy CX i' r o epre ho
    have hy:=hy e (B4 hs) F.n2 F.s2 F.g2
    obtain ⟨o',ho',U⟩:=M.kind _ _ _ _ hs
    have ho2:all[i']? =some o:=ho
    rw [ho2] at ho'
    cases ho'
    have U:EB o.op=true:=U
    have hqk:BI o.op=true:=by
     revert U
     cases o.op<;>simp [EB,BI]
    have step:e.go o.dst (vs i') (λe'=>Ks T C all sched st L (Bc (L.map some) env.boxes) Q env (bs.set i' true) e' st1):=by
     refine ND (λt ht=>by rw [F.s2];grind) ⟨vs,pre,post,Ef,⟨F.split,λj hj=>?_,λj hj=>?_,F.boxes,F.n1,F.n2,F.s1,F.s2,F.g1,F.g2,λt=>?_,F.tf,F.bx,F.go,F.qb,F.lv,F.hy,cl'⟩,hh⟩
     .rw [Ex hil] at hj
      split at hj
      .grind
      .exact F.sub j hj
     .rw [Ex hil]
      split
      .rfl
      .exact F.ff j hj
     .have:=FC (S:=λj=>bs.getD j false) (S':=λj=>(bs.set i' true).getD j false) (v:=vs i') M.dst ho F.tm (λj hj=>by grind) (by grind) t
      refine this.trans (CG λk p _ _=>⟨rfl,λ_=>?_⟩)
      unfold Nl
      grind
    refine E5 (λx=>?_) (λx=>?_) hy
    .have hbx:FD sched all i'=true->e.boxes=env.boxes:=λhe=>F.lv λk ok hk hok=>by
      unfold FD at he
      have h1:=List.all_eq_true.1 he (k,false) (by grind)
      simp only [Bool.false_or,hok] at h1
      cases hst:CQ ok.op with
      |false=>rfl
      |true=>
       rw [hst] at h1
       simp only [Bool.not_true,Bool.false_or] at h1
       have:=listed F.cl _ h1 hok (F.cl k ok hok (F.ff k hk))
       grind
     rcases x with x|⟨he,x⟩|⟨he,x⟩
     .unfold Bh at x
      refine CK (T:=T) (C:=C) (env:=e.only (Bc (L.map some) env.boxes) (Oper.B4 all o)) (env':=e) (st:=Jh) (st':=st1) hM hqk (.inr ⟨U,λ_=>rfl⟩) (Fy λt _=>rfl) F.bx (λv s s' g k=>?_) (λ_ _ k=>k.elim) x
      grind
     .have hini:st1=st:=F.qb λk hk=>by
       unfold GD at he
       have h1:=List.all_eq_true.1 he (k,false) (by grind)
       simp only [Bool.false_or] at h1
       have h2:=F.ff k hk
       cases hp:all[k]? with
       |none=>
        grind
       |some p=>
        have:=listed F.cl _ h1 hp (F.cl k p hp h2)
        grind
      subst hini
      unfold Bh at x
      have hb:=hbx (JB he)
      refine CK (T:=T) (C:=C) (env:=e.only env.boxes (Oper.B4 all o)) (env':=e) (st:=st1) (st':=st1) hM hqk (.inl rfl) (Fy λt _=>rfl) (λid cs h=>by rw [hb];exact h) (λv s s' g k=>?_) (λ_ _ k=>k.elim) x
      grind
     .unfold Bh at x
      have hb:=hbx he
      refine CK (T:=T) (C:=C) (env:=e.only env.boxes (Oper.B4 all o)) (env':=e) (st:=Jh) (st':=st1) hM hqk (.inr ⟨U,λ_=>rfl⟩) (Fy λt _=>rfl) (λid cs h=>by rw [hb];exact h) (λv s s' g k=>?_) (λ_ _ k=>k.elim) x
      grind
    grind
  . 
   obtain ⟨x,hx,rfl⟩:=List.mem_map.1 (M.cover i (List.getElem?_eq_some_iff.1 ho).1)
   rw [F.split] at hx
   have hxp:x ∈ post:=by
    rcases List.mem_append.1 hx with g|g
    .grind
    .exact g
   cases post with
   |nil=>cases hxp
   |cons p r=>
    obtain ⟨k,q⟩:=p
    have hq:q=false:=hh _ _ rfl
    subst hq
    have hxe:x=(k,false):=by
     rcases List.mem_cons.1 hxp with g|g
     .exact g
     .have h1:=M.chain pre k r F.split x g
      have h2:=listed F.cl _ h1 ho haft
      exact absurd (F.sub k h2) (M.nodup _ _ _ _ F.split)
    subst hxe
    have ho:all[k]? =some o:=ho
    have hbi:bs.getD k false=false:=hbi
    have hil:k<bs.length:=hil
    have hmem:k ∉ pre.map (·.1):=hmem
    have hgo:=F.go
    rw [K8] at hgo
    simp only [ho] at hgo
    have ag:∀t ∈ Oper.B4 all o,assoc Ef.tmps t=assoc e.tmps t:=λt ht=>by rw [F.tf,B4 F.split t ht]
    have hag:=GG (all:=all) (o:=o) ag
    have next:∀(v:V) (s:St) (B:List (Nat×List V)),(∀id cs,assoc (Bc (L.map some) env.boxes) id=some cs->assoc B id=some cs)->(CQ o.op=false->B=e.boxes)->
     Env.go {Ef with boxes:=B} o.dst v (λenv'=>E7 T C all sched L (Bc (L.map some) env.boxes) Q r env' s)->
     Env.go {e with boxes:=B} o.dst v (λe'=>Ks T C all sched st L (Bc (L.map some) env.boxes) Q env (bs.set k true) e' s):=by
     intro v s B hB hBe hk
     obtain ⟨hd,hk⟩:=GL hk
     have hd:∀t,o.dst=some t->t<Ef.sz:=hd
     have hmp:∀j,j≠k->(j ∈ (pre++[(k,false)]).map (·.1)↔j ∈ pre.map (·.1)):=λj hj=>by simp [hj]
     refine ND (λt ht=>by show t<e.sz;rw [F.s2,<-F.s1];grind) (JJ M r (Nl vs k v) (pre++[(k,false)]) {Ef with boxes:=B,tmps:=Of Ef.tmps o.dst v} ⟨by rw [F.split];simp,λj hj=>?_,λj hj=>?_,rfl,F.n1,F.n2,F.s1,F.s2,F.g1,F.g2,λt=>?_,λt=>?_,hB,hk,λhk=>absurd (List.mem_append_right _ List.mem_cons_self) (hk k),λhk=>(hBe (hk k o (List.mem_append_right _ List.mem_cons_self) ho)).trans (F.lv λk o hm ho=>hk k o (List.mem_append_left _ hm) ho),λCX j r' o' hs ho'=>?_,cl'⟩)
     .rw [Ex hil] at hj
      rw [List.map_append]
      split at hj
      .grind
      .exact List.mem_append_left _ (F.sub j hj)
     .rw [Ex hil]
      split
      .rfl
      .rename_i hne
       rcases List.mem_append.1 hj with g|g
       .exact F.ff j g
       grind
     .exact FC (S:=λj=>bs.getD j false) (S':=λj=>(bs.set k true).getD j false) M.dst ho F.tm (λj hj=>by grind) (by grind) t
     .exact FC (S':=λj=>decide (j ∈ (pre++[(k,false)]).map (·.1))) M.dst ho F.tf (λj hj=>by grind) GT t
     .rcases Lh hs with ⟨rfl,e2⟩|⟨r2,e2⟩
      .cases e2
      .have hj:=F.hy CX j r2 o' e2 ho'
       refine hj.Nl (λe=>?_) (λhm=>hmem ?_)
       .grind
       grind
    have heE:∀(E:Env),{E with boxes:=E.boxes}=E:=λE=>rfl
    refine FN ag (E5 (λx=>?_) (λx=>?_) hgo)
    .obtain ⟨x1,x⟩:=Ao.1 x
     obtain ⟨o',ho',U⟩:=M.kind _ _ _ _ F.split
     rw [ho] at ho'
     cases ho'
     have U:(BI o.op||CQ o.op)=true:=U
     cases hqk:BI o.op with
     |true=>
      refine CK (T:=T) (C:=C) (env:=Ef) (env':=e) (st:=st1) (st':=st1) hM hqk (.inl rfl) hag (λid cs hb=>by rw [<-F.boxes];exact hb) (λv s s' g hk=>?_) (λv s hk=>hk) x
      have:s'=s:=by rcases g with ⟨_,g⟩|⟨g1,g2⟩;exact g;rw [g1,g2]
      subst this
      have:=next v s' e.boxes F.bx (λ_=>rfl) (by rw [<-F.boxes];exact hk)
      omega
     |false=>
      rw [hqk] at U
      have hst:CQ o.op=true:=by simpa using U
      cases hop:o.op with
      |store t p y=>
       refine JV (T:=T) (C:=C) hop x1 hag F.boxes (by rw [F.n1,F.n2]) (by rw [F.s1,F.s2]) (by rw [F.g1,F.g2]) (λs B hB hk=>?_) x
       refine next .BP s B (λid cs hb=>?_) (λh=>by grind) hk
       obtain ⟨_,h2⟩:=hb0 id cs hb
       exact hB id cs h2 (by rw [F.boxes];exact F.bx id cs hb)
      |_=>rw [hop] at hst;cases hst
    .have:=next (.Bu []) st1 e.boxes F.bx (λ_=>rfl) (by rw [<-F.boxes];exact x)
     omega
 .intro bs e st hbl hinv
  obtain ⟨vs,pre,post,Ef,F,hh⟩:=hinv
  by_cases hall:∀p ∈ sched,bs.getD p.1 false=true
  .left
   rw [List.eq_replicate_iff]
   refine ⟨hbl,λb hb=>?_⟩
   obtain ⟨j,hj,rfl⟩:=List.mem_iff_getElem.1 hb
   obtain ⟨p,hp,e⟩:=List.mem_map.1 (M.cover j AC)
   grind
  .right
   have hex:∃pr p po,sched=pr++p::po/\bs.getD p.1 false=false/\∀x ∈ pr,bs.getD x.1 false=true:=by
    clear F hh
    revert hall
    generalize sched=l
    intro hall
    induction l with
    |nil=>grind
    |cons x l ih=>
     cases hb:bs.getD x.1 false with
     |false=>exact ⟨[],x,l,rfl,hb,λy hy=>by cases hy⟩
     |true=>
      obtain ⟨pr,p,po,h1,h2,h3⟩:=ih λh=>hall λp hp=>by grind
      grind
   obtain ⟨pr,⟨k,q⟩,po,h1,h2,h3⟩:=hex
   obtain ⟨o,ho,_⟩:=M.kind _ _ _ _ h1
   have hk:k<all.length:=(List.getElem?_eq_some_iff.1 ho).1
   refine ⟨k,hk,?_⟩
   unfold Bt
   rw [ho,hget bs k AC,h2]
   simp only [Bool.not_false,Bool.true_and,List.all_eq_true]
   intro x hx
   cases hb:Region.binds .any x with
   |false=>rfl
   |true=>
    obtain ⟨y,hy,e⟩:=List.mem_map.1 (M.back _ _ _ _ o h1 ho x (by grind) hb)
    grind
 .intro e st hinv
  obtain ⟨vs,pre,post,Ef,F,hh⟩:=hinv
  have hp:post=[]:=by
   cases post with
   |nil=>rfl
   |cons p r=>
    obtain ⟨o,ho,_⟩:=M.kind _ _ _ _ F.split
    have:=F.sub p.1 (by grind)
    exact absurd this (M.nodup _ _ _ _ F.split)
  subst hp
  refine ⟨Ef,⟨⟨λt=>?_,λt=>by rw [F.boxes],by rw [F.n1,F.n2],by rw [F.s1,F.s2]⟩,F.boxes,by rw [F.g1,F.g2]⟩,F.go⟩
  rw [F.tm,F.tf]
  refine CG λk p hk _=>⟨?_,λ_=>rfl⟩
  have hlt:=(List.getElem?_eq_some_iff.1 hk).1
  have h1:(List.replicate all.length true).getD k false=true:=by rw [List.getD_eq_getElem?_getD,List.getElem?_replicate,if_pos hlt];rfl
  show (List.replicate all.length true).getD k false=decide (k ∈ pre.map (·.1))
  rw [h1,decide_eq_true (F.sub k h1)]
 .have hf:∀j,(List.replicate all.length false).getD j false=false:=λj=>by grind
  have h0:∀(vs:Nat->V) t,F0 all env.tmps vs (λj=>(List.replicate all.length false).getD j false) t=assoc env.tmps t:=λvs t=>by
   unfold F0;grind
  refine JJ M sched (λ_=>.BP) [] env ⟨rfl,λj hj=>(by grind),λj hj=>(by cases hj),rfl,rfl,rfl,rfl,rfl,rfl,rfl,λt=>(h0 _ t).symm,λt=>?_,λid cs hb=>(hb0 id cs hb).1,h,λ_=>rfl,λ_=>rfl,λCX j r o e=>(by cases CX<;>cases e),λi o ho hi=>(by grind)⟩
  unfold F0
  grind
def Og (A:List Oper) (U os:Oper) (t:Nat):Bool:=
 U.after.toList.isEmpty&&(U.guard.isNone&&(os.guard.isNone&&(CQ os.op&&(A.all (λo=>o.guard.isNone&&(BI o.op&&(!(o.dst==some t)&&(!((Oper.B4 A o).contains t)&&o.after.toList.all λe=>Nat.blt e.on A.length))))&&
  ((List.range (A.length+1)).all (λi=>os.after.toList.any λe=>Nat.beq e.on i&&Region.binds .any e)&&os.after.toList.all λe=>Nat.ble e.on A.length)))))
def Sc (T:List (Nat×Ty)) (C:FuncId->List V->St->(Ay->St->Prop)->Prop) (U os:Oper) (Q:AG->Env->St->Prop) (x:AG) (e:Env) (s:St):Prop:=match x with
 | .normal=>Fl T C U e s (λv e s=>e.go U.dst v λe=>Fl T C os e s (λv e s=>e.go os.dst v λe=>Q .normal e s) (λx _ s=>∀e',Q x e' s)) (λ_ _ _=>True)
 |x=>∀e',Q x e' s
structure p9 (t:Nat) (z:List V) (e0 e:Env):Prop where
 boxes:e.boxes=(e0.Bj,z)::e0.boxes
 Bj:e.Bj=e0.Bj+1
 sz:e.sz=e0.sz
 gl:e.gl=e0.gl
 tm:∀s,assoc e.tmps s=if s=t then some (.BK e0.Bj 0) else assoc e0.tmps s
def rm (I:List Bool->Env->St->Prop) (n t:Nat) (z:List V) (Q:AG->Env->St->Prop) (bs:List Bool) (e:Env) (s:St):Prop:=∃U x y,bs=U++[x,y]/\U.length=n/\
 ((x=false/\y=false/\I U e s)\/(x=true/\y=false/\∃e0,I U e0 s/\p9 t z e0 e)\/(x=true/\y=true/\U=List.replicate n true/\∃env',e.eqv env'/\Q .normal env' s))
theorem HQ {l r:List Bool} {d:Bool} (h:i<l.length):(l++r).getD i d=l.getD i d:=by
 rw [List.getD_eq_getElem?_getD,List.getD_eq_getElem?_getD,List.getElem?_append_left h]
theorem p9.get {t:Nat} {z:List V} {e0 e:Env} (h:p9 t z e0 e) {s:Nat} (U:s≠t):e0.get s=e.get s:=by
 unfold Env.get
 rw [h.tm,if_neg U]
theorem p9.go {t:Nat} {z:List V} {e0 e:Env} (h:p9 t z e0 e) {d:Option Nat} (hd:d≠some t) (v:V):p9 t z {e0 with tmps:=Of e0.tmps d v} {e with tmps:=Of e.tmps d v}:=
 ⟨h.boxes,h.Bj,h.sz,h.gl,λs=>by
   show assoc (Of e.tmps d v) s=if s=t then some (.BK e0.Bj 0) else assoc (Of e0.tmps d v) s
   rw [DI,DI,h.tm]
   by_cases U:d=some s
   .rw [if_pos U,if_pos U,if_neg (λe=>hd (by rw [U,e]))]
   .rw [if_neg U,if_neg U]⟩
theorem Ks.facts {sti:St} {b0:List (Nat×List V)} {U:Env} {bs:List Bool} {e:Env} {st:St} (hq:∀(k:Nat) (o:Oper),all[k]? =some o->CQ o.op=false) (h:Ks T C all sched sti L b0 Q U bs e st):
 e.Bj=U.Bj/\e.sz=U.sz/\e.gl=U.gl/\e.boxes=U.boxes:=by
 obtain ⟨vs,pre,post,Ef,F,_⟩:=h
 exact ⟨F.n2,F.s2,F.g2,F.lv λk o _ ho=>hq k o ho⟩
theorem QX {o:Op} (h:BI o=true):CQ o=false:=by
 cases o<;>first|rfl|cases h
theorem dJ {e:Env} {s:St} {K:V->Env->St->Prop} {z:Ty} (ho:U.op=.alloc ty) (hz:assoc T ty=some z):Fl T C U e s K Q=IC e s U.dst z.zero.cells K:=by
 simp only [Fl,ho,hz]
theorem TS (hT:F2 P T) (hC:∀f args st R,C f args st R->Ct P f args st R/\Plain P f) (hM:∀f args st (R R':Ay->St->Prop),(∀r s,R r s->R' r s)->C f args st R->C f args st R')
 {A:List Oper} {oa os:Oper} {z:Ty} {t:Nat} (hm:Jg sched A=true) (hk:Og A oa os t=true) (ho:oa.op=.alloc ty) (hd:oa.dst=some t) (hz:assoc T ty=some z) (hts:t<env.sz) (hgl:env.N6 (some t)=false)
 (h:E7 T C A sched L (Bc (L.map some) env.boxes) (Sc T C oa os Q) sched env st) (hr:Rel D I0 st0 w0 I β env st a w):
 wpAny P .any (A++[oa,os]).toArray (B3 D I0 st0 w0 Q) (A++[oa,os]).toArray.size (Array.replicate (A++[oa,os]).toArray.size false) a {w with drawn:=w.drawn+1}:=by
 obtain ⟨step,live,fin,start⟩:=gE (T:=T) (C:=C) hM hm h
 have hr:=hr.It (Fp.drew w)
 generalize hI:Ks T C A sched st L (Bc (L.map some) env.boxes) (Sc T C oa os Q) env=I0' at step live fin start
 unfold Og at hk
 simp only [Bool.and_eq_true,List.all_eq_true,List.any_eq_true,List.mem_range,Bool.not_eq_true'] at hk
 obtain ⟨k1,k2,k3,k4,k5,k6,k7⟩:=hk
 have hAo:∀(i:Nat) (o:Oper),A[i]? =some o->o.guard=none/\BI o.op=true/\o.dst≠some t/\t ∉ Oper.B4 A o/\∀e ∈ o.after.toList,e.on<A.length:=λi o hi=>by
  obtain ⟨h1,h2,h3,h4,h5⟩:=k5 o (List.mem_of_getElem? hi)
  refine ⟨by simpa using h1,h2,by simpa using h3,by simpa using h4,λe he=>?_⟩
  have:=h5 e he
  rw [Nat.blt_eq] at this;exact this
 have facts:∀{bs e s},I0' bs e s->e.Bj=env.Bj/\e.sz=env.sz/\e.gl=env.gl/\e.boxes=env.boxes:=λ{bs e s} hi=>by
  rw [<-hI] at hi
  exact Ks.facts (λk o ho=>QX (hAo k o ho).2.1) hi
 have fresh:assoc env.boxes env.Bj=none:=by
  cases e:assoc env.boxes env.Bj with
  |none=>rfl
  |some cs=>
   obtain ⟨b,hb,_⟩:=hr.f.box _ _ e
   exact absurd (hr.f.Bj _ _ hb) (Nat.lt_irrefl _)
 have hga:oa.guard=none:=by simpa using k2
 have hgs:os.guard=none:=by simpa using k3
 have hla:(A++[oa,os]).length=A.length+2:=GT
 refine YY hT hC (Inv:=rm I0' A.length t z.zero.cells Q) ?_ ?_ ?_ _ (List.replicate (A++[oa,os]).length false) _ _ β env st _ _ GT GT GT ?_ hr
 .rintro bs e s i o hbl ⟨bA,x,y,rfl,hlen,U⟩ hio hrd
  have rdA:i<A.length->Bt A bA i=true:=λhi=>by
   rw [List.getElem?_append_left hi] at hio
   unfold Bt at hrd |-
   rw [List.getElem?_append_left hi,hio] at hrd
   rw [hio]
   rw [HQ AC] at hrd
   simp only [Bool.and_eq_true,List.all_eq_true] at hrd |-
   refine ⟨hrd.1,λe he=>?_⟩
   have:=hrd.2 e he
   rwa [HQ (by rw [hlen];exact (hAo i o hio).2.2.2.2 e he)] at this
  rcases Nat.lt_trichotomy i A.length with hi|rfl|hi
  .have hrA:=rdA hi
   rw [List.getElem?_append_left hi] at hio
   obtain ⟨g1,g2,g3,g4,g5⟩:=hAo i o hio
   have hset:∀x y,(bA++[x,y]).set i true=bA.set i true++[x,y]:=λx y=>List.set_append_left _ _ AC
   have hls:(bA.set i true).length=A.length:=by simpa using hlen
   unfold Bb
   rw [g1]
   rcases U with ⟨rfl,rfl,U⟩|⟨rfl,rfl,e0,U,ha⟩|⟨rfl,rfl,U,_⟩
   .have:=step bA e s i o hlen U hio hrA
    unfold Bb at this
    rw [g1] at this
    refine CK (env:=e) (env':=e) (st:=s) (st':=s) hM g2 (.inl rfl) (λ_ _=>rfl) (λid cs h=>h) (λv s1 s2 g k=>?_) (λv s1 k=>k e e) this
    have hs:s2=s1:=by rcases g with ⟨_,g⟩|⟨g1,g2⟩;exact g;rw [g1,g2]
    subst hs
    obtain ⟨q1,q2⟩:=GL k
    exact ND q1 ⟨bA.set i true,false,false,hset _ _,hls,.inl ⟨rfl,rfl,q2⟩⟩
   .have:=step bA e0 s i o hlen U hio hrA
    unfold Bb at this
    rw [g1] at this
    have hf:=facts U
    refine CK (env:=e0) (env':=e) (st:=s) (st':=s) hM g2 (.inl rfl) (λx hx=>?_) (λid cs h=>?_) (λv s1 s2 g k=>?_) (λv s1 k=>k e e) this
    .cases x with
     |tmp t'=>
      refine ha.get λe=>g4 ?_
      subst e
      exact List.mem_append.2 (.inl (List.mem_filterMap.2 ⟨.tmp t',hx,rfl⟩))
     |const v=>rfl
     |func f=>rfl
     |global g=>rfl
    .rw [ha.boxes,Bi]
     cases hb:Nat.beq e0.Bj id with
     |false=>exact h
     |true=>
      have:=Nat.eq_of_beq_eq_true hb
      subst this
      rw [hf.2.2.2,hf.1,fresh] at h
      cases h
    .have hs:s2=s1:=by rcases g with ⟨_,g⟩|⟨g1,g2⟩;exact g;rw [g1,g2]
     subst hs
     obtain ⟨q1,q2⟩:=GL k
     exact ND (λt' ht'=>by rw [ha.sz];exact q1 t' ht') ⟨bA.set i true,true,false,hset _ _,hls,.inr (.inl ⟨rfl,rfl,_,q2,ha.go g3 v⟩)⟩
   .unfold Bt at hrA
    rw [U,List.getD_eq_getElem?_getD,List.getElem?_replicate,if_pos hi] at hrA
    simp at hrA
  .have hoo:o=oa:=by
    rw [List.getElem?_append_right (Nat.le_refl _),Nat.sub_self] at hio
    simpa using hio.symm
   subst hoo
   have hx:x=false:=by
    unfold Bt at hrd
    rw [List.getD_eq_getElem?_getD,List.getElem?_append_right AC,hlen,Nat.sub_self] at hrd
    cases x with
    |false=>rfl
    |true=>simp at hrd
   subst hx
   rcases U with ⟨_,rfl,U⟩|⟨U,_⟩|⟨U,_⟩
   .have hf:=facts U
    unfold Bb
    rw [hga]
    have hg2:e.N6 o.dst=false:=by
     rw [hd]
     unfold Env.N6 at hgl |-
     rw [hf.2.2.1];exact hgl
    simp only [Fl,ho,hz]
    unfold IC
    rw [hg2]
    refine Bf.2 ?_
    refine ND (λt' ht'=>?_) ⟨bA,true,false,?_,hlen,.inr (.inl ⟨rfl,rfl,e,U,⟨rfl,rfl,rfl,rfl,λs'=>?_⟩⟩)⟩
    .rw [hd] at ht'
     cases ht'
     show t<e.sz
     rw [hf.2.1];exact hts
    .rw [List.set_append_right _ _ AC,hlen,Nat.sub_self];rfl
    .show assoc (Of e.tmps o.dst (.BK e.Bj 0)) s'=_
     rw [DI,hd]
     by_cases h1:s'=t
     .rw [if_pos (by rw [h1]),if_pos h1]
     .rw [if_neg (λe=>h1 (Option.some.inj e).symm),if_neg h1]
   .cases U
   .cases U
  .have hi2:i=A.length+1:=by
    have:=(List.getElem?_eq_some_iff.1 hio).1
    omega
   subst hi2
   have hoo:o=os:=by
    rw [List.getElem?_append_right AC,show A.length+1 - A.length=1 by omega] at hio
    simpa using hio.symm
   subst hoo
   unfold Bt at hrd
   rw [hio] at hrd
   simp only [Bool.and_eq_true,List.all_eq_true,Bool.not_eq_true'] at hrd
   obtain ⟨r1,r2⟩:=hrd
   have hon:∀j,j<A.length+1->(bA++[x,y]).getD j false=true:=λj hj=>by
    obtain ⟨e',he',hb⟩:=k6 j hj
    have h1:=r2 e' he'
    rw [Nat.eq_of_beq_eq_true hb.1,hb.2] at h1
    simpa using h1
   have hy:y=false:=by
    rw [List.getD_eq_getElem?_getD,List.getElem?_append_right AC,hlen,show A.length+1 - A.length=1 by omega] at r1
    simpa using r1
   have hx:x=true:=by
    have:=hon A.length AC
    rw [List.getD_eq_getElem?_getD,List.getElem?_append_right AC,hlen,Nat.sub_self] at this
    simpa using this
   have hbA:bA=List.replicate A.length true:=by
    rw [List.eq_replicate_iff]
    refine ⟨hlen,λb hb=>?_⟩
    obtain ⟨j,hj,rfl⟩:=List.mem_iff_getElem.1 hb
    have:=hon j AC
    rw [HQ hj,List.getD_eq_getElem?_getD,List.getElem?_eq_getElem hj] at this
    simpa using this
   subst hy;subst hx
   rcases U with ⟨U,_⟩|⟨_,_,e0,U,ha⟩|⟨_,U,_⟩
   .cases U
   .rw [hbA] at U
    obtain ⟨env',⟨q1,q2,q3⟩,q4⟩:=fin e0 s U
    have hf:=facts U
    have q4:Fl T C oa env' s (λv e s=>e.go oa.dst v λe=>Fl T C o e s (λv e s=>e.go o.dst v λe=>Q .normal e s) (λx _ s=>∀e',Q x e' s)) (λ_ _ _=>True):=q4
    have hg2:env'.N6 oa.dst=false:=by
     rw [hd]
     unfold Env.N6 at hgl |-
     rw [q3,hf.2.2.1];exact hgl
    rw [dJ ho hz] at q4
    unfold IC at q4
    rw [hg2] at q4
    obtain ⟨_,q5⟩:=GL (Bf.1 q4)
    unfold Bb
    rw [hgs]
    have tmq:∀s',assoc (Of env'.tmps oa.dst (.BK env'.Bj 0)) s'=assoc e.tmps s':=λs'=>by
     rw [DI,hd,<-q1.tmps,<-q1.Bj,ha.tm]
     by_cases h1:s'=t
     .rw [if_pos (by rw [h1]),if_pos h1]
     .rw [if_neg (λe=>h1 (Option.some.inj e).symm),if_neg h1]
    have ev:∀x:Operand,Env.eval ⟨Of env'.tmps oa.dst (.BK env'.Bj 0),(env'.Bj,z.zero.cells)::env'.boxes,env'.Bj+1,env'.sz,env'.gl⟩ x=e.eval x:=λx=>by
     cases x with
     |tmp t'=>
      have:=tmq t'
      show Env.get _ t'=e.get t'
      unfold Env.get
      dsimp only
      rw [this]
     |const v=>rfl
     |func f=>rfl
     |global g=>rfl
    cases hop:o.op with
    |store ty' px vx=>
     obtain ⟨L',hL'⟩:∃L',H9 L' ⟨Of env'.tmps oa.dst (.BK env'.Bj 0),(env'.Bj,z.zero.cells)::env'.boxes,env'.Bj+1,env'.sz,env'.gl⟩ o=true:=by
      unfold H9
      rw [hop]
      dsimp only
      cases hv:Env.eval ⟨Of env'.tmps oa.dst (.BK env'.Bj 0),(env'.Bj,z.zero.cells)::env'.boxes,env'.Bj+1,env'.sz,env'.gl⟩ px with
      |BK id off=>exact ⟨[id],GT⟩
      |_=>exact ⟨[],rfl⟩
     refine JV (T:=T) (C:=C) hop hL' (λx _=>ev x) (by rw [ha.boxes,q2,<-q1.Bj]) (by rw [ha.Bj,<-q1.Bj]) (by rw [ha.sz,<-q1.sz]) (by rw [ha.gl,q3]) (λs' B hB hk=>?_) q5
     obtain ⟨p1,p2⟩:=GL hk
     refine ND (λt' ht'=>by have:=p1 t' ht';rw [show ({e with boxes:=B}:Env).sz=e.sz from rfl,ha.sz,q1.sz];exact this) ⟨bA,true,true,?_,hlen,.inr (.inr ⟨rfl,rfl,hbA,⟨Of (Of env'.tmps oa.dst (.BK env'.Bj 0)) o.dst .BP,B,env'.Bj+1,env'.sz,env'.gl⟩,⟨λs''=>?_,λ_=>rfl,?_,?_⟩,p2⟩)⟩
     .rw [List.set_append_right _ _ AC,hlen,show A.length+1 - A.length=1 by omega];rfl
     .show assoc (Of e.tmps o.dst .BP) s''=assoc (Of (Of env'.tmps oa.dst (.BK env'.Bj 0)) o.dst .BP) s''
      rw [DI,DI (ts:=Of env'.tmps oa.dst (.BK env'.Bj 0)),tmq]
     .show e.Bj=env'.Bj+1
      rw [ha.Bj,q1.Bj]
     .show e.sz=env'.sz
      rw [ha.sz,q1.sz]
    |_=>rw [hop] at k4;cases k4
   .cases U
 .rintro bs e s hbl ⟨bA,x,y,rfl,hlen,U⟩
  have lift:∀{j:Nat} {x y:Bool},j<A.length->Bt A bA j=true->Bt (A++[oa,os]) (bA++[x,y]) j=true:=λ{j x y} hj hq=>by
   unfold Bt at hq |-
   rw [HQ AC,List.getElem?_append_left hj]
   have hoj:A[j]? =some A[j]:=List.getElem?_eq_getElem hj
   rw [hoj] at hq |-
   simp only [Bool.and_eq_true,List.all_eq_true] at hq |-
   refine ⟨hq.1,λe he=>?_⟩
   rw [HQ (by rw [hlen];exact (hAo j _ hoj).2.2.2.2 e he)]
   exact hq.2 e he
  rcases U with ⟨rfl,rfl,U⟩|⟨rfl,rfl,e0,U,ha⟩|⟨rfl,rfl,U,_⟩
  .refine .inr ⟨A.length,AC,?_⟩
   unfold Bt
   rw [List.getElem?_append_right (Nat.le_refl _),Nat.sub_self,List.getD_eq_getElem?_getD,List.getElem?_append_right AC,hlen,Nat.sub_self]
   have:oa.after.toList=[]:=by simpa using k1
   simp [this]
  .rcases live bA e0 s hlen U with h1|⟨j,h1,h2⟩
   .refine .inr ⟨A.length+1,AC,?_⟩
    unfold Bt
    rw [List.getElem?_append_right AC,List.getD_eq_getElem?_getD,List.getElem?_append_right AC,hlen,show A.length+1 - A.length=1 by omega]
    rw [Bool.and_eq_true]
    refine ⟨rfl,?_⟩
    show (os.after.toList.all λe=> !(Region.binds .any e)||(bA++[true,false]).getD e.on false)=true
    rw [List.all_eq_true]
    intro e he
    have hle:e.on<=A.length:=Nat.le_of_ble_eq_true (k7 e he)
    rw [Bool.or_eq_true]
    refine .inr ?_
    rcases Nat.lt_or_eq_of_le hle with h2|h2
    .rw [HQ AC,h1,List.getD_eq_getElem?_getD,List.getElem?_replicate,if_pos h2];rfl
    .rw [List.getD_eq_getElem?_getD,List.getElem?_append_right AC,h2,hlen,Nat.sub_self];rfl
   .exact .inr ⟨j,AC,lift h1 h2⟩
  .refine .inl ?_
   rw [U,hla,List.replicate_succ',List.replicate_succ',List.append_assoc]
   rfl
 .rintro e s ⟨bA,x,y,hbs,hlen,U⟩
  have hlast:(bA++[x,y]).getD A.length false=true/\(bA++[x,y]).getD (A.length+1) false=true:=by
   rw [<-hbs,List.getD_eq_getElem?_getD,List.getD_eq_getElem?_getD,List.getElem?_replicate,List.getElem?_replicate,if_pos AC,if_pos AC]
   exact ⟨rfl,rfl⟩
  have hy:y=true:=by
   have:=hlast.2
   rw [List.getD_eq_getElem?_getD,List.getElem?_append_right AC,hlen,show A.length+1 - A.length=1 by omega] at this
   simpa using this
  rcases U with ⟨_,U,_⟩|⟨_,U,_⟩|⟨_,_,_,h1⟩
  .rw [hy] at U;cases U
  .rw [hy] at U;cases U
  .exact h1
 .refine ⟨List.replicate A.length false,false,false,?_,GT,.inl ⟨rfl,rfl,start⟩⟩
  rw [hla,List.replicate_succ',List.replicate_succ',List.append_assoc]
  rfl
theorem dZ (hP:R7 P T) (hC:∀f args st R,C f args st R->Ct P f args st R/\Plain P f) (hM:∀f args st (R R':Ay->St->Prop),(∀r s,R r s->R' r s)->C f args st R->C f args st R')
 (A:List Oper) (U os:Oper) (sched:List (Nat×Bool)) (L:List Nat) {z:Ty} {t:Nat} (he:ops=(A++[U,os]).toArray) (hm:Jg sched A=true) (hk:Og A U os t=true) (ho:U.op=.alloc ty) (hd:U.dst=some t) (hz:assoc T ty=some z) (hts:t<env.sz) (hgl:env.N6 (some t)=false)
 (h:E7 T C A sched L (Bc (L.map some) env.boxes) (Sc T C U os Q) sched env st):AW P (.region id ops true) Q env st:=λD I0 st0 w0 I β a w hr=>
 wp_region_any hP.m (by
  subst he
  exact TS hP.t hC hM hm hk ho hd hz hts hgl h hr)
theorem aL (hP:R7 P T) (hC:∀f args st R,C f args st R->Ct P f args st R/\Plain P f) (hM:∀f args st (R R':Ay->St->Prop),(∀r s,R r s->R' r s)->C f args st R->C f args st R')
 (k t:Nat) (sched:List (Nat×Bool)) (L:List Nat) {os:Oper} {z:Ty} (h1:ops.toList[k]? =some U) (h2:ops.toList[k+1]? =some os) (h3:ops.toList.length=k+2) (hm:Jg sched (ops.toList.take k)=true) (hk:Og (ops.toList.take k) U os t=true) (ho:U.op=.alloc ty) (hd:U.dst=some t) (hz:assoc T ty=some z) (hts:t<env.sz) (hgl:env.N6 (some t)=false)
 (h:E7 T C (ops.toList.take k) sched L (Bc (L.map some) env.boxes) (Sc T C U os Q) sched env st):AW P (.region id ops true) Q env st:=by
 refine dZ hP hC hM _ U os sched L (by
  have e1:ops.toList.drop k=[U,os]:=by
   obtain ⟨g1,g2⟩:=List.getElem?_eq_some_iff.1 h1
   obtain ⟨g3,g4⟩:=List.getElem?_eq_some_iff.1 h2
   rw [List.drop_eq_getElem_cons g1,g2,List.drop_eq_getElem_cons g3,g4,List.drop_eq_nil_of_le AC]
  rw [<-e1,List.take_append_drop]) hm hk ho hd hz hts hgl h
end
end Go.Aw
namespace Go.Proofs.Z
open Go Go.Aw
structure og (f:FuncId) (mk:Nat->V->List V) (A:List Nd->Rd (List Nd×Nd)):Prop where
 ap:∀{st0:St} {b:Nat} {s:Ag} {st:St} {rows:List (AB×List Nd)} {K:Ay->St->Prop} {own:AB} {l:List Nd},l.length<=90000000->Cx st0 b s st ((own,l)::rows)->
 Rd.wp (A l) s (λp s'=>∀own' st',Cx st0 b s' st' ((own',p.1++[p.2])::rows)->K (.ret (.slice 6 ((p.1++[p.2]).map AM) own')) st') (λe s'=>∀st',Cy st0 b s' st' rows->K (.BX (fault e.1)) st')->PC f (mk b (.slice 6 (l.map AM) own)) st K
theorem og.go {A:List Nd->Rd (List Nd×Nd)} {st:St} {Q:List Nd×Nd->Ag->Prop} {own:AB} (hf:og f mk A) (hl:l.length<=90000000) (hc:Cx st0 b s st ((own,l)::rows)) (h:Rd.wp (A l) s Q E)
 (k:∀l' x U s' st',(A l).run s=.inr ((l',x),s')->mu s'<=mu s->Cx st0 b s' st' ((U,l'++[x])::rows)->Q (l',x) s'->K (.ret (.slice 6 ((l'++[x]).map AM) U)) st') (kb:∀e s' st',Cy st0 b s' st' rows->E e s'->K (.BX (fault e.1)) st'):PC f (mk b (.slice 6 (l.map AM) own)) st K:=
 hf.ap hl hc (Rd.wp_mono h (λv s' r q own st' c=>k v.1 v.2 own s' st' r ((A l).le _ _ _ r) c q) (λe s' _ q st' c=>kb e s' st' c q))
theorem DN {x:Nd} {Q:List V->Prop} (k:Q (AM x)):0<=(((l++[x]).length:Nat):Int) - 1/\∃e,((l++[x]).map AM)[((((l++[x]).length:Nat):Int) - 1).toNat]? =some e/\Q e:=
 ⟨by rw [List.length_append];show (0:Int)<=((l.length+1:Nat):Int) - 1;omega,AM x,by
   rw [show ((((l++[x]).length:Nat):Int) - 1).toNat=l.length by rw [List.length_append];show (((l.length+1:Nat):Int) - 1).toNat=_;omega,List.map_append,List.getElem?_append_right (by rw [List.length_map];exact Nat.le_refl _),List.length_map,Nat.sub_self]
   rfl,k⟩
theorem HS {R:Rd Nd} {p:List Nd×Nd} (h:(Je R l).run s=.inr (p,s')):p.1.length<=l.length+2:=by
 unfold Je at h
 obtain ⟨r,s1,_,h⟩:=Bk h
 replace h:(if Bn s1 10 [61,62]=true then Rd.seq AO λa=>.seq R λq=>.ret (l++[r]++[a],q) else .ret (l,r):Rd (List Nd×Nd)).run s1=.inr (p,s'):=h
 split at h
 .obtain ⟨a,s2,_,h⟩:=Bk h
  obtain ⟨q,U,_,h⟩:=Bk h
  cases h
  simp
 .cases h;exact Nat.le_add_right _ _
section
variable {st0 st:St} {b d:Nat} {s:Ag} {rows:List (AB×List Nd)} {K:Ay->St->Prop} {A B R W F D E:Rd Nd}
attribute [local irreducible] Go.Aw.Ah
theorem Mw (hr:AQ enc 158 (λb=>[pv b d]) R):og 162 (λb v=>[pv b d,v]) (Je R):=by
 refine ⟨λ{st0 b s st rows K own l} hl U h=>?_⟩
 simp only [Je,Rd.Af,Rd.As,Rd.wp_seq,Rd.wp_ret] at h
 have hmu:=U.mu
 refine pB Tryz.func162 ?_
 repeat' ((conv=>whnf);(first|refine A2 ?_|refine A3 ?_ ?_|refine A4 ?_ ?_|refine TP ?_ ?_|refine MC ?_|refine Q4 ?_ ?_|refine Jl ?_|refine Ja ?_ ?_|exact FR|refine QJ ?_|refine Ac ?_|refine Fj.go (by first|exact AQ.q|exact ‹_›.a) ?_ ?_)<;>intros)
theorem DH {own:AB} (h:K (.ret (.bool (DD n ks))) st):PC 166 [enc n,.slice 1 (ints ks) own] st K:=by
 refine pB Tryz.func166 ?_
 repeat' ((conv=>whnf);(first|refine A2 ?_|refine A3 ?_ ?_|refine A4 ?_ ?_|refine Ny ?_)<;>intros)
 all_goals conv=>whnf
 all_goals (refine Aq h ?_;clear h;simp_all [DD])
theorem QF (U:AQ enc 365 (λb=>[pv b d]) A):AQ enc 300 (λb=>[pv b d]) (IV A):=by
 refine ⟨λ{st0 b s st rows K} hc h=>?_⟩
 simp only [IV,Rd.wp_seq,Rd.wp_ret] at h
 refine pB Tryz.func300 ?_
 repeat' ((conv=>whnf);(first|exact CN|refine A2 ?_|(refine CO ?_ ?_ ?_;rotate_left)|refine A3 ?_ ?_|refine A4 ?_ ?_|refine Jl ?_|refine Ja ?_ ?_|exact FR|refine QK ?_|refine Ac ?_|refine Fj.go (by first|exact AQ.q) ?_ ?_|refine Ae [(0,true),(1,true),(3,true),(2,false),(4,false),(5,true),(6,false),(7,false)] [1] GE ?_|with_reducible refine WF ?_)<;>intros)
theorem mB (U:Cx st0 b s st rows) (h:∀st',Cx st0 b s st' rows->K (.ret (.bool (TJ (Ab s).1))) st'):PC 299 [pv b d] st K:=by
 refine pB Tryz.func299 ?_
 repeat' ((conv=>whnf);(first|refine A2 ?_|refine A3 ?_ ?_|refine A4 ?_ ?_|refine MC ?_|exact FR|refine Ac ?_)<;>intros)
 all_goals conv=>whnf
 all_goals (refine Aq (h _ ‹_›) ?_;clear h;simp_all [TJ])
theorem Mx (h:K (.ret (.bool (GS n))) st):PC 222 [enc n] st K:=by
 refine pB Tryz.func222 ?_
 repeat' ((conv=>whnf);(first|refine A2 ?_|refine A3 ?_ ?_|refine A4 ?_ ?_|refine DH (ks:=[2]) ?_|refine DH (ks:=[6]) ?_)<;>intros)
 all_goals conv=>whnf
 all_goals (refine Aq h ?_;clear h;simp_all [GS])
theorem dk {t:Tk} (h:K (.ret (.bool (QE t))) st):PC 70 [EZ t] st K:=by
 refine pB Tryz.func70 ?_
 repeat' ((conv=>whnf);(first|refine A2 ?_|refine A3 ?_ ?_|refine A4 ?_ ?_|refine Lw ?_|refine SJ ?_)<;>intros)
 all_goals conv=>whnf
 all_goals (refine Aq h ?_;clear h;simp_all [QE])
theorem jq (ha:AQ enc 365 (λb=>[pv b d]) A):AQ enc 298 (λb=>[pv b d]) (HD A):=by
 refine ⟨λ{st0 b s st rows K} hc h=>?_⟩
 simp only [HD,Rd.Af,Rd.As] at h
 have U:=hc.mu
 refine pB Tryz.func298 ?_
 repeat' ((conv=>whnf);(first|refine A2 ?_|refine A3 ?_ ?_|refine A4 ?_ ?_|refine MC ?_|refine Q4 ?_ ?_|exact FR|refine Ac ?_|refine Fj.go (by first|exact AQ.q|exact (QF ha).a|exact (GZ (ks:=[6]) rfl).a) ?_ ?_|refine O5 (Cx.has ‹_›) ?_ ?_|refine mn ‹_› ‹_› Do ?_|refine FM ‹_› U ?_)<;>intros)
theorem jo:AQ enc 225 (λb=>[pv b d]) QD:=by
 refine ⟨λ{st0 b s st rows K} hc h=>?_⟩
 simp only [QD,Rd.Af,Rd.As,Rd.wp_seq,Rd.wp_ret,Rd.Eg] at h
 have hmu:=hc.mu
 refine A1 Ad [] Tryz.func225 rfl Do rfl ?_
 refine Ak (Am Ad ?_)
 repeat' ((conv=>whnf);(first|exact CN|refine A2 ?_|(refine CO ?_ ?_ ?_;rotate_left)|refine A3 ?_ ?_|refine A4 ?_ ?_|with_reducible refine WF ?_)<;>intros)
 refine Ak (Am Ad ?_)
 repeat' ((conv=>whnf);first|refine Gq h (λe h=>?_) (λe h=>?_)|exact CN|(refine A2 ?_;intros)|(refine CO ?_ ?_ ?_;rotate_left)|(refine A3 ?_ ?_<;>intro e h)|(refine A4 ?_ ?_<;>intro _)|(refine MC ?_;intro U hc)|(refine Jl ?_;intro s1 U hz hm hc h)|(refine Ja ?_ ?_<;>(first|intro n s1 U hr hm hc h|intro e s1 U hc h))|refine Ca ?_|exact FR|refine QK ?_|refine Ac (λe1=>?_)|with_reducible refine WF ?_)
 refine Ak (Am Ad ?_)
 repeat' ((conv=>whnf);first|exact CN|(refine A2 ?_;intros)|(refine CO ?_ ?_ ?_;rotate_left)|(refine A3 ?_ ?_<;>intro e h)|(refine A4 ?_ ?_<;>intro _)|(refine MC ?_;intro U hc)|(refine Jl ?_;intro s1 U hz hm hc h)|(refine Ja ?_ ?_<;>(first|intro n s1 U hr hm hc h|intro e s1 U hc h))|refine Ca ?_|exact FR|refine QK ?_|refine Ac (λe1=>?_)|refine O5 hc.has ?_ (λt u o1 o2 e=>?_)|with_reducible refine WF ?_)
 all_goals refine Ak (Am Ad ?_)
 all_goals (repeat' ((conv=>whnf);first|exact CN|(refine A2 ?_;intros)|(refine CO ?_ ?_ ?_;rotate_left)|(refine A3 ?_ ?_<;>intro e h)|(refine A4 ?_ ?_<;>intro _)|(refine MC ?_;intro U hc)|(refine Jl ?_;intro s1 U hz hm hc h)|(refine Ja ?_ ?_<;>(first|intro n s1 U hr hm hc h|intro e s1 U hc h))|refine Ca ?_|exact FR|refine QK ?_|refine Ac (λe1=>?_)|with_reducible refine WF ?_))
 all_goals refine Ak (aL Ad (B8 _) (λ_ _ _ _ _ h k=>k.mono h) 10 5 [(0,true),(1,true),(2,true),(3,true),(5,true),(6,true),(4,false),(7,false),(8,true),(9,false)] [] rfl rfl rfl EQ EQ rfl rfl rfl (Nat.le_of_ble_eq_true rfl) rfl ?_)
 all_goals (repeat' ((conv=>whnf);first|exact CN|(refine A2 ?_;intros)|(refine CO ?_ ?_ ?_;rotate_left)|(refine A3 ?_ ?_<;>intro e h)|(refine A4 ?_ ?_<;>intro _)|(refine MC ?_;intro U hc)|(refine Jl ?_;intro s1 U hz hm hc h)|(refine Ja ?_ ?_<;>(first|intro n s1 U hr hm hc h|intro e s1 U hc h))|refine Ca ?_|exact FR|refine QK ?_|refine Ac (λe1=>?_)|refine AQ.go (D3 (ks:=[1,2,3,4]) rfl) hc h (λn s1 U hr hm hc h=>?_) (λe s1 U hc h=>?_)|fail|with_reducible refine WF ?_))
 all_goals refine Am Ad ?_
 all_goals (repeat' ((conv=>whnf);first|refine Gq h (λe h=>?_) (λe h=>?_)|exact CN|(refine A2 ?_;intros)|(refine CO ?_ ?_ ?_;rotate_left)|(refine A3 ?_ ?_<;>intro e h)|(refine A4 ?_ ?_<;>intro _)|(refine MC ?_;intro U hc)|(refine Jl ?_;intro s1 U hz hm hc h)|(refine Ja ?_ ?_<;>(first|intro n s1 U hr hm hc h|intro e s1 U hc h))|refine Ca ?_|exact FR|refine QK ?_|refine Ac (λe1=>?_)|refine Wm (ks:=[_,_,_]) rfl AC ?_|refine FM hc hmu (λU hc=>?_)|refine Ca ?_|fail|with_reducible refine WF ?_))
structure V9 (f:FuncId) (mk:Nat->V->List V) (A:List Nd->Rd Nd):Prop where
 ap:∀{st0:St} {b:Nat} {s:Ag} {st:St} {rows:List (AB×List Nd)} {K:Ay->St->Prop} {own:AB} {l:List Nd},l.length<=900000000->Cx st0 b s st ((own,l)::rows)->
 Rd.wp (A l) s (λv s'=>∀st',Cx st0 b s' st' rows->K (.ret (enc v)) st') (λe s'=>∀st',Cy st0 b s' st' rows->K (.BX (fault e.1)) st')->PC f (mk b (.slice 6 (l.map AM) own)) st K
theorem V9.go {A:List Nd->Rd Nd} {st:St} {Q:Nd->Ag->Prop} {E:Er->Ag->Prop} {own:AB} (hf:V9 f mk A) (hl:l.length<=900000000) (U:Cx st0 b s st ((own,l)::rows)) (h:Rd.wp (A l) s Q E)
 (k:∀v s' st',(A l).run s=.inr (v,s')->mu s'<=mu s->Cx st0 b s' st' rows->Q v s'->K (.ret (enc v)) st') (kb:∀e s' st',Cy st0 b s' st' rows->E e s'->K (.BX (fault e.1)) st'):PC f (mk b (.slice 6 (l.map AM) own)) st K:=
 hf.ap hl U (Rd.wp_mono h (λv s' r q st' c=>k v s' st' r ((A l).le _ _ _ r) c q) (λe s' _ q st' c=>kb e s' st' c q))
theorem NX (hd:AQ enc 226 (λb=>[pv b d]) Gs):V9 164 (λb v=>[pv b d,.int .i64 k,v]) (HL k):=by
 refine ⟨λ{st0 b s st rows K own l} hl U h=>?_⟩
 simp only [HL,Rd.Af,Rd.As,Rd.wp_seq,Rd.wp_ret] at h
 have hmu:=U.mu
 refine pB Tryz.func164 ?_
 repeat' ((conv=>whnf);(first|refine A2 ?_|refine A3 ?_ ?_|refine A4 ?_ ?_|refine MC ?_|refine Q4 ?_ ?_|exact FR|refine QK ?_|refine QJ ?_|refine Ac ?_|refine Fj.go (by first|exact AQ.q) ?_ ?_)<;>intros)
theorem VV (hr:AQ enc 158 (λb=>[pv b d]) R) (hw:AQ enc 161 (λb=>[pv b d]) W) (hs:∀{n:Nd} {st:St} {K:Ay->St->Prop},K (.ret (.bool (Ea n))) st->PC 160 [enc n] st K):
 AQ enc 87 (λb=>[pv b d]) (Ib R W):=by
 refine ⟨λ{st0 b s st rows K} U h=>?_⟩
 simp only [Ib,Rd.wp_seq,Rd.wp_ret] at h
 have hmu:=U.mu
 refine pB Tryz.func87 ?_
 repeat' ((conv=>whnf);(first|exact CN|refine A2 ?_|(refine CO ?_ ?_ ?_;rotate_left)|refine A3 ?_ ?_|refine A4 ?_ ?_|refine Jl ?_|refine Ja ?_ ?_|exact FR|refine QK ?_|refine QJ ?_|refine Ac ?_|refine Fj.go (by first|exact AQ.q|exact ‹_›.a) ?_ ?_|refine hs ?_|refine Di ‹_› ‹_› ?_|refine Dh ‹_› ‹_› ?_|refine WZ AC rfl ?_|refine Cx.G1 (l:=[_,_]) (Cx.push ‹_› _) (Nat.le_of_ble_eq_true rfl) ?_|refine Ae [(0,true),(1,true),(3,true),(2,false),(4,false),(5,true),(6,true)] [] GE ?_|refine Ae [(0,true),(1,true),(2,true),(3,true),(4,false),(5,false)] [] GE ?_|with_reducible refine WF ?_)<;>intros)
end
theorem Rd.cf {σ β:Type} {body:σ->Rd (Sum σ β)} {I:σ->Prop} {P:β->Prop} (h1:∀x s x' s',I x->(body x).run s=.inr (.inl x',s')->I x') (h2:∀x s y s',I x->(body x).run s=.inr (.inr y,s')->P y) (x:σ) (s:Ag) (hx:I x):∀y s',(Rd.loop body x).run s=.inr (y,s')->P y:=by
 show ∀y s',Rd.iter body x s=.inr (y,s')->P y
 fun_induction Rd.iter body x s with
 |case1 x s e h=>intro y s' U;cases U
 |case2 x s y s1 h=>intro y s' U;cases U;exact h2 _ _ _ _ hx h
 |case3 x s x' s1 h hlt ih=>exact ih (h1 _ _ _ _ hx h)
 |case4 x s x' s1 h hlt=>intro y s' U;cases U
theorem Vf (h:(JO A).run s=.inr (l,s')):l≠[]:=by
 unfold JO at h
 obtain ⟨n,s1,_,h⟩:=Bk h
 refine Rd.cf (body:=Tm A) (I:=λl=>l≠[]) (P:=λl=>l≠[]) (λx s x' s' U h=>?_) (λx s y s' U h=>?_) [n] s1 GT l s' h
 all_goals replace h:(if TJ (Ab s).1=true then Rd.seq (HD A) λn=>.ret (.inl (x++[n])) else .ret (.inr x):Rd (Sum (List Nd) (List Nd))).run s=.inr (_,s'):=h
 all_goals split at h
 .obtain ⟨n,s2,_,h⟩:=Bk h;cases h;simp
 .cases h
 .obtain ⟨n,s2,_,h⟩:=Bk h;cases h
 .cases h;exact U
theorem lz (h:Bn s k x=true) (U:k≠21):(Ab s).1.kind≠21:=λe=>by
 unfold Bn at h
 rw [e] at h
 simp only [Bool.and_eq_true,beq_iff_eq] at h
 exact U h.1.symm
theorem Xt (U:Rd.AZ A):Rd.AZ (HD A):=Rd.AZ.look λs v s' h=>by
 split at h
 .rename_i hi
  exact Rd.AZ.at (λ_ _ e=>GY e (lz hi Do)) h
 split at h
 .split at h
  .exact Rd.AZ.seq (K0 Do) s v s' h
  .exact U _ _ _ h
 .exact U _ _ _ h
theorem nE (h:l≠[]):∃x,l[((0:Int)).toNat]? =some x/\l.headD HX=x:=by
 cases l with
 |nil=>exact absurd rfl h
 |cons x r=>exact ⟨x,rfl,rfl⟩
section
variable {st0 st:St} {b d:Nat} {s:Ag} {rows:List (AB×List Nd)} {K:Ay->St->Prop} {A B R W F D E:Rd Nd}
attribute [local irreducible] Go.Aw.Ah
abbrev qT (l:List Nd) (own:AB):V:=.slice 6 (l.map AM) own
theorem RZ (hA:Rd.AZ A) (hp:AQ enc 298 (λb=>[pv b d]) (HD A)):nn qT (λl=>l) 221 (λb=>[pv b d]) (JO A):=by
 refine ⟨λ{st0 b s st rows K} U h=>?_⟩
 simp only [JO,Rd.wp_seq] at h
 have hmu:=U.mu
 refine pB Tryz.func221 ?_
 repeat' ((conv=>whnf);(first|refine A2 ?_|refine A3 ?_ ?_|refine A4 ?_ ?_|refine TP ?_ ?_|exact FR|refine QJ ?_|refine Ac ?_|refine Fj.go (by first|exact AQ.q) ?_ ?_)<;>intros)
 refine Cg (λl own=>[(3,.slice 6 (l.map AM) own)]) (λ_ _=>[]) [1] [0] (λl own=>(own,l)::rows) (λl=>l.length) .full (Cx.push ‹_› _) ‹_› (by show 1+_<=_;omega) Yl ?_
 intro l s1 st1 own1 U h hl hm1
 simp only [Tm,Rd.Af,Rd.As,Rd.wp_seq,Rd.wp_ret,Rd.Br] at h
 repeat' ((conv=>whnf);(first|refine A2 ?_|refine A3 ?_ ?_|refine A4 ?_ ?_|refine TP ?_ ?_|exact FR|refine QJ ?_|refine Ac ?_|refine mB ‹_› ?_|refine AQ.nD (hp) (Xt hA) ‹_› ‹_› ?_ ?_)<;>intros)
theorem Ie {item:Rd Nd} {fs:List V} {own:AB} {Q:List Nd->Ag->Prop} {E:Er->Ag->Prop} (hi:qg st0 b g (fs++cs) item) (hl:l.length<=90000000) (hc:Cx st0 b s st ((own,l)::rows)) (h:Rd.wp (FK item x l) s Q E)
 (k:∀l' U s' st',mu s'<=mu s->Cx st0 b s' st' ((U,l')::rows)->Q l' s'->K (.ret (.slice 6 (l'.map AM) U)) st') (kb:∀e s' st',Cy st0 b s' st' rows->E e s'->K (.BX (fault e.1)) st'):
 PC 170 [pv b d,.slice 6 (l.map AM) own,.str x,.func g fs cs] st K:=by
 replace h:=Rd.wp_mono (Q':=λl' s'=>∀U st',Cx st0 b s' st' ((U,l')::rows)->K (.ret (.slice 6 (l'.map AM) U)) st') (E':=λe s'=>∀st',Cy st0 b s' st' rows->K (.BX (fault e.1)) st') h (λv s' r q own st' c=>k v own s' st' ((FK item x l).le _ _ _ r) c q) (λe s' _ q st' c=>kb e s' st' c q)
 clear k kb
 simp only [FK,Rd.wp_seq,Rd.wp_ret] at h
 have hmu:=hc.mu
 refine pB Tryz.func170 ?_
 repeat' ((conv=>whnf);(first|refine A2 ?_|refine A3 ?_ ?_|refine A4 ?_ ?_|refine TP ?_ ?_|fail)<;>intros)
 refine Cg (x0:=(true,l)) (λ(p:Bool×List Nd) own=>[(9,.bool p.1),(1,.slice 6 (p.2.map AM) own)]) (λ_ _=>[]) [2,3,4] [0] (λp own=>(own,p.2)::rows) (λp=>p.2.length) own ‹_› ‹_› UV Yl ?_
 intro p s1 st1 own1 hc h hl hm1
 obtain ⟨f,l⟩:=p
 dsimp only at hc hl
 simp only [Xf,Rd.Af,Rd.As,Rd.wp_seq,Rd.wp_ret,Rd.Br] at h
 cases f
 all_goals simp only [Bool.false_eq_true,if_false,if_true] at h
 all_goals (repeat' ((conv=>whnf);first|(refine A2 ?_;intros)|(refine A3 ?_ ?_<;>intro e h)|(refine A4 ?_ ?_<;>intro _)|refine TP (λ_=>?_) ?_|exact ⟨⟨(false,_),_,_,_⟩,⟨hc,Rd.Eu h cb,f7,cb⟩,cb,Yl,St.le_refl _⟩|(refine MC ?_;intro st1 hc)|(refine Q4 ?_ ?_<;>intro st1 hc e h)|(refine Jl ?_;intro s1 st1 hz hm hc h)|(refine Ja ?_ ?_<;>(first|intro n s1 st1 hr hm hc h|intro e s1 st1 hc h))|exact FR|(refine QJ ?_;intro own1 st1 hc)|refine Ac (λe1=>?_)|refine LX ?_|refine qg.go hi hc h (λn s1 st1 hm hc h=>?_) (λe s1 st1 hc h=>?_)))
end
theorem bb {W:Rd Nd} (h:(Gc A W).run s=.inr (n,s')):n.kids≠[]:=by
 have hB:∀{l:List Nd} {s:Ag},l≠[]->(Ip A l).run s=.inr (n,s')->n.kids≠[]:=λ{l s} hl h=>by
  have hC:(G9 A l).run s=.inr (n,s')->n.kids≠[]:=λh=>by
   obtain ⟨a,s1,_,h⟩:=Bk h
   obtain ⟨o,s2,_,h⟩:=Bk h
   obtain ⟨r,s3,_,h⟩:=Bk h
   obtain ⟨c,s4,_,h⟩:=Bk h
   cases h;simp [Au,Nd.kids]
  replace h:(if ((Ab s).1.kind==6)=true then G9 A l else if Bn s 15 [96]=true then G9 A l else .seq (F9 (GS (l.headD HX))) λ_=>.ret (Au 48 l):Rd Nd).run s=.inr (n,s'):=h
  split at h
  .exact hC h
  .split at h
   .exact hC h
   .obtain ⟨a,s1,_,h⟩:=Bk h
    cases h;exact hl
 obtain ⟨l,s1,h1,h⟩:=Bk h
 have hl:=Vf h1
 split at h
 .replace h:(if Bn s1 15 [123]=true then Rd.seq AO λo=>.seq (FK (IX A W) [125] (l++[o])) λl=>.ret (Au 48 l) else Ip A l:Rd Nd).run s1=.inr (n,s'):=h
  split at h
  .obtain ⟨o,s2,_,h⟩:=Bk h
   obtain ⟨l2,s3,U,h⟩:=Bk h
   obtain ⟨l3,s4,_,U⟩:=Bk U
   obtain ⟨c,s5,_,U⟩:=Bk U
   cases U;cases h
   simp [Au,Nd.kids]
  .exact hB hl h
 .exact hB hl h
section
variable {st0 st:St} {b d c:Nat} {s:Ag} {rows:List (AB×List Nd)} {K:Ay->St->Prop} {A B R W F D E:Rd Nd}
attribute [local irreducible] Go.Aw.Ah
theorem dd (hs:AQ enc 300 (λb=>[pv b d]) (IV A)) (hw:AQ enc 161 (λb=>[pv b d]) W):AQ enc 223 (λb=>[pv b d]) (IX A W):=by
 refine ⟨λ{st0 b s st rows K} U h=>?_⟩
 simp only [IX,Rd.Af,Rd.As,Rd.wp_seq,Rd.wp_ret] at h
 have hmu:=U.mu
 refine pB Tryz.func223 ?_
 repeat' ((conv=>whnf);(first|refine A2 ?_|refine A3 ?_ ?_|refine A4 ?_ ?_|refine MC ?_|refine Q4 ?_ ?_|refine Jl ?_|refine Ja ?_ ?_|exact FR|refine QK ?_|refine QJ ?_|refine Ac ?_|refine Fj.go (by first|exact AQ.q|exact Nk.a) ?_ ?_)<;>intros)
 refine Cg (λl own=>[(3,.slice 6 (l.map AM) own)]) (λ_ _=>[]) [1,2] [0,1] (λl own=>(own,l)::rows) (λl=>l.length) .full (Cx.push ‹_› _) ‹_› (by show 1+_<=_;omega) Yl ?_
 intro l s1 st1 own1 U h hl hm1
 simp only [Xy,Rd.Af,Rd.As,Rd.wp_seq,Rd.wp_ret,Rd.Br] at h
 repeat' ((conv=>whnf);(first|refine A2 ?_|refine A3 ?_ ?_|refine A4 ?_ ?_|refine MC ?_|refine Q4 ?_ ?_|refine Jl ?_|refine Ja ?_ ?_|exact FR|refine QK ?_|refine QJ ?_|refine Ac ?_|refine Fj.go (by first|exact AQ.q|exact Nk.a) ?_ ?_)<;>intros)
abbrev qP (b d:Nat):V:=.Gg [.ptr b 0,.int .i64 (d:Int)] 0
theorem LH:AQ enc 302 (λb=>[qP b d]) (Dm [2,4]):=by
 refine ⟨λ{st0 b s st rows K} U h=>?_⟩
 refine pB Tryz.func302 ?_
 repeat' ((conv=>whnf);(first|refine A2 ?_|refine A3 ?_ ?_|refine A4 ?_ ?_|exact FR|refine Ac ?_|refine Fj.go (by first|exact AQ.q|exact (D3 (ks:=[2,4]) rfl).a) ?_ ?_)<;>intros)
theorem Mv:AQ enc 226 (λb=>[pv b d]) Gs:=by
 refine ⟨λ{st0 b s st rows K} U h=>?_⟩
 simp only [Gs,Rd.Af,Rd.As,Rd.wp_seq,Rd.wp_ret] at h
 have hmu:=U.mu
 refine A1 Ad [] Tryz.func226 rfl Do rfl ?_
 refine Ak (Am Ad ?_)
 repeat' ((conv=>whnf);(first|exact CN|refine A2 ?_|(refine CO ?_ ?_ ?_;rotate_left)|refine A3 ?_ ?_|refine A4 ?_ ?_|with_reducible refine WF ?_)<;>intros)
 refine Ak (Am Ad ?_)
 repeat' ((conv=>whnf);first|exact CN|(refine A2 ?_;intros)|(refine CO ?_ ?_ ?_;rotate_left)|(refine A3 ?_ ?_<;>intro e h)|(refine A4 ?_ ?_<;>intro _)|refine Gk.go U h (λo s1 st1 hr hm U h=>?_) (λe s1 st1 U h=>?_)|exact BL U h|with_reducible refine WF ?_)
 refine R6 1 0 rfl rfl rfl ?_
 refine Am Ad ?_
 repeat' ((conv=>whnf);(first|exact CN|refine A2 ?_|(refine CO ?_ ?_ ?_;rotate_left)|refine A3 ?_ ?_|refine A4 ?_ ?_|refine MC ?_|refine Q4 ?_ ?_|refine Jl ?_|refine Ja ?_ ?_|exact FR|refine QK ?_|refine QJ ?_|refine Ac ?_|refine Fj.go (by first|exact AQ.q|exact LH.a) ?_ ?_|refine LX ?_|refine Ie (l:=[_,_]) (fs:=[]) (cs:=[qP b d]) LH.z (Nat.le_of_ble_eq_true rfl) ‹_› ‹_› ?_ ?_|refine Cx.G1 (l:=[_]) (Cx.push ‹_› [_]) (Nat.le_of_ble_eq_true rfl) ?_|refine Ae [(0,true),(1,true),(2,true),(3,true),(7,true),(4,false),(5,true),(6,false),(8,false),(9,false),(10,false)] [1] GE ?_|with_reducible refine WF ?_)<;>intros)
theorem pZ {own:AB} (U:∀x ∈ l,CJ f p x) (h:K (.ret (.bool (l.any p))) st):PC 229 [.slice 6 (l.map AM) own,.func f [] []] st K:=
 RM (args':=[.slice 6 (Cv l) .any,.func f [] []]) (by rw [<-BN];rfl) (Jc U h)
theorem ml {x:Nd}:CJ 301 Ff x:=by
 intro st R h
 refine pB Tryz.func301 ?_
 repeat' ((conv=>whnf);(first|refine A2 ?_|refine A3 ?_ ?_|refine A4 ?_ ?_|fail)<;>intros)
 all_goals conv=>whnf
 all_goals (refine Aq h ?_;clear h;simp_all [Ff])
theorem mL {own:AB} {Q:Nd->Ag->Prop} {E:Er->Ag->Prop} (hc:Cx st0 b s st ((own,l)::rows)) (h:Rd.wp (RT l) s Q E)
 (k:∀v st',Cx st0 b s st' rows->Q v s->K (.ret (enc v)) st') (kb:∀e st',Cy st0 b s st' rows->E e s->K (.BX (fault e.1)) st'):PC 224 [pv b d,.slice 6 (l.map AM) own] st K:=by
 refine pB Tryz.func224 ?_
 unfold RT at h
 by_cases U:l.length=1
 .have hn:(l.length:Int)=1:=AC
  obtain ⟨x,rfl⟩:=List.length_eq_one_iff.1 U
  rw [if_pos U,Rd.wp_ret] at h
  have h:=k _ st hc.drop h
  repeat' ((conv=>whnf);(first|exact CN|refine A2 ?_|(refine CO ?_ ?_ ?_;rotate_left)|refine A3 ?_ ?_|refine A4 ?_ ?_|refine BR (l:=[x]) ?_|refine WZ AC rfl ?_|with_reducible refine WF ?_)<;>intros)
  all_goals exact BH rfl h
 .have hn:¬(l.length:Int)=1:=AC
  rw [if_neg U,Rd.wp_seq] at h
  simp only [Rd.wp_ret] at h
  repeat' ((conv=>whnf);first|exact CN|(refine A2 ?_;intros)|(refine CO ?_ ?_ ?_;rotate_left)|(refine A3 ?_ ?_<;>intro e h)|(refine A4 ?_ ?_<;>intro _)|refine BR (l:=l) (λ_=>?_)|refine pZ (l:=l) (λx hx=>ml) ?_|refine Di h (by simp only [show l.any Ff=false by assumption,Bool.not_false]) (λh=>?_)|refine Dh h (by simp only [show l.any Ff=true by assumption,Bool.not_true]) (λh=>?_)|refine Kp (l:=l) ?_|exact BH rfl (k _ _ hc.drop h)|exact λe'=>⟨_,_,.inl rfl,St.le_refl _,kb _ _ hc.drop.y h⟩|refine Ae [(0,true),(1,true),(2,false),(3,true),(4,false)] [] GE ?_|with_reducible refine WF ?_)
theorem YF (hA:Rd.AZ A) (hp:AQ enc 298 (λb=>[pv b d]) (HD A)) (hf:AQ enc 223 (λb=>[pv b d]) (IX A W)):AQ enc 163 (λb=>[pv b d]) (Gc A W):=by
 refine ⟨λ{st0 b s st rows K} hc h=>?_⟩
 have hmu:=hc.mu
 simp only [Gc,Ip,G9,Rd.Af,Rd.As,Rd.wp_seq,Rd.wp_ret] at h
 refine A1 Ad [] Tryz.func163 rfl Do rfl ?_
 refine Ak (Am Ad ?_)
 repeat' ((conv=>whnf);(first|exact CN|refine A2 ?_|(refine CO ?_ ?_ ?_;rotate_left)|refine A3 ?_ ?_|refine A4 ?_ ?_|with_reducible refine WF ?_)<;>intros)
 refine Ak (Am Ad ?_)
 repeat' ((conv=>whnf);first|exact CN|(refine A2 ?_;intros)|(refine CO ?_ ?_ ?_;rotate_left)|(refine A3 ?_ ?_<;>intro e h)|(refine A4 ?_ ?_<;>intro _)|refine nn.go (RZ hA hp) hc h (λl own1 s1 st1 hr hm hc h=>?_) (λe s1 st1 hc h=>?_)|exact BL hc h|with_reducible refine WF ?_)
 obtain ⟨x,hx,hd⟩:=nE (Vf hr)
 rw [hd] at h
 refine Am Ad ?_
 have e2:(l.length==1)=true↔(l.length:Int)=1:=by rw [beq_iff_eq];omega
 have hB:((l.length:Int)=1/\GS x=true/\Bn s1 15 [123]=true)\/((l.length:Int)=1/\GS x=true/\Bn s1 15 [123]=false)\/((l.length:Int)=1/\GS x=false)\/¬((l.length:Int)=1):=by
  by_cases e:(l.length:Int)=1
  .cases GS x<;>cases Bn s1 15 [123]<;>simp [e]
  .simp [e]
 have e3:¬((l.length:Int)=1)->(l.length==1)=false:=λe=>by
  cases e4:l.length==1 with
  |true=>exact absurd (e2.1 e4) e
  |false=>rfl
 rcases hB with ⟨U,em,eb⟩|hB
 .simp only [e2.2 U,em,eb,Bool.and_self,if_true] at h
  repeat' ((conv=>whnf);(first|exact CN|refine A2 ?_|(refine CO ?_ ?_ ?_;rotate_left)|refine A3 ?_ ?_|refine A4 ?_ ?_|refine MC ?_|refine Q4 ?_ ?_|refine Jl ?_|refine Ja ?_ ?_|exact FR|refine QK ?_|refine QJ ?_|refine BR ?_|refine Ac ?_|refine BR (l:=l) ?_|refine Uf (es:=l.map AM) (x:=AM x) (by rw [List.getElem?_map,hx]<;>rfl) AC ?_|refine Mx ?_|refine Ie (l:=l++[_]) (fs:=[pv b d]) (cs:=[]) hf.z So ‹_› ‹_› ?_ ?_|refine Ae [(0,true),(1,true),(2,true),(3,true),(7,true),(8,true),(4,false),(5,true),(6,false),(9,false),(10,false),(11,false)] [1] GE ?_|refine Ae [(0,true),(1,true),(2,true),(3,true),(4,false),(5,false)] [] GE ?_|refine Ae [(0,true),(1,true),(2,true),(3,true),(4,false),(5,false),(6,true),(7,false),(8,false)] [1] GE ?_|with_reducible refine WF ?_)<;>intros)
 cases e6:((Ab s1).1.kind==6)
 all_goals cases e9:Bn s1 15 [96]
 all_goals (simp only [e6,e9,if_true,Bool.false_eq_true,if_false] at h)
 all_goals rcases hB with ⟨U,em,eb⟩|⟨U,em⟩|U
 all_goals first
  |simp only [e2.2 U,em,eb,Bool.and_self,Bool.true_and,Bool.false_eq_true,if_true,if_false] at h
  |simp only [e2.2 U,em,Bool.true_and,Bool.false_eq_true,if_false] at h
  |simp only [e3 U,Bool.false_and,Bool.false_eq_true,if_false] at h
 all_goals (repeat' ((conv=>whnf);(first|exact CN|refine A2 ?_|(refine CO ?_ ?_ ?_;rotate_left)|refine A3 ?_ ?_|refine A4 ?_ ?_|refine MC ?_|refine Q4 ?_ ?_|refine Jl ?_|refine Ja ?_ ?_|exact FR|refine QK ?_|refine QJ ?_|refine BR ?_|refine Ac ?_|refine BR (l:=l) ?_|refine Uf (es:=l.map AM) (x:=AM x) (by rw [List.getElem?_map,hx]<;>rfl) AC ?_|refine Mx ?_|refine mL ‹_› ‹_› ?_ ?_|refine Fj.go (by first|exact AQ.q|exact jo.a) ?_ ?_|refine nn.go (RZ hA hp) ‹_› ‹_› ?_ ?_|refine Di ‹_› ‹_› ?_|refine Dh ‹_› ‹_› ?_|refine Di ‹_› rfl ?_|refine Dh ‹_› rfl ?_|refine Ae [(0,true),(1,true),(2,true),(3,true),(7,true),(8,true),(4,false),(5,true),(6,false),(9,false),(10,false),(11,false)] [1] GE ?_|refine Ae [(0,true),(1,true),(2,true),(3,true),(4,false),(5,false)] [] GE ?_|refine Ae [(0,true),(1,true),(2,true),(3,true),(4,false),(5,false),(6,true),(7,false),(8,false)] [1] GE ?_|with_reducible refine WF ?_)<;>intros))
end
def Qm (n:Nd):Nat->Bool
 |0=>Ea n
 |k+1=>(n.kids.drop (k+1)).all (DD · [1])
theorem Tv {k:Nat}:Qm n (k+1)=(n.kids.drop (k+1)).all (DD · [1]):=rfl
theorem E1 {x:Nd} {K:Int->Prop} (h:l.length<=90000000) (k:K (((l++[x]).length:Int) - 1)):∃r,r=IntKind.i64.wrap (((l++[x]).length:Int) - 1)/\K r:=
 Wq (by rw [List.length_append];show _<=((l.length+1:Nat):Int) - 1;omega) (by rw [List.length_append];show ((l.length+1:Nat):Int) - 1<=_;omega) k
theorem lu {R:Rd Nd} {p:List Nd×Nd} (h:(Je R [n]).run s=.inr (p,s')):p.1.length<=90000000:=Nat.le_trans (HS h) (Nat.le_of_ble_eq_true rfl)
theorem fO {R:Rd Nd} {p:List Nd×Nd} {x y z:Nd} (h:(Je R [n]).run s=.inr (p,s')):(p.1++[x]++[y]++[z]).length<=900000000:=by
 have U:p.1.length<=3:=HS h
 rw [List.length_append,List.length_append,List.length_append]
 show p.1.length+1+1+1<=_
 omega
theorem Ua {k:Nat} {x:Nd} (h:l[k]? =some x):l.drop k=x::l.drop (k+1):=by
 obtain ⟨U,h2⟩:=List.getElem?_eq_some_iff.1 h
 rw [<-h2,List.drop_eq_getElem_cons U]
section
variable {st0 st:St} {b d c:Nat} {s:Ag} {rows:List (AB×List Nd)} {K:Ay->St->Prop} {A B R W F D E:Rd Nd}
attribute [local irreducible] Go.Aw.Ah
theorem Nj {st:St} (h:K (.ret (.bool (Ea n))) st):PC 160 [enc n] st K:=by
 refine pB Tryz.func160 ?_
 by_cases hk:n.kind=39
 .skip
  repeat' ((conv=>whnf);(first|refine A2 ?_|refine A3 ?_ ?_|refine A4 ?_ ?_|fail)<;>intros)
  refine K6 14 [12,13] n.kids.length (λk=>k<=n.kids.length/\Ea n=Qm n k) ⟨Nat.zero_le _,rfl⟩ Yl ?_
  rintro k ⟨hk1,hi⟩
  by_cases hlt:k<n.kids.length
  .obtain ⟨x,hx⟩:∃x,n.kids[(k:Int).toNat]? =some x:=⟨_,List.getElem?_eq_getElem hlt⟩
   have hdr:=Ua (show n.kids[k]? =some x from hx)
   by_cases h0:k=0
   .subst h0
    have hz:((0:Nat):Int)=0:=rfl
    have e:Ea n=(DD x [2]&&Qm n 1):=by
     unfold Ea Qm
     rw [hk,beq_self_eq_true,if_pos rfl]
     cases hkk:n.kids with
     |nil=>rw [hkk] at hx;cases hx
     |cons y r=>rw [hkk] at hx;cases hx;simp
    cases hb:DD x [2] with
    |true=>
     have U:∀{st:St} {K:Ay->St->Prop} {own:AB},K (.ret (.bool true)) st->PC 166 [enc x,.slice 1 [[.int .i64 2]] own] st K:=λh=>DH (ks:=[2]) (by rw [hb];exact h)
     repeat' ((conv=>whnf);first|(refine A2 ?_;intros)|(refine A3 ?_ ?_<;>intro e h)|(refine A4 ?_ ?_<;>intro _)|refine U ?_)
     all_goals conv=>whnf
     all_goals exact ⟨1,⟨hlt,by rw [e,hb,Bool.true_and]⟩,Nat.sub_lt_sub_left hlt (Nat.lt_succ_self 0),Yl,St.le_refl _⟩
    |false=>
     have U:∀{st:St} {K:Ay->St->Prop} {own:AB},K (.ret (.bool false)) st->PC 166 [enc x,.slice 1 [[.int .i64 2]] own] st K:=λh=>DH (ks:=[2]) (by rw [hb];exact h)
     rw [e,hb,Bool.false_and] at h
     repeat' ((conv=>whnf);first|(refine A2 ?_;intros)|(refine A3 ?_ ?_<;>intro e h)|(refine A4 ?_ ?_<;>intro _)|refine U ?_)
     all_goals exact BH rfl h
   .have e:Qm n k=(DD x [1]&&Qm n (k+1)):=by
     obtain ⟨j,rfl⟩:∃j,k=j+1:=⟨k - 1,AC⟩
     rw [Tv,Tv,hdr,List.all_cons]
    have hpos:(k:Int)>0:=AC
    cases hb:DD x [1] with
    |true=>
     have U:∀{st:St} {K:Ay->St->Prop} {own:AB},K (.ret (.bool true)) st->PC 166 [enc x,.slice 1 [[.int .i64 1]] own] st K:=λh=>DH (ks:=[1]) (by rw [hb];exact h)
     repeat' ((conv=>whnf);first|(refine A2 ?_;intros)|(refine A3 ?_ ?_<;>intro e h)|(refine A4 ?_ ?_<;>intro _)|refine U ?_)
     all_goals conv=>whnf
     all_goals exact ⟨k+1,⟨hlt,by rw [hi,e,hb,Bool.true_and]⟩,Nat.sub_lt_sub_left hlt (Nat.lt_succ_self k),Yl,St.le_refl _⟩
    |false=>
     have U:∀{st:St} {K:Ay->St->Prop} {own:AB},K (.ret (.bool false)) st->PC 166 [enc x,.slice 1 [[.int .i64 1]] own] st K:=λh=>DH (ks:=[1]) (by rw [hb];exact h)
     rw [hi,e,hb,Bool.false_and] at h
     repeat' ((conv=>whnf);first|(refine A2 ?_;intros)|(refine A3 ?_ ?_<;>intro e h)|(refine A4 ?_ ?_<;>intro _)|refine U ?_)
     all_goals exact BH rfl h
  .have hk2:k=n.kids.length:=AC
   have h1:Ea n=true:=by
    rw [hi]
    cases k with
    |zero=>
     have h2:n.kids=[]:=List.length_eq_zero_iff.1 hk2.symm
     unfold Qm Ea
     rw [hk,h2];rfl
    |succ k=>rw [Tv,List.drop_eq_nil_of_le AC];rfl
   rw [h1] at h
   repeat' ((conv=>whnf);first|(refine A2 ?_;intros)|(refine A3 ?_ ?_<;>intro e h)|(refine A4 ?_ ?_<;>intro _)|fail)
   all_goals exact BH rfl h
 .have e:Ea n=DD n [2]:=by
   unfold Ea
   rw [if_neg (by rw [beq_iff_eq];exact hk)]
  rw [e] at h
  repeat' ((conv=>whnf);first|(refine A2 ?_;intros)|(refine A3 ?_ ?_<;>intro e h)|(refine A4 ?_ ?_<;>intro _)|refine DH (ks:=[2]) ?_)
  all_goals conv=>whnf
  all_goals (refine Aq h ?_;clear h;simp_all)
theorem ja (hc1:AQ enc 163 (λb=>[pv b d]) (Gc A W)) (hr1:AQ enc 158 (λb=>[pv b d]) R):AQ enc 88 (λb=>[pv b d]) (Rh A R W):=by
 refine ⟨λ{st0 b s st rows K} hc h=>?_⟩
 simp only [Rh,Rd.wp_seq] at h
 have hmu:=hc.mu
 refine pB Tryz.func88 ?_
 repeat' ((conv=>whnf);first|exact CN|(refine A2 ?_;intros)|(refine CO ?_ ?_ ?_;rotate_left)|(refine A3 ?_ ?_<;>intro e h)|(refine A4 ?_ ?_<;>intro _)|(refine MC ?_;intro U hc)|(refine Q4 ?_ ?_<;>intro U hc e h)|(refine Jl ?_;intro s1 U hz hm hc h)|(refine Ja ?_ ?_<;>(first|intro n s1 U hr hm hc h|intro e s1 U hc h))|exact FR|(refine QJ ?_;intro own1 U hc)|refine BR (λ_=>?_)|refine Ac (λe1=>?_)|refine og.go (l:=[_]) (Mw hr1) (Nat.le_of_ble_eq_true rfl) (hc.push _) h (λl x own1 s1 U hh hm hc h=>?_) (λe s1 U hc h=>?_)|refine DN ?_|refine E1 (lu hh) ?_|refine Nj ?_|refine Di h ‹_› (λh=>?_)|refine Dh h ‹_› (λh=>?_)|refine Ae [(0,true),(1,true),(2,true),(3,false),(4,true),(5,false),(6,true)] [] GE ?_|refine Ae [(0,true),(1,true),(2,true),(3,true),(4,true),(5,true),(6,true),(7,false),(8,false)] [] GE ?_|with_reducible refine WF ?_)
 have hl2:l.length<=3:=HS hh
 refine Cg (x0:=([61],l++[x])) (λ(p:List UInt8×List Nd) own=>[(4,.str p.1),(3,.slice 6 (p.2.map AM) own)]) (λ_ _=>[]) [1,2] [0,1] (λp own=>(own,p.2)::rows) (λp=>p.2.length) _ ‹_› ‹_› (by dsimp only;simp only [List.length_append,List.length_cons,List.length_nil];omega) Yl ?_
 intro p s1 U own1 hc h hl hm1
 obtain ⟨x,l⟩:=p
 dsimp only at hc hl
 simp only [eK,Rd.Af,Rd.As,Rd.wp_seq,Rd.wp_ret,Rd.Br] at h
 repeat' ((conv=>whnf);first|exact CN|(refine A2 ?_;intros)|(refine CO ?_ ?_ ?_;rotate_left)|(refine A3 ?_ ?_<;>intro e h)|(refine A4 ?_ ?_<;>intro _)|exact ⟨⟨(_,_),_,_,_⟩,⟨hc,Rd.Eu h cb,f7,cb⟩,cb,Yl,St.le_refl _⟩|(refine MC ?_;intro U hc)|(refine Q4 ?_ ?_<;>intro U hc e h)|(refine Jl ?_;intro s1 U hz hm hc h)|(refine Ja ?_ ?_<;>(first|intro n s1 U hr hm hc h|intro e s1 U hc h))|exact FR|(refine QJ ?_;intro own1 U hc)|refine BR (λ_=>?_)|refine Ac (λe1=>?_)|refine AQ.go hc1 hc h (λn s1 U hr hm hc h=>?_) (λe s1 U hc h=>?_)|refine V9.go (l:=l) (NX Mv) AC hc h (λn s1 U hr hm hc h=>?_) (λe s1 U hc h=>?_)|with_reducible refine WF ?_)
theorem oV (h:n.kids≠[]):∃x,n.kids[((0:Int)).toNat]? =some x/\n.kids.headD HX=x:=nE h
theorem dh {st:St} (hn:n.kids≠[]) (h:K (.ret (.bool (S8 n))) st):PC 165 [enc n] st K:=by
 refine pB Tryz.func165 ?_
 obtain ⟨x,hx,hd⟩:=oV hn
 unfold S8 at h
 rw [hd] at h
 cases hm:GS x with
 |false=>
  rw [hm,if_neg Do] at h
  have U:∀{st:St} {K:Ay->St->Prop},K (.ret (.bool false)) st->PC 222 [enc x] st K:=λh=>Mx (by rw [hm];exact h)
  repeat' ((conv=>whnf);first|(refine A2 ?_;intros)|(refine A3 ?_ ?_<;>intro e h)|(refine A4 ?_ ?_<;>intro _)|refine U ?_)
  all_goals exact BH rfl h
 |true=>
  rw [hm,if_pos rfl] at h
  have U:∀{st:St} {K:Ay->St->Prop},K (.ret (.bool true)) st->PC 222 [enc x] st K:=λh=>Mx (by rw [hm];exact h)
  by_cases h2:n.kids.length=2
  .obtain ⟨y,hy⟩:∃y,n.kids[((1:Int)).toNat]? =some y:=⟨_,List.getElem?_eq_getElem (show 1<n.kids.length by omega)⟩
   have hy2:n.kids[1]? =some y:=hy
   rw [if_pos h2,hy2] at h
   repeat' ((conv=>whnf);first|(refine A2 ?_;intros)|(refine A3 ?_ ?_<;>intro e h)|(refine A4 ?_ ?_<;>intro _)|refine U ?_)
   all_goals conv=>whnf
   all_goals (refine Aq h ?_;clear h;simp_all [Ff])
  .by_cases h4:n.kids.length=4
   .obtain ⟨y,hy⟩:∃y,n.kids[((2:Int)).toNat]? =some y:=⟨_,List.getElem?_eq_getElem (show 2<n.kids.length by omega)⟩
    have hy2:n.kids[2]? =some y:=hy
    rw [if_neg h2,hy2] at h
    by_cases hk:y.kind=13
    .by_cases h3:y.kids.length=3
     .obtain ⟨z,hz⟩:∃z,y.kids[((2:Int)).toNat]? =some z:=⟨_,List.getElem?_eq_getElem (show 2<y.kids.length by omega)⟩
      have hz2:y.kids[2]? =some z:=hz
      repeat' ((conv=>whnf);first|(refine A2 ?_;intros)|(refine A3 ?_ ?_<;>intro e h)|(refine A4 ?_ ?_<;>intro _)|refine U ?_)
      all_goals conv=>whnf
      all_goals (refine Aq h ?_;clear h;simp_all [Ff])
     .skip
      repeat' ((conv=>whnf);first|(refine A2 ?_;intros)|(refine A3 ?_ ?_<;>intro e h)|(refine A4 ?_ ?_<;>intro _)|refine U ?_)
      all_goals conv=>whnf
      all_goals (refine Aq h ?_;clear h;simp_all [Ff])
    .skip
     repeat' ((conv=>whnf);first|(refine A2 ?_;intros)|(refine A3 ?_ ?_<;>intro e h)|(refine A4 ?_ ?_<;>intro _)|refine U ?_)
     all_goals conv=>whnf
     all_goals (refine Aq h ?_;clear h;simp_all [Ff])
   .rw [if_neg h2,if_neg (λe=>h4 e.1)] at h
    repeat' ((conv=>whnf);first|(refine A2 ?_;intros)|(refine A3 ?_ ?_<;>intro e h)|(refine A4 ?_ ?_<;>intro _)|refine U ?_)
    all_goals exact BH rfl h
theorem VR (hc1:AQ enc 163 (λb=>[pv b d]) (Gc A W)) (hr1:AQ enc 158 (λb=>[pv b d]) R):AQ enc 89 (λb=>[pv b d]) (H0 A R W):=by
 refine ⟨λ{st0 b s st rows K} hc h=>?_⟩
 simp only [H0,Rd.wp_seq] at h
 have hmu:=hc.mu
 refine A1 Ad [] Tryz.func89 rfl Do rfl ?_
 refine Ak (Am Ad ?_)
 repeat' ((conv=>whnf);(first|exact CN|refine A2 ?_|(refine CO ?_ ?_ ?_;rotate_left)|refine A3 ?_ ?_|refine A4 ?_ ?_|with_reducible refine WF ?_)<;>intros)
 refine Ak (Am Ad ?_)
 repeat' ((conv=>whnf);first|exact CN|(refine A2 ?_;intros)|(refine CO ?_ ?_ ?_;rotate_left)|(refine A3 ?_ ?_<;>intro e h)|(refine A4 ?_ ?_<;>intro _)|(refine Jl ?_;intro s1 U hz hm hc h)|(refine Ja ?_ ?_<;>(first|intro n s1 U hr hm hc h|intro e s1 U hc h))|exact FR|(refine QJ ?_;intro own1 U hc)|refine BR (λ_=>?_)|refine Ac (λe1=>?_)|refine og.go (l:=[_]) (Mw hr1) (Nat.le_of_ble_eq_true rfl) (hc.push _) h (λl x own1 s1 U hh hm hc h=>?_) (λe s1 U hc h=>?_)|exact BL hc h|refine Ae [(0,true),(1,true),(2,true),(3,false),(4,true),(5,false),(6,true)] [] GE ?_|refine Ae [(0,true),(1,true),(2,true),(3,true),(4,true),(5,true),(6,true),(7,false),(8,false)] [] GE ?_|refine Ae [(0,true),(1,true),(2,true),(3,true),(4,true),(5,true),(6,true),(7,false),(8,false)] [] GE ?_|with_reducible refine WF ?_)
 have hl2:l.length<=3:=HS hh
 refine Am Ad ?_
 repeat' ((conv=>whnf);first|exact CN|(refine A2 ?_;intros)|(refine CO ?_ ?_ ?_;rotate_left)|(refine A3 ?_ ?_<;>intro e h)|(refine A4 ?_ ?_<;>intro _)|(refine Jl ?_;intro s1 U hz hm hc h)|(refine Ja ?_ ?_<;>(first|intro n s1 U hr hm hc h|intro e s1 U hc h))|exact FR|(refine QJ ?_;intro own1 U hc)|refine BR (λ_=>?_)|refine Ac (λe1=>?_)|refine DN ?_|refine E1 f8 ?_|refine Nj ?_|refine AQ.go hc1 hc h (λn s1 U hr hm hc h=>?_) (λe s1 U hc h=>?_)|refine dh (bb hr) ?_|refine Di h ‹_› (λh=>?_)|refine Dh h ‹_› (λh=>?_)|refine V9.go (NX Mv) (fO hh) hc h (λn s1 U hr hm hc h=>?_) (λe s1 U hc h=>?_)|refine Ae [(0,true),(1,true),(2,true),(3,false),(4,true),(5,false),(6,true)] [] GE ?_|refine Ae [(0,true),(1,true),(2,true),(3,true),(4,true),(5,true),(6,true),(7,false),(8,false)] [] GE ?_|refine Ae [(0,true),(1,true),(2,true),(3,true),(4,true),(5,true),(6,true),(7,false),(8,false)] [] GE ?_|with_reducible refine WF ?_)
abbrev qx (g:FuncId):V:=.Gg [.func g [] []] 0
theorem kq {x:Nd} {st:St} (U:∀{n:Nd} {st:St} {K:Ay->St->Prop},K (.ret (.bool (p n))) st->PC g [enc n] st K) (h:K (.ret (.bool (!p x))) st):PC 230 [enc x,qx g] st K:=by
 refine pB Tryz.func230 ?_
 repeat' ((conv=>whnf);first|(refine A2 ?_;intros)|(refine A3 ?_ ?_<;>intro e h)|(refine A4 ?_ ?_<;>intro _)|refine U ?_)
 all_goals conv=>whnf
 all_goals (refine Aq h ?_;clear h;simp_all)
theorem oX {st:St} (U:∀x st (K:Ay->St->Prop),K (.ret (.bool (p x))) st->PC f [enc x,qx g] st K) (h:K (.ret (.int .i64 (Cw p l 0))) st):PC 304 [.slice 6 (Cv l) .any,.func f [] [qx g]] st K:=by
 refine pB Tryz.func304 ?_
 repeat' ((conv=>whnf);(first|refine A2 ?_|refine A3 ?_ ?_|refine A4 ?_ ?_|fail)<;>intros)
 refine K6 8 [6,7,0,1] l.length (λk=>k<=l.length/\(Cw p l 0=Cw p (l.drop k) k)) ⟨Nat.zero_le _,rfl⟩ Yl ?_
 rintro k ⟨hk,hi⟩
 repeat' ((conv=>whnf);first|(refine A2 ?_;intros)|(refine A3 ?_ ?_<;>intro e h)|(refine A4 ?_ ?_<;>intro _)|refine U _ _ _ ?_)
 all_goals conv=>whnf
 all_goals try (have e:=Ua ‹l[Int.toNat k]? =some _›;rw [Int.toNat_natCast] at e;rw [e,Cw] at hi;clear e)
 all_goals first
  |(refine ⟨k+1,⟨AC,?_⟩,AC,Yl,St.le_refl _⟩;clear h;simp_all)
  |(refine fin h ?_;clear h;simp_all;done)
  |(refine fin h ?_;rw [hi,List.drop_eq_nil_of_le AC];rfl)
theorem oq {st:St} (hf:∀x st (K:Ay->St->Prop),K (.ret (.bool (p x))) st->PC f [enc x,qx g] st K) (h:K (.ret (.bool (l.any p))) st):PC 229 [.slice 6 (Cv l) .any,.func f [] [qx g]] st K:=by
 refine pB Tryz.func229 ?_
 refine oX hf ?_
 have key:=GP (p:=p) (l:=l) (i:=0) AC
 refine Wh (λU=>?_) (λU=>?_)
 .exact Aq h (key.1 U)
 .refine Aq h ?_
  simp_all
theorem YX:(!l.any λx=> !p x)=l.all p:=by
 rw [List.all_eq_not_any_not]
theorem om (h:(l.any λx=> !p x)=true):l.all p=false:=by rw [<-YX,h];rfl
theorem jI (h:(l.any λx=> !p x)=false):l.all p=true:=by rw [<-YX,h];rfl
theorem Gl (hg:∀{n:Nd} {st:St} {K:Ay->St->Prop},K (.ret (.bool (p n))) st->PC g [enc n] st K) (hd1:AQ enc 84 (λb=>[.ptr b 0,.func 228 [] [],.int .i64 ((d:Int) - 1)]) D) (hd0:d<=100):
 V9 167 (λb v=>[pv b d,.int .i64 k,v,.func g [] []]) (λl=>Re D k l p):=by
 refine ⟨λ{st0 b s st rows K own l} hl hc h=>?_⟩
 simp only [Re,Rd.Af,Rd.As,Rd.wp_seq,Rd.wp_ret] at h
 refine A1 Ad [] Tryz.func167 rfl Do rfl ?_
 refine Ak (Am Ad ?_)
 repeat' ((conv=>whnf);(first|exact CN|refine A2 ?_|(refine CO ?_ ?_ ?_;rotate_left)|refine A3 ?_ ?_|refine A4 ?_ ?_|with_reducible refine WF ?_)<;>intros)
 refine R6 7 1 rfl rfl rfl ?_
 refine Am Ad ?_
 repeat' ((conv=>whnf);first|exact CN|(refine A2 ?_;intros)|(refine CO ?_ ?_ ?_;rotate_left)|(refine A3 ?_ ?_<;>intro e h)|(refine A4 ?_ ?_<;>intro _)|(refine MC ?_;intro U hc)|(refine Q4 ?_ ?_<;>intro U hc e h)|(refine Jl ?_;intro s1 U hz hm hc h)|(refine Ja ?_ ?_<;>(first|intro n s1 U hr hm hc h|intro e s1 U hc h))|exact FR|refine QK ?_|(refine QJ ?_;intro own1 U hc)|refine Ac (λe1=>?_)|refine Wq (a:=(d:Int) - 1) AC AC ?_|refine AQ.go hd1 hc h (λn s1 U hr hm hc h=>?_) (λe s1 U hc h=>?_)|refine oq (p:=λx=> !p x) (λx st K h=>kq hg h) ?_|refine Di h (jI ‹_›) (λh=>?_)|refine Dh h (om ‹_›) (λh=>?_)|refine Ae [(0,true),(1,true),(2,true),(3,true),(4,false),(5,true),(6,false)] [] GE ?_|with_reducible refine WF ?_)
theorem Jw {st:St} (h:K (.ret (.bool true)) st):PC 168 [enc n] st K:=by
 refine pB Tryz.func168 ?_
 repeat' ((conv=>whnf);(first|refine A2 ?_|refine A3 ?_ ?_|refine A4 ?_ ?_|fail)<;>intros)
 all_goals exact BH rfl h
theorem Hg {st:St} (h:K (.ret (.bool (n.kind==36))) st):PC 169 [enc n] st K:=by
 refine pB Tryz.func169 ?_
 repeat' ((conv=>whnf);(first|refine A2 ?_|refine A3 ?_ ?_|refine A4 ?_ ?_|fail)<;>intros)
 all_goals conv=>whnf
 all_goals (refine Aq h ?_;clear h;simp_all)
theorem cZ (hr1:AQ enc 158 (λb=>[pv b d]) R) (hd1:AQ enc 84 (λb=>[.ptr b 0,.func 228 [] [],.int .i64 ((d:Int) - 1)]) D) (hd0:d<=100):AQ enc 90 (λb=>[pv b d]) (MM R D):=by
 refine ⟨λ{st0 b s st rows K} hc h=>?_⟩
 simp only [MM,Rd.wp_seq] at h
 have hmu:=hc.mu
 refine A1 Ad [] Tryz.func90 rfl Do rfl ?_
 refine Ak (Am Ad ?_)
 repeat' ((conv=>whnf);(first|exact CN|refine A2 ?_|(refine CO ?_ ?_ ?_;rotate_left)|refine A3 ?_ ?_|refine A4 ?_ ?_|with_reducible refine WF ?_)<;>intros)
 refine Ak (Am Ad ?_)
 repeat' ((conv=>whnf);first|exact CN|(refine A2 ?_;intros)|(refine CO ?_ ?_ ?_;rotate_left)|(refine A3 ?_ ?_<;>intro e h)|(refine A4 ?_ ?_<;>intro _)|(refine Jl ?_;intro s1 U hz hm hc h)|(refine Ja ?_ ?_<;>(first|intro n s1 U hr hm hc h|intro e s1 U hc h))|exact FR|refine BR (λ_=>?_)|refine Ac (λe1=>?_)|refine og.go (l:=[_]) (Mw hr1) (Nat.le_of_ble_eq_true rfl) (hc.push _) h (λl x own1 s1 U hh hm hc h=>?_) (λe s1 U hc h=>?_)|exact BL hc h|refine Ae [(0,true),(1,true),(2,true),(3,false),(4,true),(5,false),(6,true)] [] GE ?_|refine Ae [(0,true),(1,true),(2,true),(3,true),(4,true),(5,true),(6,true),(7,true),(8,true),(9,true),(10,true),(11,true),(12,true),(13,true),(14,true),(15,true),(16,false),(17,true),(18,true),(19,true),(20,true),(21,true),(22,true),(23,true),(24,false),(25,true),(26,false)] [] GE ?_|with_reducible refine WF ?_)
 have hl2:l.length<=3:=HS hh
 refine Am Ad ?_
 by_cases hk:x.kind=39
 .by_cases h2:(x.kids.length:Int)=2
  .have h2':x.kids.length=2:=AC
   obtain ⟨y0,hx0⟩:∃y,x.kids[((0:Int)).toNat]? =some y:=⟨_,List.getElem?_eq_getElem (show 0<x.kids.length by omega)⟩
   obtain ⟨y1,hx1⟩:∃y,x.kids[((1:Int)).toNat]? =some y:=⟨_,List.getElem?_eq_getElem (show 1<x.kids.length by omega)⟩
   have hy0:x.kids[0]? =some y0:=hx0
   have hy1:x.kids[1]? =some y1:=hx1
   have hN:Hq x=(DD y0 [2]&&DD y1 [1]):=by unfold Hq;rw [hk,h2',hy0,hy1];rfl
   cases i0:DD y0 [2]
   .have hcl:Hq x=false:=by rw [hN,i0];rfl
    repeat' ((conv=>whnf);first|exact CN|(refine A2 ?_;intros)|(refine CO ?_ ?_ ?_;rotate_left)|(refine A3 ?_ ?_<;>intro e h)|(refine A4 ?_ ?_<;>intro _)|(refine Jl ?_;intro s1 U hz hm hc h)|(refine Ja ?_ ?_<;>(first|intro n s1 U hr hm hc h|intro e s1 U hc h))|exact FR|refine BR (λ_=>?_)|refine Ac (λe1=>?_)|refine DN ?_|refine E1 AC ?_|refine Wm hx0 AC ?_|refine Wm hx1 AC ?_|refine DH (ks:=[2]) ?_|refine DH (ks:=[1]) ?_|refine Di h hcl (λh=>?_)|refine Dh h hcl (λh=>?_)|refine V9.go (l:=l++[x]) (Gl (d:=d) (λh=>Jw h) hd1 hd0) (by rw [List.length_append]<;>exact Nat.le_trans (Nat.add_le_add_right hl2 _) (Nat.le_of_ble_eq_true rfl)) hc h (λn s1 U hr hm hc h=>?_) (λe s1 U hc h=>?_)|refine Ae [(0,true),(1,true),(2,true),(3,false),(4,true),(5,false),(6,true)] [] GE ?_|refine Ae [(0,true),(1,true),(2,true),(3,true),(4,true),(5,true),(6,true),(7,true),(8,true),(9,true),(10,true),(11,true),(12,true),(13,true),(14,true),(15,true),(16,false),(17,true),(18,true),(19,true),(20,true),(21,true),(22,true),(23,true),(24,false),(25,true),(26,false)] [] GE ?_|with_reducible refine WF ?_)
   cases i1:DD y1 [1]
   .have hcl:Hq x=false:=by rw [hN,i0,i1];rfl
    repeat' ((conv=>whnf);first|exact CN|(refine A2 ?_;intros)|(refine CO ?_ ?_ ?_;rotate_left)|(refine A3 ?_ ?_<;>intro e h)|(refine A4 ?_ ?_<;>intro _)|(refine Jl ?_;intro s1 U hz hm hc h)|(refine Ja ?_ ?_<;>(first|intro n s1 U hr hm hc h|intro e s1 U hc h))|exact FR|refine BR (λ_=>?_)|refine Ac (λe1=>?_)|refine DN ?_|refine E1 AC ?_|refine Wm hx0 AC ?_|refine Wm hx1 AC ?_|refine DH (ks:=[2]) ?_|refine DH (ks:=[1]) ?_|refine Di h hcl (λh=>?_)|refine Dh h hcl (λh=>?_)|refine V9.go (l:=l++[x]) (Gl (d:=d) (λh=>Jw h) hd1 hd0) (by rw [List.length_append]<;>exact Nat.le_trans (Nat.add_le_add_right hl2 _) (Nat.le_of_ble_eq_true rfl)) hc h (λn s1 U hr hm hc h=>?_) (λe s1 U hc h=>?_)|refine Ae [(0,true),(1,true),(2,true),(3,false),(4,true),(5,false),(6,true)] [] GE ?_|refine Ae [(0,true),(1,true),(2,true),(3,true),(4,true),(5,true),(6,true),(7,true),(8,true),(9,true),(10,true),(11,true),(12,true),(13,true),(14,true),(15,true),(16,false),(17,true),(18,true),(19,true),(20,true),(21,true),(22,true),(23,true),(24,false),(25,true),(26,false)] [] GE ?_|with_reducible refine WF ?_)
   .have hcl:Hq x=true:=by rw [hN,i0,i1];rfl
    repeat' ((conv=>whnf);first|exact CN|(refine A2 ?_;intros)|(refine CO ?_ ?_ ?_;rotate_left)|(refine A3 ?_ ?_<;>intro e h)|(refine A4 ?_ ?_<;>intro _)|(refine Jl ?_;intro s1 U hz hm hc h)|(refine Ja ?_ ?_<;>(first|intro n s1 U hr hm hc h|intro e s1 U hc h))|exact FR|refine BR (λ_=>?_)|refine Ac (λe1=>?_)|refine DN ?_|refine E1 AC ?_|refine Wm hx0 AC ?_|refine Wm hx1 AC ?_|refine DH (ks:=[2]) ?_|refine DH (ks:=[1]) ?_|refine Di h hcl (λh=>?_)|refine Dh h hcl (λh=>?_)|refine V9.go (l:=l++[x]) (Gl (d:=d) (λh=>Jw h) hd1 hd0) (by rw [List.length_append]<;>exact Nat.le_trans (Nat.add_le_add_right hl2 _) (Nat.le_of_ble_eq_true rfl)) hc h (λn s1 U hr hm hc h=>?_) (λe s1 U hc h=>?_)|refine Ae [(0,true),(1,true),(2,true),(3,false),(4,true),(5,false),(6,true)] [] GE ?_|refine Ae [(0,true),(1,true),(2,true),(3,true),(4,true),(5,true),(6,true),(7,true),(8,true),(9,true),(10,true),(11,true),(12,true),(13,true),(14,true),(15,true),(16,false),(17,true),(18,true),(19,true),(20,true),(21,true),(22,true),(23,true),(24,false),(25,true),(26,false)] [] GE ?_|with_reducible refine WF ?_)
  .have hcl:Hq x=false:=by unfold Hq;rw [show (x.kids.length==2)=false by cases e:x.kids.length==2 with|true=>exact absurd (by rw [beq_iff_eq] at e;omega) h2|false=>rfl];simp
   repeat' ((conv=>whnf);first|exact CN|(refine A2 ?_;intros)|(refine CO ?_ ?_ ?_;rotate_left)|(refine A3 ?_ ?_<;>intro e h)|(refine A4 ?_ ?_<;>intro _)|(refine Jl ?_;intro s1 U hz hm hc h)|(refine Ja ?_ ?_<;>(first|intro n s1 U hr hm hc h|intro e s1 U hc h))|exact FR|refine BR (λ_=>?_)|refine Ac (λe1=>?_)|refine DN ?_|refine E1 AC ?_|refine DH (ks:=[2]) ?_|refine DH (ks:=[1]) ?_|refine Di h hcl (λh=>?_)|refine Dh h hcl (λh=>?_)|refine V9.go (l:=l++[x]) (Gl (d:=d) (λh=>Jw h) hd1 hd0) (by rw [List.length_append]<;>exact Nat.le_trans (Nat.add_le_add_right hl2 _) (Nat.le_of_ble_eq_true rfl)) hc h (λn s1 U hr hm hc h=>?_) (λe s1 U hc h=>?_)|refine Ae [(0,true),(1,true),(2,true),(3,false),(4,true),(5,false),(6,true)] [] GE ?_|refine Ae [(0,true),(1,true),(2,true),(3,true),(4,true),(5,true),(6,true),(7,true),(8,true),(9,true),(10,true),(11,true),(12,true),(13,true),(14,true),(15,true),(16,false),(17,true),(18,true),(19,true),(20,true),(21,true),(22,true),(23,true),(24,false),(25,true),(26,false)] [] GE ?_|with_reducible refine WF ?_)
 .have hcl:Hq x=false:=by unfold Hq;rw [show (x.kind==39)=false by cases e:x.kind==39 with|true=>exact absurd (by simpa using e) hk|false=>rfl];rfl
  repeat' ((conv=>whnf);first|exact CN|(refine A2 ?_;intros)|(refine CO ?_ ?_ ?_;rotate_left)|(refine A3 ?_ ?_<;>intro e h)|(refine A4 ?_ ?_<;>intro _)|(refine Jl ?_;intro s1 U hz hm hc h)|(refine Ja ?_ ?_<;>(first|intro n s1 U hr hm hc h|intro e s1 U hc h))|exact FR|refine BR (λ_=>?_)|refine Ac (λe1=>?_)|refine DN ?_|refine E1 AC ?_|refine DH (ks:=[2]) ?_|refine DH (ks:=[1]) ?_|refine Di h hcl (λh=>?_)|refine Dh h hcl (λh=>?_)|refine V9.go (l:=l++[x]) (Gl (d:=d) (λh=>Jw h) hd1 hd0) (by rw [List.length_append]<;>exact Nat.le_trans (Nat.add_le_add_right hl2 _) (Nat.le_of_ble_eq_true rfl)) hc h (λn s1 U hr hm hc h=>?_) (λe s1 U hc h=>?_)|refine Ae [(0,true),(1,true),(2,true),(3,false),(4,true),(5,false),(6,true)] [] GE ?_|refine Ae [(0,true),(1,true),(2,true),(3,true),(4,true),(5,true),(6,true),(7,true),(8,true),(9,true),(10,true),(11,true),(12,true),(13,true),(14,true),(15,true),(16,false),(17,true),(18,true),(19,true),(20,true),(21,true),(22,true),(23,true),(24,false),(25,true),(26,false)] [] GE ?_|with_reducible refine WF ?_)
theorem TI (hr1:AQ enc 158 (λb=>[pv b d]) R) (hd1:AQ enc 84 (λb=>[.ptr b 0,.func 228 [] [],.int .i64 ((d:Int) - 1)]) D) (hd0:d<=100):AQ enc 91 (λb=>[pv b d]) (Gu R D):=by
 refine ⟨λ{st0 b s st rows K} hc h=>?_⟩
 simp only [Gu,Rd.wp_seq] at h
 have hmu:=hc.mu
 refine A1 Ad [] Tryz.func91 rfl Do rfl ?_
 refine Ak (Am Ad ?_)
 repeat' ((conv=>whnf);(first|exact CN|refine A2 ?_|(refine CO ?_ ?_ ?_;rotate_left)|refine A3 ?_ ?_|refine A4 ?_ ?_|with_reducible refine WF ?_)<;>intros)
 refine Ak (Am Ad ?_)
 repeat' ((conv=>whnf);first|exact CN|(refine A2 ?_;intros)|(refine CO ?_ ?_ ?_;rotate_left)|(refine A3 ?_ ?_<;>intro e h)|(refine A4 ?_ ?_<;>intro _)|(refine Jl ?_;intro s1 U hz hm hc h)|(refine Ja ?_ ?_<;>(first|intro n s1 U hr hm hc h|intro e s1 U hc h))|exact FR|refine BR (λ_=>?_)|refine Ac (λe1=>?_)|refine og.go (l:=[_]) (Mw hr1) (Nat.le_of_ble_eq_true rfl) (hc.push _) h (λl x own1 s1 U hh hm hc h=>?_) (λe s1 U hc h=>?_)|exact BL hc h|refine Ae [(0,true),(1,true),(2,true),(3,false),(4,true),(5,false),(6,true)] [] GE ?_|refine Ae [(0,true),(1,true),(2,true),(3,true),(4,true),(5,true),(6,true),(7,true),(8,true),(9,true),(10,true),(11,true),(12,true),(13,true),(14,true),(15,true),(16,false),(17,true),(18,false)] [] GE ?_|with_reducible refine WF ?_)
 have hl2:l.length<=3:=HS hh
 refine Am Ad ?_
 by_cases hk:x.kind=39
 .by_cases h2:(x.kids.length:Int)=2
  .have h2':x.kids.length=2:=AC
   obtain ⟨y0,hx0⟩:∃y,x.kids[((0:Int)).toNat]? =some y:=⟨_,List.getElem?_eq_getElem (show 0<x.kids.length by omega)⟩
   obtain ⟨y1,hx1⟩:∃y,x.kids[((1:Int)).toNat]? =some y:=⟨_,List.getElem?_eq_getElem (show 1<x.kids.length by omega)⟩
   have hy0:x.kids[0]? =some y0:=hx0
   have hy1:x.kids[1]? =some y1:=hx1
   have hN:L0 x=DD y0 [2,4]:=by unfold L0;rw [hk,h2',hy0];rfl
   cases i0:DD y0 [2,4]
   .have hcl:L0 x=false:=by rw [hN,i0]
    repeat' ((conv=>whnf);first|exact CN|(refine A2 ?_;intros)|(refine CO ?_ ?_ ?_;rotate_left)|(refine A3 ?_ ?_<;>intro e h)|(refine A4 ?_ ?_<;>intro _)|(refine Jl ?_;intro s1 U hz hm hc h)|(refine Ja ?_ ?_<;>(first|intro n s1 U hr hm hc h|intro e s1 U hc h))|exact FR|refine BR (λ_=>?_)|refine Ac (λe1=>?_)|refine DN ?_|refine E1 AC ?_|refine Wm hx0 AC ?_|refine Wm hx1 AC ?_|refine DH (ks:=[2,4]) ?_|refine DH (ks:=[1]) ?_|refine Di h hcl (λh=>?_)|refine Dh h hcl (λh=>?_)|refine V9.go (l:=l++[x]) (Gl (d:=d) (λh=>Hg h) hd1 hd0) (by rw [List.length_append]<;>exact Nat.le_trans (Nat.add_le_add_right hl2 _) (Nat.le_of_ble_eq_true rfl)) hc h (λn s1 U hr hm hc h=>?_) (λe s1 U hc h=>?_)|refine Ae [(0,true),(1,true),(2,true),(3,false),(4,true),(5,false),(6,true)] [] GE ?_|refine Ae [(0,true),(1,true),(2,true),(3,true),(4,true),(5,true),(6,true),(7,true),(8,true),(9,true),(10,true),(11,true),(12,true),(13,true),(14,true),(15,true),(16,false),(17,true),(18,false)] [] GE ?_|with_reducible refine WF ?_)
   .have hcl:L0 x=true:=by rw [hN,i0]
    repeat' ((conv=>whnf);first|exact CN|(refine A2 ?_;intros)|(refine CO ?_ ?_ ?_;rotate_left)|(refine A3 ?_ ?_<;>intro e h)|(refine A4 ?_ ?_<;>intro _)|(refine Jl ?_;intro s1 U hz hm hc h)|(refine Ja ?_ ?_<;>(first|intro n s1 U hr hm hc h|intro e s1 U hc h))|exact FR|refine BR (λ_=>?_)|refine Ac (λe1=>?_)|refine DN ?_|refine E1 AC ?_|refine Wm hx0 AC ?_|refine Wm hx1 AC ?_|refine DH (ks:=[2,4]) ?_|refine DH (ks:=[1]) ?_|refine Di h hcl (λh=>?_)|refine Dh h hcl (λh=>?_)|refine V9.go (l:=l++[x]) (Gl (d:=d) (λh=>Hg h) hd1 hd0) (by rw [List.length_append]<;>exact Nat.le_trans (Nat.add_le_add_right hl2 _) (Nat.le_of_ble_eq_true rfl)) hc h (λn s1 U hr hm hc h=>?_) (λe s1 U hc h=>?_)|refine Ae [(0,true),(1,true),(2,true),(3,false),(4,true),(5,false),(6,true)] [] GE ?_|refine Ae [(0,true),(1,true),(2,true),(3,true),(4,true),(5,true),(6,true),(7,true),(8,true),(9,true),(10,true),(11,true),(12,true),(13,true),(14,true),(15,true),(16,false),(17,true),(18,false)] [] GE ?_|with_reducible refine WF ?_)
  .have hcl:L0 x=false:=by unfold L0;rw [show (x.kids.length==2)=false by cases e:x.kids.length==2 with|true=>exact absurd (by rw [beq_iff_eq] at e;omega) h2|false=>rfl];simp
   repeat' ((conv=>whnf);first|exact CN|(refine A2 ?_;intros)|(refine CO ?_ ?_ ?_;rotate_left)|(refine A3 ?_ ?_<;>intro e h)|(refine A4 ?_ ?_<;>intro _)|(refine Jl ?_;intro s1 U hz hm hc h)|(refine Ja ?_ ?_<;>(first|intro n s1 U hr hm hc h|intro e s1 U hc h))|exact FR|refine BR (λ_=>?_)|refine Ac (λe1=>?_)|refine DN ?_|refine E1 AC ?_|refine DH (ks:=[2,4]) ?_|refine DH (ks:=[1]) ?_|refine Di h hcl (λh=>?_)|refine Dh h hcl (λh=>?_)|refine V9.go (l:=l++[x]) (Gl (d:=d) (λh=>Hg h) hd1 hd0) (by rw [List.length_append]<;>exact Nat.le_trans (Nat.add_le_add_right hl2 _) (Nat.le_of_ble_eq_true rfl)) hc h (λn s1 U hr hm hc h=>?_) (λe s1 U hc h=>?_)|refine Ae [(0,true),(1,true),(2,true),(3,false),(4,true),(5,false),(6,true)] [] GE ?_|refine Ae [(0,true),(1,true),(2,true),(3,true),(4,true),(5,true),(6,true),(7,true),(8,true),(9,true),(10,true),(11,true),(12,true),(13,true),(14,true),(15,true),(16,false),(17,true),(18,false)] [] GE ?_|with_reducible refine WF ?_)
 .have hcl:L0 x=false:=by unfold L0;rw [show (x.kind==39)=false by cases e:x.kind==39 with|true=>exact absurd (by simpa using e) hk|false=>rfl];rfl
  repeat' ((conv=>whnf);first|exact CN|(refine A2 ?_;intros)|(refine CO ?_ ?_ ?_;rotate_left)|(refine A3 ?_ ?_<;>intro e h)|(refine A4 ?_ ?_<;>intro _)|(refine Jl ?_;intro s1 U hz hm hc h)|(refine Ja ?_ ?_<;>(first|intro n s1 U hr hm hc h|intro e s1 U hc h))|exact FR|refine BR (λ_=>?_)|refine Ac (λe1=>?_)|refine DN ?_|refine E1 AC ?_|refine DH (ks:=[2,4]) ?_|refine DH (ks:=[1]) ?_|refine Di h hcl (λh=>?_)|refine Dh h hcl (λh=>?_)|refine V9.go (l:=l++[x]) (Gl (d:=d) (λh=>Hg h) hd1 hd0) (by rw [List.length_append]<;>exact Nat.le_trans (Nat.add_le_add_right hl2 _) (Nat.le_of_ble_eq_true rfl)) hc h (λn s1 U hr hm hc h=>?_) (λe s1 U hc h=>?_)|refine Ae [(0,true),(1,true),(2,true),(3,false),(4,true),(5,false),(6,true)] [] GE ?_|refine Ae [(0,true),(1,true),(2,true),(3,true),(4,true),(5,true),(6,true),(7,true),(8,true),(9,true),(10,true),(11,true),(12,true),(13,true),(14,true),(15,true),(16,false),(17,true),(18,false)] [] GE ?_|with_reducible refine WF ?_)
end
theorem lY {a b:Bool} {Q:Prop}:(if (if a=true then true else b)=true then P else Q)=if a=true then P else if b=true then P else Q:=by cases a<;>cases b<;>simp
section
variable {st0 st:St} {b d:Nat} {s:Ag} {rows:List (AB×List Nd)} {K:Ay->St->Prop} {A B R W F D E:Rd Nd}
attribute [local irreducible] Go.Aw.Ah
theorem iX {k':Int} {x':List UInt8} {Q:Nd->Ag->Prop} {E:Er->Ag->Prop} (hc:Cx st0 b s st rows) (h:if Bn (Ab s).2.1 k' x'=true then P else AO.wp s Q E) (e:Bn s k x=true) (U:k≠0/\k≠21) (kk:∀st',mu (Ab s).2.1<mu s->Cx st0 b (Ab s).2.1 st' rows->K (.ret (enc (Bv (Ab s).1))) st'):PC 121 [.ptr b 0] st K:=
 Lk hc.has hc.hb (λ_ st' hu=>kk st' (DU e U.1 U.2) (hc.Nl hu (Nat.le_of_lt (DU e U.1 U.2)))) (λn=>absurd (GQ e U.1) n)
theorem fK {s0:Ag} (U:Cx st0 b s st rows) (hm:mu (Ab s0).2.1<mu s0) (hb:mu s0<=100000000) (k:∀st',Cx st0 b s0 st' rows->K (.ret (.Bu [])) st'):PC 72 [.ptr b 0,.agg s0.cells] st K:=FM U hb k
theorem qX {U:Int} {y:List UInt8} {Q:Nd->Ag->Prop} {E:Er->Ag->Prop} (hc:Cx st0 b (Ab s).2.1 st rows) (h:if Bn (Ab s).2.1 k x=true then P else AO.wp s Q E) (e:Bn s U y=true) (hk:U≠0)
 (k1:∀st',Cx st0 b (Ab s).2.1 st' rows->P->K (.ret (.bool true)) st') (U:∀st',Cx st0 b (Ab s).2.1 st' rows->Q (Bv (Ab s).1) (Ab s).2.1->K (.ret (.bool false)) st'):PC 156 [.ptr b 0,.int .i64 k,.str x] st K:=by
 refine fR hc h (λst' c _ p=>k1 st' c p) (λst' c _ q=>U st' c ?_)
 unfold Rd.wp at q
 rw [Fh (GQ e hk)] at q
 exact q
theorem qA {p:Prop} (e:Bn s 1 x=true) (k:(Ab s).1.kind=14):p:=by
 unfold Bn at e
 rw [k] at e
 cases e
theorem jg:AQ enc 120 (λb=>[pv b d,.bool o]) (U1 o):=by
 refine ⟨λ{st0 b s st rows K} hc h=>?_⟩
 have hmu:=hc.mu
 refine pB Tryz.func120 ?_
 cases o
 all_goals simp only [U1,ZJ,U0,Bool.false_eq_true,if_false,if_true,Rd.Af,Rd.As,Rd.wp_seq,Rd.wp_ret] at h
 .skip
  repeat' ((conv=>whnf);first|refine Gq h (λe h=>?_) (λe h=>?_)|exact CN|(refine A2 ?_;intros)|(refine CO ?_ ?_ ?_;rotate_left)|(refine A3 ?_ ?_<;>intro e h)|(refine A4 ?_ ?_<;>intro _)|(refine MC ?_;intro U hc)|(refine Q4 ?_ ?_<;>intro U hc e h)|(refine Jl ?_;intro s1 U hz hm hc h)|(refine Ja ?_ ?_<;>(first|intro n s1 U hr hm hc h|intro e s1 U hc h))|exact FR|refine QK ?_|(refine QJ ?_;intro own1 U hc)|refine Ac (λe1=>?_)|refine Cx.oz (l:=[1]) (new:=[3]) hc (Nat.le_of_ble_eq_true rfl) (λown1 U hc=>?_)|refine Cx.oz (l:=[2]) (new:=[4]) hc (Nat.le_of_ble_eq_true rfl) (λown1 U hc=>?_)|refine Cx.oz (l:=[5,6]) (new:=[7,8]) hc (Nat.le_of_ble_eq_true rfl) (λown1 U hc=>?_)|refine AQ.go (D3 (ks:=MX false) rfl) hc h (λn s1 U hr hm hc h=>?_) (λe s1 U hc h=>?_)|refine AQ.go (D3 (ks:=Tz false) rfl) hc h (λn s1 U hr hm hc h=>?_) (λe s1 U hc h=>?_)|refine AQ.go (GZ (ks:=mA false) rfl) hc h (λn s1 U hr hm hc h=>?_) (λe s1 U hc h=>?_)|refine Cx.G1 (l:=[_]) (hc.push [_]) (Nat.le_of_ble_eq_true rfl) (λown1 U hc=>?_)|refine Cx.ow (l:=[_,_]) hc (Nat.le_of_ble_eq_true rfl) (λown1 U hc=>?_)|refine Ie (l:=[_,_]) (fs:=[pv b d]) (cs:=[]) QA.z (Nat.le_of_ble_eq_true rfl) hc h (λl own1 s1 U hm hc h=>?_) (λe s1 U hc h=>?_)|refine Ae [(0,true),(1,true),(3,true),(4,true),(5,true),(2,false),(6,false),(7,true),(8,false),(9,false)] [1] GE ?_|refine Ae [(0,true),(1,true),(2,true),(4,true),(5,true),(3,false),(6,false),(7,true),(8,false),(9,false),(10,false)] [1] GE ?_|with_reducible refine WF ?_)
 .skip
  repeat' ((conv=>whnf);first|refine Gq h (λe h=>?_) (λe h=>?_)|exact CN|(refine A2 ?_;intros)|(refine CO ?_ ?_ ?_;rotate_left)|(refine A3 ?_ ?_<;>intro e h)|(refine A4 ?_ ?_<;>intro _)|(refine MC ?_;intro U hc)|(refine Q4 ?_ ?_<;>intro U hc e h)|(refine Jl ?_;intro s1 U hz hm hc h)|(refine Ja ?_ ?_<;>(first|intro n s1 U hr hm hc h|intro e s1 U hc h))|exact FR|refine QK ?_|(refine QJ ?_;intro own1 U hc)|refine Ac (λe1=>?_)|refine AQ.go (D3 (ks:=MX true) rfl) hc h (λn s1 U hr hm hc h=>?_) (λe s1 U hc h=>?_)|refine AQ.go (D3 (ks:=Tz true) rfl) hc h (λn s1 U hr hm hc h=>?_) (λe s1 U hc h=>?_)|refine AQ.go (GZ (ks:=mA true) rfl) hc h (λn s1 U hr hm hc h=>?_) (λe s1 U hc h=>?_)|refine Cx.G1 (l:=[_]) (hc.push [_]) (Nat.le_of_ble_eq_true rfl) (λown1 U hc=>?_)|refine Cx.ow (l:=[_,_]) hc (Nat.le_of_ble_eq_true rfl) (λown1 U hc=>?_)|refine Ie (l:=[_,_]) (fs:=[pv b d]) (cs:=[]) QA.z (Nat.le_of_ble_eq_true rfl) hc h (λl own1 s1 U hm hc h=>?_) (λe s1 U hc h=>?_)|refine Ae [(0,true),(1,true),(3,true),(4,true),(5,true),(2,false),(6,false),(7,true),(8,false),(9,false)] [1] GE ?_|refine Ae [(0,true),(1,true),(2,true),(4,true),(5,true),(3,false),(6,false),(7,true),(8,false),(9,false),(10,false)] [1] GE ?_|with_reducible refine WF ?_)
theorem dg:AQ enc 49 (λb=>[pv b d,.bool o]) (P7 o):=by
 refine ⟨λ{st0 b s st rows K} U h=>?_⟩
 simp only [P7,Rd.wp_seq,Rd.wp_ret] at h
 have hmu:=U.mu
 refine pB Tryz.func49 ?_
 repeat' ((conv=>whnf);(first|refine A2 ?_|refine A3 ?_ ?_|refine A4 ?_ ?_|refine MC ?_|refine Q4 ?_ ?_|refine Jl ?_|refine Ja ?_ ?_|exact FR|refine QK ?_|refine QJ ?_|refine Ac ?_)<;>intros)
 refine Cg (λl own=>[(5,.slice 6 (l.map AM) own)]) (λ_ _=>[]) [1,2,4] [0,1] (λl own=>(own,l)::rows) (λl=>l.length) .full (Cx.push ‹_› _) ‹_› (by show 1+_<=_;omega) Yl ?_
 intro l s1 st1 own1 U h hl hm1
 simp only [X6,Xh,Rd.Af,Rd.As,Rd.wp_seq,Rd.wp_ret,Rd.Br] at h
 repeat' ((conv=>whnf);(first|refine A2 ?_|refine A3 ?_ ?_|refine A4 ?_ ?_|refine MC ?_|refine Q4 ?_ ?_|refine Jl ?_|refine Ja ?_ ?_|exact FR|refine QK ?_|refine QJ ?_|refine Ac ?_|refine Fj.go (by first|exact AQ.q|exact (jg (o:=o)).a) ?_ ?_)<;>intros)
theorem VQ:AQ enc 86 (λb=>[pv b d]) HU:=by
 refine ⟨λ{st0 b s st rows K} U h=>?_⟩
 simp only [HU,Ov,Ow,Ox,Rd.Af,Rd.As,Rd.wp_seq,Rd.wp_ret] at h
 have hmu:=U.mu
 refine pB Tryz.func86 ?_
 repeat' ((conv=>whnf);(first|refine A2 ?_|refine A3 ?_ ?_|refine A4 ?_ ?_|refine MC ?_|refine Q4 ?_ ?_|refine Jl ?_|refine Ja ?_ ?_|exact FR|refine QK ?_|refine QJ ?_|refine Ac ?_|refine Fj.go (by first|exact AQ.q|exact (D3 (ks:=[2,4]) rfl).a|exact (dg (o:=true)).a) ?_ ?_|refine Cx.G1 (l:=[_]) (Cx.push ‹_› [_]) (Nat.le_of_ble_eq_true rfl) ?_)<;>intros)
theorem VP (hf:AQ enc 173 (λb=>[pv b d]) F):AQ enc 93 (λb=>[pv b d]) (HN F):=by
 refine ⟨λ{st0 b s st rows K} U h=>?_⟩
 simp only [HN,LY,PM,JE,LZ,Rd.Af,Rd.As,Rd.wp_seq,Rd.wp_ret,lY] at h
 have hmu:=U.mu
 refine pB Tryz.func93 ?_
 repeat' ((conv=>whnf);(first|exact qA ‹_› ‹_›|refine qX ‹_› ‹_› ‹_› Do ?_ ?_|refine iX ‹_› ‹_› ‹_› Do ?_|refine A2 ?_|refine A3 ?_ ?_|refine A4 ?_ ?_|refine MC ?_|refine Q4 ?_ ?_|refine Jl ?_|refine Ja ?_ ?_|refine se ?_|exact FR|refine QK ?_|refine QJ ?_|refine Ac ?_|refine Fj.go (by first|exact AQ.q|exact (D3 (ks:=[1]) rfl).a|exact Nk.a) ?_ ?_|refine O5 (Cx.has ‹_›) ?_ ?_|refine fK ‹_› ‹_› AC ?_|refine Cx.G1 (l:=[_]) (Cx.push ‹_› [_]) (Nat.le_of_ble_eq_true rfl) ?_)<;>intros)
theorem TG (hw:AQ enc 161 (λb=>[pv b d]) W):AQ enc 92 (λb=>[pv b d]) (Gr W):=by
 refine ⟨λ{st0 b s st rows K} hc h=>?_⟩
 simp only [Gr,Rd.wp_seq,Rd.wp_ret] at h
 have hmu:=hc.mu
 refine pB Tryz.func92 ?_
 repeat' ((conv=>whnf);first|exact CN|(refine A2 ?_;intros)|(refine CO ?_ ?_ ?_;rotate_left)|(refine A3 ?_ ?_<;>intro e h)|(refine A4 ?_ ?_<;>intro _)|(refine Jl ?_;intro s1 U hz hm hc h)|(refine Ja ?_ ?_<;>(first|intro n s1 U hr hm hc h|intro e s1 U hc h))|exact FR|refine QK ?_|refine Ac (λe1=>?_)|refine Ie (l:=[_,_]) (fs:=[pv b d]) (cs:=[]) hw.z (Nat.le_of_ble_eq_true rfl) (hc.push _) h (λl own1 s1 U hm hc h=>?_) (λe s1 U hc h=>?_)|refine Ae [(0,true),(1,true),(3,true),(4,true),(2,false),(5,false),(6,true),(7,true)] [] GE ?_|with_reducible refine WF ?_)
end
theorem Cx.nP {st:St} {c:Nat} {cs':List V} (h:Cx (st0.Aa c cs) b s st rows) (U:c≠b):Cx (st0.Aa c cs') b s (st.Aa c cs') rows:=by
 obtain ⟨c0,hr⟩:=h.rx
 refine ⟨?_,⟨c0,?_⟩,h.mu⟩
 .rcases h.has with e|⟨q1,q2,q3,q4,q5,e⟩
  .exact .inl (by rw [St.Ar U];exact e)
  .exact .inr ⟨q1,q2,q3,q4,q5,by rw [St.Ar U];exact e⟩
 .rw [Qw U] at hr |-
  exact hr.Aa
section
variable {st0 st:St} {b d c:Nat} {s:Ag} {rows:List (AB×List Nd)} {K R:Ay->St->Prop} {A B C D E F:Rd Nd}
attribute [local irreducible] Go.Aw.Ah
theorem mN (h1:AQ enc 86 (λb=>[pv b d]) HU) (h2:AQ enc 87 (λb=>[pv b d]) (Ib B C)) (h3:AQ enc 88 (λb=>[pv b d]) (Rh A B C)) (h4:AQ enc 89 (λb=>[pv b d]) (H0 A B C))
 (h5:AQ enc 90 (λb=>[pv b d]) (MM B F)) (h6:AQ enc 91 (λb=>[pv b d]) (Gu B F)) (h7:AQ enc 92 (λb=>[pv b d]) (Gr C)) (h8:AQ enc 93 (λb=>[pv b d]) (HN D))
 (he:AQ enc 84 (λb=>[.ptr b 0,.func 85 [] [],.int .i64 (d:Int)]) E):AQ enc 40 (λb=>[pv b d]) (My A B C D E F):=by
 refine ⟨λ{st0 b s st rows K} U h=>?_⟩
 simp only [My,Rd.Af,Rd.As] at h
 have hmu:=U.mu
 refine pB Tryz.func40 ?_
 repeat' ((conv=>whnf);(first|refine A2 ?_|refine A3 ?_ ?_|refine A4 ?_ ?_|refine MC ?_|exact FR|refine Ac ?_|refine Fj.go (by first|exact AQ.q) ?_ ?_)<;>intros)
theorem et {c2:Nat} {Q:Nd->Ag->Prop} {E:Er->Ag->Prop} (ht:AQ enc 40 (λb=>[pv b d]) A) (hF:Rd.AZ A) (f2:st0.box c2=none/\c2≠b)
 (hc:Cx (st0.Aa c2 [.bool (l.any λx=> !(x.kind==50))]) b s st rows) (h:Rd.wp (IY A l) s Q E)
 (k:∀n s1 U,mu s1<mu s->Cx (st0.Aa c2 [.bool ((l++[n]).any λx=> !(x.kind==50))]) b s1 U rows->Q n s1->K (.ret (enc n)) U)
 (kb:∀e s1 U,Cy st0 b s1 U rows->E e s1->K (.BX (fault e.1)) U):PC 71 [qP b d,.ptr c2 0] st K:=by
 simp only [IY,Rd.Af,Rd.wp_seq,Rd.As,Rd.wp_ret,Rd.Eg] at h
 simp only [List.any_append,List.any_cons,List.any_nil,Bool.or_false] at k
 have hmu:=hc.mu
 generalize (l.any λx=> !(x.kind==50))=o at hc h k
 refine A1 Ad [] Tryz.func71 rfl Do rfl ?_
 refine Ak (Am Ad ?_)
 repeat' ((conv=>whnf);(first|refine A2 ?_|refine A3 ?_ ?_|refine A4 ?_ ?_|fail)<;>intros)
 refine Ak (Am Ad ?_)
 repeat' ((conv=>whnf);first|(refine A2 ?_;intros)|(refine A3 ?_ ?_<;>intro e h)|(refine A4 ?_ ?_<;>intro _)|refine Ca ?_|exact FR|refine Ac (λe1=>?_)|refine O5 hc.has ?_ (λt u o1 o2 e=>?_))
 all_goals refine Ak (Am Ad ?_)
 all_goals (repeat' ((conv=>whnf);first|(refine A2 ?_;intros)|(refine A3 ?_ ?_<;>intro e h)|(refine A4 ?_ ?_<;>intro _)|refine Ca ?_|exact FR|refine Ac (λe1=>?_)|refine AQ.nD ht hF hc h (λn s1 U hr hm hc h=>?_) (λe s1 U hc h=>?_)|exact ⟨_,_,.inl rfl,St.le_refl _,kb _ _ _ (hc.unbox f2) h⟩|fail))
 all_goals cases hk:n.kind==50
 all_goals cases o
 all_goals simp only [hk,Bool.and_false,Bool.and_true,Bool.false_and,Bool.true_and,Bool.false_eq_true,if_false,if_true] at h
 all_goals have hk2:=hk
 all_goals simp only [beq_iff_eq,beq_eq_false_iff_ne] at hk2
 all_goals refine Am Ad ?_
 all_goals (repeat' ((conv=>whnf);first|(refine A2 ?_;intros)|(refine A3 ?_ ?_<;>intro e h)|(refine A4 ?_ ?_<;>intro _)|refine At (Cx.boxed hc f2) ?_|refine FM hc hmu (λU hc=>?_)|refine Ca ?_|exact BH rfl (k _ _ _ hm (by rw [hk]<;>exact Cx.nP hc f2.2) h)|exact BH rfl (k _ _ _ hm (by exact Cx.nP hc f2.2) h)|exact ⟨_,_,.inl rfl,St.le_refl _,kb _ _ _ (hc.y.unbox f2) h⟩|fail))
theorem Xs {X:Ag->Rs} {hle:∀s v s',X s=.inr (v,s')->mu s'<=mu s} (h:∀s v s',X s=.inr (v,s')->mu s'<mu s):Rd.AZ (HB X hle):=λs v s' e=>h s v s' (by
 unfold HB at e
 dsimp only at e
 split at e
 .split at e<;>cases e
 .rename_i U;rw [U];injection e with e;rw [e])
theorem rf {hle:∀s v s',CS A s=.inr (v,s')->mu s'<=mu s} {Q:Nd->Ag->Prop} {E:Er->Ag->Prop} (h:Rd.wp A s Q E):Rd.wp (HB (CS A) hle) s Q E:=by
 have e:(HB (CS A) hle).run s=A.run s:=by
  unfold HB CS
  dsimp only
  cases U:A.run s with
  |inl p=>simp only [U];rw [dif_neg p.1.2]
  |inr p=>simp only [U]
 unfold Rd.wp at h |-
 rw [e];exact h
theorem nF (hf:C8 g (d:Int) (CS A)) (h0:d=0->∀s,CS A s=.inl (2,s)):AQ enc 84 (λb=>[.ptr b 0,.func g [] [],.int .i64 (d:Int)]) A:=
 ⟨λ{st0 b s st rows K} hc h=>(L1 (A:=CS A) (hle:=λs v s' e=>by
   unfold CS at e
   split at e
   .cases e
   .rename_i p hp;cases e;exact A.le _ _ _ hp) (λs e s' U=>by
   unfold CS at U
   split at U
   .rename_i p hp;cases U;exact p.1.2
   .cases U) hf h0).ap hc (rf h)⟩
theorem bN (U:1<=d) (h1:d<=100):AQ enc 84 (λb=>[.ptr b 0,.func 85 [] [],.int .i64 (d:Int)]) (Po d):=
 nF (λs hm st R h=>nj (deep:=(d:Int)) hm (by rw [Rk U h1];exact h)) (λe=>by omega)
theorem XH (U:d<=100):AQ enc 84 (λb=>[.ptr b 0,.func 228 [] [],.int .i64 (d:Int)]) (MO d):=
 nF (λs hm st R h=>jA (deep:=(d:Int)) hm (by
  cases d with
  |zero=>exact h
  |succ d=>rw [Rk (Nat.succ_le_succ (Nat.zero_le d)) U];exact h)) (λe=>by subst e;intro s;rfl)
theorem mG (h0:1<=d) (U:d<=100):AQ enc 40 (λb=>[pv b d]) (VS d):=by
 have ha:=iY h0 U
 have hr:=mJ h0 U
 have hw:=dm h0 U
 have hA:Rd.AZ (HC d):=Xs λs v s' e=>BV (BF _) _ _ _ e
 have hc:=YF hA (jq ha) (dd (QF ha) hw)
 have hd:AQ enc 84 (λb=>[.ptr b 0,.func 228 [] [],.int .i64 ((d:Int) - 1)]) (MO (d - 1)):=by
  have:=XH (d:=d - 1) AC
  rwa [show (((d - 1:Nat)):Int)=(d:Int) - 1 by omega] at this
 exact mN VQ (VV hr hw Nj) (ja hc hr) (VR hc hr) (cZ hr hd U) (TI hr hd U) (TG hw) (VP (je h0 U)) (bN h0 U)
theorem cY (ht:AQ enc 40 (λb=>[pv b d]) A) (hF:Rd.AZ A):AQ enc 28 (λb=>[pv b d]) (Ee A):=by
 refine ⟨λ{st0 b s st rows K} hc h=>?_⟩
 refine A1 Ad [] Tryz.func28 rfl Do rfl ?_
 refine Ak (Am Ad ?_)
 repeat' ((conv=>whnf);(first|refine A2 ?_|refine A3 ?_ ?_|refine A4 ?_ ?_|fail)<;>intros)
 refine R6 1 0 rfl rfl rfl ?_
 refine Ak (Am Ad ?_)
 repeat' ((conv=>whnf);(first|refine A2 ?_|refine A3 ?_ ?_|refine A4 ?_ ?_|fail)<;>intros)
 refine KT 3 2 rfl rfl rfl (λc fc=>?_)
 have U:=hc.SN fc
 have hc:=hc.Tq (cs:=[.bool false]) fc
 have hB:∀{K:Ay->St->Prop},Rd.wp (Ee A) s (λn s'=>∀(l:List Nd) st',Cx (st0.Aa c [.bool (l.any λx=> !(x.kind==50))]) b s' st' rows->K (.ret (enc n)) st') (λe s'=>∀st',Cy st0 b s' st' rows->K (.BX (fault e.1)) st')->PC 69 [.ptr b 0,.func 70 [] [],.func 71 [] [qP b d,.ptr c 0]] (st.Aa c [.bool false]) K:=λh=>
  Rc (fs:=[]) (cs:=[qP b d,.ptr c 0]) (starts:=QE) (base:=λl=>st0.Aa c [.bool (l.any λx=> !(x.kind==50))]) (item:=IY A) (λk=>dk k)
   (λl s st rows K Q E hc h k kb=>et ht hF U hc h k kb) (λhc=>hc.unbox U) hc h
 refine Am Ad ?_
 repeat' ((conv=>whnf);first|(refine A2 ?_;intros)|(refine A3 ?_ ?_<;>intro e h)|(refine A4 ?_ ?_<;>intro _)|refine hB (Rd.wp_mono h (λv s' r q l st' hk=>?_) (λe s' r q st' hk=>?_))|exact C2 (hk.unbox U) q rfl|exact C2 (hk.unbox U) q B6|exact BL hk q|fail)
theorem YD (U:1<=d) (h1:d<=100):AQ enc 28 (λb=>[pv b d]) (Ch d):=cY (mG U h1) (Xu d)
end
section
variable {st0 st:St} {b d c:Nat} {s:Ag} {K R:Ay->St->Prop}
theorem mK (hA:AQ enc g (λb=>[pv b d]++cs) A) (hx:st.box c=some [.func g [] cs]) (hs:Has st b s) (hm:mu s<=100000000) (ht:Et st b K (CS A s)):PC 68 [.ptr b 0,.int .i64 (d:Int),.ptr c 0] st K:=by
 have U:∀{K:Ay->St->Prop},Et st b K (CS A s)->PC g ([pv b d]++cs) st K:=λh=>VN hA hs hm h
 refine pB Tryz.func68 ?_
 unfold CS at *
 cases hr:A.run s with
 |inl p=>
  rw [hr] at ht U
  repeat' ((conv=>whnf);first|(refine A2 ?_;intros)|(refine A3 ?_ ?_<;>intro e h)|(refine A4 ?_ ?_<;>intro _)|refine At hx ?_|refine Bf.2 ?_|refine U (λst1 hu=>?_))
  all_goals exact ⟨_,_,.inl rfl,St.le_refl _,ht _ hu⟩
 |inr p=>
  rw [hr] at ht U
  repeat' ((conv=>whnf);first|(refine A2 ?_;intros)|(refine A3 ?_ ?_<;>intro e h)|(refine A4 ?_ ?_<;>intro _)|refine At hx ?_|refine Bf.2 ?_|refine U (λst1 hu=>?_))
  all_goals exact BH rfl (ht _ hu)
theorem p6 {deep:Int} {A:Nat->Rd Nd} (hA:∀d:Nat,1<=d->d<=100->AQ enc g (λb=>[pv b d]++cs) (A d)) (hm:mu s<=100000000) (h:K (.ret (NA (BJ s deep (CS (A (CR deep)) s)))) st):
 PC 27 [CV s,.int .i64 deep,.func g [] cs] st K:=by
 refine A1 Ad [] Tryz.func27 rfl Do rfl ?_
 refine Ak (Am Ad ?_)
 repeat' ((conv=>whnf);(first|refine A2 ?_|refine A3 ?_ ?_|refine A4 ?_ ?_|fail)<;>intros)
 refine KT 5 1 rfl rfl rfl (λc fc=>?_)
 refine Am Ad ?_
 have hq:¬deep<1->∀(b:Nat) (U:St) (R:Ay->St->Prop),(st.Aa c [.func g [] cs]).le U->Has U b s->Et U b R (CS (A (CR deep)) s)->PC 68 [.ptr b 0,.int .i64 (if 100<deep then 100 else deep),.ptr c 0] U R:=λhd b U R hle hs ht=>by
  have e:(if 100<deep then 100 else deep)=((CR deep:Nat):Int):=by unfold CR;split<;>omega
  rw [e]
  exact mK (hA _ (by unfold CR;split<;>omega) (by unfold CR;split<;>omega)) (hle.1 _ _ (St.Ai ..)) hs hm ht
 obtain ⟨n,s',e,hq3⟩:∃n s' e,BJ s deep (CS (A (CR deep)) s)=(n,s',e):=⟨_,_,_,rfl⟩
 rw [hq3] at h
 have hcat:∀{K:Ay->St->Prop},K (.ret (Ug n s' e)) (st.Aa c [.func g [] cs])->PC 67 [CV s,.int .i64 deep,.func 68 [] [.ptr c 0]] (st.Aa c [.func g [] cs]) K:=λk=>Y7 (s:=s) (q:=CS (A (CR deep)) s) hq (by rw [hq3];exact k)
 repeat' ((conv=>whnf);(first|refine A2 ?_|refine A3 ?_ ?_|refine A4 ?_ ?_|refine hcat ?_)<;>intros)
 all_goals exact DS (St.An (St.le_refl _) fc.1 _) rfl h
theorem dz {deep:Int} (hm:mu s<=100000000) (h:K (.ret (NA (BJ s deep (CS (Ch (CR deep)) s)))) st):PC 12 [CV s,.int .i64 deep] st K:=by
 refine pB Tryz.func12 ?_
 repeat' ((conv=>whnf);(first|refine A2 ?_|refine A3 ?_ ?_|refine A4 ?_ ?_|refine p6 (s:=s) (cs:=[]) (A:=Ch) (λd U h1=>YD U h1) hm ?_)<;>intros)
 all_goals exact BH rfl h
end
def aw (l:List Tk):Prop:=∀t ∈ l,t.text.length<=100000000/\ -1000000000<=t.line/\t.line<=1000000000
theorem aw.at {l:List Tk} (h:aw l) {t:Tk} (e:l[i]? =some t):t.text.length<=100000000/\ -1000000000<=t.line/\t.line<=1000000000:=h t (List.mem_of_getElem? e)
theorem n8 {L:Nat} {v:V} {m U:Int} {st:St} {K K':St->Prop} (h:YS Tryz.prog L r Im [v,.int .i64 U] st K) (e:U=m) (k:∀st,K st->K' st):YS Tryz.prog L r Im [v,.int .i64 m] st K':=by subst e;exact h.mono k
section
variable {st:St} {l:List Tk} {own:AB} {c L:Nat} {r:Loop} {Im:Mem}
attribute [local irreducible] Go.Aw.Ah
theorem o7 (hok:aw l) (hn:l.length<=100000000) {J:Nat->St->Prop} (hJ:∀i st,J i st->st.box c=some [.slice 4 (AD l) own]) (hY:∀i st,i<l.length->J i st->YS Tryz.prog L r Im [.int .i64 (i:Int),.int .i64 (E6 l i)] st (J (i+1))) (h0:J 0 st)
 {I:Mem} {w:World} {cargs:List Value} (hm:Im.le I) (hs:Co I st w) (U:Aj I [.ptr c 0] cargs) (hl:w.heap[L]? =some (.loop r)) (hi:Idle L st):
 Calls Tryz.prog 150 (Value.func (.yield L) #[] #[]::cargs).toArray w λe w'=>(∃v,e=.returned v)/\∃I' st',Fr I st w I' st' w'/\Co I' st' w'/\J l.length st':=by
 refine Sk Ad Tryz.func150 rfl rfl (r:=r) (Im:=Im) (args:=[.dC L,.ptr c 0]) (K:=J l.length) rfl ?_ hm hs (by
  simp only [Aj] at U |-
  exact ⟨_,_,rfl,by simp only [AF],U⟩) hl hi
 have hb:=hJ 0 st h0
 refine FI (OU.of (Am Ad ?_))
 repeat' ((conv=>whnf);first|exact CL|(refine Bp ?_;intros)|(refine CM ?_ ?_ ?_;rotate_left)|(refine Bq ?_ ?_<;>intro _)|refine At hb ?_|with_reducible refine WF ?_)
 refine Q1 ?_
 refine dE ?_
 refine PZ (α:=Nat×St) (λx=>[(8,.int .i64 (x.1:Int))]) (λ_=>[]) [0,1,6,7] [] (λx=>x.2) (λx=>x.1<=l.length/\J x.1 x.2) (λx=>l.length - x.1) (0,st) ⟨Nat.zero_le _,h0⟩ Yl (St.le_refl _) ?_
 rintro ⟨i,st1⟩ ⟨hi1,hj⟩
 dsimp only at hi1 hj |-
 have hb1:=hJ i st1 hj
 refine FI (OU.of (Am Ad ?_))
 by_cases hlt:i<l.length
 .obtain ⟨t,ht⟩:∃t,l[(i:Int).toNat]? =some t:=⟨_,List.getElem?_eq_getElem AC⟩
  have ht':l[i]? =some t:=ht
  have hlt2:(i:Int)<(l.length:Int):=AC
  repeat' ((conv=>whnf);first|exact CL|(refine Bp ?_;intros)|(refine CM ?_ ?_ ?_;rotate_left)|(refine Bq ?_ ?_<;>intro _)|with_reducible refine WF ?_)
  refine FI (OU.of (Am Ad ?_))
  repeat' ((conv=>whnf);first|exact CL|(refine Bp ?_;intros)|(refine CM ?_ ?_ ?_;rotate_left)|(refine Bq ?_ ?_<;>intro _)|with_reducible refine WF ?_)
  refine FI ?_
  refine Q1 ?_
  refine FI (OU.of (Am Ad ?_))
  repeat' ((conv=>whnf);first|exact CL|(refine Bp ?_;intros)|(refine CM ?_ ?_ ?_;rotate_left)|(refine Bq ?_ ?_<;>intro _)|with_reducible refine WF ?_)
  refine FI (OU.of (Am Ad ?_))
  repeat' ((conv=>whnf);first|exact CL|(refine Bp ?_;intros)|(refine CM ?_ ?_ ?_;rotate_left)|(refine Bq ?_ ?_<;>intro _)|with_reducible refine WF ?_)
  have hy:=hY i st1 hlt hj
  refine FI (OU.of (Am Ad ?_))
  have ho:=hok.at ht'
  clear hY U hs hm hl hi
  by_cases hz:i=0
  .subst hz
   have hma:E6 l 0=if (XI t 9 [109,111,100,117,108,101]||XI t 15 [123])=true then 17 else 16:=by unfold E6;rw [ht'];rfl
   repeat' ((conv=>whnf);first|exact CL|(refine Bp ?_;intros)|(refine CM ?_ ?_ ?_;rotate_left)|(refine Bq ?_ ?_<;>intro _)|refine nH ?_|with_reducible refine WF ?_)
   all_goals refine FI (YU Ad 3 rfl rfl rfl rfl rfl ?_)
   all_goals (repeat' ((conv=>whnf);first|exact CL|(refine Bp ?_;intros)|(refine CM ?_ ?_ ?_;rotate_left)|(refine Bq ?_ ?_<;>intro _)|refine ⟨rfl,?_⟩|refine n8 hy (by rw [hma]<;>simp [*]) (λst2 hj2=>?_)|with_reducible refine WF ?_))
   all_goals refine OU.of (Am Ad ?_)
   all_goals (repeat' ((conv=>whnf);first|exact CL|(refine Bp ?_;intros)|(refine CM ?_ ?_ ?_;rotate_left)|(refine Bq ?_ ?_<;>intro _)|with_reducible refine WF ?_))
   all_goals refine OU.of (Am Ad ?_)
   all_goals (repeat' ((conv=>whnf);first|exact CL|(refine Bp ?_;intros)|(refine CM ?_ ?_ ?_;rotate_left)|(refine Bq ?_ ?_<;>intro _)|with_reducible refine WF ?_))
   all_goals conv=>whnf
   all_goals exact ⟨(0+1,st2),⟨hlt,hj2⟩,UV,Yl,St.le_refl _⟩
  .obtain ⟨p,hp⟩:∃p,l[((i:Int) - 1).toNat]? =some p:=⟨_,List.getElem?_eq_getElem AC⟩
   have hp':l[i - 1]? =some p:=by rw [<-hp];congr 1;omega
   have hop:=hok.at hp'
   have hma:E6 l i=UX (some p) t:=by unfold E6 ahead;rw [ht',if_neg hz,hp']
   unfold UX at hma
   have hz2:¬(i:Int)=0:=AC
   repeat' ((conv=>whnf);first|exact CL|(refine Bp ?_;intros)|(refine CM ?_ ?_ ?_;rotate_left)|(refine Bq ?_ ?_<;>intro _)|refine At hb1 ?_|refine nH ?_|refine P3 ?_|refine oN hop.1 hop.2.1 hop.2.2 ?_|refine Ae [(0,true),(1,true),(2,true),(3,true),(4,true),(5,true),(6,true),(7,true),(8,true),(9,true),(10,true),(11,true),(12,true),(13,true),(14,true),(15,true),(16,true),(17,false),(18,true),(19,true),(20,true)] [] GE ?_|with_reducible refine WF ?_)
   all_goals refine FI (YU Ad 3 rfl rfl rfl rfl rfl ?_)
   all_goals (repeat' ((conv=>whnf);first|exact CL|(refine Bp ?_;intros)|(refine CM ?_ ?_ ?_;rotate_left)|(refine Bq ?_ ?_<;>intro _)|refine ⟨rfl,?_⟩|refine n8 hy (by rw [hma]<;>simp [*]) (λst2 hj2=>?_)|with_reducible refine WF ?_))
   all_goals refine OU.of (Am Ad ?_)
   all_goals (repeat' ((conv=>whnf);first|exact CL|(refine Bp ?_;intros)|(refine CM ?_ ?_ ?_;rotate_left)|(refine Bq ?_ ?_<;>intro _)|with_reducible refine WF ?_))
   all_goals refine OU.of (Am Ad ?_)
   all_goals (repeat' ((conv=>whnf);first|exact CL|(refine Bp ?_;intros)|(refine CM ?_ ?_ ?_;rotate_left)|(refine Bq ?_ ?_<;>intro _)|with_reducible refine WF ?_))
   all_goals conv=>whnf
   all_goals exact ⟨(i+1,st2),⟨hlt,hj2⟩,UV,Yl,St.le_refl _⟩
 .have hlt2:¬(i:Int)<(l.length:Int):=AC
  obtain rfl:i=l.length:=AC
  repeat' ((conv=>whnf);first|exact CL|(refine Bp ?_;intros)|(refine CM ?_ ?_ ?_;rotate_left)|(refine Bq ?_ ?_<;>intro _)|with_reducible refine WF ?_)
  refine FI (OU.of (Am Ad ?_))
  repeat' ((conv=>whnf);first|exact CL|(refine Bp ?_;intros)|(refine CM ?_ ?_ ?_;rotate_left)|(refine Bq ?_ ?_<;>intro _)|with_reducible refine WF ?_)
  all_goals conv=>whnf
  all_goals exact ⟨.inl rfl,hj⟩
end
end Go.Proofs.Z
namespace Go.Aw
theorem AB.Ng {own:AB} {n:Nat}:(own.st S n).box=S.box:=by cases own<;>rfl
theorem AB.TD {own:AB} {n:Nat}:(own.st S n).Aa b C=own.st (S.Aa b C) n:=by cases own<;>rfl
theorem VJ {own:AB} {n:Nat}:(own.st (S.Aa b C) n).box b=some C:=by rw [AB.Ng];simp [St.Aa]
theorem AB.HR {own:AB} (h:own.Bx S) (hb:S.box b≠none):own.Bx (S.Aa b C):=by
 cases own with
 |any=>exact h
 |full=>exact trivial
 |tok t=>
  have h:S.fresh t:=h
  refine (show (S.Aa b C).fresh t from ⟨?_,h.2⟩)
  have:t≠b:=by rintro rfl;exact hb h.1
  simp only [St.Aa]
  rw [if_neg this];exact h.1
theorem AB.PO {own:AB} {D:List V} (h:own.Bx (S.Aa b C)):own.Bx (S.Aa b D):=by
 cases own with
 |any=>exact h
 |full=>exact trivial
 |tok t=>
  have h:(S.Aa b C).fresh t:=h
  refine (show (S.Aa b D).fresh t from ⟨?_,h.2⟩)
  have U:=h.1
  simp only [St.Aa] at U |-
  split at U
  .cases U
  .rename_i e;rw [if_neg e];exact U
end Go.Aw
namespace Go.Proofs.Z
open Go Go.Aw
theorem FL (l:List Tk):(AD l).length=l.length:=by unfold AD;rw [List.length_map]
theorem Lt {l:List Tk} {x:Tk} {own:AB} {st:St} {K:V->St->Prop} (h:own.Bx st) (hb:l.length+1<=1000000000)
 (k:∀U:AB,U.Bx st->K (.slice 4 (AD (l++[x])) U) (U.st st ((l++[x]).length*4))):Ah 4 40 (AD l) own [x.cells] (own.st st (l.length*4)) K:=by
 have:=EU (sz:=4) (bytes:=40) (es:=AD l) (new:=[x.cells]) (K:=K) h (by rw [FL];show (l.length+1)*40<=_;omega) (by rw [FL];show l.length+1<En;simp only [En];omega) rfl (λU ho=>by
  have:=k U ho
  rw [FL]
  have e:AD l++[x.cells].map (·.map V.Jq)=AD (l++[x]):=by unfold AD;rw [List.map_append];rfl
  rw [e]
  rw [List.length_append] at this
  exact this)
 rw [FL] at this
 exact this
abbrev qc (m:Int) (t:Tk):Tk:=⟨m,[],t.line,t.Ce⟩
theorem aT {st:St} (U:∀(st:St) (K:Ay->St->Prop),K (.ret (.bool c)) st->PC f args st K) (e:c=true) (k:K (.ret (.bool true)) st):PC f args st K:=U st K (by rw [e];exact k)
theorem eu {st:St} (U:∀(st:St) (K:Ay->St->Prop),K (.ret (.bool c)) st->PC f args st K) (e:c=false) (k:K (.ret (.bool false)) st):PC f args st K:=U st K (by rw [e];exact k)
theorem HJ {st:St} {c:Nat} (h:b≠c):(st.Aa b cs).box c=st.box c:=by simp [St.Aa,Ne.symm h]
theorem jQ {l:List Tk} {x:Tk} {own:AB} {K:V->St->Prop} (h:own.Bx (S.Aa b C)) (hb:l.length+1<=1000000000)
 (k:∀U:AB,U.Bx (S.Aa b C)->K (.slice 4 (AD (l++[x])) U) (U.st (S.Aa b C) ((l++[x]).length*4))):Ah 4 40 (AD l) own [x.cells] ((own.st S (l.length*4)).Aa b C) K:=by
 rw [AB.TD];exact Lt h hb k
theorem P1:∀(a:List Tk) (p:Option Tk) (t:Tk),DK p (a++[t])=DK p a++markT (UX (a.getLast?.or p) t) t
 |[],p,t=>by simp [DK]
 |x::r,p,t=>by
  rw [List.cons_append,DK,P1 r (some x) t,DK,List.append_assoc]
  congr 3
  cases r with
  |nil=>rfl
  |cons y r=>rw [List.getLast?_cons_cons];cases h:(y::r).getLast? with
   |none=>simp at h
   |some z=>rfl
theorem MZ:∀(a:List Tk) (p:Option Tk),(DK p a).length<=2*a.length
 |[],p=>Nat.le_refl _
 |x::r,p=>by
  have:=MZ r (some x)
  rw [DK,List.length_append,List.length_cons]
  unfold markT
  split<;>simp only [List.length_cons,List.length_nil]<;>omega
theorem X0 {l:List Tk} {t:Tk} (h:l[i]? =some t):DK none (l.take (i+1))=DK none (l.take i)++markT (E6 l i) t:=by
 have U:=(List.getElem?_eq_some_iff.1 h).1
 have e:l.take (i+1)=l.take i++[t]:=by rw [List.take_add_one,h];rfl
 rw [e,P1]
 congr 3
 unfold E6 ahead
 rw [h]
 dsimp only
 congr 1
 cases i with
 |zero=>rfl
 |succ i=>
  rw [if_neg AC,List.getLast?_take,if_neg AC]
  have:l[i+1 - 1]? =some l[i]:=by rw [Nat.add_sub_cancel];exact List.getElem?_eq_getElem AC
  rw [this];rfl
section
variable {st:St} {l:List Tk} {own:AB} {K:Ay->St->Prop}
attribute [local irreducible] Go.Aw.Ah
theorem lR (hok:aw l) (hn:l.length<=100000000) (h:K (.ret (.slice 4 (AD (Ej l)) .any)) st):PC 39 [.slice 4 (AD l) own] st K:=by
 refine A5.ends (Tn Ad Tryz.func39 rfl Do rfl ?_)
 refine Am Ad ?_
 repeat' ((conv=>whnf);first|exact CL|(refine Bp ?_;intros)|(refine CM ?_ ?_ ?_;rotate_left)|(refine Bq ?_ ?_<;>intro _)|refine Kt (λ_=>?_) ?_|with_reducible refine WF ?_)
 refine Am Ad ?_
 repeat' ((conv=>whnf);first|exact CL|(refine Bp ?_;intros)|(refine CM ?_ ?_ ?_;rotate_left)|(refine Bq ?_ ?_<;>intro _)|refine Kt (λ_=>?_) ?_|refine ⟨⟨AC,AC,AC,(by unfold En<;>omega)⟩,.inl ⟨rfl,λb0 f0=>?_⟩⟩|with_reducible refine WF ?_)
 refine Am Ad ?_
 repeat' ((conv=>whnf);first|exact CL|(refine Bp ?_;intros)|(refine CM ?_ ?_ ?_;rotate_left)|(refine Bq ?_ ?_<;>intro _)|refine Kt (λ_=>?_) ?_|refine mw (λc fc=>?_)|with_reducible refine WF ?_)
 conv=>whnf
 refine dA.rR 1 0 rfl rfl rfl (λb1 f1=>?_)
 refine dA.rR 3 1 rfl rfl rfl (λb3 f3=>?_)
 refine dA.here ?_
 obtain ⟨S,hS⟩:∃S,S=(st.Aa c [.slice 4 (AD l) own]).Aa b1 [.slice 4 (AD l) own]:=⟨_,rfl⟩
 have n0c:c≠b0:=by
  rintro rfl
  have:=fc.2
  simp [St.B1] at this
 have n01:b1≠b0:=by
  rintro rfl
  have:=f1.2
  simp [St.B1,St.Aa] at this
 have n03:b3≠b0:=by
  rintro rfl
  have:=f3.2
  simp [St.B1,St.Aa] at this
 have nc1:b1≠c:=by
  rintro rfl
  have:=f1.1
  rw [St.Ai] at this;cases this
 have n31:b3≠b1:=by
  rintro rfl
  have:=f3.1
  rw [St.Ai] at this;cases this
 have n3c:b3≠c:=by
  rintro rfl
  have:=f3.1
  rw [HJ (Ne.symm n31),St.Ai] at this;cases this
 have fc0:st.box c=none:=fc.1
 have f10:st.box b1=none:=by have:=f1.1;rw [HJ (Ne.symm nc1)] at this;exact this
 have f30:st.box b3=none:=by have:=f3.1;rw [HJ (Ne.symm n31),HJ (Ne.symm n3c)] at this;exact this
 have hSc:S.box c=some [.slice 4 (AD l) own]:=by rw [hS,HJ nc1,St.Ai]
 have hS1:S.box b1=some [.slice 4 (AD l) own]:=by rw [hS,St.Ai]
 have hle:∀X,st.le (S.Aa b3 X):=λX=>by
  rw [hS];exact St.An (St.An (St.An (St.le_refl _) fc0 _) f10 _) f30 _
 have hgo:AB.Bx (S.Aa b3 [.slice 4 [] (.tok b0)]) (.tok b0):=by
  refine (show (S.Aa b3 _).fresh b0 from ⟨?_,by rw [hS];exact f0.2⟩)
  rw [HJ n03,hS,HJ n01,HJ n0c];exact f0.1
 obtain ⟨J,hJ⟩:∃J:Nat->St->Prop,J=λi st'=>∃o:AB,o.Bx (S.Aa b3 [.slice 4 (AD (DK none (l.take i))) o])/\st'=o.st (S.Aa b3 [.slice 4 (AD (DK none (l.take i))) o]) ((DK none (l.take i)).length*4):=⟨_,rfl⟩
 refine ⟨⟨rfl,rfl⟩,150,[.ptr c 0],J l.length,⟨rfl,⟨_,Tryz.func150,Do,Do⟩⟩,?_,?_⟩
 .intro D B Im β a wm L df fi hF I w cargs hm hs hargs hl hi
  refine o7 (own:=own) hok hn (J:=J) (λi st1 hj=>?_) (λi st1 hlt hj=>?_) ?_ hm hs hargs hl hi
  .rw [hJ] at hj
   obtain ⟨o,_,rfl⟩:=hj
   rw [AB.Ng,HJ n3c,hSc]
  .refine jB Ad hF rfl rfl rfl Do rfl rfl ?_
   rw [hJ] at hj
   obtain ⟨o,hgo,rfl⟩:=hj
   obtain ⟨t,ht⟩:∃t,l[(i:Int).toNat]? =some t:=⟨_,List.getElem?_eq_getElem AC⟩
   have htk:=X0 (l:=l) (i:=i) (t:=t) ht
   have hlen2:=MZ (l.take i) none
   have hti:(l.take i).length<=l.length:=NE
   generalize hout:DK none (l.take i)=out at *
   have hb3:(o.st (S.Aa b3 [.slice 4 (AD out) o]) (out.length*4)).box b3=some [.slice 4 (AD out) o]:=by rw [AB.Ng,St.Ai]
   have hb1:(o.st (S.Aa b3 [.slice 4 (AD out) o]) (out.length*4)).box b1=some [.slice 4 (AD l) own]:=by rw [AB.Ng,HJ n31,hS1]
   have hlo:out.length+1<=1000000000:=AC
   unfold Z4
   by_cases hz:E6 l i=0
   .have hfin:∀o2:AB,o2.Bx (S.Aa b3 [.slice 4 (AD out) o])->J (i+1) ((o2.st (S.Aa b3 [.slice 4 (AD out) o]) ((out++[t]).length*4)).Aa b3 [.slice 4 (AD (out++[t])) o2]):=λo2 h2=>by
     rw [hJ]
     refine ⟨o2,?_,?_⟩
     .rw [htk];unfold markT;rw [if_pos hz];exact AB.PO h2
     .rw [htk];unfold markT;rw [if_pos hz,AB.TD,St.set_set]
    repeat' ((conv=>whnf);first|exact CL|(refine Bp ?_;intros)|(refine CM ?_ ?_ ?_;rotate_left)|(refine Bq ?_ ?_<;>intro _)|refine Kt (λ_=>?_) ?_|refine ⟨⟨rfl,rfl⟩,?_⟩|refine At hb3 ?_|refine At hb1 ?_|refine Lt (x:=t) hgo hlo (λo2 h2=>?_)|refine At VJ ?_|exact hfin o2 h2|refine Ae [(0,true),(1,true),(2,true),(3,true),(4,true),(5,true),(6,true),(7,true),(8,true),(9,true),(10,true),(11,true),(12,true),(13,true),(14,false),(15,false)] [1] GE ?_|refine Ae [(0,true),(1,true),(2,true),(3,true),(4,true),(5,true),(6,false),(7,false)] [1] GE ?_|with_reducible refine WF ?_)
   .have hlo2:(out++[qc (E6 l i) t]).length+1<=1000000000:=by rw [List.length_append,List.length_singleton];omega
    have hfin:∀o2 o3:AB,o2.Bx (S.Aa b3 [.slice 4 (AD out) o])->o3.Bx ((S.Aa b3 [.slice 4 (AD out) o]).Aa b3 [.slice 4 (AD (out++[qc (E6 l i) t])) o2])->
     J (i+1) ((o3.st ((S.Aa b3 [.slice 4 (AD out) o]).Aa b3 [.slice 4 (AD (out++[qc (E6 l i) t])) o2]) ((out++[qc (E6 l i) t]++[t]).length*4)).Aa b3 [.slice 4 (AD (out++[qc (E6 l i) t]++[t])) o3]):=λo2 o3 h2 h3=>by
     rw [hJ]
     refine ⟨o3,?_,?_⟩
     .rw [htk];unfold markT;rw [if_neg hz,St.set_set] at *;exact AB.PO h3
     .rw [htk];unfold markT;rw [if_neg hz,AB.TD,St.set_set,St.set_set,List.append_assoc];rfl
    have hb1':∀(o2:AB) n C,((o2.st (S.Aa b3 [.slice 4 (AD out) o]) n).Aa b3 C).box b1=some [.slice 4 (AD l) own]:=λo2 n C=>by rw [HJ n31,AB.Ng,HJ n31,hS1]
    repeat' ((conv=>whnf);first|exact CL|(refine Bp ?_;intros)|(refine CM ?_ ?_ ?_;rotate_left)|(refine Bq ?_ ?_<;>intro _)|refine Kt (λ_=>?_) ?_|refine ⟨⟨rfl,rfl⟩,?_⟩|refine At hb3 ?_|refine At hb1 ?_|refine At (hb1' _ _ _) ?_|refine At (St.Ai ..) ?_|refine Lt (x:=qc (E6 l i) t) hgo hlo (λo2 h2=>?_)|refine jQ (x:=t) (AB.HR h2 (by rw [St.Ai]<;>simp)) hlo2 (λo3 h3=>?_)|refine At VJ ?_|exact hfin o2 o3 h2 h3|refine Ae [(0,true),(1,true),(2,true),(3,true),(4,true),(5,true),(6,true),(7,true),(8,true),(9,true),(10,true),(11,true),(12,true),(13,true),(14,false),(15,false)] [1] GE ?_|refine Ae [(0,true),(1,true),(2,true),(3,true),(4,true),(5,true),(6,false),(7,false)] [1] GE ?_|with_reducible refine WF ?_)
  .rw [hJ]
   exact ⟨.tok b0,hgo,by rw [hS];rfl⟩
 .intro st' hk
  rw [hJ,List.take_length] at hk
  obtain ⟨o,hgo,rfl⟩:=hk
  have hb3:(o.st (S.Aa b3 [.slice 4 (AD (DK none l)) o]) ((DK none l).length*4)).box b3=some [.slice 4 (AD (DK none l)) o]:=VJ
  have hb1:(o.st (S.Aa b3 [.slice 4 (AD (DK none l)) o]) ((DK none l).length*4)).box b1=some [.slice 4 (AD l) own]:=by rw [AB.Ng,HJ n31,hS1]
  have hlen2:=MZ l none
  have hlo:(DK none l).length+1<=1000000000:=AC
  refine Am Ad ?_
  have hle1:st.le (o.st (S.Aa b3 [.slice 4 (AD (DK none l)) o]) ((DK none l).length*4)):=St.le_trans (hle _) (AB.Bz hgo)
  have hle2:∀(o2:AB) (n:Nat) (C D:List V),o2.Bx (S.Aa b3 C)->st.le ((o2.st (S.Aa b3 C) n).Aa b3 D):=λo2 n C D h2=>by
   rw [AB.TD,St.set_set];exact St.le_trans (hle _) (AB.Bz (AB.PO h2))
  have U:∀x:List Tk,ZH l=x->K (.ret (.slice 4 (AD (DK none l++x)) .any)) st:=λx e=>by
   have:=h;unfold Ej at this;rw [e] at this;exact this
  cases hlast:l.getLast? with
  |none=>
   obtain rfl:l=[]:=List.getLast?_eq_none_iff.1 hlast
   have U:=U [⟨16,[],0,0⟩] rfl
   have hz0:(([]:List Tk).length:Int)=0:=rfl
   repeat' ((conv=>whnf);first|exact CL|(refine Bp ?_;intros)|(refine CM ?_ ?_ ?_;rotate_left)|(refine Bq ?_ ?_<;>intro _)|refine Kt (λ_=>?_) ?_|refine At hb1 ?_|refine At hb3 ?_|refine Lt (x:=⟨16,[],0,0⟩) hgo hlo (λo2 h2=>?_)|refine At VJ ?_|refine At (St.Ai ..) ?_|with_reducible refine WF ?_)
   all_goals conv=>whnf
   all_goals refine ⟨.inr rfl,?_⟩
   all_goals conv=>whnf
   all_goals exact ⟨_,_,.inr rfl,hle2 o2 _ _ _ h2,U⟩
  |some t=>
   have hpos:0<l.length:=List.length_pos_iff.2 (λe=>by rw [e] at hlast;cases hlast)
   have ht:l[((l.length:Nat) - 1:Int).toNat]? =some t:=by
    rw [List.getLast?_eq_getElem?] at hlast
    rw [<-hlast];congr 1;omega
   have hne:¬(l.length:Int)=0:=AC
   cases ho:P2 t with
   |true=>
    have U:=U [⟨16,[],0,0⟩] (by unfold ZH;rw [hlast];simp [ho])
    repeat' ((conv=>whnf);first|exact CL|(refine Bp ?_;intros)|(refine CM ?_ ?_ ?_;rotate_left)|(refine Bq ?_ ?_<;>intro _)|refine Kt (λ_=>?_) ?_|refine At hb1 ?_|refine At hb3 ?_|refine aT (λst K h=>P3 h) ho ?_|refine Lt (x:=⟨16,[],0,0⟩) hgo hlo (λo2 h2=>?_)|refine At VJ ?_|refine At (St.Ai ..) ?_|with_reducible refine WF ?_)
    all_goals conv=>whnf
    all_goals refine ⟨.inr rfl,?_⟩
    all_goals conv=>whnf
    all_goals exact ⟨_,_,.inr rfl,hle2 o2 _ _ _ h2,U⟩
   |false=>
    have U:=U [] (by unfold ZH;rw [hlast];simp [ho])
    rw [List.append_nil] at U
    repeat' ((conv=>whnf);first|exact CL|(refine Bp ?_;intros)|(refine CM ?_ ?_ ?_;rotate_left)|(refine Bq ?_ ?_<;>intro _)|refine Kt (λ_=>?_) ?_|refine At hb1 ?_|refine At hb3 ?_|refine eu (λst K h=>P3 h) ho ?_|with_reducible refine WF ?_)
    all_goals conv=>whnf
    all_goals refine ⟨.inr rfl,?_⟩
    all_goals conv=>whnf
    all_goals exact ⟨_,_,.inr rfl,hle1,U⟩
end
end Go.Proofs.Z
namespace Go.Proofs.Z
open Go Go.Aw
open Rd (Ap)
theorem ah {l:List Tk} (h:jf l=true):aw l:=λt U=>by
 have:=List.all_eq_true.1 h t U
 simp only [Bool.and_eq_true,decide_eq_true_eq] at this
 exact ⟨this.1,this.2.1,this.2.2⟩
theorem eD {deep:Int} {A:Nat->Rd Nd} (U:¬deep<1) (e:(A (CR deep)).run s=.inr (n,s')):BJ s deep (CS (A (CR deep)) s)=(n,s',0):=by
 unfold BJ CS
 rw [if_neg U,e]
section
variable {st:St} {K:Ay->St->Prop}
theorem pc {s:List UInt8} {x:Lx} (hs:Iz s=.inr x) (h:∀w1 w2 st',st.le st'->K (.ret (.Bu [.slice 4 (AD x.AA) w1,.slice 5 (KF x.notes) w2,.int .i64 0,.int .i64 0])) st'):PC 22 [.str s] st K:=by
 refine qG (λi' e' U=>?_) (λi' e' st' hle U=>?_) (λx w1 w2 st' U hle=>?_)
 .rw [hs] at U;cases U
 .rw [hs] at U;cases U
 .rw [hs] at U;injection U with U;subst U;exact h w1 w2 st' hle
end
theorem rO (h:s.AA.length<=1000/\s.Dg.length<=1000):mu s<=100000000:=by unfold mu;omega
theorem iZ {s:List UInt8} (h:(match Iz s with| .inr _=>true| .inl _=>false)=true):∃x,Iz s=.inr x/\x.AA=L3 s:=by
 unfold L3
 cases e:Iz s with
 |inl p=>rw [e] at h;cases h
 |inr x=>exact ⟨x,rfl,rfl⟩
theorem si:∃n s',(Ch 4).run ⟨Ej (L3 YJ),0,[],0⟩=.inr (n,s')/\n.kind=2/\s'.pos=(s'.AA.length:Nat)/\∃k1 k2 k3,n.kids=[k1,k2,k3]/\k1.kids.length=7/\k2.kind=42/\k3.kind=36:=by
 have h:=qV
 cases e:(Ch 4).run ⟨Ej (L3 YJ),0,[],0⟩ with
 |inl p=>rw [show (Ee (My (HC 4) (Mz 4) (Gn 4) (CT 4) (FT (CT 4) (IA 3)) (Da F5 (FT (CT 3) (IA 2))))).run _=_ from e] at h;cases h
 |inr p=>
  obtain ⟨n,s'⟩:=p
  rw [show (Ee (My (HC 4) (Mz 4) (Gn 4) (CT 4) (FT (CT 4) (IA 3)) (Da F5 (FT (CT 3) (IA 2))))).run _=_ from e] at h
  simp only [Bool.and_eq_true,beq_iff_eq] at h
  obtain ⟨⟨h1,h2⟩,U⟩:=h
  refine ⟨n,s',rfl,h1,h2,?_⟩
  match hk:n.kids,U with
  |[k1,k2,k3],U=>
   simp only [List.map_cons,List.map_nil,List.cons.injEq,and_true,Prod.mk.injEq] at U
   obtain ⟨⟨a,b⟩,⟨c,_⟩,d,_⟩:=U
   rw [if_pos a] at b
   exact ⟨k1,k2,k3,rfl,b,c,d⟩
  |[],U=>simp at U
  |[_],U=>simp at U
  |[_,_],U=>simp at U
  |_::_::_::_::_,U=>simp at U
theorem sj:∃e s',(Ch 4).run ⟨Ej (L3 YK),0,[],0⟩=.inl (e,s')/\e.1=120:=by
 have h:=qW
 cases e:(Ch 4).run ⟨Ej (L3 YK),0,[],0⟩ with
 |inr p=>rw [show (Ee (My (HC 4) (Mz 4) (Gn 4) (CT 4) (FT (CT 4) (IA 3)) (Da F5 (FT (CT 3) (IA 2))))).run _=_ from e] at h;cases h
 |inl p=>
  obtain ⟨e',s'⟩:=p
  rw [show (Ee (My (HC 4) (Mz 4) (Gn 4) (CT 4) (FT (CT 4) (IA 3)) (Da F5 (FT (CT 3) (IA 2))))).run _=_ from e] at h
  exact ⟨e',s',rfl,beq_iff_eq.1 h⟩
theorem kE {d m:Int} (h:d<=m) (s:Ag) (hn:¬(BJ s d (CS (Ch (CR d)) s)).2.2=2):BJ s m (CS (Ch (CR m)) s)=BJ s d (CS (Ch (CR d)) s):=by
 unfold BJ at *
 by_cases h1:d<1
 .rw [if_pos h1] at hn;exact absurd rfl hn
 .rw [if_neg h1] at hn |-
  rw [if_neg AC]
  rcases WX (d:=CR d) (d':=CR m) (by unfold CR;split<;>split<;>omega) s with ⟨e,t,U,h3⟩|U
  .unfold CS at hn
   rw [U] at hn
   exact absurd h3 hn
  .unfold CS;rw [U]
section
variable {st:St} {K:Ay->St->Prop}
theorem al {s:List UInt8} {x:Lx} (hs:Iz s=.inr x) (hok:aw x.AA) (hn:x.AA.length<=100000000) (h:∀st',st.le st'->K (.ret (CV ⟨Ej x.AA,0,[],0⟩)) st'):PC 15 [.str s] st K:=by
 refine pB Tryz.func15 ?_
 repeat' ((conv=>whnf);first|(refine Bp ?_;intros)|(refine Bq ?_ ?_<;>intro _)|refine pc hs (λw1 w2 st1 U=>?_)|refine lR hok hn ?_)
 all_goals exact ⟨_,_,.inr rfl,St.le_refl _,h st1 U⟩
theorem FH {deep e:Int} (U:mu s<=100000000) (hq:BJ s deep (CS (Ch (CR deep)) s)=(n,s',e)) (h:K (.ret (Ug n s' e)) st):PC 12 [CV s,.int .i64 deep] st K:=dz U (by rw [hq];exact h)
theorem Ig {v:Bool} (U:v=(decide (s.AA.length<=1000)&&decide (s.Dg.length<=1000))) (h:K (.ret (.bool v)) st):PC 10 [CV s] st K:=by
 refine pB Tryz.func10 ?_
 repeat' ((conv=>whnf);first|(refine Bp ?_;intros)|(refine Bq ?_ ?_<;>intro _)|fail)
 all_goals conv=>whnf
 all_goals (refine Aq h ?_;clear h;rw [U])
 all_goals simp only [Bool.and_eq_true,decide_eq_true_eq,Bool.and_eq_false_iff,decide_eq_false_iff_not]
 all_goals omega
theorem Ic (h:∀st',st.le st'->K (.ret (.bool true)) st'):PC 11 [] st K:=by
 refine pB Tryz.func11 ?_
 obtain ⟨x,hx,U⟩:=iZ mO
 obtain ⟨y,hy,hyt⟩:=iZ mP
 have hok:=mM
 simp only [Bool.and_eq_true,decide_eq_true_eq] at hok
 obtain ⟨⟨⟨⟨⟨o1,o2⟩,o3⟩,o4⟩,o5⟩,o6⟩:=hok
 obtain ⟨n,s1,r1,a1,a3,k1,k2,k3,a4,a5,a6,a7⟩:=si
 obtain ⟨e,s2,r2,b1⟩:=sj
 have hk0:n.kids[(0:Int).toNat]? =some k1:=by rw [a4];rfl
 have hk1:n.kids[(1:Int).toNat]? =some k2:=by rw [a4];rfl
 have hk2:n.kids[(2:Int).toNat]? =some k3:=by rw [a4];rfl
 have hkl:(n.kids.length:Int)=3:=by rw [a4];rfl
 have hk7:(k1.kids.length:Int)=7:=by rw [a5];rfl
 have hm1:mu ⟨Ej x.AA,0,[],0⟩<=100000000:=by rw [U];unfold mu;simp only [List.length_nil];omega
 have hm2:mu ⟨Ej y.AA,0,[],0⟩<=100000000:=by rw [hyt];unfold mu;simp only [List.length_nil];omega
 have c1:BJ ⟨Ej x.AA,0,[],0⟩ 4 (CS (Ch (CR 4)) ⟨Ej x.AA,0,[],0⟩)=(n,s1,0):=by rw [U];exact eD (A:=Ch) Do r1
 have c2:BJ ⟨Ej y.AA,0,[],0⟩ 4 (CS (Ch (CR 4)) ⟨Ej y.AA,0,[],0⟩)=(HX,s2,120):=by
  rw [hyt]
  unfold BJ CS
  rw [if_neg Do,show (Ch (CR 4)).run _=_ from r2,<-b1]
 repeat' ((conv=>whnf);first|(refine Bp ?_;intros)|(refine Bq ?_ ?_<;>intro _)|refine al hx (by rw [U]<;>exact ah o1) (by rw [U]<;>omega) (λst1 hle1=>?_)|refine al hy (by rw [hyt]<;>exact ah o2) (by rw [hyt]<;>omega) (λst2 hle2=>?_)|refine FH hm1 c1 ?_|refine FH hm2 c2 ?_)
 all_goals conv=>whnf
 all_goals exact fin (h _ (St.le_trans hle1 hle2)) rfl
theorem Sr {deep more:Int} (h:∀st',R (.ret (.bool true)) st'):PC 5 [CV s,.int .i64 deep,.int .i64 more] st R:=by
 refine pB Tryz.func5 ?_
 by_cases hs:s.AA.length<=1000/\s.Dg.length<=1000
 .have hm:=rO hs
  have hv:true=(decide (s.AA.length<=1000)&&decide (s.Dg.length<=1000)):=by simp [hs]
  by_cases hd:more<deep
  .skip
   repeat' ((conv=>whnf);first|(refine Bp ?_;intros)|(refine Bq ?_ ?_<;>intro _)|refine Ig hv ?_|refine Ic (λst1 U=>?_))
   all_goals exact fin (h _) rfl
  .generalize hq:BJ s deep (CS (Ch (CR deep)) s)=q
   have hq2:=kE (d:=deep) (m:=more) AC s
   rw [hq] at hq2
   obtain ⟨n,t,e⟩:=q
   by_cases he:e=2
   .skip
    repeat' ((conv=>whnf);first|(refine Bp ?_;intros)|(refine Bq ?_ ?_<;>intro _)|refine Ig hv ?_|refine Ic (λst1 U=>?_)|refine FH hm hq ?_)
    all_goals exact fin (h _) rfl
   .have hq2:=hq2 he
    repeat' ((conv=>whnf);first|(refine Bp ?_;intros)|(refine Bq ?_ ?_<;>intro _)|refine Ig hv ?_|refine Ic (λst1 U=>?_)|refine FH (deep:=deep) hm hq ?_|refine FH (deep:=more) hm hq2 ?_|refine cJ _ (Nat.le_refl _) ?_|refine Vv ?_)
    all_goals exact fin (h _) rfl
 .have hv:false=(decide (s.AA.length<=1000)&&decide (s.Dg.length<=1000)):=by
   symm;simp only [Bool.and_eq_false_iff,decide_eq_false_iff_not];omega
  repeat' ((conv=>whnf);first|(refine Bp ?_;intros)|(refine Bq ?_ ?_<;>intro _)|refine Ig hv ?_|refine Ic (λst1 U=>?_))
  all_goals exact fin (h _) rfl
end
end Go.Proofs.Z
namespace Go.Proofs.Z
open Go Go.Aw
section
variable {H:Type}
theorem Xb:Tryz.prog.cellsOf 3=1:=EQ
theorem bg {n:Nat} {d:DataW H} {vs:List V} (h:dec Tryz.prog n 23 d=some vs):∃l:List Int,vs=[.slice 1 (ints l) .any]:=by
 obtain ⟨m,es,ds,rfl,rfl,U,hb⟩:=Ri Tryz.underlying23 h
 obtain ⟨l,rfl,hs⟩:=Pm (f:=λn=>[V.int .i64 n]) (w:=λ_=>0) (λd vs h=>by
  obtain ⟨k,rfl⟩:=Ge Tryz.underlying3 h
  exact ⟨k,rfl,Nat.zero_le _⟩) U
 exact ⟨l,by rw [Xb];rfl⟩
theorem Rj {n:Nat} {d:DataW H} {vs:List V} (h:dec Tryz.prog n 25 d=some vs):∃s:Ag,vs=s.cells:=by
 obtain ⟨m,ds,us,rfl,hl,hm,rfl,hb⟩:=Pn Tryz.underlying25 h
 match ds,hl with
 |[d0,d1,d2,d3],_=>
  simp only [List.zip_cons_cons,List.zip_nil_right] at hm
  obtain ⟨u0,r0,h0,U,rfl⟩:=B7 hm
  obtain ⟨u1,r1,h1,hm1,rfl⟩:=B7 U
  obtain ⟨u2,r2,h2,hm2,rfl⟩:=B7 hm1
  obtain ⟨u3,r3,h3,hm3,rfl⟩:=B7 hm2
  cases hm3
  obtain ⟨ts,rfl,_⟩:=bh h0
  obtain ⟨p,rfl⟩:=Ge Tryz.underlying3 h1
  obtain ⟨os,rfl⟩:=bg h2
  obtain ⟨w,rfl⟩:=Ge Tryz.underlying3 h3
  exact ⟨⟨ts,p,os,w⟩,rfl⟩
end
theorem Path.mu {s t:Ag} {l:List Tk} (h:Path s l t):Proofs.Z.mu t+l.length<=Proofs.Z.mu s:=by
 induction h with
 |nil s=>exact Nat.le_refl _
 |cons U h2 _ ih=>rw [List.length_cons];omega
theorem Gf (l:List Tk):(AD l).length=l.length:=by unfold AD;rw [List.length_map]
theorem dU {l:List Tk} {x:Tk} {own:AB} {st:St} {K:V->St->Prop} (h:own.Bx st) (hb:l.length+1<=1000000000)
 (k:∀U:AB,U.Bx st->K (.slice 4 (AD (l++[x])) U) (U.st st ((l++[x]).length*4))):Ah 4 40 (AD l) own [x.cells] (own.st st (l.length*4)) K:=by
 have:=EU (sz:=4) (bytes:=40) (es:=AD l) (new:=[x.cells]) (K:=K) h (by rw [Gf];show (l.length+1)*40<=_;omega) (by rw [Gf];show l.length+1<En;simp only [En];omega) rfl (λU ho=>by
  have:=k U ho
  rw [Gf]
  have e:AD l++[x.cells].map (·.map V.Jq)=AD (l++[x]):=by unfold AD;rw [List.map_append];rfl
  rw [e]
  rw [List.length_append] at this
  exact this)
 rw [Gf] at this
 exact this
def cj (st:St) (bo:Nat) (l:List Tk) (own:AB):St:=own.st (st.Aa bo [.slice 4 (AD l) own]) (l.length*4)
theorem Ti {own:AB} {st:St} {n:Nat}:(own.st st n).box b=st.box b:=by cases own<;>rfl
theorem Zs {own:AB} {st:St} (hb:st.box b≠none) (h:own.Bx st):own.Bx (st.Aa b cs):=by
 cases own with
 |any=>exact h
 |full=>trivial
 |tok t=>
  have:b≠t:=λe=>by subst e;exact hb h.1
  exact ⟨by rw [St.Ar this];exact h.1,h.2⟩
theorem fL {own:AB} {st:St} (h:own.Bx (st.Aa b cs)):own.Bx st:=by
 cases own with
 |any=>exact h
 |full=>trivial
 |tok t=>exact (Bw h).2
theorem gA {st:St} {l:List Tk} {own:AB}:(cj st bo l own).box bo=some [.slice 4 (AD l) own]:=by unfold cj;rw [Ti,St.Ai]
theorem lO {st:St} {l:List Tk} {own:AB} (h:bo≠b):(cj st bo l own).box b=st.box b:=by unfold cj;rw [Ti,St.Ar h]
theorem lP {st:St} {l l':List Tk} {own U:AB}:(U.st (st.Aa bo [.slice 4 (AD l) own]) (l'.length*4)).Aa bo [.slice 4 (AD l') U]=cj st bo l' U:=by
 rw [Tj,St.set_set];rfl
theorem XP (h:¬n.kind=1):BQ n=Be n.kids:=by
 cases n with
 |mk a b c d e ks=>rw [BQ,if_neg (show ¬a=1 from h)];rfl
theorem XQ (h:n.kind=1):BQ n=[⟨n.form,n.text,n.line,n.Ce⟩]:=by
 cases n with
 |mk a b c d e ks=>rw [BQ,if_pos (show a=1 from h)];rfl
theorem KI {k:Nat} {x:Nd} (h:l[k]? =some x):Be (l.take (k+1))=Be (l.take k)++BQ x:=by
 rw [List.take_add_one,h,DE]
 show _++Be [x]=_
 rw [C5]
theorem NH {k:Nat} {x:Nd} (h:l[k]? =some x):(Be (l.take k)).length+(BQ x).length<=(Be l).length:=by
 have e:l=l.take (k+1)++l.drop (k+1):=(List.take_append_drop _ _).symm
 have:Be l=Be (l.take k)++BQ x++Be (l.drop (k+1)):=by
  conv=>lhs;rw [e]
  rw [DE,KI h]
 grind
section
variable {R:Ay->St->Prop}
attribute [local irreducible] Go.Aw.Ah
theorem bQ:∀(m:Nat) {n:Nd} {st:St} {bo bw:Nat} {l:List Tk} {own:AB} {R:Ay->St->Prop},n.size<=m->bo≠bw->st.box bo≠none->st.box bw=some [.func 66 [] [.ptr bo 0,.ptr bw 0]]->own.Bx st->l.length+(BQ n).length<=100000000->
 (∀own':AB,own'.Bx st->R (.ret (.Bu [])) (cj st bo (l++BQ n) own'))->PC 66 [enc n,.ptr bo 0,.ptr bw 0] (cj st bo l own) R:=by
 intro m
 induction m with
 |zero=>intro n st bo bw l own R hm;cases n;rw [Nd.size] at hm;omega
 |succ m ih=>
  intro n st bo bw l own R hm hne hb hw hg hl h
  refine pB Tryz.func66 ?_
  by_cases hk:n.kind=1
  .rw [XQ hk] at h hl
   have hn:l.length+1<=1000000000:=by simp only [List.length_singleton] at hl;omega
   repeat' ((conv=>whnf);first|(refine Bp ?_;intros)|(refine Bq ?_ ?_<;>intro _)|refine At gA ?_|refine dU (st:=st.Aa bo [.slice 4 (AD l) own]) (l:=l) (x:=⟨n.form,n.text,n.line,n.Ce⟩) (Zs hb hg) hn (λU ho1=>?_)|refine At (by rw [Ti,St.Ai]) ?_)
   all_goals exact XA rfl lP (h U (fL ho1))
  .rw [XP hk] at h hl
   repeat' ((conv=>whnf);first|(refine Bp ?_;intros)|(refine Bq ?_ ?_<;>intro _)|fail)
   refine JI (α:=Nat×AB) (λx=>[(24,.int .i64 (x.1:Nat))]) [22,23,1,2] (λx=>[]) [] (λx=>cj st bo (l++Be (n.kids.take x.1)) x.2) (λx=>x.2.Bx st/\x.1<=n.kids.length) (λx=>n.kids.length - x.1) (0,own) ⟨hg,Nat.zero_le _⟩ Yl
    (by show St.le (cj st bo (l++Be (n.kids.take 0)) own) _;rw [List.take_zero,Be,List.append_nil];exact St.le_refl _) ?_
   rintro ⟨k,U⟩ ⟨j1,j2⟩
   dsimp only at j1 j2
   by_cases hlt:k<n.kids.length
   .obtain ⟨x,hx⟩:∃x,n.kids[(k:Int).toNat]? =some x:=⟨_,List.getElem?_eq_getElem hlt⟩
    have hx':n.kids[k]? =some x:=hx
    have hxs:=Fa (List.mem_of_getElem? hx')
    have hle:=NH hx'
    have hll:∀k x,n.kids[k]? =some x->(l++Be (n.kids.take k)).length+(BQ x).length<=100000000:=λk x e=>by have:=NH e;grind
    have hW:(cj st bo (l++Be (n.kids.take k)) U).box bw=some [.func 66 [] [.ptr bo 0,.ptr bw 0]]:=by rw [lO hne];exact hw
    repeat' ((conv=>whnf);first|(refine Bp ?_;intros)|(refine Bq ?_ ?_<;>intro _)|refine At hW ?_|refine ih (n:=x) (l:=l++Be (n.kids.take k)) AC hne hb hw j1 (hll k x hx') (λown2 ho2=>?_)|refine Wq (a:=(k:Int)+1) AC AC ?_)
    all_goals conv=>whnf
    all_goals exact ⟨(k+1,own2),⟨ho2,hlt⟩,Nat.sub_lt_sub_left hlt (Nat.lt_succ_self k),Yl,by
     show St.le (cj st bo (l++Be (n.kids.take (k+1))) own2) _
     rw [KI hx',<-List.append_assoc]
     exact St.le_refl _⟩
   .have hk2:k=n.kids.length:=AC
    repeat' ((conv=>whnf);first|(refine Bp ?_;intros)|(refine Bq ?_ ?_<;>intro _)|fail)
    all_goals exact XA rfl (by rw [hk2,List.take_length]) (h U j1)
theorem fH {l:List Tk} {own:AB}:Ay.ret (.slice 4 (AD l) .any)=(Ay.ret (.slice 4 (AD l) own)).wk:=rfl
theorem bR {st:St} {bw:Nat} (hne:bo≠bw) (hb:st.box bo=some [.slice 4 [] .full]) (hw:st.box bw=some [.func 66 [] [.ptr bo 0,.ptr bw 0]]) (hl:(BQ n).length<=100000000)
 (h:∀U:AB,U.Bx st->R (.ret (.Bu [])) (cj st bo (BQ n) U)):PC 66 [enc n,.ptr bo 0,.ptr bw 0] st R:=by
 have:=bQ n.size (n:=n) (st:=st) (bo:=bo) (bw:=bw) (l:=[]) (own:=.full) (R:=R) (Nat.le_refl _) hne ke hw trivial ke h
 rw [show cj st bo [] .full=st from St.Ms hb] at this
 omega
theorem fX {st:St} (hl:(BQ n).length<=100000000) (h:R (.ret (.slice 4 (AD (BQ n)) .any)) st):PC 26 [enc n] st R:=by
 refine JP Ad [3,4] Tryz.func26 rfl Do ?_
 repeat' ((conv=>whnf);first|(refine Bp ?_;intros)|(refine Bq ?_ ?_<;>intro _)|refine Kt (λ_=>?_) ?_|refine S9 (λb f=>?_)|refine At (St.Ai ..) ?_)
 rename_i b1 f1
 have U:b1≠b:=(Bw f).1
 have hfb:st.fresh b:=(Bw (Bw f).2).2
 repeat' ((conv=>whnf);first|(refine Bp ?_;intros)|(refine Bq ?_ ?_<;>intro _)|refine Kt (λ_=>?_) ?_|refine bR U (by rw [St.Ar U.symm,St.Ar U.symm,St.Ai]) (St.Ai ..) hl (λown1 ho1=>?_)|refine At gA ?_)
 all_goals refine DS ?_ fH h
 all_goals exact St.le_trans (St.An (St.An (St.An (St.An (St.An (St.le_refl st) f1.1 _) f1.1 _) hfb.1 _) hfb.1 _) f1.1 _) (AB.Bz (Zs (by rw [St.Ar U.symm,St.Ar U.symm,St.Ai];exact λe=>by cases e) ho1))
end
end Go.Proofs.Z
namespace Go.Aw
theorem len_nil {α:Type} {K:Nat->Prop} (k:0<En->K 0):∀m,m=([]:List α).length->m<En->K m:=λm U h=>by subst U;exact k h
end Go.Aw
namespace Go.Proofs.Z
open Go Go.Aw
section
variable {st:St} {R:Ay->St->Prop}
attribute [local irreducible] Go.Aw.Ah
theorem Uj {o1 o2:AB} {f:V} (h:R (.ret (.bool true)) st):PC 64 [.slice 6 [] o1,.slice 6 [] o2,f] st R:=by
 refine pB Tryz.func64 ?_
 repeat' ((conv=>whnf);first|refine len_nil (λ_=>?_)|(refine Bp ?_;intros)|(refine Bq ?_ ?_<;>intro _)|fail)
 refine K6 17 [15,16] 0 (λk=>k=0) rfl Yl ?_
 intro k U
 subst U
 repeat' ((conv=>whnf);first|(refine Bp ?_;intros)|(refine Bq ?_ ?_<;>intro _)|fail)
 all_goals exact fin h rfl
theorem cI (h:R (.ret (.bool true)) st):PC 23 [enc HX,enc HX] st R:=by
 refine pB Tryz.func23 ?_
 repeat' ((conv=>whnf);first|with_reducible refine Wt rfl ?_|with_reducible refine Wi ?_|(refine Bp ?_;intros)|(refine Bq ?_ ?_<;>intro _)|refine Uj ?_)
 all_goals exact fin h rfl
theorem Vu (hn:n=HX) (h:R (.ret (.bool true)) st):PC 23 [enc n,.agg Df] st R:=by
 subst hn
 exact RM (args':=[enc HX,enc HX]) rfl (cI h)
end
theorem Yv {l:List Tk} {a b:Int} {K:List (List V)->Prop} (h0:0<=a) (h1:a<=b) (h2:b<=l.length) (k:K (AD (KZ l a b))):
 (0<=a/\a<=b/\b<=(AD l).length)/\∀U,U=(((AD l).take b.toNat).drop a.toNat)->K U:=by
 refine ⟨⟨h0,h1,by rw [F1];exact h2⟩,λU e=>?_⟩
 have:((AD l).take b.toNat).drop a.toNat=AD (KZ l a b):=by simp [AD,KZ,List.map_drop,List.map_take]
 rw [this] at e;subst e;exact k
theorem dv {l:List Tk} {k:Nat} {t:Tk} (h:l[k]? =some t):BW (l.take (k+1))=BW (l.take k)++(if QI t=true then [t] else []):=by
 rw [List.take_add_one,h]
 unfold BW
 rw [List.filter_append]
 congr 1
 simp only [Option.toList_some,List.filter_cons,List.filter_nil]
theorem jx {l:List Tk} {k:Nat}:(BW (l.take k)).length<=l.length:=by
 unfold BW
 exact Nat.le_trans (List.length_filter_le _ _) NE
section
variable {st:St} {R:Ay->St->Prop}
attribute [local irreducible] Go.Aw.Ah
theorem aW {deep e:Int} (h:BJ s deep (CS A s)=(n,s',e)) (he:¬e=0):n=HX:=by
 unfold BJ at h
 split at h
 .cases h;rfl
 .unfold CS at h
  cases U:A.run s with
  |inl p=>rw [U] at h;cases h;rfl
  |inr p=>rw [U] at h;cases h;exact absurd rfl he
theorem aX {deep:Int} (h:BJ s deep (CS A s)=(n,s',0)):A.run s=.inr (n,s'):=by
 unfold BJ at h
 split at h
 .cases h
 .unfold CS at h
  cases U:A.run s with
  |inl p=>rw [U] at h;obtain ⟨⟨x,hx⟩,t⟩:=p;cases h;exact absurd rfl hx
  |inr p=>rw [U] at h;obtain ⟨a,b⟩:=p;cases h;rfl
end
section
variable {st:St} {R:Ay->St->Prop}
attribute [local irreducible] Go.Aw.Ah
theorem VW {l:List Tk} {own:AB} (hl:l.length<=100000000) (h:R (.ret (.slice 4 (AD (BW l)) .any)) st):PC 25 [.slice 4 (AD l) own] st R:=by
 refine pB Tryz.func25 ?_
 repeat' ((conv=>whnf);first|(refine Bp ?_;intros)|(refine Bq ?_ ?_<;>intro _)|refine Kt (λ_=>?_) ?_|fail)
 refine JI (α:=Nat×AB) (λx=>[(3,.slice 4 (AD (BW (l.take x.1))) x.2),(4,.int .i64 (x.1:Nat))]) [0] (λx=>[]) [] (λx=>x.2.st st ((BW (l.take x.1)).length*4)) (λx=>x.2.Bx st/\x.1<=l.length) (λx=>l.length - x.1) (0,.full) ⟨trivial,Nat.zero_le _⟩ Yl (by rw [List.take_zero];exact St.le_refl _) ?_
 rintro ⟨k,w⟩ ⟨j1,j2⟩
 dsimp only at j1 j2
 by_cases U:k<l.length
 .obtain ⟨t,ht⟩:∃t,l[(k:Int).toNat]? =some t:=⟨_,List.getElem?_eq_getElem U⟩
  have hs:=dv (show l[k]? =some t from ht)
  have hn:(BW (l.take k)).length+1<=1000000000:=by have:=jx (l:=l) (k:=k);omega
  have hcase:(QI t=true/\¬t.kind=16/\¬t.kind=17/\Qg t.kind t.text=true)\/(QI t=false/\(t.kind=16\/(¬t.kind=16/\t.kind=17)\/(¬t.kind=16/\¬t.kind=17/\Qg t.kind t.text=false))):=by
   unfold QI
   by_cases h1:t.kind=16
   .right;simp [h1]
   by_cases h2:t.kind=17
   .right;simp [h2]
   cases h3:Qg t.kind t.text<;>simp [h1,h2]
  rcases hcase with ⟨hw,n1,n2,n3⟩|⟨hw,n1|⟨n1,n2⟩|⟨n1,n2,n3⟩⟩
  .have hcn:∀{st:St} {R:Ay->St->Prop},R (.ret (.bool true)) st->PC 65 [.agg [.int .i64 t.kind,.str t.text,.int .i64 t.line,.int .i64 t.Ce]] st R:=λh=>RQ (by rw [n3];exact h)
   rw [hw,if_pos rfl] at hs
   repeat' ((conv=>whnf);first|(refine Bp ?_;intros)|(refine Bq ?_ ?_<;>intro _)|refine Kt (λ_=>?_) ?_|refine hcn ?_|refine dU (l:=BW (l.take k)) (x:=t) j1 hn (λown1 ho1=>?_)|refine Wq (a:=(k:Int)+1) AC AC ?_)
   all_goals conv=>whnf
   all_goals exact ⟨(k+1,own1),⟨ho1,U⟩,Nat.sub_lt_sub_left U (Nat.lt_succ_self k),by dsimp only;rw [hs];exact Yl,by dsimp only;rw [hs];exact St.le_refl _⟩
  all_goals rw [hw,if_neg Do,List.append_nil] at hs
  .skip
   repeat' ((conv=>whnf);first|(refine Bp ?_;intros)|(refine Bq ?_ ?_<;>intro _)|refine Kt (λ_=>?_) ?_|refine Wq (a:=(k:Int)+1) AC AC ?_)
   all_goals conv=>whnf
   all_goals exact ⟨(k+1,w),⟨j1,U⟩,Nat.sub_lt_sub_left U (Nat.lt_succ_self k),by dsimp only;rw [hs];exact Yl,by dsimp only;rw [hs];exact St.le_refl _⟩
  .skip
   repeat' ((conv=>whnf);first|(refine Bp ?_;intros)|(refine Bq ?_ ?_<;>intro _)|refine Kt (λ_=>?_) ?_|refine Wq (a:=(k:Int)+1) AC AC ?_)
   all_goals conv=>whnf
   all_goals exact ⟨(k+1,w),⟨j1,U⟩,Nat.sub_lt_sub_left U (Nat.lt_succ_self k),by dsimp only;rw [hs];exact Yl,by dsimp only;rw [hs];exact St.le_refl _⟩
  .have hcn:∀{st:St} {R:Ay->St->Prop},R (.ret (.bool false)) st->PC 65 [.agg [.int .i64 t.kind,.str t.text,.int .i64 t.line,.int .i64 t.Ce]] st R:=λh=>RQ (by rw [n3];exact h)
   repeat' ((conv=>whnf);first|(refine Bp ?_;intros)|(refine Bq ?_ ?_<;>intro _)|refine Kt (λ_=>?_) ?_|refine hcn ?_|refine Wq (a:=(k:Int)+1) AC AC ?_)
   all_goals conv=>whnf
   all_goals exact ⟨(k+1,w),⟨j1,U⟩,Nat.sub_lt_sub_left U (Nat.lt_succ_self k),by dsimp only;rw [hs];exact Yl,by dsimp only;rw [hs];exact St.le_refl _⟩
 .have hk2:k=l.length:=AC
  subst hk2
  rw [List.take_length]
  repeat' ((conv=>whnf);first|(refine Bp ?_;intros)|(refine Bq ?_ ?_<;>intro _)|refine Kt (λ_=>?_) ?_|fail)
  all_goals exact DS (AB.Bz j1) rfl h
theorem YE (h:(Ch d).run s=.inr (n,s')):0<=s.pos/\s.pos<=s.AA.length:=by
 apply S4
 cases hm:M0 s with
 |true=>rfl
 |false=>
  have hn:Ab s=(dB,Es,1):=by unfold Ab;rw [hm];rfl
  have h:(if ((Ab s).1.kind==18)=true then Rd.seq Ji λ_=>.seq (.loop (G7 QE (IY (VS d)) false) []) λl=>.ret (Dx false l)
   else Rd.seq (BA 15 [123]) λ_=>.seq (.loop (G7 QE (IY (VS d)) true) []) λl=>.ret (Dx true l):Rd Nd).run s=.inr (n,s'):=h
  rw [hn,if_neg Do] at h
  obtain ⟨a,s1,U,_⟩:=Bk h
  have U:(if Bn s 15 [123]=true then AO else Sg).run s=.inr (a,s1):=U
  rw [show Bn s 15 [123]=false by unfold Bn;rw [hn];rfl,if_neg Do] at U
  cases U
theorem Ss {deep:Int} (h:∀st',R (.ret (.bool true)) st'):PC 9 [CV s,.int .i64 deep] st R:=by
 refine pB Tryz.func9 ?_
 by_cases hs:s.AA.length<=1000/\s.Dg.length<=1000
 .have hm:=rO hs
  have hm4:mu s<=5100:=by unfold mu;omega
  have hv:true=(decide (s.AA.length<=1000)&&decide (s.Dg.length<=1000)):=by simp [hs]
  repeat' ((conv=>whnf);first|exact CL|(refine Bp ?_;intros)|(refine CM ?_ ?_ ?_;rotate_left)|(refine Bq ?_ ?_<;>intro _)|refine Ig hv ?_|refine Ic (λst1 hle1=>?_)|with_reducible refine WF ?_)
  refine JI (α:=Nat) (λk=>[(6,.int .i64 (k:Nat))]) [1,2,4,5] (λk=>[]) [0] (λ_=>st1) (λk=>k<=s.AA.length/\∀t ∈ s.AA.take k,t.kind<18) (λk=>s.AA.length - k) 0 ⟨Nat.zero_le _,by rw [List.take_zero];intro t ht;cases ht⟩ Yl (St.le_refl _) ?_
  rintro k ⟨j1,j2⟩
  by_cases U:k<s.AA.length
  .obtain ⟨t,ht⟩:∃t,s.AA[(k:Int).toNat]? =some t:=⟨_,List.getElem?_eq_getElem U⟩
   by_cases hk:t.kind<18
   .have hge:¬t.kind>=18:=AC
    have j3:∀u ∈ s.AA.take (k+1),u.kind<18:=by
     rw [List.take_add_one,show s.AA[k]? =some t from ht]
     intro u hu
     rcases List.mem_append.1 hu with hu|hu
     .exact j2 u hu
     .simp only [Option.toList_some,List.mem_singleton] at hu;subst hu;exact hk
    repeat' ((conv=>whnf);first|exact CL|(refine Bp ?_;intros)|(refine CM ?_ ?_ ?_;rotate_left)|(refine Bq ?_ ?_<;>intro _)|refine Wq (a:=(k:Int)+1) AC AC ?_|with_reducible refine WF ?_)
    all_goals conv=>whnf
    all_goals exact ⟨k+1,⟨U,j3⟩,Nat.sub_lt_sub_left U (Nat.lt_succ_self k),Yl,St.le_refl _⟩
   .have hge:t.kind>=18:=AC
    repeat' ((conv=>whnf);first|exact CL|(refine Bp ?_;intros)|(refine CM ?_ ?_ ?_;rotate_left)|(refine Bq ?_ ?_<;>intro _)|with_reducible refine WF ?_)
    all_goals exact fin (h _) rfl
  .have hk2:k=s.AA.length:=AC
   have hN:∀t ∈ s.AA,t.kind<18:=by
    rw [hk2,List.take_length] at j2;exact j2
   generalize hq:BJ s deep (CS (Ch (CR deep)) s)=q
   obtain ⟨n,t,e⟩:=q
   by_cases he:e=0
   .subst he
    have hr:=aX hq
    have hL:=XV (CR deep) s
    unfold Rd.wp at hL
    rw [hr] at hL
    replace hL:Lf [n] s t:=hL
    have hp:=hL.2 hN
    rw [C5] at hp
    have hpos:=YE hr
    have hpe:t.pos<=s.AA.length:=by
     rcases hp.ok with e|e
     .rw [e];exact hpos.2
     .exact e.2
    have hle:=hp.le
    have hl:(BQ n).length<=100000000:=by
     have h1:=hL.1
     rw [C5] at h1
     omega
    have hc:(KZ s.AA s.pos t.pos).length<=100000000:=by unfold KZ;rw [List.length_drop,List.length_take];omega
    have e1:¬s.pos<0:=AC
    have e2:¬t.pos<s.pos:=AC
    have e3:¬t.pos>(s.AA.length:Int):=AC
    have hw2:∀{st:St} {R:Ay->St->Prop} {own:AB},R (.ret (.slice 4 (AD (BW (BQ n))) .any)) st->PC 25 [.slice 4 (AD (KZ s.AA s.pos t.pos)) own] st R:=λh=>VW hc (by rw [<-hp.eq];exact h)
    repeat' ((conv=>whnf);first|exact CL|(refine Bp ?_;intros)|(refine CM ?_ ?_ ?_;rotate_left)|(refine Bq ?_ ?_<;>intro _)|refine FH hm hq ?_|refine fX hl ?_|refine VW hl ?_|refine Yv AC AC AC ?_|refine hw2 ?_|refine Yr ?_|refine Ae [(0,true),(1,true),(2,true),(5,true),(6,true),(7,true),(8,true),(9,true),(10,true),(11,true),(3,false),(4,false),(12,false),(13,false),(14,true),(15,true)] [] GE ?_|with_reducible refine WF ?_)
    all_goals exact fin (h _) rfl
   .have hn:n=HX:=aW hq he
    repeat' ((conv=>whnf);first|exact CL|(refine Bp ?_;intros)|(refine CM ?_ ?_ ?_;rotate_left)|(refine Bq ?_ ?_<;>intro _)|refine FH hm hq ?_|refine Vu hn ?_|with_reducible refine WF ?_)
    all_goals exact fin (h _) rfl
 .have hv:false=(decide (s.AA.length<=1000)&&decide (s.Dg.length<=1000)):=by
   symm;simp only [Bool.and_eq_false_iff,decide_eq_false_iff_not];omega
  repeat' ((conv=>whnf);first|exact CL|(refine Bp ?_;intros)|(refine CM ?_ ?_ ?_;rotate_left)|(refine Bq ?_ ?_<;>intro _)|refine Ig hv ?_|refine Ic (λst1 hle1=>?_)|with_reducible refine WF ?_)
  all_goals exact fin (h _) rfl
end
end Go.Proofs.Z
