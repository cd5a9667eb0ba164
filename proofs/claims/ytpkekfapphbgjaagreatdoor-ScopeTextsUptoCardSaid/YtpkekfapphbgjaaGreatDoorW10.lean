/-
  Parts of a proof: lemmas that the last text uses.
-/
import Derived.Test.YtpkekfapphbgjaaGreatDoorW9
import Derived.RangeFuncRecord
import Derived.RangeFuncSeq
import Derived.OrdersIn
set_option linter.unusedVariables false
set_option linter.unusedSimpArgs false
set_option maxHeartbeats 16000000
variable {w w':Go.World} {b d id:Nat} {x:List UInt8} {ty:Go.TypeId} {P:Prop} {c:Go.Code} {Q:Go.Aw.Nd->Go.Proofs.Z.An->Prop} {cs args:List Go.Aw.V} {n:Go.Aw.Nd} {l:List Go.Aw.Nd} {k deep:Int} {E:Go.Proofs.Z.Er->Go.Proofs.Z.An->Prop} {f g:Go.FuncId} {mk:Nat->Go.Aw.V->List Go.Aw.V} {A:Go.Proofs.Z.Rd Go.Aw.Nd} {ks:List Int} {s:Go.Proofs.Z.An} {st0:Go.Aw.St} {rows:List (Go.Aw.AH×List Go.Aw.Nd)} {K:Go.Aw.As->Go.Aw.St->Prop} {p:Go.Aw.Nd->Bool} {o:Bool} {ops:Array Go.Oper} {r:Go.Loop} {Im:Go.Aw.Mem} {fn:Go.Func}
namespace Go.Proofs.Z
open Go Go.Aw
def sqs_ (n:Nat) (F:List Nat):List (Nat×Bool):=(List.range n).map λi=>(i,F.all λj=>!Nat.beq i j)
def sqc_ (l:List Nat):List (Nat×Bool):=l.map λi=>(i/2,Nat.beq (i%2) 1)
theorem zqq {T:List (Nat×Ty)} {C:FuncId->List V->St->(As->St->Prop)->Prop} {all:List Oper} {Q:AP->Env->St->Prop} {env:Env} {st:St} (n:Nat) (F L:List Nat) (k:Fh T C all (sqs_ n F) L (Bv (L.map some) env.boxes) Q (sqs_ n F) env st) (h:Ix (sqs_ n F) all=true:=by decide +kernel):
 ∃(sched:List (Nat×Bool)) (L:List Nat),Ix sched all=true/\Fh T C all sched L (Bv (L.map some) env.boxes) Q sched env st:=⟨_,L,h,k⟩
theorem zqs {T:List (Nat×Ty)} {C:FuncId->List V->St->(As->St->Prop)->Prop} {all:List Oper} {Q:AP->Env->St->Prop} {env:Env} {st:St} (l L:List Nat) (k:Fh T C all (sqc_ l) L (Bv (L.map some) env.boxes) Q (sqc_ l) env st) (h:Ix (sqc_ l) all=true:=by decide +kernel):
 ∃(sched:List (Nat×Bool)) (L:List Nat),Ix sched all=true/\Fh T C all sched L (Bv (L.map some) env.boxes) Q sched env st:=⟨_,L,h,k⟩
theorem ZK {x y:Value} (h:w.heap[b]? =some (.cells #[x] ty (0,0))):w.setCell ⟨b,0,none⟩ y=w.setRow b #[y]:=by
 unfold World.setCell World.setRow
 congr 1
 apply Array.ext_getElem?
 intro i
 simp only [Array.getElem?_modify]
 split
 .rename_i e
  subst e
  rw [h]
  rfl
 .rfl
section
variable {st:St} {R:As->St->Prop}
theorem lR {e t:Nat} {Ie:V} (ht:st.box t=some [Ie]) (h:R (.ret (.bool true)) (st.Aa t [.ptr e 0])):PC 61 [.iface 91 (.ptr e 0),.iface 95 (.ptr t 0)] st R:=by
 refine ⟨λI w cargs hs ha=>?_,⟨_,Tryz.func61,Do,Do⟩⟩
 simp only [Ap,A3] at ha
 obtain ⟨_,_,rfl,⟨c1,rfl,rfl⟩,c2,_,rfl,⟨c3,rfl,rfl⟩,rfl⟩:=ha
 obtain ⟨vs,ty,h1,h2⟩:=hs.box t _ ht
 simp only [Ap] at h2
 obtain ⟨c,_,rfl,h3,rfl⟩:=h2
 have hg:=hs.cell _ _ _ hs.TQ.handle
 have hc:w.cell? ⟨t,0,none⟩=some c:=by simp [World.cell?,h1]
 have hf:w.frozen? ⟨t,0,none⟩=false:=by simp [World.frozen?,h1]
 refine (xb ⟨e,0,none⟩ ⟨t,0,none⟩ c w hg hc hf).mono ?_
 rintro ev w' ⟨rfl,rfl⟩
 have hr:Rel [] I st w I (λ_=>none) {tmps:=[],boxes:=[],BU:=0,sz:=0,gl:=[]} st {tmps:=#[],defers:=[]} w:=
  NP hs rfl (λt v e=>by cases e) rfl rfl
 have hlt:=Gp h1
 have hr2:=(((hr.Ic (Gb.alloc w (.cells #[.pointer (some ⟨t,0,none⟩)] 95))).Ic (Gb.alloc _ (.cells #[.pointer (some ⟨7,95,none⟩),.pointer (some ⟨w.heap.size,0,none⟩),.int .u64 150] 133))).Ic (Gb.alloc _ (.cells #[.pointer (some ⟨7,95,none⟩),.pointer (some ⟨w.heap.size,0,none⟩),.int .u64 150] 133))).Ic (Gb.alloc _ (.cells #[.pointer (some ⟨e,0,none⟩)] 91))
 generalize hW:(((w.alloc _).alloc _).alloc _).alloc _=W at hr2 |-
 have U:W.heap[t]? =some (.cells #[c] ty (0,0)):=by
  rw [<-hW,(Gb.alloc _ _).Ie t So,(Gb.alloc _ _).Ie t So,(Gb.alloc _ _).Ie t So,(Gb.alloc _ _).Ie t hlt]
  exact h1
 have hr3:=hr2.K9 (vs:=[c]) (us:=[.pointer (some ⟨e,0,none⟩)]) (cs':=[.ptr e 0]) ht U (by simp only [Ap,A3];exact ⟨_,_,rfl,rfl,rfl⟩)
 rw [ZK U]
 exact ⟨I,_,.ret (.bool true),hr3.fr,hr3.s,rfl,h⟩
theorem lS {v:V} (h:R (.ret (.bool false)) st):PC 61 [.DI,v] st R:=by
 refine pB Tryz.func61 ?_
 repeat' ((conv=>whnf);first|  fail)
 all_goals exact fin h rfl
end
end Go.Proofs.Z
namespace Go.Aw
open Go
theorem wS {P:Program} {Q:AP->Env->St->Prop} {env:Env} {st:St} (t b U:Nat) (ht:env.get t=.ptr b 0) (hb:st.box b=some [.ptr U 0]) (hf:st.box U=some cs) (hne:U≠b)
 (h:AW P c Q {env with tmps:=(t,.Gd [.Gd cs 0] 0)::env.tmps} ((st.GN U).GN b)):AW P c Q env st:=by
 intro D I0 st0 w0 I β a w hr
 obtain ⟨vs,hv,hl,hr1⟩:=hr.freeze (b:=U) hf
 have hb1:(st.GN U).box b=some [.ptr U 0]:=by
  show (if b=U then none else st.box b)=_
  rw [if_neg (λe=>hne e.symm)];exact hb
 obtain ⟨us,hu,hl2,hr2⟩:=hr1.freeze (b:=b) hb1
 refine h D I0 st0 w0 _ β a w ⟨hr2.fr,hr2.s,{hr2.f with tmps:=?_}⟩
 intro t' v e
 rw [Bs] at e
 cases hbq:Nat.beq t t' with
 |false=>rw [hbq] at e;exact hr2.f.tmps t' v e
 |true=>
  rw [hbq] at e
  have:=Nat.eq_of_beq_eq_true hbq
  subst this
  simp only [cond_true,Option.some.injEq] at e
  subst e
  have h1:=(hr.f.get t).rep (by rw [ht];rfl)
  rw [ht] at h1
  refine A6.of ?_
  simp only [A3] at h1
  simp only [Ap,A3] at hu
  obtain ⟨_,_,rfl,rfl,rfl⟩:=hu
  simp only [A3]
  refine ⟨b,0,h1,⟨⟨_,(Mem.Mk (n:=1) (h:=0) (j:=0) rfl),?_⟩,trivial⟩⟩
  simp only [A3]
  exact ⟨U,0,rfl,SH hv (Mem.le_trans hl hl2) λj c e=>hl2.1 _ _ _ (by simpa using Mem.Mk (I:=I) (b:=U) (h:=0) (n:=vs.length) e)⟩
end Go.Aw
namespace Go.Proofs.Z
open Go Go.Aw
section
variable {st:St} {R:As->St->Prop}
theorem uS (hz:n.size<=100000000) (ht:BX n<=100000000) (h:∀st',st.le st'->R (.ret (.Bc [enc (E1 n).1,.int .i64 (E1 n).2.2.1,.int .i64 (E1 n).2.2.2,.int .i64 (E1 n).2.1])) st'):PC 33 [enc n] st R:=by
 refine AM Ac [7,14] Tryz.func33 rfl Do rfl ?_
 unfold E1 at h
 cases hr:Ig [] 0 n with
 |inr t=>
  rw [hr] at h
  have hres:∀{st:St} {R:As->St->Prop},(∀m,st.le m->R (.ret (.Bc [enc t,.DI])) m)->PC 60 [.slice 3 [] .full,enc n,.int .i64 0] st R:=λh=>DQ (args':=[.slice 3 (Az []) .any,enc n,.int .i64 0]) rfl (yD n.size (Nat.le_refl _) hz (by have:=gL n;show 0+uX n<=_;omega) ht ⟨λt e=>(by rw [hr] at e;cases e;exact h),λf e=>(by rw [hr] at e;cases e)⟩)
  refine Af Ac ?_
  repeat' ((conv=>whnf);first|exact Bi|(refine AE ?_;intros)|(refine Bj ?_ ?_ ?_;rotate_left)|refine hres (λm hle=>?_)|refine D5 (λb fb=>?_)|refine Al (St.Ai ..) ?_|refine lS ?_|fail)
  rename_i b2 f2
  all_goals exact AF rfl (h _ (St.le_trans hle (St.Ag (St.Ag (St.Ag (St.le_refl _) f2.1 _) (A5 fb).2.1 _) (A5 fb).2.1 _)))
 |inl f=>
  rw [hr] at h
  have hres:∀{st:St} {R:As->St->Prop},(∀b m,gS st m b f->R (.ret (.Bc [enc Hv,rz b])) m)->PC 60 [.slice 3 [] .full,enc n,.int .i64 0] st R:=λh=>DQ (args':=[.slice 3 (Az []) .any,enc n,.int .i64 0]) rfl (yD n.size (Nat.le_refl _) hz (by have:=gL n;show 0+uX n<=_;omega) ht ⟨λt e=>(by rw [hr] at e;cases e),λf e=>(by rw [hr] at e;cases e;exact h)⟩)
  refine Ad (Af Ac ?_)
  repeat' ((conv=>whnf);first|exact Bi|(refine AE ?_;intros)|(refine Bj ?_ ?_ ?_;rotate_left)|fail)
  refine Ad (Af Ac ?_)
  repeat' ((conv=>whnf);first|exact Bi|(refine AE ?_;intros)|(refine Bj ?_ ?_ ?_;rotate_left)|refine hres (λbf m U=>?_)|fail)
  refine Ad (Af Ac ?_)
  repeat' ((conv=>whnf);first|exact Bi|(refine AE ?_;intros)|(refine Bj ?_ ?_ ?_;rotate_left)|refine D5 (λb fb=>?_)|refine Al (St.Ai ..) ?_|fail)
  rename_i b2 f2
  obtain ⟨hle,U,hnew⟩:=U
  obtain ⟨n1,f3⟩:=A5 fb
  have n2:b2≠bf:=λe=>by subst e;rw [f2.1] at U;cases U
  have n3:b≠bf:=λe=>by subst e;rw [f3.1] at U;cases U
  refine Ad (Ad (Af Ac ?_))
  repeat' ((conv=>whnf);first|exact Bi|(refine AE ?_;intros)|(refine Bj ?_ ?_ ?_;rotate_left)|refine lR (St.Ai ..) ?_|fail)
  refine P6 true rfl ?_
  rw [if_pos rfl]
  have hm:∀C0 C1 C2 C3,((((m.Aa b2 C0).Aa b C1).Aa b C2).Aa b C3).box bf=some (ftC f):=λ_ _ _ _=>by rw [St.Ak n3,St.Ak n3,St.Ak n3,St.Ak n2];exact U
  have hle':∀C0 C1 C2 C3,st.le ((((m.Aa b2 C0).Aa b C1).Aa b C2).Aa b C3):=λ_ _ _ _=>St.le_trans hle (St.Ag (St.Ag (St.Ag (St.Ag (St.le_refl _) f2.1 _) f3.1 _) f3.1 _) f3.1 _)
  refine wS 7 b bf rfl (St.Ai ..) (hm _ _ _ _) n3.symm ?_
  refine Af Ac ?_
  repeat' ((conv=>whnf);first|exact Bi|(refine AE ?_;intros)|(refine Bj ?_ ?_ ?_;rotate_left)|refine zqq 17 [13] [1] ?_|fail)
  all_goals exact AF rfl (h _ (R8 (R8 (hle' _ _ _ _) hnew) (HY hle f3).1))
end
section
variable {st:St} {R:As->St->Prop}
attribute [local irreducible] Go.Aw.Aj
theorem uW:∀(m:Nat) {n:Nd} {st:St} {bs bc a:Nat} {R:As->St->Prop},n.size<=m->bs≠bc->st.box bc=some [.func 88 [] [.ptr bs 0,.ptr bc 0]]->a+n.size<=1000000000->R (.ret (.Bc [])) (st.Aa bs [.int .i64 ((a+n.size:Nat):Int)])->
 PC 88 [enc n,.ptr bs 0,.ptr bc 0] (st.Aa bs [.int .i64 (a:Nat)]) R:=by
 intro m
 induction m with
 |zero=>intro n st bs bc a R hm;cases n;rw [Nd.size] at hm;omega
 |succ m ih=>
  intro n st bs bc a R hm hne hw hl h
  have hsz:n.size=1+AD n.kids:=by cases n;rw [Nd.size];rfl
  refine pB Tryz.func88 ?_
  have hW:∀v,(st.Aa bs v).box bc=some [.func 88 [] [.ptr bs 0,.ptr bc 0]]:=λv=>by rw [St.Ak hne];exact hw
  have he0:(a:Int)+1=((a+1:Nat):Int):=AC
  repeat' ((conv=>whnf);first|refine Nk he0 AC AC ?_|(refine AE ?_;intros)|refine Al (St.Ai ..) ?_)
  refine B5 (α:=Nat) (λi=>[(11,.int .i64 (i:Nat))]) [1,2,9,10] (λ_=>[]) [] (λi=>st.Aa bs [.int .i64 ((a+1+AD (n.kids.take i):Nat):Int)]) (λi=>i<=n.kids.length) (λi=>n.kids.length - i) 0 (Nat.zero_le _) Yl (by simp only [St.set_set];exact St.le_refl _) ?_
  intro i hi
  by_cases hlt:i<n.kids.length
  .obtain ⟨x,hx⟩:∃x,n.kids[(i:Int).toNat]? =some x:=⟨_,List.getElem?_eq_getElem hlt⟩
   have hxs:=CC (List.mem_of_getElem? hx)
   have ht:=ZM (show n.kids[i]? =some x from hx)
   have hle:=MH n.kids (i+1)
   have U:(i:Int)<(n.kids.length:Int):=AC
   have hrec:∀{R:As->St->Prop},R (.ret (.Bc [])) (st.Aa bs [.int .i64 ((a+1+AD (n.kids.take (i+1)):Nat):Int)])->PC 88 [enc x,.ptr bs 0,.ptr bc 0] (st.Aa bs [.int .i64 ((a+1+AD (n.kids.take i):Nat):Int)]) R:=λh=>ih AC hne hw AC (by rw [show a+1+AD (n.kids.take i)+x.size=a+1+AD (n.kids.take (i+1)) by omega];exact h)
   repeat' ((conv=>whnf);first|refine Wv U ?_|refine Wm hx AC ?_|(refine AE ?_;intros)|refine Al (hW _) ?_|refine hrec ?_|refine Wq (a:=(i:Int)+1) AC AC ?_)
   all_goals conv=>whnf
   all_goals exact ⟨i+1,hlt,Nat.sub_lt_sub_left hlt (Nat.lt_succ_self i),Yl,St.le_refl _⟩
  .have hi2:i=n.kids.length:=AC
   subst hi2
   rw [List.take_length,show a+1+AD n.kids=a+n.size by omega]
   have U:¬(n.kids.length:Int)<(n.kids.length:Int):=AC
   repeat' ((conv=>whnf);first|refine Ww U ?_|(refine AE ?_;intros)|fail)
   all_goals exact fin h rfl
theorem uY {bs bc:Nat} (U:bs≠bc) (hb:st.box bs=some [.int .i64 0]) (hw:st.box bc=some [.func 88 [] [.ptr bs 0,.ptr bc 0]]) (hl:n.size<=1000000000) (h:R (.ret (.Bc [])) (st.Aa bs [.int .i64 (n.size:Nat)])):PC 88 [enc n,.ptr bs 0,.ptr bc 0] st R:=by
 have:=uW n.size (n:=n) (st:=st) (bs:=bs) (bc:=bc) (a:=0) (R:=R) (Nat.le_refl _) U hw AC (by rw [Nat.zero_add];exact h)
 rw [show st.Aa bs [.int .i64 ((0:Nat):Int)]=st from St.K4 hb] at this
 exact this
theorem qo (hl:n.size<=1000000000) (h:∀st',st.le st'->R (.ret (.int .i64 (n.size:Nat))) st'):PC 59 [enc n] st R:=by
 refine DP Ac [3,4] Tryz.func59 rfl Do ?_
 repeat' ((conv=>whnf);first|  refine D5 (λb f=>?_)|refine Al (St.Ai ..) ?_)
 rename_i b1 f1
 obtain ⟨U,f2⟩:=A5 f
 have hb:∀C0 C1 C2,((((st.Aa b1 C0).Aa b1 [.int .i64 0]).Aa b C1).Aa b C2).box b1=some [.int .i64 0]:=λ_ _ _=>by rw [St.Ak U.symm,St.Ak U.symm,St.Ai]
 repeat' ((conv=>whnf);first|  refine uY U (hb _ _ _) (St.Ai ..) hl ?_|refine Al (St.Ai ..) ?_)
 all_goals exact AF rfl (h _ (St.Ag (St.Ag (St.Ag (St.Ag (St.Ag (St.le_refl _) f1.1 _) f1.1 _) (A5 f2).2.1 _) (A5 f2).2.1 _) f1.1 _))
end
section
variable {st0 st st':St} {b d:Nat} {s:An} {rows:List (AH×List Nd)} {K:As->St->Prop}
attribute [local irreducible] Go.Aw.Aj
theorem Cx.mono (h:Cx st0 b s st rows) (k:st.le st'):Cx st0 b s st' rows:=by
 refine ⟨?_,?_,h.mu⟩
 .rcases h.has with e|⟨t,u,o1,o2,e0,e⟩
  .exact .inl (k.1 _ _ e)
  .exact .inr ⟨t,u,o1,o2,e0,k.1 _ _ e⟩
 .obtain ⟨cs,U⟩:=h.rx
  refine ⟨cs,St.le_trans U.le k,λr hr'=>?_,U.ap⟩
  have:=U.ok r hr'
  obtain ⟨o,l⟩:=r
  cases o with
  |any=>exact this
  |full=>exact this
  |tok t=>exact ⟨this.1,k.2 _ _ this.2⟩
theorem Cx.xa {l new:List Int} {Q:V->St->Prop} (hc:Cx st0 b s st rows) (hb:l.length+new.length<=1000000000) (k:∀U st',Cx st0 b s st' rows->Q (.slice 1 (ints (l++new)) U) st'):Aj 1 8 (ints l) .full (ints new) st Q:=
 QS (own:=.full) trivial hb λU ho=>k U _ (hc.mono (AH.Bz ho))
theorem uZ (U:Cx st0 b s st rows) (e:BB s k x=true) (hk:k≠0/\k≠21) (kk:∀st',Cx st0 b (Ae s).2.1 st' rows->K (.ret (FX (Ae s).1)) st'):PC 186 [.ptr b 0] st K:=
 Xl U.has U.hb (λ_ st' hu=>kk st' (U.O5 hu (Nat.le_of_lt (EY e hk.1 hk.2)))) (λn=>absurd (HX e hk.1) n)
theorem QY {Q:List V->Prop} (h:Has st b s) (k1:Q (C9 s)) (U:∀t u o1 o2 e,Q (Yo s t u o1 o2 e)):∃cs,st.box b=some cs/\Q cs:=by
 rcases h with e|⟨t,u,o1,o2,e0,e⟩
 .exact ⟨_,e,k1⟩
 .exact ⟨_,e,U ..⟩
theorem LN {own:AH} (h:K (.ret (enc (At k l))) st):PC 268 [.int .i64 k,.slice 6 (l.map AK) own] st K:=by
 refine pB Tryz.func268 ?_
 repeat' ((conv=>whnf);(first|  fail)<;>intros)
 all_goals exact EK (St.le_refl _) Cb h
theorem qR {a:Nd} {own:AH} (h:K (.ret (enc (At k [a]))) st):PC 268 [.int .i64 k,.slice 6 [AK a] own] st K:=LN (l:=[a]) h
theorem qS {a b:Nd} {own:AH} (h:K (.ret (enc (At k [a,b]))) st):PC 268 [.int .i64 k,.slice 6 [AK a,AK b] own] st K:=LN (l:=[a,b]) h
theorem qT {a b c:Nd} {own:AH} (h:K (.ret (enc (At k [a,b,c]))) st):PC 268 [.int .i64 k,.slice 6 [AK a,AK b,AK c] own] st K:=LN (l:=[a,b,c]) h
theorem qU {a b c d:Nd} {own:AH} (h:K (.ret (enc (At k [a,b,c,d]))) st):PC 268 [.int .i64 k,.slice 6 [AK a,AK b,AK c,AK d] own] st K:=LN (l:=[a,b,c,d]) h
theorem ak (hc:Cx st0 b s st rows) (U:∀st',Cx st0 b s st' rows->K (.ret (.bool (BB s 15 x))) st'):PC 266 [pv b d,.str x] st K:=by
 refine pB Tryz.func266 ?_
 repeat' ((conv=>whnf);(first|  refine Dk ?_ ?_|refine tt ‹_› ?_)<;>intros)
 all_goals conv=>whnf
 all_goals exact AB (U _ ‹_›) ‹_›
theorem aj (U:Cx st0 b s st rows) (e:BB s 15 x=true) (kk:∀st',Cx st0 b s st' rows->K (.ret (.bool true)) st'):PC 266 [pv b d,.str x] st K:=ak U (by rw [e];exact kk)
theorem gJ (U:Cx st0 b s st rows) (e:BB s 15 x=false) (kk:∀st',Cx st0 b s st' rows->K (.ret (.bool false)) st'):PC 266 [pv b d,.str x] st K:=ak U (by rw [e];exact kk)
theorem vo {Q:Prop} (U:Cx st0 b s st rows) (h:if BB s 15 x=true then P else Q) (k1:∀st',Cx st0 b s st' rows->BB s 15 x=true->P->K (.ret (.bool true)) st') (k2:∀st',Cx st0 b s st' rows->BB s 15 x=false->Q->K (.ret (.bool false)) st'):
 PC 266 [pv b d,.str x] st K:=by
 cases e:BB s 15 x with
 |true=>exact aj U e λst' c=>k1 st' c e (by rw [if_pos e] at h;exact h)
 |false=>exact gJ U e λst' c=>k2 st' c e (by rw [if_neg (by rw [e];decide)] at h;exact h)
theorem vj (k:K (.B7 (fault Iq.1)) st):PC 274 [pv b d,.bool false] st K:=by
 refine pB Tryz.func274 ?_
 repeat' ((conv=>whnf);(first|  refine Ct ?_)<;>intros)
 all_goals exact ⟨_,_,.inl rfl,St.le_refl _,k⟩
theorem vk (k:K (.ret (.Bc [])) st):PC 274 [pv b d,.bool true] st K:=by
 refine pB Tryz.func274 ?_
 repeat' ((conv=>whnf);(first|  refine Ct ?_)<;>intros)
 all_goals exact ⟨_,_,.inl rfl,St.le_refl _,k⟩
theorem DK {c:Bool} {Q:Unit->An->Prop} (h:Rd.wp (Hl c) s Q E) (e:c=true) (k1:Q () s->K (.ret (.Bc [])) st):PC 274 [pv b d,.bool true] st K:=by
 subst e
 unfold Hl at h
 rw [Rd.Aq,if_pos rfl,Rd.wp_ret] at h
 exact vk (k1 h)
theorem DJ {c:Bool} {Q:Unit->An->Prop} (h:Rd.wp (Hl c) s Q E) (e:c=false) (U:E Iq s->K (.B7 (fault Iq.1)) st):PC 274 [pv b d,.bool false] st K:=by
 subst e
 unfold Hl at h
 rw [Rd.Aq,if_neg Do,Rd.Es] at h
 exact vj (U h)
def zo (st0:St) (b:Nat) (f:FuncId) (args:List V) (A:Rd Nd):Prop:=∀{s:An} {st:St} {rows:List (AH×List Nd)} {K:As->St->Prop},Cx st0 b s st rows->
 Rd.wp A s (λv s'=>∀st',Cx st0 b s' st' rows->K (.ret (enc v)) st') (λe s'=>∀st',Cy st0 b s' st' rows->K (.B7 (fault e.1)) st')->PC f args st K
theorem A9.z {mk:Nat->List V} (h:A9 enc f mk A):zo st0 b f (mk b) A:=h.ap
theorem zo.go (hf:zo st0 b f args A) (U:Cx st0 b s st rows) (h:Rd.wp A s Q E)
 (k:∀v s' st',mu s'<=mu s->Cx st0 b s' st' rows->Q v s'->K (.ret (enc v)) st') (kb:∀e s' st',Cy st0 b s' st' rows->E e s'->K (.B7 (fault e.1)) st'):PC f args st K:=
 hf U (Rd.wp_mono h (λv s' r q st' c=>k v s' st' (A.le _ _ _ r) c q) (λe s' _ q st' c=>kb e s' st' c q))
end
theorem G9 (h:P:=by (with_reducible show ∃_,_);first|exact ⟨⟨_,_,_,_⟩,⟨‹_›,Rd.E6 ‹_› UV,WF,UV⟩,UV,Yl,St.le_refl _⟩|exact B1 (Cx.y ‹_›) ‹_›|exact B1 (Cx.y (Cx.drop ‹_›)) ‹_›|exact vU ‹_› ‹_› rfl|exact De ‹_› ‹_› rfl|exact De ‹_› ‹_› Cb|exact De (Cx.drop ‹_›) ‹_› rfl|exact De (Cx.drop ‹_›) ‹_› Cb|exact B1 ‹_› ‹_›|exact B1 (Cy.drop ‹_›) ‹_›|exact B1 (Cy.drop (Cy.drop ‹_›)) ‹_›|fail):P:=h
theorem Tx {A:Prop} (k:A) (h:A->P:=by intro k;(with_reducible show Aj _ _ _ _ _ _ _);first|exact Cx.HN ‹_› bl k|exact Cx.HN (Cx.push ‹_› _) bl k|fail):P:=h k
theorem dT {A:Prop} (k:A) (h:A->P:=by intro k;(with_reducible show PC _ _ _ _);first|((with_reducible show PC 149 _ _ _);exact ca ‹_› ‹_› k)|((with_reducible show PC 149 _ _ _);exact nL ‹_› ‹_› k)|((with_reducible show PC 266 _ _ _);exact aj ‹_› ‹_› k)|((with_reducible show PC 266 _ _ _);exact gJ ‹_› ‹_› k)|((with_reducible show PC 112 _ _ _);exact SF ‹_› k)|fail):P:=h k
theorem U2 {A B:Prop} (k:A) (l:B) (h:A->B->P:=by intro k l;(with_reducible show PC _ _ _ _);first|((with_reducible show PC 149 _ _ _);exact nK ‹_› ‹_› k l)|((with_reducible show PC 266 _ _ _);exact vo ‹_› ‹_› k l)|fail):P:=h k l
theorem Tt {A:Prop} (k:A) (h:A->P:=by intro k;(with_reducible show PC _ _ _ _);first|((with_reducible show PC 150 _ _ _);exact Xu ‹_› ‹_› ‹_› Do k)|((with_reducible show PC 150 _ _ _);exact QJ ‹_› ‹_› AC k)|fail):P:=h k
theorem Lh {A B:Prop} (k:A) (l:B) (h:A->B->P:=by intro k l;(with_reducible show PC _ _ _ _);first|((with_reducible show PC 150 _ _ _);exact Hx.go ‹_› ‹_› k l)|((with_reducible show PC 153 _ _ _);exact XG.go ‹_› ‹_› k l)|fail):P:=h k l
theorem Yt6 {A:Prop} (k:A) (h:A->P:=by intro k;(with_reducible show PC _ _ _ _);first|((with_reducible show PC 113 _ _ _);exact T0 ‹_› ‹_› k)|fail):P:=h k
theorem Tu {A:Prop} (k:A) (h:A->P:=by intro k;(with_reducible show PC _ _ _ _);first|((with_reducible show PC 268 _ _ _);exact qR k)|((with_reducible show PC 268 _ _ _);exact qS k)|((with_reducible show PC 268 _ _ _);exact qT k)|((with_reducible show PC 268 _ _ _);exact qU k)|((with_reducible show PC 268 _ _ _);exact LN k)|fail):P:=h k
theorem Nz {A:An->Rs} {hle:∀s v s',A s=.inr (v,s')->mu s'<=mu s} (hB:E4 A) (hf:DB g (d:Int) A) (h0:d=0->∀s,A s=.inl (2,s)):
 A9 enc 110 (λb=>[.ptr b 0,.func g [] [],.int .i64 (d:Int)]) (H0 A hle):=⟨λU h=>RZ (d:=d) rfl hf h0 hB U.mu U.has (Tc hB U h)⟩
theorem Rb (U:1<=d) (h:d<=100):DZ (d:Int)=d:=by unfold DZ;split<;>omega
theorem kM {s':An} (h:(EV ks).run s=.inr (n,s')):∃o x c,n=At 3 [o,x,c]:=by
 unfold EV at h
 obtain ⟨o,s1,_,h⟩:=Bm h
 obtain ⟨x,s2,_,h⟩:=Bm h
 obtain ⟨c,s3,_,h⟩:=Bm h
 cases h
 exact ⟨o,x,c,rfl⟩
section
variable {st0 st:St} {b d:Nat} {s:An} {rows:List (AH×List Nd)} {K:As->St->Prop}
attribute [local irreducible] Go.Aw.Aj
theorem qJ (U:1<=d) (h:d<=100):A9 enc 393 (λb=>[pv b d]) (Xv d):=by
 have hi:=Nz (hle:=λs v s' h=>Nat.le_of_lt (BQ (BJ _) _ _ _ h)) (HG (FD (d - 1))) (by have:=zu (deep:=(d:Int));rw [Rb U h] at this;exact this) (λe=>by omega)
 refine ⟨λ{st0 b s st rows K} hc h=>?_⟩
 unfold Xv at h
 refine pB Tryz.func393 ?_
 repeat' ((conv=>whnf);(first|  exact G9|refine Gc.go (by first|exact A9.q) ?_ ?_)<;>intros)
theorem vp (U:1<=d) (h:d<=100):A9 enc 273 (λb=>[pv b d]) (q6 d):=by
 have hi:=Nz (hle:=λs v s' h=>Nat.le_of_lt (FH (BQ (BJ _)) _ _ _ h)) (MY (HG (FD (d - 1)))) (by have:=XaD (deep:=(d:Int));rw [Rb U h] at this;exact this) (λe=>by omega)
 refine ⟨λ{st0 b s st rows K} hc h=>?_⟩
 unfold q6 at h
 refine pB Tryz.func273 ?_
 repeat' ((conv=>whnf);(first|  exact G9|refine Gc.go (by first|exact A9.q) ?_ ?_)<;>intros)
theorem ll (U:1<=d) (h:d<=100):A9 enc 276 (λb=>[pv b d]) (XB d):=by
 have hi:=Nz (hle:=λs v s' h=>Nat.le_of_lt (GZ (BQ (BJ _)) _ _ _ h)) (Mo (HG (FD (d - 1)))) (by have:=Xag (deep:=(d:Int));rw [Rb U h] at this;exact this) (λe=>by omega)
 refine ⟨λ{st0 b s st rows K} hc h=>?_⟩
 unfold XB at h
 refine pB Tryz.func276 ?_
 repeat' ((conv=>whnf);(first|  exact G9|refine Gc.go (by first|exact A9.q) ?_ ?_)<;>intros)
theorem qP (U:1<=d) (h:d<=100):A9 enc 287 (λb=>[pv b d]) (KO d):=by
 have hi:=Nz (hle:=λs v s' h=>Nat.le_of_lt (Rw (BQ (BJ _)) _ _ _ h)) (T1 (HG (FD (d - 1)))) (by have:=vW (deep:=(d:Int));rw [Rb U h] at this;exact this) (λe=>by omega)
 refine ⟨λ{st0 b s st rows K} hc h=>?_⟩
 unfold KO at h
 refine pB Tryz.func287 ?_
 repeat' ((conv=>whnf);(first|  exact G9|refine Gc.go (by first|exact A9.q) ?_ ?_)<;>intros)
theorem Ia {own:AH} (U:ks.contains 0=false):A9 enc 306 (λb=>[pv b d,.slice 1 (ints ks) own]) (EV ks):=by
 refine ⟨λ{st0 b s st rows K} hc h=>?_⟩
 simp only [EV,Rd.wp_seq,Rd.wp_ret] at h
 refine pB Tryz.func306 ?_
 repeat' ((conv=>whnf);(first|exact DF|(refine DG ?_ ?_ ?_;rotate_left)|refine Lh ?_ ?_|exact G9|refine Tu ?_|refine Av ?_|refine Gc.go (by first|  exact (En U).a) ?_ ?_|refine zqs [1,3,7,9,11,15,17,4,12,18,21,22,24] [1] ?_|fail)<;>intros)
theorem kL {own:AH} (h0:ks.contains 0=false) (U:Cx st0 b s st rows) (h:Rd.wp (EV ks) s Q E)
 (k:∀o x c s' st',mu s'<=mu s->Cx st0 b s' st' rows->Q (At 3 [o,x,c]) s'->K (.ret (enc (At 3 [o,x,c]))) st') (kb:∀e s' st',Cy st0 b s' st' rows->E e s'->K (.B7 (fault e.1)) st'):PC 306 [pv b d,.slice 1 (ints ks) own] st K:=
 (Ia h0).go U h (λn s1 st1 hr hm U h=>by obtain ⟨o,x,c,rfl⟩:=kM hr;exact k o x c s1 st1 hm U h) kb
theorem O3:A9 enc 286 (λb=>[pv b d]) Kg:=by
 refine ⟨λ{st0 b s st rows K} hc h=>?_⟩
 simp only [Kg,Rd.Ah,Rd.Aq,Rd.wp_seq,Rd.wp_ret,Rd.Du] at h
 have U:=hc.mu
 refine pB Tryz.func286 ?_
 repeat' ((conv=>whnf);(first|refine Gk ‹_› ?_ ?_|refine BS ?_|refine U2 ?_ ?_|refine Ct ?_|exact G9|refine Gc.go (by first|  exact (En (ks:=[1]) rfl).a) ?_ ?_|refine QY (Cx.has ‹_›) ?_ ?_|refine kL (ks:=[5,6]) rfl ‹_› ‹_› ?_ ?_|refine Wm (ks:=[_,_,_]) rfl AC ?_|refine GP ‹_› U ?_|refine Ct ?_)<;>intros)
theorem Tf:A9 enc 307 (λb=>[pv b d]) J0:=by
 refine ⟨λ{st0 b s st rows K} U h=>?_⟩
 simp only [J0,Rd.Ah,Rd.Aq] at h
 refine pB Tryz.func307 ?_
 repeat' ((conv=>whnf);(first|refine BS ?_|refine U2 ?_ ?_|exact G9|refine Gc.go (by first|  exact (En (ks:=[1,2]) rfl).a|exact (Ia (ks:=[5,6]) rfl).a) ?_ ?_)<;>intros)
end
structure wT (f:FuncId) (mk:Nat->V->List V) (A:List Nd->Rd (List Nd×Nd)):Prop where
 ap:∀{st0:St} {b:Nat} {s:An} {st:St} {rows:List (AH×List Nd)} {K:As->St->Prop} {own:AH} {l:List Nd},l.length<=90000000->Cx st0 b s st ((own,l)::rows)->
 Rd.wp (A l) s (λp s'=>∀own' st',Cx st0 b s' st' ((own',p.1++[p.2])::rows)->K (.ret (.slice 6 ((p.1++[p.2]).map AK) own')) st') (λe s'=>∀st',Cy st0 b s' st' rows->K (.B7 (fault e.1)) st')->PC f (mk b (.slice 6 (l.map AK) own)) st K
theorem wT.go {A:List Nd->Rd (List Nd×Nd)} {st:St} {Q:List Nd×Nd->An->Prop} {own:AH} (hf:wT f mk A) (hl:l.length<=90000000) (hc:Cx st0 b s st ((own,l)::rows)) (h:Rd.wp (A l) s Q E)
 (k:∀l' x U s' st',(A l).run s=.inr ((l',x),s')->mu s'<=mu s->Cx st0 b s' st' ((U,l'++[x])::rows)->Q (l',x) s'->K (.ret (.slice 6 ((l'++[x]).map AK) U)) st') (kb:∀e s' st',Cy st0 b s' st' rows->E e s'->K (.B7 (fault e.1)) st'):PC f (mk b (.slice 6 (l.map AK) own)) st K:=
 hf.ap hl hc (Rd.wp_mono h (λv s' r q own st' c=>k v.1 v.2 own s' st' r ((A l).le _ _ _ r) c q) (λe s' _ q st' c=>kb e s' st' c q))
theorem Ew {x:Nd} {Q:List V->Prop} (k:Q (AK x)):0<=(((l++[x]).length:Nat):Int) - 1/\∃e,((l++[x]).map AK)[((((l++[x]).length:Nat):Int) - 1).toNat]? =some e/\Q e:=
 ⟨by rw [List.length_append];show (0:Int)<=((l.length+1:Nat):Int) - 1;omega,AK x,by
   rw [show ((((l++[x]).length:Nat):Int) - 1).toNat=l.length by rw [List.length_append];show (((l.length+1:Nat):Int) - 1).toNat=_;omega,List.map_append,List.getElem?_append_right (by rw [List.length_map];exact Nat.le_refl _),List.length_map,Nat.sub_self]
   rfl,k⟩
theorem Jn {R:Rd Nd} {p:List Nd×Nd} {s':An} (h:(It R l).run s=.inr (p,s')):p.1.length<=l.length+2:=by
 unfold It at h
 obtain ⟨r,s1,_,h⟩:=Bm h
 replace h:(if BB s1 10 [61,62]=true then Rd.seq A4 λa=>.seq R λq=>.ret (l++[r]++[a],q) else .ret (l,r):Rd (List Nd×Nd)).run s1=.inr (p,s'):=h
 split at h
 .obtain ⟨a,s2,_,h⟩:=Bm h
  obtain ⟨q,s3,_,h⟩:=Bm h
  cases h
  simp
 .cases h;exact Nat.le_add_right _ _
section
variable {st0 st:St} {b d:Nat} {s:An} {rows:List (AH×List Nd)} {K:As->St->Prop} {A B R W F D E:Rd Nd}
attribute [local irreducible] Go.Aw.Aj
theorem Oa (hr:A9 enc 273 (λb=>[pv b d]) R):wT 277 (λb v=>[pv b d,v]) (It R):=by
 refine ⟨λ{st0 b s st rows K own l} hl U h=>?_⟩
 simp only [It,Rd.Ah,Rd.Aq,Rd.wp_seq,Rd.wp_ret] at h
 have hmu:=U.mu
 refine pB Tryz.func277 ?_
 repeat' ((conv=>whnf);(first|refine BS ?_|refine U2 ?_ ?_|refine Tt ?_|exact G9|refine Tx ?_|refine Gc.go (by first|exact A9.q|exact ‹_›.a) ?_ ?_)<;>intros)
theorem Eh {own:AH} (h:K (.ret (.bool (Eb n ks))) st):PC 281 [enc n,.slice 1 (ints ks) own] st K:=by
 refine pB Tryz.func281 ?_
 repeat' ((conv=>whnf);(first|  refine Dk ?_ ?_|refine Pg ?_)<;>intros)
 all_goals conv=>whnf
 all_goals (refine AB h ?_;clear h;simp_all [Eb])
theorem Tg (U:A9 enc 393 (λb=>[pv b d]) A):A9 enc 361 (λb=>[pv b d]) (Hw A):=by
 refine ⟨λ{st0 b s st rows K} hc h=>?_⟩
 simp only [Hw,Rd.wp_seq,Rd.wp_ret] at h
 refine pB Tryz.func361 ?_
 repeat' ((conv=>whnf);(first|exact DF|(refine DG ?_ ?_ ?_;rotate_left)|refine Lh ?_ ?_|exact G9|refine Tu ?_|refine Av ?_|refine Gc.go (by first|exact A9.q) ?_ ?_|refine zqs [1,3,7,4,8,11,12,14] [1] ?_|fail)<;>intros)
theorem vi (U:Cx st0 b s st rows) (h:∀st',Cx st0 b s st' rows->K (.ret (.bool (Xz (Ae s).1))) st'):PC 360 [pv b d] st K:=by
 refine pB Tryz.func360 ?_
 repeat' ((conv=>whnf);(first|  refine Dk ?_ ?_|refine dT ?_|fail)<;>intros)
 all_goals conv=>whnf
 all_goals (refine AB (h _ ‹_›) ?_;clear h;simp_all [Xz])
theorem Ob (h:K (.ret (.bool (HZ n))) st):PC 320 [enc n] st K:=by
 refine pB Tryz.func320 ?_
 repeat' ((conv=>whnf);(first|refine BS ?_|refine Dk ?_ ?_|refine Eh (ks:=[2]) ?_|refine Eh (ks:=[6]) ?_)<;>intros)
 all_goals conv=>whnf
 all_goals (refine AB h ?_;clear h;simp_all [HZ])
theorem lk {t:Tk} (h:K (.ret (.bool (UR t))) st):PC 190 [FX t] st K:=by
 refine pB Tryz.func190 ?_
 repeat' ((conv=>whnf);(first|  refine Dk ?_ ?_|refine M1 ?_|refine VH ?_)<;>intros)
 all_goals conv=>whnf
 all_goals (refine AB h ?_;clear h;simp_all [UR])
theorem qZ (ha:A9 enc 393 (λb=>[pv b d]) A):A9 enc 359 (λb=>[pv b d]) (Hh A):=by
 refine ⟨λ{st0 b s st rows K} hc h=>?_⟩
 simp only [Hh,Rd.Ah,Rd.Aq] at h
 have U:=hc.mu
 refine pB Tryz.func359 ?_
 repeat' ((conv=>whnf);(first|refine BS ?_|refine Gg ?_ ?_|refine dT ?_|refine U2 ?_ ?_|exact G9|refine Gc.go (by first|exact A9.q|exact (Tg ha).a|exact (Ia (ks:=[6]) rfl).a) ?_ ?_|refine QY (Cx.has ‹_›) ?_ ?_|refine uZ ‹_› ‹_› Do ?_|refine GP ‹_› U ?_)<;>intros)
theorem qY:A9 enc 323 (λb=>[pv b d]) MM:=by
 refine ⟨λ{st0 b s st rows K} hc h=>?_⟩
 simp only [MM,Rd.Ah,Rd.Aq,Rd.wp_seq,Rd.wp_ret,Rd.Du] at h
 have hmu:=hc.mu
 refine AM Ac [] Tryz.func323 rfl Do rfl ?_
 refine Ad (Af Ac ?_)
 repeat' ((conv=>whnf);(first|exact DF|(refine DG ?_ ?_ ?_;rotate_left)|fail)<;>intros)
 refine Ad (Af Ac ?_)
 repeat' ((conv=>whnf);first|refine Gk h (λe h=>?_) (λe h=>?_)|exact DF|(refine DG ?_ ?_ ?_;rotate_left)|(refine dT ?_;intro U hc)|(refine Tt ?_;intro s1 U hz hm hc h)|(refine Lh ?_ ?_<;>(first|intro n s1 U hr hm hc h|intro e s1 U hc h))|refine Ct ?_|exact G9|refine Tu ?_|refine Av (λe1=>?_)|fail)
 refine Ad (Af Ac ?_)
 repeat' ((conv=>whnf);first|exact DF|(refine DG ?_ ?_ ?_;rotate_left)|(refine dT ?_;intro U hc)|(refine Tt ?_;intro s1 U hz hm hc h)|(refine Lh ?_ ?_<;>(first|intro n s1 U hr hm hc h|intro e s1 U hc h))|refine Ct ?_|exact G9|refine Tu ?_|refine Av (λe1=>?_)|refine QY hc.has ?_ (λt u o1 o2 e=>?_)|fail)
 all_goals refine Ad (Af Ac ?_)
 all_goals (repeat' ((conv=>whnf);first|exact DF|(refine DG ?_ ?_ ?_;rotate_left)|(refine dT ?_;intro U hc)|(refine Tt ?_;intro s1 U hz hm hc h)|(refine Lh ?_ ?_<;>(first|intro n s1 U hr hm hc h|intro e s1 U hc h))|refine Ct ?_|exact G9|refine Tu ?_|refine Av (λe1=>?_)|fail))
 all_goals refine Ad (HF Ac (Bq _) (λ_ _ _ _ _ h k=>k.mono h) 10 5 [(0,true),(1,true),(2,true),(3,true),(5,true),(6,true),(4,false),(7,false),(8,true),(9,false)] [] rfl rfl rfl EQ EQ rfl rfl rfl (Nat.le_of_ble_eq_true rfl) rfl ?_)
 all_goals (repeat' ((conv=>whnf);first|exact DF|(refine DG ?_ ?_ ?_;rotate_left)|(refine dT ?_;intro U hc)|(refine Tt ?_;intro s1 U hz hm hc h)|(refine Lh ?_ ?_<;>(first|intro n s1 U hr hm hc h|intro e s1 U hc h))|refine Ct ?_|exact G9|refine Tu ?_|refine Av (λe1=>?_)|refine A9.go (En (ks:=[1,2,3,4]) rfl) hc h (λn s1 U hr hm hc h=>?_) (λe s1 U hc h=>?_)|fail|fail))
 all_goals refine Af Ac ?_
 all_goals (repeat' ((conv=>whnf);first|refine Gk h (λe h=>?_) (λe h=>?_)|exact DF|(refine DG ?_ ?_ ?_;rotate_left)|(refine dT ?_;intro U hc)|(refine Tt ?_;intro s1 U hz hm hc h)|(refine Lh ?_ ?_<;>(first|intro n s1 U hr hm hc h|intro e s1 U hc h))|refine Ct ?_|exact G9|refine Tu ?_|refine Av (λe1=>?_)|refine Wm (ks:=[_,_,_]) rfl AC ?_|refine GP hc hmu (λU hc=>?_)|refine Ct ?_|fail|fail))
structure aJ (f:FuncId) (mk:Nat->V->List V) (A:List Nd->Rd Nd):Prop where
 ap:∀{st0:St} {b:Nat} {s:An} {st:St} {rows:List (AH×List Nd)} {K:As->St->Prop} {own:AH} {l:List Nd},l.length<=900000000->Cx st0 b s st ((own,l)::rows)->
 Rd.wp (A l) s (λv s'=>∀st',Cx st0 b s' st' rows->K (.ret (enc v)) st') (λe s'=>∀st',Cy st0 b s' st' rows->K (.B7 (fault e.1)) st')->PC f (mk b (.slice 6 (l.map AK) own)) st K
theorem aJ.go {A:List Nd->Rd Nd} {st:St} {E:Er->An->Prop} {own:AH} (hf:aJ f mk A) (hl:l.length<=900000000) (U:Cx st0 b s st ((own,l)::rows)) (h:Rd.wp (A l) s Q E)
 (k:∀v s' st',(A l).run s=.inr (v,s')->mu s'<=mu s->Cx st0 b s' st' rows->Q v s'->K (.ret (enc v)) st') (kb:∀e s' st',Cy st0 b s' st' rows->E e s'->K (.B7 (fault e.1)) st'):PC f (mk b (.slice 6 (l.map AK) own)) st K:=
 hf.ap hl U (Rd.wp_mono h (λv s' r q st' c=>k v s' st' r ((A l).le _ _ _ r) c q) (λe s' _ q st' c=>kb e s' st' c q))
theorem PM (hd:A9 enc 324 (λb=>[pv b d]) FG):aJ 279 (λb v=>[pv b d,.int .i64 k,v]) (GY k):=by
 refine ⟨λ{st0 b s st rows K own l} hl U h=>?_⟩
 simp only [GY,Rd.Ah,Rd.Aq,Rd.wp_seq,Rd.wp_ret] at h
 have hmu:=U.mu
 refine pB Tryz.func279 ?_
 repeat' ((conv=>whnf);(first|refine BS ?_|refine U2 ?_ ?_|exact G9|refine Tu ?_|refine Tx ?_|refine Gc.go (by first|exact A9.q) ?_ ?_)<;>intros)
theorem al (hr:A9 enc 273 (λb=>[pv b d]) R) (hw:A9 enc 276 (λb=>[pv b d]) W) (hs:∀{n:Nd} {st:St} {K:As->St->Prop},K (.ret (.bool (EU n))) st->PC 275 [enc n] st K):
 A9 enc 228 (λb=>[pv b d]) (G8 R W):=by
 refine ⟨λ{st0 b s st rows K} U h=>?_⟩
 simp only [G8,Rd.wp_seq,Rd.wp_ret] at h
 have hmu:=U.mu
 refine pB Tryz.func228 ?_
 repeat' ((conv=>whnf);(first|exact DF|(refine DG ?_ ?_ ?_;rotate_left)|refine Dk ?_ ?_|refine Lh ?_ ?_|exact G9|refine Tu ?_|refine Tx ?_|refine Av ?_|refine Gc.go (by first|exact A9.q|exact ‹_›.a) ?_ ?_|refine hs ?_|refine DK ‹_› ‹_› ?_|refine DJ ‹_› ‹_› ?_|refine aT AC rfl ?_|refine Cx.HN (l:=[_,_]) (Cx.push ‹_› _) (Nat.le_of_ble_eq_true rfl) ?_|refine zqs [1,3,7,4,8,11,13] [] ?_|refine zqq 6 [4,5] [] ?_|fail)<;>intros)
end
theorem Rd.jA {σ β:Type} {body:σ->Rd (Sum σ β)} {I:σ->Prop} {P:β->Prop} (h1:∀x s x' s',I x->(body x).run s=.inr (.inl x',s')->I x') (h2:∀x s y s',I x->(body x).run s=.inr (.inr y,s')->P y) (x:σ) (s:An) (hx:I x):∀y s',(Rd.loop body x).run s=.inr (y,s')->P y:=by
 show ∀y s',Rd.iter body x s=.inr (y,s')->P y
 fun_induction Rd.iter body x s with
 |case1 x s e h=>intro y s' U;cases U
 |case2 x s y s1 h=>intro y s' U;cases U;exact h2 _ _ _ _ hx h
 |case3 x s x' s1 h hlt ih=>exact ih (h1 _ _ _ _ hx h)
 |case4 x s x' s1 h hlt=>intro y s' U;cases U
theorem Zj {s':An} (h:(IX A).run s=.inr (l,s')):l≠[]:=by
 unfold IX at h
 obtain ⟨n,s1,_,h⟩:=Bm h
 refine Rd.jA (body:=SD A) (I:=λl=>l≠[]) (P:=λl=>l≠[]) (λx s x' s' U h=>?_) (λx s y s' U h=>?_) [n] s1 GT l s' h
 all_goals replace h:(if Xz (Ae s).1=true then Rd.seq (Hh A) λn=>.ret (.inl (x++[n])) else .ret (.inr x):Rd (Sum (List Nd) (List Nd))).run s=.inr (_,s'):=h
 all_goals split at h
 .obtain ⟨n,s2,_,h⟩:=Bm h;cases h;simp
 .cases h
 .obtain ⟨n,s2,_,h⟩:=Bm h;cases h
 .cases h;exact U
theorem tr (h:BB s k x=true) (U:k≠21):(Ae s).1.kind≠21:=λe=>by
 unfold BB at h
 rw [e] at h
 simp only [Bool.and_eq_true,beq_iff_eq] at h
 exact U h.1.symm
theorem bI (U:Rd.Bn A):Rd.Bn (Hh A):=Rd.Bn.look λs v s' h=>by
 split at h
 .rename_i hi
  exact Rd.Bn.at (λ_ _ e=>H7 e (tr hi Do)) h
 split at h
 .split at h
  .exact Rd.Bn.seq (Mr Do) s v s' h
  .exact U _ _ _ h
 .exact U _ _ _ h
theorem vY (h:l≠[]):∃x,l[((0:Int)).toNat]? =some x/\l.headD Hv=x:=by
 cases l with
 |nil=>exact absurd rfl h
 |cons x r=>exact ⟨x,rfl,rfl⟩
section
variable {st0 st:St} {b d:Nat} {s:An} {rows:List (AH×List Nd)} {K:As->St->Prop} {A B R W F D E:Rd Nd}
attribute [local irreducible] Go.Aw.Aj
abbrev pW (l:List Nd) (own:AH):V:=.slice 6 (l.map AK) own
theorem US (hA:Rd.Bn A) (hp:A9 enc 359 (λb=>[pv b d]) (Hh A)):ru pW (λl=>l) 319 (λb=>[pv b d]) (IX A):=by
 refine ⟨λ{st0 b s st rows K} U h=>?_⟩
 simp only [IX,Rd.wp_seq] at h
 have hmu:=U.mu
 refine pB Tryz.func319 ?_
 repeat' ((conv=>whnf);(first|  refine Gg ?_ ?_|exact G9|refine Tx ?_|refine Gc.go (by first|exact A9.q) ?_ ?_)<;>intros)
 refine CJ (λl own=>[(3,.slice 6 (l.map AK) own)]) (λ_ _=>[]) [1] [0] (λl own=>(own,l)::rows) (λl=>l.length) .full (Cx.push ‹_› _) ‹_› (by show 1+_<=_;omega) Yl ?_
 intro l s1 st1 own1 U h hl hm1
 simp only [SD,Rd.Ah,Rd.Aq,Rd.wp_seq,Rd.wp_ret,Rd.BI] at h
 repeat' ((conv=>whnf);(first|  refine Gg ?_ ?_|exact G9|refine Tx ?_|refine vi ‹_› ?_|refine A9.vX (hp) (bI hA) ‹_› ‹_› ?_ ?_)<;>intros)
theorem JG {item:Rd Nd} {fs:List V} {own:AH} {Q:List Nd->An->Prop} {E:Er->An->Prop} (hi:zo st0 b g (fs++cs) item) (hl:l.length<=90000000) (hc:Cx st0 b s st ((own,l)::rows)) (h:Rd.wp (Fo item x l) s Q E)
 (k:∀l' U s' st',mu s'<=mu s->Cx st0 b s' st' ((U,l')::rows)->Q l' s'->K (.ret (.slice 6 (l'.map AK) U)) st') (kb:∀e s' st',Cy st0 b s' st' rows->E e s'->K (.B7 (fault e.1)) st'):
 PC 285 [pv b d,.slice 6 (l.map AK) own,.str x,.func g fs cs] st K:=by
 replace h:=Rd.wp_mono (Q':=λl' s'=>∀U st',Cx st0 b s' st' ((U,l')::rows)->K (.ret (.slice 6 (l'.map AK) U)) st') (E':=λe s'=>∀st',Cy st0 b s' st' rows->K (.B7 (fault e.1)) st') h (λv s' r q own st' c=>k v own s' st' ((Fo item x l).le _ _ _ r) c q) (λe s' _ q st' c=>kb e s' st' c q)
 clear k kb
 simp only [Fo,Rd.wp_seq,Rd.wp_ret] at h
 have hmu:=hc.mu
 refine pB Tryz.func285 ?_
 repeat' ((conv=>whnf);(first|refine BS ?_|fail)<;>intros)
 refine CJ (x0:=(true,l)) (λ(p:Bool×List Nd) own=>[(9,.bool p.1),(1,.slice 6 (p.2.map AK) own)]) (λ_ _=>[]) [2,3,4] [0] (λp own=>(own,p.2)::rows) (λp=>p.2.length) own ‹_› ‹_› RL Yl ?_
 intro p s1 st1 own1 hc h hl hm1
 obtain ⟨f,l⟩:=p
 dsimp only at hc hl
 simp only [Vk,Rd.Ah,Rd.Aq,Rd.wp_seq,Rd.wp_ret,Rd.BI] at h
 cases f
 all_goals simp only [Bool.false_eq_true,if_false,if_true] at h
 all_goals (repeat' ((conv=>whnf);first|(refine BS ?_;intros)|exact ⟨⟨(false,_),_,_,_⟩,⟨hc,Rd.E6 h UV,WF,UV⟩,UV,Yl,St.le_refl _⟩|(refine U2 ?_ ?_<;>intro st1 hc e h)|(refine Tt ?_;intro s1 st1 hz hm hc h)|(refine Lh ?_ ?_<;>(first|intro n s1 st1 hr hm hc h|intro e s1 st1 hc h))|exact G9|(refine Tx ?_;intro own1 st1 hc)|refine RM ?_|refine zo.go hi hc h (λn s1 st1 hm hc h=>?_) (λe s1 st1 hc h=>?_)))
end
theorem iA {W:Rd Nd} {s':An} (h:(FV A W).run s=.inr (n,s')):n.kids≠[]:=by
 have hB:∀{l:List Nd} {s:An},l≠[]->(Hs A l).run s=.inr (n,s')->n.kids≠[]:=λ{l s} U h=>by
  have hC:(GL A l).run s=.inr (n,s')->n.kids≠[]:=λh=>by
   obtain ⟨a,s1,_,h⟩:=Bm h
   obtain ⟨o,s2,_,h⟩:=Bm h
   obtain ⟨r,s3,_,h⟩:=Bm h
   obtain ⟨c,s4,_,h⟩:=Bm h
   cases h;simp [At,Nd.kids]
  replace h:(if ((Ae s).1.kind==6)=true then GL A l else if BB s 15 [96]=true then GL A l else .seq (Hl (HZ (l.headD Hv))) λ_=>.ret (At 48 l):Rd Nd).run s=.inr (n,s'):=h
  split at h
  .exact hC h
  .split at h
   .exact hC h
   .obtain ⟨a,s1,_,h⟩:=Bm h
    cases h;exact U
 obtain ⟨l,s1,h1,h⟩:=Bm h
 have U:=Zj h1
 split at h
 .replace h:(if BB s1 15 [123]=true then Rd.seq A4 λo=>.seq (Fo (HA A W) [125] (l++[o])) λl=>.ret (At 48 l) else Hs A l:Rd Nd).run s1=.inr (n,s'):=h
  split at h
  .obtain ⟨o,s2,_,h⟩:=Bm h
   obtain ⟨l2,s3,h2,h⟩:=Bm h
   obtain ⟨l3,s4,_,h2⟩:=Bm h2
   obtain ⟨c,s5,_,h2⟩:=Bm h2
   cases h2;cases h
   simp [At,Nd.kids]
  .exact hB U h
 .exact hB U h
section
variable {st0 st:St} {b d c:Nat} {s:An} {rows:List (AH×List Nd)} {K:As->St->Prop} {A B R W F D E:Rd Nd}
attribute [local irreducible] Go.Aw.Aj
theorem ld (hs:A9 enc 361 (λb=>[pv b d]) (Hw A)) (hw:A9 enc 276 (λb=>[pv b d]) W):A9 enc 321 (λb=>[pv b d]) (HA A W):=by
 refine ⟨λ{st0 b s st rows K} U h=>?_⟩
 simp only [HA,Rd.Ah,Rd.Aq,Rd.wp_seq,Rd.wp_ret] at h
 have hmu:=U.mu
 refine pB Tryz.func321 ?_
 repeat' ((conv=>whnf);(first|refine BS ?_|refine U2 ?_ ?_|refine Tt ?_|refine Lh ?_ ?_|exact G9|refine Tu ?_|refine Tx ?_|refine Gc.go (by first|exact A9.q|exact O3.a) ?_ ?_)<;>intros)
 refine CJ (λl own=>[(3,.slice 6 (l.map AK) own)]) (λ_ _=>[]) [1,2] [0,1] (λl own=>(own,l)::rows) (λl=>l.length) .full (Cx.push ‹_› _) ‹_› (by show 1+_<=_;omega) Yl ?_
 intro l s1 st1 own1 U h hl hm1
 simp only [VD,Rd.Ah,Rd.Aq,Rd.wp_seq,Rd.wp_ret,Rd.BI] at h
 repeat' ((conv=>whnf);(first|refine BS ?_|refine U2 ?_ ?_|refine Tt ?_|refine Lh ?_ ?_|exact G9|refine Tu ?_|refine Tx ?_|refine Gc.go (by first|exact A9.q|exact O3.a) ?_ ?_)<;>intros)
abbrev zZ (b d:Nat):V:=.Gd [.ptr b 0,.int .i64 (d:Int)] 0
theorem Nf:A9 enc 363 (λb=>[zZ b d]) (C8 [2,4]):=by
 refine ⟨λ{st0 b s st rows K} U h=>?_⟩
 refine pB Tryz.func363 ?_
 repeat' ((conv=>whnf);(first|  exact G9|refine Gc.go (by first|  exact (En (ks:=[2,4]) rfl).a) ?_ ?_)<;>intros)
theorem N9:A9 enc 324 (λb=>[pv b d]) FG:=by
 refine ⟨λ{st0 b s st rows K} U h=>?_⟩
 simp only [FG,Rd.Ah,Rd.Aq,Rd.wp_seq,Rd.wp_ret] at h
 have hmu:=U.mu
 refine AM Ac [] Tryz.func324 rfl Do rfl ?_
 refine Ad (Af Ac ?_)
 repeat' ((conv=>whnf);(first|exact DF|refine BS ?_|(refine DG ?_ ?_ ?_;rotate_left)|fail)<;>intros)
 refine Ad (Af Ac ?_)
 repeat' ((conv=>whnf);first|exact DF|(refine BS ?_;intros)|(refine DG ?_ ?_ ?_;rotate_left)|refine Hx.go U h (λo s1 st1 hr hm U h=>?_) (λe s1 st1 U h=>?_)|exact B1 U h|fail)
 refine P7 1 0 rfl rfl rfl ?_
 refine Af Ac ?_
 repeat' ((conv=>whnf);(first|exact DF|refine BS ?_|(refine DG ?_ ?_ ?_;rotate_left)|refine U2 ?_ ?_|refine Tt ?_|exact G9|refine Tu ?_|refine Av ?_|refine Gc.go (by first|  exact Nf.a) ?_ ?_|refine JG (l:=[_,_]) (fs:=[]) (cs:=[zZ b d]) Nf.z (Nat.le_of_ble_eq_true rfl) ‹_› ‹_› ?_ ?_|refine Cx.HN (l:=[_]) (Cx.push ‹_› [_]) (Nat.le_of_ble_eq_true rfl) ?_|refine zqs [1,3,5,7,15,8,11,12,16,18,20] [1] ?_|fail)<;>intros)
theorem yZ {own:AH} (hf:∀x ∈ l,Dd f p x) (h:K (.ret (.bool (l.any p))) st):PC 327 [.slice 6 (l.map AK) own,.func f [] []] st K:=
 DQ (args':=[.slice 6 (Bg l) .any,.func f [] []]) (by rw [<-BF];rfl) (Km hf h)
theorem uV {x:Nd}:Dd 362 F7 x:=by
 intro st R h
 refine pB Tryz.func362 ?_
 repeat' ((conv=>whnf);(first|  refine Dk ?_ ?_|fail)<;>intros)
 all_goals conv=>whnf
 all_goals (refine AB h ?_;clear h;simp_all [F7])
theorem vr {own:AH} {E:Er->An->Prop} (hc:Cx st0 b s st ((own,l)::rows)) (h:Rd.wp (PG l) s Q E)
 (k:∀v st',Cx st0 b s st' rows->Q v s->K (.ret (enc v)) st') (kb:∀e st',Cy st0 b s st' rows->E e s->K (.B7 (fault e.1)) st'):PC 322 [pv b d,.slice 6 (l.map AK) own] st K:=by
 refine pB Tryz.func322 ?_
 unfold PG at h
 by_cases U:l.length=1
 .have hn:(l.length:Int)=1:=AC
  obtain ⟨x,rfl⟩:=List.length_eq_one_iff.1 U
  rw [if_pos U,Rd.wp_ret] at h
  have h:=k _ st hc.drop h
  repeat' ((conv=>whnf);(first|exact DF|refine BS ?_|(refine DG ?_ ?_ ?_;rotate_left)|refine Dk ?_ ?_|refine Cj (l:=[x]) ?_|refine aT AC rfl ?_|fail)<;>intros)
  all_goals exact AF rfl h
 .have hn:¬(l.length:Int)=1:=AC
  rw [if_neg U,Rd.wp_seq] at h
  simp only [Rd.wp_ret] at h
  repeat' ((conv=>whnf);first|exact DF|(refine BS ?_;intros)|(refine DG ?_ ?_ ?_;rotate_left)|(refine Dk ?_ ?_<;>intro _)|refine Cj (l:=l) (λ_=>?_)|refine yZ (l:=l) (λx hx=>uV) ?_|refine DK h (by simp only [show l.any F7=false by assumption,Bool.not_false]) (λh=>?_)|refine DJ h (by simp only [show l.any F7=true by assumption,Bool.not_true]) (λh=>?_)|refine LN (l:=l) ?_|exact AF rfl (k _ _ hc.drop h)|exact λe'=>⟨_,_,.inl rfl,St.le_refl _,kb _ _ hc.drop.y h⟩|refine zqq 5 [2,4] [] ?_|fail)
theorem dG (hA:Rd.Bn A) (hp:A9 enc 359 (λb=>[pv b d]) (Hh A)) (hf:A9 enc 321 (λb=>[pv b d]) (HA A W)):A9 enc 278 (λb=>[pv b d]) (FV A W):=by
 refine ⟨λ{st0 b s st rows K} hc h=>?_⟩
 have hmu:=hc.mu
 simp only [FV,Hs,GL,Rd.Ah,Rd.Aq,Rd.wp_seq,Rd.wp_ret] at h
 refine AM Ac [] Tryz.func278 rfl Do rfl ?_
 refine Ad (Af Ac ?_)
 repeat' ((conv=>whnf);(first|exact DF|refine BS ?_|(refine DG ?_ ?_ ?_;rotate_left)|refine Dk ?_ ?_|fail)<;>intros)
 refine Ad (Af Ac ?_)
 repeat' ((conv=>whnf);first|exact DF|(refine BS ?_;intros)|(refine DG ?_ ?_ ?_;rotate_left)|(refine Dk ?_ ?_<;>intro _)|refine ru.go (US hA hp) hc h (λl own1 s1 st1 hr hm hc h=>?_) (λe s1 st1 hc h=>?_)|exact B1 hc h|fail)
 obtain ⟨x,hx,hd⟩:=vY (Zj hr)
 rw [hd] at h
 refine Af Ac ?_
 have e2:(l.length==1)=true↔(l.length:Int)=1:=by rw [beq_iff_eq];omega
 have hB:((l.length:Int)=1/\HZ x=true/\BB s1 15 [123]=true)\/((l.length:Int)=1/\HZ x=true/\BB s1 15 [123]=false)\/((l.length:Int)=1/\HZ x=false)\/¬((l.length:Int)=1):=by
  by_cases e:(l.length:Int)=1
  .cases HZ x<;>cases BB s1 15 [123]<;>simp [e]
  .simp [e]
 have e3:¬((l.length:Int)=1)->(l.length==1)=false:=λe=>by
  cases e4:l.length==1 with
  |true=>exact absurd (e2.1 e4) e
  |false=>rfl
 rcases hB with ⟨U,em,eb⟩|hB
 .simp only [e2.2 U,em,eb,Bool.and_self,if_true] at h
  repeat' ((conv=>whnf);(first|exact DF|refine BS ?_|(refine DG ?_ ?_ ?_;rotate_left)|refine Dk ?_ ?_|refine dT ?_|refine Tt ?_|exact G9|refine Tu ?_|refine Tx ?_|refine Cj ?_|refine Av ?_|refine Cj (l:=l) ?_|refine X7 (es:=l.map AK) (x:=AK x) (by rw [List.getElem?_map,hx]<;>rfl) AC ?_|refine Ob ?_|refine JG (l:=l++[_]) (fs:=[pv b d]) (cs:=[]) hf.z RK ‹_› ‹_› ?_ ?_|refine zqs [1,3,5,7,15,17,8,11,12,18,20,22] [1] ?_|refine zqq 6 [4,5] [] ?_|refine zqq 9 [4,5,7,8] [1] ?_|fail)<;>intros)
 cases e6:((Ae s1).1.kind==6)
 all_goals cases e9:BB s1 15 [96]
 all_goals (simp only [e6,e9,if_true,Bool.false_eq_true,if_false] at h)
 all_goals rcases hB with ⟨U,em,eb⟩|⟨U,em⟩|U
 all_goals first
  |simp only [e2.2 U,em,eb,Bool.and_self,Bool.true_and,Bool.false_eq_true,if_true,if_false] at h
  |simp only [e2.2 U,em,Bool.true_and,Bool.false_eq_true,if_false] at h
  |simp only [e3 U,Bool.false_and,Bool.false_eq_true,if_false] at h
 all_goals (repeat' ((conv=>whnf);(first|exact DF|refine BS ?_|(refine DG ?_ ?_ ?_;rotate_left)|refine Dk ?_ ?_|refine dT ?_|refine Tt ?_|exact G9|refine Tu ?_|refine Tx ?_|refine Cj ?_|refine Av ?_|refine Cj (l:=l) ?_|refine X7 (es:=l.map AK) (x:=AK x) (by rw [List.getElem?_map,hx]<;>rfl) AC ?_|refine Ob ?_|refine vr ‹_› ‹_› ?_ ?_|refine Gc.go (by first|  exact qY.a) ?_ ?_|refine ru.go (US hA hp) ‹_› ‹_› ?_ ?_|refine DK ‹_› ‹_› ?_|refine DJ ‹_› ‹_› ?_|refine DK ‹_› rfl ?_|refine DJ ‹_› rfl ?_|refine zqs [1,3,5,7,15,17,8,11,12,18,20,22] [1] ?_|refine zqq 6 [4,5] [] ?_|refine zqq 9 [4,5,7,8] [1] ?_|fail)<;>intros))
end
def SV (n:Nd):Nat->Bool
 |0=>EU n
 |k+1=>(n.kids.drop (k+1)).all (Eb · [1])
theorem Xk {k:Nat}:SV n (k+1)=(n.kids.drop (k+1)).all (Eb · [1]):=rfl
theorem eH {x:Nd} {K:Int->Prop} (h:l.length<=90000000) (k:K (((l++[x]).length:Int) - 1)):∃r,r=IntKind.i64.wrap (((l++[x]).length:Int) - 1)/\K r:=
 Wq (by rw [List.length_append];show _<=((l.length+1:Nat):Int) - 1;omega) (by rw [List.length_append];show ((l.length+1:Nat):Int) - 1<=_;omega) k
theorem tj {R:Rd Nd} {p:List Nd×Nd} {s':An} (h:(It R [n]).run s=.inr (p,s')):p.1.length<=90000000:=Nat.le_trans (Jn h) (Nat.le_of_ble_eq_true rfl)
theorem nF {R:Rd Nd} {p:List Nd×Nd} {s':An} {x y z:Nd} (h:(It R [n]).run s=.inr (p,s')):(p.1++[x]++[y]++[z]).length<=900000000:=by
 have h1:p.1.length<=3:=Jn h
 rw [List.length_append,List.length_append,List.length_append]
 show p.1.length+1+1+1<=_
 omega
theorem X3 {k:Nat} {x:Nd} (h:l[k]? =some x):l.drop k=x::l.drop (k+1):=by
 obtain ⟨h1,h2⟩:=List.getElem?_eq_some_iff.1 h
 rw [<-h2,List.drop_eq_getElem_cons h1]
section
variable {st0 st:St} {b d c:Nat} {s:An} {rows:List (AH×List Nd)} {K:As->St->Prop} {A B R W F D E:Rd Nd}
attribute [local irreducible] Go.Aw.Aj
theorem O2 {st:St} (h:K (.ret (.bool (EU n))) st):PC 275 [enc n] st K:=by
 refine pB Tryz.func275 ?_
 by_cases hk:n.kind=39
 .skip
  repeat' ((conv=>whnf);(first|refine BS ?_|refine Dk ?_ ?_|fail)<;>intros)
  refine KU 14 [12,13] n.kids.length (λk=>k<=n.kids.length/\EU n=SV n k) ⟨Nat.zero_le _,rfl⟩ Yl ?_
  rintro k ⟨hk1,hi⟩
  by_cases hlt:k<n.kids.length
  .obtain ⟨x,hx⟩:∃x,n.kids[(k:Int).toNat]? =some x:=⟨_,List.getElem?_eq_getElem hlt⟩
   have hdr:=X3 (show n.kids[k]? =some x from hx)
   by_cases h0:k=0
   .subst h0
    have hz:((0:Nat):Int)=0:=rfl
    have e:EU n=(Eb x [2]&&SV n 1):=by
     unfold EU SV
     rw [hk,beq_self_eq_true,if_pos rfl]
     cases hkk:n.kids with
     |nil=>rw [hkk] at hx;cases hx
     |cons y r=>rw [hkk] at hx;cases hx;simp
    cases hb:Eb x [2] with
    |true=>
     have U:∀{st:St} {K:As->St->Prop} {own:AH},K (.ret (.bool true)) st->PC 281 [enc x,.slice 1 [[.int .i64 2]] own] st K:=λh=>Eh (ks:=[2]) (by rw [hb];exact h)
     repeat' ((conv=>whnf);first|(refine BS ?_;intros)|(refine Dk ?_ ?_<;>intro _)|refine U ?_)
     all_goals conv=>whnf
     all_goals exact ⟨1,⟨hlt,by rw [e,hb,Bool.true_and]⟩,Nat.sub_lt_sub_left hlt (Nat.lt_succ_self 0),Yl,St.le_refl _⟩
    |false=>
     have U:∀{st:St} {K:As->St->Prop} {own:AH},K (.ret (.bool false)) st->PC 281 [enc x,.slice 1 [[.int .i64 2]] own] st K:=λh=>Eh (ks:=[2]) (by rw [hb];exact h)
     rw [e,hb,Bool.false_and] at h
     repeat' ((conv=>whnf);first|(refine BS ?_;intros)|(refine Dk ?_ ?_<;>intro _)|refine U ?_)
     all_goals exact AF rfl h
   .have e:SV n k=(Eb x [1]&&SV n (k+1)):=by
     obtain ⟨j,rfl⟩:∃j,k=j+1:=⟨k - 1,AC⟩
     rw [Xk,Xk,hdr,List.all_cons]
    have hpos:(k:Int)>0:=AC
    cases hb:Eb x [1] with
    |true=>
     have U:∀{st:St} {K:As->St->Prop} {own:AH},K (.ret (.bool true)) st->PC 281 [enc x,.slice 1 [[.int .i64 1]] own] st K:=λh=>Eh (ks:=[1]) (by rw [hb];exact h)
     repeat' ((conv=>whnf);first|(refine BS ?_;intros)|(refine Dk ?_ ?_<;>intro _)|refine U ?_)
     all_goals conv=>whnf
     all_goals exact ⟨k+1,⟨hlt,by rw [hi,e,hb,Bool.true_and]⟩,Nat.sub_lt_sub_left hlt (Nat.lt_succ_self k),Yl,St.le_refl _⟩
    |false=>
     have U:∀{st:St} {K:As->St->Prop} {own:AH},K (.ret (.bool false)) st->PC 281 [enc x,.slice 1 [[.int .i64 1]] own] st K:=λh=>Eh (ks:=[1]) (by rw [hb];exact h)
     rw [hi,e,hb,Bool.false_and] at h
     repeat' ((conv=>whnf);first|(refine BS ?_;intros)|(refine Dk ?_ ?_<;>intro _)|refine U ?_)
     all_goals exact AF rfl h
  .have hk2:k=n.kids.length:=AC
   have h1:EU n=true:=by
    rw [hi]
    cases k with
    |zero=>
     have h2:n.kids=[]:=List.length_eq_zero_iff.1 hk2.symm
     unfold SV EU
     rw [hk,h2];rfl
    |succ k=>rw [Xk,List.drop_eq_nil_of_le AC];rfl
   rw [h1] at h
   repeat' ((conv=>whnf);first|(refine BS ?_;intros)|(refine Dk ?_ ?_<;>intro _)|fail)
   all_goals exact AF rfl h
 .have e:EU n=Eb n [2]:=by
   unfold EU
   rw [if_neg (by rw [beq_iff_eq];exact hk)]
  rw [e] at h
  repeat' ((conv=>whnf);first|(refine BS ?_;intros)|(refine Dk ?_ ?_<;>intro _)|refine Eh (ks:=[2]) ?_)
  all_goals conv=>whnf
  all_goals (refine AB h ?_;clear h;simp_all)
theorem qK (hc1:A9 enc 278 (λb=>[pv b d]) (FV A W)) (hr1:A9 enc 273 (λb=>[pv b d]) R):A9 enc 229 (λb=>[pv b d]) (Ph A R W):=by
 refine ⟨λ{st0 b s st rows K} hc h=>?_⟩
 simp only [Ph,Rd.wp_seq] at h
 have hmu:=hc.mu
 refine pB Tryz.func229 ?_
 repeat' ((conv=>whnf);first|exact DF|(refine BS ?_;intros)|(refine DG ?_ ?_ ?_;rotate_left)|(refine Dk ?_ ?_<;>intro _)|(refine U2 ?_ ?_<;>intro U hc e h)|(refine Tt ?_;intro s1 U hz hm hc h)|(refine Lh ?_ ?_<;>(first|intro n s1 U hr hm hc h|intro e s1 U hc h))|exact G9|(refine Tx ?_;intro own1 U hc)|refine Cj (λ_=>?_)|refine Av (λe1=>?_)|refine wT.go (l:=[_]) (Oa hr1) (Nat.le_of_ble_eq_true rfl) (hc.push _) h (λl x own1 s1 U hh hm hc h=>?_) (λe s1 U hc h=>?_)|refine Ew ?_|refine eH (tj hh) ?_|refine O2 ?_|refine DK h ‹_› (λh=>?_)|refine DJ h ‹_› (λh=>?_)|refine zqq 7 [3,5] [] ?_|refine zqq 9 [7,8] [] ?_|fail)
 have hl2:l.length<=3:=Jn hh
 refine CJ (x0:=([61],l++[x])) (λ(p:List UInt8×List Nd) own=>[(4,.str p.1),(3,.slice 6 (p.2.map AK) own)]) (λ_ _=>[]) [1,2] [0,1] (λp own=>(own,p.2)::rows) (λp=>p.2.length) _ ‹_› ‹_› (by dsimp only;simp only [List.length_append,List.length_cons,List.length_nil];omega) Yl ?_
 intro p s1 U own1 hc h hl hm1
 obtain ⟨x,l⟩:=p
 dsimp only at hc hl
 simp only [eo,Rd.Ah,Rd.Aq,Rd.wp_seq,Rd.wp_ret,Rd.BI] at h
 repeat' ((conv=>whnf);first|exact DF|(refine BS ?_;intros)|(refine DG ?_ ?_ ?_;rotate_left)|(refine Dk ?_ ?_<;>intro _)|exact ⟨⟨(_,_),_,_,_⟩,⟨hc,Rd.E6 h UV,WF,UV⟩,UV,Yl,St.le_refl _⟩|(refine U2 ?_ ?_<;>intro U hc e h)|(refine Tt ?_;intro s1 U hz hm hc h)|(refine Lh ?_ ?_<;>(first|intro n s1 U hr hm hc h|intro e s1 U hc h))|exact G9|(refine Tx ?_;intro own1 U hc)|refine Cj (λ_=>?_)|refine Av (λe1=>?_)|refine A9.go hc1 hc h (λn s1 U hr hm hc h=>?_) (λe s1 U hc h=>?_)|refine aJ.go (l:=l) (PM N9) AC hc h (λn s1 U hr hm hc h=>?_) (λe s1 U hc h=>?_)|fail)
theorem xH (h:n.kids≠[]):∃x,n.kids[((0:Int)).toNat]? =some x/\n.kids.headD Hv=x:=vY h
theorem lf {st:St} (hn:n.kids≠[]) (h:K (.ret (.bool (V8 n))) st):PC 280 [enc n] st K:=by
 refine pB Tryz.func280 ?_
 obtain ⟨x,hx,hd⟩:=xH hn
 unfold V8 at h
 rw [hd] at h
 cases hm:HZ x with
 |false=>
  rw [hm,if_neg Do] at h
  have U:∀{st:St} {K:As->St->Prop},K (.ret (.bool false)) st->PC 320 [enc x] st K:=λh=>Ob (by rw [hm];exact h)
  repeat' ((conv=>whnf);first|(refine BS ?_;intros)|(refine Dk ?_ ?_<;>intro _)|refine U ?_)
  all_goals exact AF rfl h
 |true=>
  rw [hm,if_pos rfl] at h
  have U:∀{st:St} {K:As->St->Prop},K (.ret (.bool true)) st->PC 320 [enc x] st K:=λh=>Ob (by rw [hm];exact h)
  by_cases h2:n.kids.length=2
  .obtain ⟨y,hy⟩:∃y,n.kids[((1:Int)).toNat]? =some y:=⟨_,List.getElem?_eq_getElem (show 1<n.kids.length by omega)⟩
   have hy2:n.kids[1]? =some y:=hy
   rw [if_pos h2,hy2] at h
   repeat' ((conv=>whnf);first|(refine BS ?_;intros)|(refine Dk ?_ ?_<;>intro _)|refine U ?_)
   all_goals conv=>whnf
   all_goals (refine AB h ?_;clear h;simp_all [F7])
  .by_cases h4:n.kids.length=4
   .obtain ⟨y,hy⟩:∃y,n.kids[((2:Int)).toNat]? =some y:=⟨_,List.getElem?_eq_getElem (show 2<n.kids.length by omega)⟩
    have hy2:n.kids[2]? =some y:=hy
    rw [if_neg h2,hy2] at h
    by_cases hk:y.kind=13
    .by_cases h3:y.kids.length=3
     .obtain ⟨z,hz⟩:∃z,y.kids[((2:Int)).toNat]? =some z:=⟨_,List.getElem?_eq_getElem (show 2<y.kids.length by omega)⟩
      have hz2:y.kids[2]? =some z:=hz
      repeat' ((conv=>whnf);first|(refine BS ?_;intros)|(refine Dk ?_ ?_<;>intro _)|refine U ?_)
      all_goals conv=>whnf
      all_goals (refine AB h ?_;clear h;simp_all [F7])
     .skip
      repeat' ((conv=>whnf);first|(refine BS ?_;intros)|(refine Dk ?_ ?_<;>intro _)|refine U ?_)
      all_goals conv=>whnf
      all_goals (refine AB h ?_;clear h;simp_all [F7])
    .skip
     repeat' ((conv=>whnf);first|(refine BS ?_;intros)|(refine Dk ?_ ?_<;>intro _)|refine U ?_)
     all_goals conv=>whnf
     all_goals (refine AB h ?_;clear h;simp_all [F7])
   .rw [if_neg h2,if_neg (λe=>h4 e.1)] at h
    repeat' ((conv=>whnf);first|(refine BS ?_;intros)|(refine Dk ?_ ?_<;>intro _)|refine U ?_)
    all_goals exact AF rfl h
theorem ah (hc1:A9 enc 278 (λb=>[pv b d]) (FV A W)) (hr1:A9 enc 273 (λb=>[pv b d]) R):A9 enc 230 (λb=>[pv b d]) (G3 A R W):=by
 refine ⟨λ{st0 b s st rows K} hc h=>?_⟩
 simp only [G3,Rd.wp_seq] at h
 have hmu:=hc.mu
 refine AM Ac [] Tryz.func230 rfl Do rfl ?_
 refine Ad (Af Ac ?_)
 repeat' ((conv=>whnf);(first|exact DF|(refine DG ?_ ?_ ?_;rotate_left)|refine Dk ?_ ?_|fail)<;>intros)
 refine Ad (Af Ac ?_)
 repeat' ((conv=>whnf);first|exact DF|(refine DG ?_ ?_ ?_;rotate_left)|(refine Dk ?_ ?_<;>intro _)|(refine Lh ?_ ?_<;>(first|intro n s1 U hr hm hc h|intro e s1 U hc h))|exact G9|(refine Tx ?_;intro own1 U hc)|refine Cj (λ_=>?_)|refine Av (λe1=>?_)|refine wT.go (l:=[_]) (Oa hr1) (Nat.le_of_ble_eq_true rfl) (hc.push _) h (λl x own1 s1 U hh hm hc h=>?_) (λe s1 U hc h=>?_)|exact B1 hc h|refine zqq 7 [3,5] [] ?_|refine zqq 9 [7,8] [] ?_|refine zqq 9 [7,8] [] ?_|fail)
 have hl2:l.length<=3:=Jn hh
 refine Af Ac ?_
 repeat' ((conv=>whnf);first|exact DF|(refine DG ?_ ?_ ?_;rotate_left)|(refine Dk ?_ ?_<;>intro _)|(refine Lh ?_ ?_<;>(first|intro n s1 U hr hm hc h|intro e s1 U hc h))|exact G9|(refine Tx ?_;intro own1 U hc)|refine Cj (λ_=>?_)|refine Av (λe1=>?_)|refine Ew ?_|refine eH bl ?_|refine O2 ?_|refine A9.go hc1 hc h (λn s1 U hr hm hc h=>?_) (λe s1 U hc h=>?_)|refine lf (iA hr) ?_|refine DK h ‹_› (λh=>?_)|refine DJ h ‹_› (λh=>?_)|refine aJ.go (PM N9) (nF hh) hc h (λn s1 U hr hm hc h=>?_) (λe s1 U hc h=>?_)|refine zqq 7 [3,5] [] ?_|refine zqq 9 [7,8] [] ?_|refine zqq 9 [7,8] [] ?_|fail)
abbrev zH (g:FuncId):V:=.Gd [.func g [] []] 0
theorem sf {x:Nd} {st:St} (U:∀{n:Nd} {st:St} {K:As->St->Prop},K (.ret (.bool (p n))) st->PC g [enc n] st K) (h:K (.ret (.bool (!p x))) st):PC 328 [enc x,zH g] st K:=by
 refine pB Tryz.func328 ?_
 repeat' ((conv=>whnf);first|  (refine Dk ?_ ?_<;>intro _)|refine U ?_)
 all_goals conv=>whnf
 all_goals (refine AB h ?_;clear h;simp_all)
theorem xK {st:St} (hf:∀x st (K:As->St->Prop),K (.ret (.bool (p x))) st->PC f [enc x,zH g] st K) (h:K (.ret (.int .i64 (CS p l 0))) st):PC 365 [.slice 6 (Bg l) .any,.func f [] [zH g]] st K:=by
 refine pB Tryz.func365 ?_
 repeat' ((conv=>whnf);(first|refine BS ?_|refine Dk ?_ ?_|fail)<;>intros)
 refine KU 8 [6,7,0,1] l.length (λk=>k<=l.length/\(CS p l 0=CS p (l.drop k) k)) ⟨Nat.zero_le _,rfl⟩ Yl ?_
 rintro k ⟨U,hi⟩
 repeat' ((conv=>whnf);first|(refine BS ?_;intros)|(refine Dk ?_ ?_<;>intro _)|refine hf _ _ _ ?_)
 all_goals conv=>whnf
 all_goals try (have e:=X3 ‹l[Int.toNat k]? =some _›;rw [Int.toNat_natCast] at e;rw [e,CS] at hi;clear e)
 all_goals first
  |(refine ⟨k+1,⟨AC,?_⟩,AC,Yl,St.le_refl _⟩;clear h;simp_all)
  |(refine fin h ?_;clear h;simp_all;done)
  |(refine fin h ?_;rw [hi,List.drop_eq_nil_of_le AC];rfl)
theorem w4 {st:St} (hf:∀x st (K:As->St->Prop),K (.ret (.bool (p x))) st->PC f [enc x,zH g] st K) (h:K (.ret (.bool (l.any p))) st):PC 327 [.slice 6 (Bg l) .any,.func f [] [zH g]] st K:=by
 refine pB Tryz.func327 ?_
 refine xK hf ?_
 have key:=HW (p:=p) (l:=l) (i:=0) AC
 refine Wh (λh1=>?_) (λh1=>?_)
 .exact AB h (key.1 h1)
 .refine AB h ?_
  simp_all
theorem dU:(!l.any λx=> !p x)=l.all p:=by
 rw [List.all_eq_not_any_not]
theorem wY (h:(l.any λx=> !p x)=true):l.all p=false:=by rw [<-dU,h];rfl
theorem rK (h:(l.any λx=> !p x)=false):l.all p=true:=by rw [<-dU,h];rfl
theorem Hy (hg:∀{n:Nd} {st:St} {K:As->St->Prop},K (.ret (.bool (p n))) st->PC g [enc n] st K) (hd1:A9 enc 110 (λb=>[.ptr b 0,.func 326 [] [],.int .i64 ((d:Int) - 1)]) D) (hd0:d<=100):
 aJ 282 (λb v=>[pv b d,.int .i64 k,v,.func g [] []]) (λl=>Pf D k l p):=by
 refine ⟨λ{st0 b s st rows K own l} hl hc h=>?_⟩
 simp only [Pf,Rd.Ah,Rd.Aq,Rd.wp_seq,Rd.wp_ret] at h
 refine AM Ac [] Tryz.func282 rfl Do rfl ?_
 refine Ad (Af Ac ?_)
 repeat' ((conv=>whnf);(first|exact DF|refine BS ?_|(refine DG ?_ ?_ ?_;rotate_left)|refine Dk ?_ ?_|fail)<;>intros)
 refine P7 7 1 rfl rfl rfl ?_
 refine Af Ac ?_
 repeat' ((conv=>whnf);first|exact DF|(refine BS ?_;intros)|(refine DG ?_ ?_ ?_;rotate_left)|(refine Dk ?_ ?_<;>intro _)|(refine U2 ?_ ?_<;>intro U hc e h)|(refine Tt ?_;intro s1 U hz hm hc h)|exact G9|refine Tu ?_|(refine Tx ?_;intro own1 U hc)|refine Av (λe1=>?_)|refine Wq (a:=(d:Int) - 1) AC AC ?_|refine A9.go hd1 hc h (λn s1 U hr hm hc h=>?_) (λe s1 U hc h=>?_)|refine w4 (p:=λx=> !p x) (λx st K h=>sf hg h) ?_|refine DK h (rK ‹_›) (λh=>?_)|refine DJ h (wY ‹_›) (λh=>?_)|refine zqq 7 [4,6] [] ?_|fail)
theorem KD {st:St} (h:K (.ret (.bool true)) st):PC 283 [enc n] st K:=by
 refine pB Tryz.func283 ?_
 repeat' ((conv=>whnf);(first|  fail)<;>intros)
 all_goals exact AF rfl h
theorem Iu {st:St} (h:K (.ret (.bool (n.kind==36))) st):PC 284 [enc n] st K:=by
 refine pB Tryz.func284 ?_
 repeat' ((conv=>whnf);(first|  refine Dk ?_ ?_|fail)<;>intros)
 all_goals conv=>whnf
 all_goals (refine AB h ?_;clear h;simp_all)
theorem kV (hr1:A9 enc 273 (λb=>[pv b d]) R) (hd1:A9 enc 110 (λb=>[.ptr b 0,.func 326 [] [],.int .i64 ((d:Int) - 1)]) D) (hd0:d<=100):A9 enc 231 (λb=>[pv b d]) (KE R D):=by
 refine ⟨λ{st0 b s st rows K} hc h=>?_⟩
 simp only [KE,Rd.wp_seq] at h
 have hmu:=hc.mu
 refine AM Ac [] Tryz.func231 rfl Do rfl ?_
 refine Ad (Af Ac ?_)
 repeat' ((conv=>whnf);(first|exact DF|refine BS ?_|(refine DG ?_ ?_ ?_;rotate_left)|fail)<;>intros)
 refine Ad (Af Ac ?_)
 repeat' ((conv=>whnf);first|exact DF|(refine BS ?_;intros)|(refine DG ?_ ?_ ?_;rotate_left)|(refine Lh ?_ ?_<;>(first|intro n s1 U hr hm hc h|intro e s1 U hc h))|exact G9|refine Cj (λ_=>?_)|refine Av (λe1=>?_)|refine wT.go (l:=[_]) (Oa hr1) (Nat.le_of_ble_eq_true rfl) (hc.push _) h (λl x own1 s1 U hh hm hc h=>?_) (λe s1 U hc h=>?_)|exact B1 hc h|refine zqq 7 [3,5] [] ?_|refine zqq 27 [16,24,26] [] ?_|fail)
 have hl2:l.length<=3:=Jn hh
 refine Af Ac ?_
 by_cases hk:x.kind=39
 .by_cases h2:(x.kids.length:Int)=2
  .have h2':x.kids.length=2:=AC
   obtain ⟨y0,hx0⟩:∃y,x.kids[((0:Int)).toNat]? =some y:=⟨_,List.getElem?_eq_getElem (show 0<x.kids.length by omega)⟩
   obtain ⟨y1,hx1⟩:∃y,x.kids[((1:Int)).toNat]? =some y:=⟨_,List.getElem?_eq_getElem (show 1<x.kids.length by omega)⟩
   have hy0:x.kids[0]? =some y0:=hx0
   have hy1:x.kids[1]? =some y1:=hx1
   have hN:IF x=(Eb y0 [2]&&Eb y1 [1]):=by unfold IF;rw [hk,h2',hy0,hy1];rfl
   cases i0:Eb y0 [2]
   .have hcl:IF x=false:=by rw [hN,i0];rfl
    repeat' ((conv=>whnf);first|exact DF|(refine BS ?_;intros)|(refine DG ?_ ?_ ?_;rotate_left)|(refine Lh ?_ ?_<;>(first|intro n s1 U hr hm hc h|intro e s1 U hc h))|exact G9|refine Cj (λ_=>?_)|refine Av (λe1=>?_)|refine Ew ?_|refine Wm hx0 AC ?_|refine Wm hx1 AC ?_|refine Eh (ks:=[2]) ?_|refine Eh (ks:=[1]) ?_|refine DK h hcl (λh=>?_)|refine DJ h hcl (λh=>?_)|refine aJ.go (l:=l++[x]) (Hy (d:=d) (λh=>KD h) hd1 hd0) (by rw [List.length_append]<;>exact Nat.le_trans (Nat.add_le_add_right hl2 _) (Nat.le_of_ble_eq_true rfl)) hc h (λn s1 U hr hm hc h=>?_) (λe s1 U hc h=>?_)|refine zqq 7 [3,5] [] ?_|refine zqq 27 [16,24,26] [] ?_|fail)
   cases i1:Eb y1 [1]
   .have hcl:IF x=false:=by rw [hN,i0,i1];rfl
    repeat' ((conv=>whnf);first|exact DF|(refine BS ?_;intros)|(refine DG ?_ ?_ ?_;rotate_left)|(refine Lh ?_ ?_<;>(first|intro n s1 U hr hm hc h|intro e s1 U hc h))|exact G9|refine Cj (λ_=>?_)|refine Av (λe1=>?_)|refine Ew ?_|refine Wm hx0 AC ?_|refine Wm hx1 AC ?_|refine Eh (ks:=[2]) ?_|refine Eh (ks:=[1]) ?_|refine DK h hcl (λh=>?_)|refine DJ h hcl (λh=>?_)|refine aJ.go (l:=l++[x]) (Hy (d:=d) (λh=>KD h) hd1 hd0) (by rw [List.length_append]<;>exact Nat.le_trans (Nat.add_le_add_right hl2 _) (Nat.le_of_ble_eq_true rfl)) hc h (λn s1 U hr hm hc h=>?_) (λe s1 U hc h=>?_)|refine zqq 7 [3,5] [] ?_|refine zqq 27 [16,24,26] [] ?_|fail)
   .have hcl:IF x=true:=by rw [hN,i0,i1];rfl
    repeat' ((conv=>whnf);first|exact DF|(refine BS ?_;intros)|(refine DG ?_ ?_ ?_;rotate_left)|(refine Lh ?_ ?_<;>(first|intro n s1 U hr hm hc h|intro e s1 U hc h))|exact G9|refine Cj (λ_=>?_)|refine Av (λe1=>?_)|refine Ew ?_|refine Wm hx0 AC ?_|refine Wm hx1 AC ?_|refine Eh (ks:=[2]) ?_|refine Eh (ks:=[1]) ?_|refine DK h hcl (λh=>?_)|refine DJ h hcl (λh=>?_)|refine aJ.go (l:=l++[x]) (Hy (d:=d) (λh=>KD h) hd1 hd0) (by rw [List.length_append]<;>exact Nat.le_trans (Nat.add_le_add_right hl2 _) (Nat.le_of_ble_eq_true rfl)) hc h (λn s1 U hr hm hc h=>?_) (λe s1 U hc h=>?_)|refine zqq 7 [3,5] [] ?_|refine zqq 27 [16,24,26] [] ?_|fail)
  .have hcl:IF x=false:=by unfold IF;rw [show (x.kids.length==2)=false by cases e:x.kids.length==2 with|true=>exact absurd (by rw [beq_iff_eq] at e;omega) h2|false=>rfl];simp
   repeat' ((conv=>whnf);first|exact DF|(refine BS ?_;intros)|(refine DG ?_ ?_ ?_;rotate_left)|(refine Lh ?_ ?_<;>(first|intro n s1 U hr hm hc h|intro e s1 U hc h))|exact G9|refine Cj (λ_=>?_)|refine Av (λe1=>?_)|refine Ew ?_|refine Eh (ks:=[2]) ?_|refine Eh (ks:=[1]) ?_|refine DK h hcl (λh=>?_)|refine DJ h hcl (λh=>?_)|refine aJ.go (l:=l++[x]) (Hy (d:=d) (λh=>KD h) hd1 hd0) (by rw [List.length_append]<;>exact Nat.le_trans (Nat.add_le_add_right hl2 _) (Nat.le_of_ble_eq_true rfl)) hc h (λn s1 U hr hm hc h=>?_) (λe s1 U hc h=>?_)|refine zqq 7 [3,5] [] ?_|refine zqq 27 [16,24,26] [] ?_|fail)
 .have hcl:IF x=false:=by unfold IF;rw [show (x.kind==39)=false by cases e:x.kind==39 with|true=>exact absurd (by simpa using e) hk|false=>rfl];rfl
  repeat' ((conv=>whnf);first|exact DF|(refine BS ?_;intros)|(refine DG ?_ ?_ ?_;rotate_left)|(refine Lh ?_ ?_<;>(first|intro n s1 U hr hm hc h|intro e s1 U hc h))|exact G9|refine Cj (λ_=>?_)|refine Av (λe1=>?_)|refine Ew ?_|refine Eh (ks:=[2]) ?_|refine Eh (ks:=[1]) ?_|refine DK h hcl (λh=>?_)|refine DJ h hcl (λh=>?_)|refine aJ.go (l:=l++[x]) (Hy (d:=d) (λh=>KD h) hd1 hd0) (by rw [List.length_append]<;>exact Nat.le_trans (Nat.add_le_add_right hl2 _) (Nat.le_of_ble_eq_true rfl)) hc h (λn s1 U hr hm hc h=>?_) (λe s1 U hc h=>?_)|refine zqq 7 [3,5] [] ?_|refine zqq 27 [16,24,26] [] ?_|fail)
theorem Xy (hr1:A9 enc 273 (λb=>[pv b d]) R) (hd1:A9 enc 110 (λb=>[.ptr b 0,.func 326 [] [],.int .i64 ((d:Int) - 1)]) D) (hd0:d<=100):A9 enc 232 (λb=>[pv b d]) (FI R D):=by
 refine ⟨λ{st0 b s st rows K} hc h=>?_⟩
 simp only [FI,Rd.wp_seq] at h
 have hmu:=hc.mu
 refine AM Ac [] Tryz.func232 rfl Do rfl ?_
 refine Ad (Af Ac ?_)
 repeat' ((conv=>whnf);(first|exact DF|refine BS ?_|(refine DG ?_ ?_ ?_;rotate_left)|fail)<;>intros)
 refine Ad (Af Ac ?_)
 repeat' ((conv=>whnf);first|exact DF|(refine BS ?_;intros)|(refine DG ?_ ?_ ?_;rotate_left)|(refine Lh ?_ ?_<;>(first|intro n s1 U hr hm hc h|intro e s1 U hc h))|exact G9|refine Cj (λ_=>?_)|refine Av (λe1=>?_)|refine wT.go (l:=[_]) (Oa hr1) (Nat.le_of_ble_eq_true rfl) (hc.push _) h (λl x own1 s1 U hh hm hc h=>?_) (λe s1 U hc h=>?_)|exact B1 hc h|refine zqq 7 [3,5] [] ?_|refine zqq 19 [16,18] [] ?_|fail)
 have hl2:l.length<=3:=Jn hh
 refine Af Ac ?_
 by_cases hk:x.kind=39
 .by_cases h2:(x.kids.length:Int)=2
  .have h2':x.kids.length=2:=AC
   obtain ⟨y0,hx0⟩:∃y,x.kids[((0:Int)).toNat]? =some y:=⟨_,List.getElem?_eq_getElem (show 0<x.kids.length by omega)⟩
   obtain ⟨y1,hx1⟩:∃y,x.kids[((1:Int)).toNat]? =some y:=⟨_,List.getElem?_eq_getElem (show 1<x.kids.length by omega)⟩
   have hy0:x.kids[0]? =some y0:=hx0
   have hy1:x.kids[1]? =some y1:=hx1
   have hN:Ny x=Eb y0 [2,4]:=by unfold Ny;rw [hk,h2',hy0];rfl
   cases i0:Eb y0 [2,4]
   .have hcl:Ny x=false:=by rw [hN,i0]
    repeat' ((conv=>whnf);first|exact DF|(refine BS ?_;intros)|(refine DG ?_ ?_ ?_;rotate_left)|(refine Lh ?_ ?_<;>(first|intro n s1 U hr hm hc h|intro e s1 U hc h))|exact G9|refine Cj (λ_=>?_)|refine Av (λe1=>?_)|refine Ew ?_|refine Wm hx0 AC ?_|refine Wm hx1 AC ?_|refine Eh (ks:=[2,4]) ?_|refine Eh (ks:=[1]) ?_|refine DK h hcl (λh=>?_)|refine DJ h hcl (λh=>?_)|refine aJ.go (l:=l++[x]) (Hy (d:=d) (λh=>Iu h) hd1 hd0) (by rw [List.length_append]<;>exact Nat.le_trans (Nat.add_le_add_right hl2 _) (Nat.le_of_ble_eq_true rfl)) hc h (λn s1 U hr hm hc h=>?_) (λe s1 U hc h=>?_)|refine zqq 7 [3,5] [] ?_|refine zqq 19 [16,18] [] ?_|fail)
   .have hcl:Ny x=true:=by rw [hN,i0]
    repeat' ((conv=>whnf);first|exact DF|(refine BS ?_;intros)|(refine DG ?_ ?_ ?_;rotate_left)|(refine Lh ?_ ?_<;>(first|intro n s1 U hr hm hc h|intro e s1 U hc h))|exact G9|refine Cj (λ_=>?_)|refine Av (λe1=>?_)|refine Ew ?_|refine Wm hx0 AC ?_|refine Wm hx1 AC ?_|refine Eh (ks:=[2,4]) ?_|refine Eh (ks:=[1]) ?_|refine DK h hcl (λh=>?_)|refine DJ h hcl (λh=>?_)|refine aJ.go (l:=l++[x]) (Hy (d:=d) (λh=>Iu h) hd1 hd0) (by rw [List.length_append]<;>exact Nat.le_trans (Nat.add_le_add_right hl2 _) (Nat.le_of_ble_eq_true rfl)) hc h (λn s1 U hr hm hc h=>?_) (λe s1 U hc h=>?_)|refine zqq 7 [3,5] [] ?_|refine zqq 19 [16,18] [] ?_|fail)
  .have hcl:Ny x=false:=by unfold Ny;rw [show (x.kids.length==2)=false by cases e:x.kids.length==2 with|true=>exact absurd (by rw [beq_iff_eq] at e;omega) h2|false=>rfl];simp
   repeat' ((conv=>whnf);first|exact DF|(refine BS ?_;intros)|(refine DG ?_ ?_ ?_;rotate_left)|(refine Lh ?_ ?_<;>(first|intro n s1 U hr hm hc h|intro e s1 U hc h))|exact G9|refine Cj (λ_=>?_)|refine Av (λe1=>?_)|refine Ew ?_|refine Eh (ks:=[2,4]) ?_|refine Eh (ks:=[1]) ?_|refine DK h hcl (λh=>?_)|refine DJ h hcl (λh=>?_)|refine aJ.go (l:=l++[x]) (Hy (d:=d) (λh=>Iu h) hd1 hd0) (by rw [List.length_append]<;>exact Nat.le_trans (Nat.add_le_add_right hl2 _) (Nat.le_of_ble_eq_true rfl)) hc h (λn s1 U hr hm hc h=>?_) (λe s1 U hc h=>?_)|refine zqq 7 [3,5] [] ?_|refine zqq 19 [16,18] [] ?_|fail)
 .have hcl:Ny x=false:=by unfold Ny;rw [show (x.kind==39)=false by cases e:x.kind==39 with|true=>exact absurd (by simpa using e) hk|false=>rfl];rfl
  repeat' ((conv=>whnf);first|exact DF|(refine BS ?_;intros)|(refine DG ?_ ?_ ?_;rotate_left)|(refine Lh ?_ ?_<;>(first|intro n s1 U hr hm hc h|intro e s1 U hc h))|exact G9|refine Cj (λ_=>?_)|refine Av (λe1=>?_)|refine Ew ?_|refine Eh (ks:=[2,4]) ?_|refine Eh (ks:=[1]) ?_|refine DK h hcl (λh=>?_)|refine DJ h hcl (λh=>?_)|refine aJ.go (l:=l++[x]) (Hy (d:=d) (λh=>Iu h) hd1 hd0) (by rw [List.length_append]<;>exact Nat.le_trans (Nat.add_le_add_right hl2 _) (Nat.le_of_ble_eq_true rfl)) hc h (λn s1 U hr hm hc h=>?_) (λe s1 U hc h=>?_)|refine zqq 7 [3,5] [] ?_|refine zqq 19 [16,18] [] ?_|fail)
end
theorem ur {a b:Bool} {Q:Prop}:(if (if a=true then true else b)=true then P else Q)=if a=true then P else if b=true then P else Q:=by cases a<;>cases b<;>simp
section
variable {st0 st:St} {b d:Nat} {s:An} {rows:List (AH×List Nd)} {K:As->St->Prop} {A B R W F D E:Rd Nd}
attribute [local irreducible] Go.Aw.Aj
theorem qI {k':Int} {x':List UInt8} {E:Er->An->Prop} (hc:Cx st0 b s st rows) (h:if BB (Ae s).2.1 k' x'=true then P else A4.wp s Q E) (e:BB s k x=true) (U:k≠0/\k≠21) (kk:∀st',mu (Ae s).2.1<mu s->Cx st0 b (Ae s).2.1 st' rows->K (.ret (enc (BP (Ae s).1))) st'):PC 150 [.ptr b 0] st K:=
 MK hc.has hc.hb (λ_ st' hu=>kk st' (EY e U.1 U.2) (hc.O5 hu (Nat.le_of_lt (EY e U.1 U.2)))) (λn=>absurd (HX e U.1) n)
theorem nB {s0:An} (U:Cx st0 b s st rows) (hm:mu (Ae s0).2.1<mu s0) (hb:mu s0<=100000000) (k:∀st',Cx st0 b s0 st' rows->K (.ret (.Bc [])) st'):PC 154 [.ptr b 0,.agg s0.cells] st K:=GP U hb k
theorem Xae {U:Int} {y:List UInt8} {E:Er->An->Prop} (hc:Cx st0 b (Ae s).2.1 st rows) (h:if BB (Ae s).2.1 k x=true then P else A4.wp s Q E) (e:BB s U y=true) (hk:U≠0)
 (k1:∀st',Cx st0 b (Ae s).2.1 st' rows->P->K (.ret (.bool true)) st') (U:∀st',Cx st0 b (Ae s).2.1 st' rows->Q (BP (Ae s).1) (Ae s).2.1->K (.ret (.bool false)) st'):PC 149 [.ptr b 0,.int .i64 k,.str x] st K:=by
 refine nK hc h (λst' c _ p=>k1 st' c p) (λst' c _ q=>U st' c ?_)
 unfold Rd.wp at q
 rw [Fl (HX e hk)] at q
 exact q
theorem zK {p:Prop} (e:BB s 1 x=true) (k:(Ae s).1.kind=14):p:=by
 unfold BB at e
 rw [k] at e
 cases e
theorem qQ:A9 enc 267 (λb=>[pv b d,.bool o]) (Sn o):=by
 refine ⟨λ{st0 b s st rows K} hc h=>?_⟩
 have hmu:=hc.mu
 refine pB Tryz.func267 ?_
 cases o
 all_goals simp only [Sn,Y2,Sm,Bool.false_eq_true,if_false,if_true,Rd.Ah,Rd.Aq,Rd.wp_seq,Rd.wp_ret] at h
 .skip
  repeat' ((conv=>whnf);first|refine Gk h (λe h=>?_) (λe h=>?_)|exact DF|(refine BS ?_;intros)|(refine DG ?_ ?_ ?_;rotate_left)|(refine dT ?_;intro U hc)|(refine U2 ?_ ?_<;>intro U hc e h)|(refine Tt ?_;intro s1 U hz hm hc h)|(refine Lh ?_ ?_<;>(first|intro n s1 U hr hm hc h|intro e s1 U hc h))|exact G9|refine Tu ?_|refine Av (λe1=>?_)|refine Cx.xa (l:=[1]) (new:=[3]) hc (Nat.le_of_ble_eq_true rfl) (λown1 U hc=>?_)|refine Cx.xa (l:=[2]) (new:=[4]) hc (Nat.le_of_ble_eq_true rfl) (λown1 U hc=>?_)|refine Cx.xa (l:=[5,6]) (new:=[7,8]) hc (Nat.le_of_ble_eq_true rfl) (λown1 U hc=>?_)|refine A9.go (En (ks:=Mx false) rfl) hc h (λn s1 U hr hm hc h=>?_) (λe s1 U hc h=>?_)|refine A9.go (En (ks:=SX false) rfl) hc h (λn s1 U hr hm hc h=>?_) (λe s1 U hc h=>?_)|refine A9.go (Ia (ks:=qA false) rfl) hc h (λn s1 U hr hm hc h=>?_) (λe s1 U hc h=>?_)|refine Cx.HN (l:=[_]) (hc.push [_]) (Nat.le_of_ble_eq_true rfl) (λown1 U hc=>?_)|refine Cx.w7 (l:=[_,_]) hc (Nat.le_of_ble_eq_true rfl) (λown1 U hc=>?_)|refine JG (l:=[_,_]) (fs:=[pv b d]) (cs:=[]) Tf.z (Nat.le_of_ble_eq_true rfl) hc h (λl own1 s1 U hm hc h=>?_) (λe s1 U hc h=>?_)|refine zqs [1,3,7,9,11,4,12,15,16,18] [1] ?_|refine zqs [1,3,5,9,11,6,12,15,16,18,20] [1] ?_|fail)
 .skip
  repeat' ((conv=>whnf);first|refine Gk h (λe h=>?_) (λe h=>?_)|exact DF|(refine BS ?_;intros)|(refine DG ?_ ?_ ?_;rotate_left)|(refine dT ?_;intro U hc)|(refine U2 ?_ ?_<;>intro U hc e h)|(refine Tt ?_;intro s1 U hz hm hc h)|(refine Lh ?_ ?_<;>(first|intro n s1 U hr hm hc h|intro e s1 U hc h))|exact G9|refine Tu ?_|refine Av (λe1=>?_)|refine A9.go (En (ks:=Mx true) rfl) hc h (λn s1 U hr hm hc h=>?_) (λe s1 U hc h=>?_)|refine A9.go (En (ks:=SX true) rfl) hc h (λn s1 U hr hm hc h=>?_) (λe s1 U hc h=>?_)|refine A9.go (Ia (ks:=qA true) rfl) hc h (λn s1 U hr hm hc h=>?_) (λe s1 U hc h=>?_)|refine Cx.HN (l:=[_]) (hc.push [_]) (Nat.le_of_ble_eq_true rfl) (λown1 U hc=>?_)|refine Cx.w7 (l:=[_,_]) hc (Nat.le_of_ble_eq_true rfl) (λown1 U hc=>?_)|refine JG (l:=[_,_]) (fs:=[pv b d]) (cs:=[]) Tf.z (Nat.le_of_ble_eq_true rfl) hc h (λl own1 s1 U hm hc h=>?_) (λe s1 U hc h=>?_)|refine zqs [1,3,7,9,11,4,12,15,16,18] [1] ?_|refine zqs [1,3,5,9,11,6,12,15,16,18,20] [1] ?_|fail)
theorem UP:A9 enc 221 (λb=>[pv b d,.bool o]) (EZ o):=by
 refine ⟨λ{st0 b s st rows K} U h=>?_⟩
 simp only [EZ,Rd.wp_seq,Rd.wp_ret] at h
 have hmu:=U.mu
 refine pB Tryz.func221 ?_
 repeat' ((conv=>whnf);(first|refine BS ?_|refine U2 ?_ ?_|refine Tt ?_|refine Lh ?_ ?_|exact G9|refine Tu ?_|refine Tx ?_|fail)<;>intros)
 refine CJ (λl own=>[(5,.slice 6 (l.map AK) own)]) (λ_ _=>[]) [1,2,4] [0,1] (λl own=>(own,l)::rows) (λl=>l.length) .full (Cx.push ‹_› _) ‹_› (by show 1+_<=_;omega) Yl ?_
 intro l s1 st1 own1 U h hl hm1
 simp only [V7,Vl,Rd.Ah,Rd.Aq,Rd.wp_seq,Rd.wp_ret,Rd.BI] at h
 repeat' ((conv=>whnf);(first|refine BS ?_|refine U2 ?_ ?_|refine Tt ?_|refine Lh ?_ ?_|exact G9|refine Tu ?_|refine Tx ?_|refine Gc.go (by first|  exact (qQ (o:=o)).a) ?_ ?_)<;>intros)
theorem af:A9 enc 227 (λb=>[pv b d]) G1:=by
 refine ⟨λ{st0 b s st rows K} U h=>?_⟩
 simp only [G1,Nv,Nw,Nx,Rd.Ah,Rd.Aq,Rd.wp_seq,Rd.wp_ret] at h
 have hmu:=U.mu
 refine pB Tryz.func227 ?_
 repeat' ((conv=>whnf);(first|refine BS ?_|refine U2 ?_ ?_|refine Tt ?_|refine Lh ?_ ?_|exact G9|refine Tu ?_|refine Tx ?_|refine Gc.go (by first|  exact (En (ks:=[2,4]) rfl).a|exact (UP (o:=true)).a) ?_ ?_|refine Cx.HN (l:=[_]) (Cx.push ‹_› [_]) (Nat.le_of_ble_eq_true rfl) ?_)<;>intros)
theorem ab (hf:A9 enc 287 (λb=>[pv b d]) F):A9 enc 234 (λb=>[pv b d]) (G0 F):=by
 refine ⟨λ{st0 b s st rows K} U h=>?_⟩
 simp only [G0,KM,Nu,Jj,KN,Rd.Ah,Rd.Aq,Rd.wp_seq,Rd.wp_ret,ur] at h
 have hmu:=U.mu
 refine pB Tryz.func234 ?_
 repeat' ((conv=>whnf);(first|exact zK ‹_› ‹_›|refine Xae ‹_› ‹_› ‹_› Do ?_ ?_|refine qI ‹_› ‹_› ‹_› Do ?_|refine BS ?_|refine Gg ?_ ?_|refine dT ?_|refine U2 ?_ ?_|refine Tt ?_|refine Lh ?_ ?_|refine Yt6 ?_|exact G9|refine Tu ?_|refine Tx ?_|refine Gc.go (by first|exact A9.q|exact (En (ks:=[1]) rfl).a|exact O3.a) ?_ ?_|refine QY (Cx.has ‹_›) ?_ ?_|refine nB ‹_› ‹_› AC ?_|refine Cx.HN (l:=[_]) (Cx.push ‹_› [_]) (Nat.le_of_ble_eq_true rfl) ?_)<;>intros)
theorem Xw (hw:A9 enc 276 (λb=>[pv b d]) W):A9 enc 233 (λb=>[pv b d]) (FF W):=by
 refine ⟨λ{st0 b s st rows K} hc h=>?_⟩
 simp only [FF,Rd.wp_seq,Rd.wp_ret] at h
 have hmu:=hc.mu
 refine pB Tryz.func233 ?_
 repeat' ((conv=>whnf);first|exact DF|(refine DG ?_ ?_ ?_;rotate_left)|(refine Lh ?_ ?_<;>(first|intro n s1 U hr hm hc h|intro e s1 U hc h))|exact G9|refine Tu ?_|refine Av (λe1=>?_)|refine JG (l:=[_,_]) (fs:=[pv b d]) (cs:=[]) hw.z (Nat.le_of_ble_eq_true rfl) (hc.push _) h (λl own1 s1 U hm hc h=>?_) (λe s1 U hc h=>?_)|refine zqs [1,3,7,9,4,10,13,15] [] ?_|fail)
end
theorem Cx.wz {st:St} {c:Nat} {cs':List V} (h:Cx (st0.Aa c cs) b s st rows) (U:c≠b):Cx (st0.Aa c cs') b s (st.Aa c cs') rows:=by
 obtain ⟨c0,hr⟩:=h.rx
 refine ⟨?_,⟨c0,?_⟩,h.mu⟩
 .rcases h.has with e|⟨q1,q2,q3,q4,q5,e⟩
  .exact .inl (by rw [St.Ak U];exact e)
  .exact .inr ⟨q1,q2,q3,q4,q5,by rw [St.Ak U];exact e⟩
 .rw [S5 U] at hr |-
  exact hr.Aa
section
variable {st0 st:St} {b d c:Nat} {s:An} {rows:List (AH×List Nd)} {K R:As->St->Prop} {A B C D E F:Rd Nd}
attribute [local irreducible] Go.Aw.Aj
theorem vt (h1:A9 enc 227 (λb=>[pv b d]) G1) (h2:A9 enc 228 (λb=>[pv b d]) (G8 B C)) (h3:A9 enc 229 (λb=>[pv b d]) (Ph A B C)) (h4:A9 enc 230 (λb=>[pv b d]) (G3 A B C))
 (h5:A9 enc 231 (λb=>[pv b d]) (KE B F)) (h6:A9 enc 232 (λb=>[pv b d]) (FI B F)) (h7:A9 enc 233 (λb=>[pv b d]) (FF C)) (h8:A9 enc 234 (λb=>[pv b d]) (G0 D))
 (he:A9 enc 110 (λb=>[.ptr b 0,.func 226 [] [],.int .i64 (d:Int)]) E):A9 enc 192 (λb=>[pv b d]) (XA A B C D E F):=by
 refine ⟨λ{st0 b s st rows K} U h=>?_⟩
 simp only [XA,Rd.Ah,Rd.Aq] at h
 have hmu:=U.mu
 refine pB Tryz.func192 ?_
 repeat' ((conv=>whnf);(first|  refine Gg ?_ ?_|refine dT ?_|exact G9|refine Gc.go (by first|exact A9.q) ?_ ?_)<;>intros)
theorem l8 {c2:Nat} {E:Er->An->Prop} (ht:A9 enc 192 (λb=>[pv b d]) A) (hF:Rd.Bn A) (f2:st0.box c2=none/\c2≠b)
 (hc:Cx (st0.Aa c2 [.bool (l.any λx=> !(x.kind==50))]) b s st rows) (h:Rd.wp (IZ A l) s Q E)
 (k:∀n s1 U,mu s1<mu s->Cx (st0.Aa c2 [.bool ((l++[n]).any λx=> !(x.kind==50))]) b s1 U rows->Q n s1->K (.ret (enc n)) U)
 (kb:∀e s1 U,Cy st0 b s1 U rows->E e s1->K (.B7 (fault e.1)) U):PC 191 [zZ b d,.ptr c2 0] st K:=by
 simp only [IZ,Rd.Ah,Rd.wp_seq,Rd.Aq,Rd.wp_ret,Rd.Du] at h
 simp only [List.any_append,List.any_cons,List.any_nil,Bool.or_false] at k
 have hmu:=hc.mu
 generalize (l.any λx=> !(x.kind==50))=o at hc h k
 refine AM Ac [] Tryz.func191 rfl Do rfl ?_
 refine Ad (Af Ac ?_)
 repeat' ((conv=>whnf);(first|refine BS ?_|fail)<;>intros)
 refine Ad (Af Ac ?_)
 repeat' ((conv=>whnf);first|(refine BS ?_;intros)|refine Ct ?_|refine QY hc.has ?_ (λt u o1 o2 e=>?_))
 all_goals refine Ad (Af Ac ?_)
 all_goals (repeat' ((conv=>whnf);first|(refine BS ?_;intros)|refine Ct ?_|refine A9.vX ht hF hc h (λn s1 U hr hm hc h=>?_) (λe s1 U hc h=>?_)|exact ⟨_,_,.inl rfl,St.le_refl _,kb _ _ _ (hc.unbox f2) h⟩|fail))
 all_goals cases hk:n.kind==50
 all_goals cases o
 all_goals simp only [hk,Bool.and_false,Bool.and_true,Bool.false_and,Bool.true_and,Bool.false_eq_true,if_false,if_true] at h
 all_goals have hk2:=hk
 all_goals simp only [beq_iff_eq,beq_eq_false_iff_ne] at hk2
 all_goals refine Af Ac ?_
 all_goals (repeat' ((conv=>whnf);first|(refine BS ?_;intros)|refine Am (Cx.boxed hc f2) ?_|refine GP hc hmu (λU hc=>?_)|refine Ct ?_|exact AF rfl (k _ _ _ hm (by rw [hk]<;>exact Cx.wz hc f2.2) h)|exact AF rfl (k _ _ _ hm (by exact Cx.wz hc f2.2) h)|exact ⟨_,_,.inl rfl,St.le_refl _,kb _ _ _ (hc.y.unbox f2) h⟩|fail))
theorem bH {X:An->Rs} {hle:∀s v s',X s=.inr (v,s')->mu s'<=mu s} (h:∀s v s',X s=.inr (v,s')->mu s'<mu s):Rd.Bn (H0 X hle):=λs v s' e=>h s v s' (by
 unfold H0 at e
 dsimp only at e
 split at e
 .split at e<;>cases e
 .rename_i U;rw [U];injection e with e;rw [e])
theorem wP {hle:∀s v s',Dc A s=.inr (v,s')->mu s'<=mu s} {E:Er->An->Prop} (h:Rd.wp A s Q E):Rd.wp (H0 (Dc A) hle) s Q E:=by
 have e:(H0 (Dc A) hle).run s=A.run s:=by
  unfold H0 Dc
  dsimp only
  cases U:A.run s with
  |inl p=>simp only [U];rw [dif_neg p.1.2]
  |inr p=>simp only [U]
 unfold Rd.wp at h |-
 rw [e];exact h
theorem nJ (hf:DB g (d:Int) (Dc A)) (h0:d=0->∀s,Dc A s=.inl (2,s)):A9 enc 110 (λb=>[.ptr b 0,.func g [] [],.int .i64 (d:Int)]) A:=
 ⟨λ{st0 b s st rows K} hc h=>(Nz (A:=Dc A) (hle:=λs v s' e=>by
   unfold Dc at e
   split at e
   .cases e
   .rename_i p hp;cases e;exact A.le _ _ _ hp) (λs e s' U=>by
   unfold Dc at U
   split at U
   .rename_i p hp;cases U;exact p.1.2
   .cases U) hf h0).ap hc (wP h)⟩
theorem ja (U:1<=d) (h1:d<=100):A9 enc 110 (λb=>[.ptr b 0,.func 226 [] [],.int .i64 (d:Int)]) (T8 d):=
 nJ (λs hm st R h=>vG (deep:=(d:Int)) hm (by rw [Rb U h1];exact h)) (λe=>by omega)
theorem bX (h1:d<=100):A9 enc 110 (λb=>[.ptr b 0,.func 326 [] [],.int .i64 (d:Int)]) (Ou d):=
 nJ (λs U st R h=>rn (deep:=(d:Int)) U (by
  cases d with
  |zero=>exact h
  |succ d=>rw [Rb (Nat.succ_le_succ (Nat.zero_le d)) h1];exact h)) (λe=>by subst e;intro s;rfl)
theorem vn (U:1<=d) (h1:d<=100):A9 enc 192 (λb=>[pv b d]) (lh d):=by
 have ha:=qJ U h1
 have hr:=vp U h1
 have hw:=ll U h1
 have hA:Rd.Bn (Xv d):=bH λs v s' e=>BQ (BJ _) _ _ _ e
 have hc:=dG hA (qZ ha) (ld (Tg ha) hw)
 have hd:A9 enc 110 (λb=>[.ptr b 0,.func 326 [] [],.int .i64 ((d:Int) - 1)]) (Ou (d - 1)):=by
  have:=bX (d:=d - 1) AC
  rwa [show (((d - 1:Nat)):Int)=(d:Int) - 1 by omega] at this
 exact vt af (al hr hw O2) (qK hc hr) (ah hc hr) (kV hr hd h1) (Xy hr hd h1) (Xw hw) (ab (qP U h1)) (ja U h1)
theorem kU (ht:A9 enc 192 (λb=>[pv b d]) A) (hF:Rd.Bn A):A9 enc 156 (λb=>[pv b d]) (Ki A):=by
 refine ⟨λ{st0 b s st rows K} hc h=>?_⟩
 refine AM Ac [] Tryz.func156 rfl Do rfl ?_
 refine Ad (Af Ac ?_)
 repeat' ((conv=>whnf);(first|  fail)<;>intros)
 refine P7 1 0 rfl rfl rfl ?_
 refine Ad (Af Ac ?_)
 repeat' ((conv=>whnf);(first|  fail)<;>intros)
 refine Mg 3 2 rfl rfl rfl (λc fc=>?_)
 have U:=hc.VL fc
 have hc:=hc.W7 (cs:=[.bool false]) fc
 have hB:∀{K:As->St->Prop},Rd.wp (Ki A) s (λn s'=>∀(l:List Nd) st',Cx (st0.Aa c [.bool (l.any λx=> !(x.kind==50))]) b s' st' rows->K (.ret (enc n)) st') (λe s'=>∀st',Cy st0 b s' st' rows->K (.B7 (fault e.1)) st')->PC 189 [.ptr b 0,.func 190 [] [],.func 191 [] [zZ b d,.ptr c 0]] (st.Aa c [.bool false]) K:=λh=>
  T4 (fs:=[]) (cs:=[zZ b d,.ptr c 0]) (starts:=UR) (base:=λl=>st0.Aa c [.bool (l.any λx=> !(x.kind==50))]) (item:=IZ A) (λk=>lk k)
   (λl s st rows K Q E hc h k kb=>l8 ht hF U hc h k kb) (λhc=>hc.unbox U) hc h
 refine Af Ac ?_
 repeat' ((conv=>whnf);first|  refine hB (Rd.wp_mono h (λv s' r q l st' hk=>?_) (λe s' r q st' hk=>?_))|exact De (hk.unbox U) q rfl|exact De (hk.unbox U) q Cb|exact B1 hk q|fail)
theorem dF (U:1<=d) (h1:d<=100):A9 enc 156 (λb=>[pv b d]) (IA d):=kU (vn U h1) (bJ d)
end
section
variable {st0 st:St} {b d c:Nat} {s:An} {K R:As->St->Prop}
theorem vq (hA:A9 enc g (λb=>[pv b d]++cs) A) (hx:st.box c=some [.func g [] cs]) (hs:Has st b s) (hm:mu s<=100000000) (ht:E5 st b K (Dc A s)):PC 188 [.ptr b 0,.int .i64 (d:Int),.ptr c 0] st K:=by
 have U:∀{K:As->St->Prop},E5 st b K (Dc A s)->PC g ([pv b d]++cs) st K:=λh=>Ta hA hs hm h
 refine pB Tryz.func188 ?_
 unfold Dc at *
 cases hr:A.run s with
 |inl p=>
  rw [hr] at ht U
  repeat' ((conv=>whnf);first|  refine Am hx ?_|refine Bl.2 ?_|refine U (λst1 hu=>?_))
  all_goals exact ⟨_,_,.inl rfl,St.le_refl _,ht _ hu⟩
 |inr p=>
  rw [hr] at ht U
  repeat' ((conv=>whnf);first|  refine Am hx ?_|refine Bl.2 ?_|refine U (λst1 hu=>?_))
  all_goals exact AF rfl (ht _ hu)
theorem q7 {A:Nat->Rd Nd} (hA:∀d:Nat,1<=d->d<=100->A9 enc g (λb=>[pv b d]++cs) (A d)) (hm:mu s<=100000000) (h:K (.ret (Ko (B9 s deep (Dc (A (DZ deep)) s)))) st):
 PC 155 [D9 s,.int .i64 deep,.func g [] cs] st K:=by
 refine AM Ac [] Tryz.func155 rfl Do rfl ?_
 refine Ad (Af Ac ?_)
 repeat' ((conv=>whnf);(first|  fail)<;>intros)
 refine Mg 5 1 rfl rfl rfl (λc fc=>?_)
 refine Af Ac ?_
 have hq:¬deep<1->∀(b:Nat) (U:St) (R:As->St->Prop),(st.Aa c [.func g [] cs]).le U->Has U b s->E5 U b R (Dc (A (DZ deep)) s)->PC 188 [.ptr b 0,.int .i64 (if 100<deep then 100 else deep),.ptr c 0] U R:=λhd b U R hle hs ht=>by
  have e:(if 100<deep then 100 else deep)=((DZ deep:Nat):Int):=by unfold DZ;split<;>omega
  rw [e]
  exact vq (hA _ (by unfold DZ;split<;>omega) (by unfold DZ;split<;>omega)) (hle.1 _ _ (St.Ai ..)) hs hm ht
 obtain ⟨n,s',e,hq3⟩:∃n s' e,B9 s deep (Dc (A (DZ deep)) s)=(n,s',e):=⟨_,_,_,rfl⟩
 rw [hq3] at h
 have hcat:∀{K:As->St->Prop},K (.ret (Rl n s' e)) (st.Aa c [.func g [] cs])->PC 64 [D9 s,.int .i64 deep,.func 188 [] [.ptr c 0]] (st.Aa c [.func g [] cs]) K:=λk=>eh (s:=s) (q:=Dc (A (DZ deep)) s) hq (by rw [hq3];exact k)
 repeat' ((conv=>whnf);(first|  refine hcat ?_)<;>intros)
 all_goals exact EK (St.Ag (St.le_refl _) fc.1 _) rfl h
theorem lA (hm:mu s<=100000000) (h:K (.ret (Ko (B9 s deep (Dc (IA (DZ deep)) s)))) st):PC 111 [D9 s,.int .i64 deep] st K:=by
 refine pB Tryz.func111 ?_
 repeat' ((conv=>whnf);(first|  refine q7 (s:=s) (cs:=[]) (A:=IA) (λd U h1=>dF U h1) hm ?_)<;>intros)
 all_goals exact AF rfl h
end
section
variable {st:St} {K:As->St->Prop}
attribute [local irreducible] Go.Aw.Aj
theorem jG:A9 enc 220 (λb=>[pv b d]++[.Gd [.bool o] 0]) (EZ o):=by
 refine ⟨λ{st0 b s st rows K} U h=>?_⟩
 refine pB Tryz.func220 ?_
 repeat' ((conv=>whnf);first|  refine A9.go (UP (o:=o)) U h (λn s1 st1 hr hm U h=>?_) (λe s1 st1 U h=>?_)|exact De U h rfl|exact De U h Cb|exact B1 U h|fail)
theorem lB (U:mu s<=100000000) (h:K (.ret (Ko (B9 s 1 (Dc (EZ o) s)))) st):PC 187 [D9 s,.bool o] st K:=by
 refine AM Ac [] Tryz.func187 rfl Do rfl ?_
 refine Ad (Af Ac ?_)
 repeat' ((conv=>whnf);first|  fail)
 refine P7 3 1 rfl rfl rfl ?_
 refine Af Ac ?_
 repeat' ((conv=>whnf);first|  refine q7 (s:=s) (deep:=1) (cs:=[.Gd [.bool o] 0]) (A:=λ_=>EZ o) (λd h0 h1=>jG) U ?_)
 all_goals exact AF rfl h
end
def F0:Rd (List Nd):=.look λs=>if BB s 9 XF=true then .seq A4 λm=>.seq (C8 [2,4]) λn=>.look λs=>
 if BB s 15 [40]=true then .seq (EZ false) λx=>.seq (BG 9 Kk) λw=>.ret ([m]++[n]++[x]++[w]) else .seq (BG 9 Kk) λw=>.ret ([m]++[n]++[w])
 else .ret []
def NJ (A:Rd Nd):Rd Nd:=.seq F0 λl=>.seq A λb=>.look λs=>if ((Ae s).1.kind==21)=true then .ret (At 53 (l++[b])) else Q2
def CQ (d:Nat):Rd Nd:=NJ (IA d)
theorem bU {s':An} (h:F0.run s=.inr (l,s')):l.length<=4:=by
 replace h:(if BB s 9 XF=true then .seq A4 λm=>.seq (C8 [2,4]) λn=>.look λs=>
  if BB s 15 [40]=true then .seq (EZ false) λx=>.seq (BG 9 Kk) λw=>.ret ([m]++[n]++[x]++[w]) else .seq (BG 9 Kk) λw=>.ret ([m]++[n]++[w])
 else .ret []:Rd (List Nd)).run s=.inr (l,s'):=h
 split at h
 .obtain ⟨m,s1,_,h⟩:=Bm h
  obtain ⟨n,s2,_,h⟩:=Bm h
  replace h:(if BB s2 15 [40]=true then .seq (EZ false) λx=>.seq (BG 9 Kk) λw=>.ret ([m]++[n]++[x]++[w]) else .seq (BG 9 Kk) λw=>.ret ([m]++[n]++[w]):Rd (List Nd)).run s2=.inr (l,s'):=h
  split at h
  .obtain ⟨x,s3,_,h⟩:=Bm h
   obtain ⟨w,s4,_,h⟩:=Bm h
   cases h;simp
  .obtain ⟨w,s4,_,h⟩:=Bm h
   cases h;simp
 .cases h;simp
section
variable {st0 st:St} {b d:Nat} {s:An} {rows:List (AH×List Nd)} {K R:As->St->Prop}
attribute [local irreducible] Go.Aw.Aj
theorem ee:E4 (Dc A):=λs e s' U=>by
 unfold Dc at U
 split at U
 .rename_i p hp;cases U;exact p.1.2
 .cases U
theorem nI {x:Int} (hf:∀(s:An),mu s<=100000000->∀(st:St) (R:As->St->Prop),R (.ret (Ko (B9 s 1 (Dc A s)))) st->PC g [D9 s,.int .i64 x] st R):
 A9 enc 110 (λb=>[.ptr b 0,.func g [] [],.int .i64 x]) A:=⟨λ{st0 b s st rows K} U h=>by
 have ht:=Tc (A:=Dc A) (hle:=λs v s' e=>by
  unfold Dc at e
  split at e
  .cases e
  .rename_i p hp;cases e;exact A.le _ _ _ hp) ee U (wP h)
 have hf:=hf s U.mu
 unfold B9 at hf
 simp only [show ¬(1:Int)<1 by decide,if_false] at hf
 cases hq:Dc A s with
 |inr p=>
  rw [hq] at ht hf
  exact RY (n:=p.1) (s':=p.2) (e:=0) hf U.has (λ_=>ht) (λe=>absurd rfl e)
 |inl p=>
  rw [hq] at ht hf
  have hne:=ee s p.1 p.2 hq
  exact RY (n:=Hv) (s':=p.2) (e:=p.1) hf U.has (λe=>absurd e hne) (λ_=>ht)⟩
theorem oJ {x:Int} (hm:mu s<=100000000) (h:K (.ret (Ko (B9 s 1 (Dc (EZ false) s)))) st):PC 152 [D9 s,.int .i64 x] st K:=by
 obtain ⟨n,t,e,U⟩:∃n t e,B9 s 1 (Dc (EZ false) s)=(n,t,e):=⟨_,_,_,rfl⟩
 have hn:∀{st:St} {K:As->St->Prop},K (.ret (Rl n t e)) st->PC 187 [D9 s,.bool false] st K:=λh=>lB hm (by rw [U];exact h)
 rw [U] at h
 refine pB Tryz.func152 ?_
 repeat' ((conv=>whnf);first|  refine hn ?_)
 all_goals exact AF rfl h
theorem cF:ru pW (λl=>l) 109 (λb=>[.ptr b 0]) F0:=by
 refine ⟨λ{st0 b s st rows K} hc h=>?_⟩
 simp only [F0,Rd.Ah,Rd.Aq,Rd.wp_seq,Rd.wp_ret] at h
 have hmu:=hc.mu
 have hn:A9 enc 110 (λb=>[.ptr b 0,.func 152 [] [],.int .i64 0]) (EZ false):=nI λs hm st R h=>oJ hm h
 refine pB Tryz.func109 ?_
 repeat' ((conv=>whnf);first|(refine AE ?_;intros)|(refine U2 ?_ ?_<;>intro U hc e h)|(refine Tt ?_;intro s1 U hz hm hc h)|(refine Lh ?_ ?_<;>(first|intro n s1 U hr hm hc h|intro e s1 U hc h))|exact G9|(refine Tx ?_;intro own1 U hc)|refine A9.go (En (ks:=[2,4]) rfl) hc h (λn s1 U hr hm hc h=>?_) (λe s1 U hc h=>?_)|refine A9.go hn hc h (λn s1 U hr hm hc h=>?_) (λe s1 U hc h=>?_)|refine Cx.HN (l:=[_]) (hc.push [_]) (Nat.le_of_ble_eq_true rfl) (λown1 U hc=>?_)|exact fin (h .full _ (hc.push [])) rfl|fail)
theorem cE {Q:List Nd->An->Prop} (hc:Cx st0 b s st rows) (h:Rd.wp F0 s Q E)
 (k:∀l own1 s1 U,l.length<=4->mu s1<=mu s->Cx st0 b s1 U ((own1,l)::rows)->Q l s1->K (.ret (pW l own1)) U) (kb:∀e s1 U,Cy st0 b s1 U rows->E e s1->K (.B7 (fault e.1)) U):PC 109 [.ptr b 0] st K:=
 ru.go cF hc h (λl own1 s1 U hr hm hc h=>k l own1 s1 U (bU hr) hm hc h) kb
theorem cJ (h0:1<=d) (h1:d<=100):A9 enc 65 (λb=>[.ptr b 0,.int .i64 (d:Int)]) (CQ d):=by
 refine ⟨λ{st0 b s st rows K} hc h=>?_⟩
 simp only [CQ,NJ,Rd.Ah,Rd.Aq,Rd.wp_seq,Rd.wp_ret] at h
 have hmu:=hc.mu
 have hb:A9 enc 110 (λb=>[.ptr b 0,.func 111 [] [],.int .i64 (d:Int)]) (IA d):=nJ (λs hm st R h=>lA hm (by rw [Rb h0 h1];exact h)) (λe=>by omega)
 refine pB Tryz.func65 ?_
 repeat' ((conv=>whnf);first|refine Gk h (λe h=>?_) (λe h=>?_)|(refine dT ?_;intro U hc)|(refine Yt6 ?_;intro e s1 U hc h)|exact G9|(refine Tx ?_;intro own1 U hc)|refine cE hc h (λl own1 s1 U hl hm hc h=>?_) (λe s1 U hc h=>?_)|refine A9.go hb hc h (λn s1 U hr hm hc h=>?_) (λe s1 U hc h=>?_)|refine Cx.HN (l:=l) hc AC (λown1 U hc=>?_))
theorem lz (hm:mu s<=100000000) (h:R (.ret (Ko (B9 s deep (Dc (CQ (DZ deep)) s)))) st):PC 40 [D9 s,.int .i64 deep] st R:=by
 obtain ⟨n,t,e,U⟩:∃n t e,B9 s deep (Dc (CQ (DZ deep)) s)=(n,t,e):=⟨_,_,_,rfl⟩
 have hc:∀{K:As->St->Prop},K (.ret (Rl n t e)) st->PC 64 [D9 s,.int .i64 deep,.func 65 [] []] st K:=λh=>M7 (s:=s) (q:=Dc (CQ (DZ deep)) s) (λhd b st5 R hs ht=>by
  have e:(if 100<deep then 100 else deep)=((DZ deep:Nat):Int):=by unfold DZ;split<;>omega
  rw [e]
  exact Ta (cJ (by unfold DZ;split<;>omega) (by unfold DZ;split<;>omega)) hs hm ht) (by rw [U];exact h)
 rw [U] at h
 refine pB Tryz.func40 ?_
 repeat' ((conv=>whnf);first|  refine hc ?_)
 all_goals exact AF rfl h
end
end Go.Proofs.Z
namespace Go.Aw
open Go
abbrev fw (ro:Option Nat):Fence:={Fence.wide with round:=ro}
section
variable {P:Program} {n:Nat} {ro:Option Nat}
theorem me {args:Array Value} {R:Ending->World->Prop} (h:Calls P f args w R):CallsIn (fw ro) n P f args w R:=callsIn_wide.2 h
theorem uO {row:String} {args:Array Value} {R:Value->World->Prop} (h:Rows P row args w R):RowsIn (fw ro) n P row args w R:=λc cs _=>let ⟨v,w',r,s⟩:=h c cs;⟨v,w',r,stepsIn_wide.2 s⟩
theorem wo {o:Oper} {a:Act} {next next':Act->World->Prop} {Q0 Q:Exit->Act->World->Prop} (nd:∀c,o.op≠.defer c) (h:o.wp P a w next Q0) (hn:∀a w,next a w->next' a w) (hq:∀e a w,e≠.normal->Q0 e a w->Q e a w):o.wpIn (fw ro) n P a w next' Q:=by
 refine ⟨λ_ _=>trivial,?_⟩
 rw [Oper.semAt_eq _ _ _ nd]
 unfold Oper.wp at h
 generalize (execOp a.eval o).run P w=r at h
 cases r with
 |ok x w'=>
  cases x<;>simp only [Oper.upon] at h<;>simp only [Oper.uponIn]
  all_goals first
   |exact hn _ _ h
   |exact ⟨λe=>(by cases e),(me h).mono λe w'' U=>by cases e<;>first|exact hn _ _ U|exact hq _ _ _ GT U|exact U.imp λa U=>U.imp λw U=>hq _ _ _ GT U⟩
   |exact ⟨λe=>(by cases e),(uO h).mono λv w'' U=>hn _ _ U⟩
 |halt x w'=>cases x<;>simp only [Oper.upon] at h<;>simp only [Oper.uponIn]<;>exact hq _ _ _ GT h
theorem Qm {ops:Array Oper} {Q0 Q:Exit->Act->World->Prop} (hl:¬LetsOut Q0) (hq:∀e a w,e≠.normal->Q0 e a w->Q e a w) {l2:List Oper} (hN:∀a w,Q0 .normal a w->wpListIn (fw ro) n P ops Q l2 a w):
 ∀(l1:List Oper) (a:Act) (w:World),(∀o ∈ l1,∀c,o.op≠.defer c)->wpList P ops Q0 l1 a w->wpListIn (fw ro) n P ops Q (l1++l2) a w
 |[],a,w,_,h=>hN a w h
 |o::r,a,w,nd,h=>by
  have ih:=Qm hl hq hN r
  unfold wpList at h
  rw [List.cons_append]
  unfold wpListIn
  split
  .rename_i hw
   rw [if_pos hw] at h
   rcases h with h|h
   .exact wo (nd o List.mem_cons_self) h (λa w h=>ih a w (λo U=>nd o (List.mem_cons_of_mem _ U)) h) hq
   simp_all
  .rename_i hw
   rw [if_neg hw] at h
   exact ⟨λ_ _=>trivial,ih _ w (λo U=>nd o (List.mem_cons_of_mem _ U)) h⟩
theorem lL {ops:Array Oper} {md:Region.Mode} {Q0:Exit->Act->World->Prop} (hl:¬LetsOut Q0) (U:∀o ∈ ops.toList,∀c,o.op≠.defer c):∀(fuel:Nat) (listed:Array Bool) (a:Act) (w:World),
 wpAny P md ops Q0 fuel listed a w->wpAnyIn (fw ro) n P md ops Q0 fuel listed a w
 |0,listed,a,w,h=>h
 |fuel+1,listed,a,w,h=>by
  have ih:=lL (md:=md) hl U fuel
  refine ⟨h.1,λi hi=>?_⟩
  have h2:=h.2 i hi
  unfold wpOp at h2
  unfold wpOpIn
  split
  .simp_all
  .rename_i o ho
   rw [ho] at h2
   dsimp only at h2
   split
   .rename_i hw
    rw [if_pos hw] at h2
    rcases h2 with h2|h2
    .exact wo (U o (by grind)) h2 (λa w h=>ih _ a w h) (λ_ _ _ _ h=>h)
    simp_all
   .rename_i hw
    rw [if_neg hw] at h2
    exact ⟨λ_ _=>trivial,ih _ _ _ h2⟩
theorem NH {D:List Deferred} {I0:Mem} {w0:World} {Q:AP->Env->St->Prop}:¬LetsOut (Dn D I0 st0 w0 Q):=by
 rintro ⟨a,w,I,β,env,st,U,_,h,_⟩
 cases U<;>exact h
end
def Qq (l:List Oper):Bool:=l.all λo=>match o.op with| .defer _=>false|_=>true
theorem KY {l:List Oper} (h:Qq l=true):∀o ∈ l,∀c,o.op≠.defer c:=λo U c e=>by
 have:=List.all_eq_true.1 h o U
 simp_all
def GV:Code->Bool
 | .skip=>true
 | .region _ ops _=>Qq ops.toList
 | .seq x y=>GV x&&GV y
 | .cond _ x y=>GV x&&GV y
 | .block _ c=>GV c
 |_=>false
section
variable {P:Program} {T:List (Nat×Ty)}
def AWr (P:Program) (ro:Option Nat) (c:Code) (Q:AP->Env->St->Prop) (env:Env) (st:St):Prop:=
 ∀n D I0 st0 w0 I β a w,Rel D I0 st0 w0 I β env st a w->c.wpIn (fw ro) n P (Dn D I0 st0 w0 Q) a w
theorem Ok (hP:TU P T) (ro:Option Nat):∀(c:Code) {Q:AP->Env->St->Prop} {env:Env} {st:St},GV c=true->Qa T (Bo P) c Q env st->AWr P ro c Q env st
 | .skip,Q,env,st,_,k=>λn D I0 st0 w0 I β a w h=>wpIn_skip ⟨I,β,env,st,.normal,h,trivial,k⟩
 | .region id ops true,Q,env,st,U,k=>λn D I0 st0 w0 I β a w h=>by
   have hC:=Bq P
   have hM:∀f args st (R R':As->St->Prop),(∀r s,R r s->R' r s)->Bo P f args st R->Bo P f args st R':=λ_ _ _ _ _ h k=>k.mono h
   obtain ⟨sched,L,k1,k2⟩:=(show ∃(sched:List (Nat×Bool)) (L:List Nat),Ix sched ops.toList=true/\Fh T (Bo P) ops.toList sched L (Bv (L.map some) env.boxes) Q sched env st from k)
   refine wpIn_region_any hP.m (lL NH (KY U) _ _ _ _ ?_)
   have:=Us hP.t hC hM k1 k2 h
   omega
 | .region id ops false,Q,env,st,U,k=>λn D I0 st0 w0 I β a w h=>by
   have:=FJ hP.t (Bq P) h (show Iy T (Bo P) ops.toList Q ops.toList env st from k)
   have h2:=Qm (ro:=ro) (n:=n) (l2:=[]) NH (λ_ _ _ _ h=>h) (λa w h=>h) ops.toList a w (KY U) (by simpa using this)
   rw [List.append_nil] at h2
   exact wpIn_region_list h2
 | .seq x y,Q,env,st,U,k=>λn D I0 st0 w0 I β a w h=>by
   simp only [GV,Bool.and_eq_true] at U
   refine wpIn_seq (wpIn_mono (Ok hP ro x U.1 (show Qa T (Bo P) x _ env st from k) n D I0 st0 w0 I β a w h) ?_)
   rintro e a w ⟨I,β,env,st,ae,h1,h2,h3⟩
   cases ae with
   |normal=>cases e<;>first|exact Ok hP ro y U.2 h3 n D I0 st0 w0 I β a w h1|exact h2.elim
   |exit i=>cases e<;>first|exact ⟨I,β,env,st,.exit i,h1,h2,h3⟩|exact h2.elim
   |goto i=>cases e<;>first|exact ⟨I,β,env,st,.goto i,h1,h2,h3⟩|exact h2.elim
   |ret=>cases e<;>first|exact ⟨I,β,env,st,.ret,h1,h2,h3⟩|exact h2.elim
   |B7 v=>cases e<;>first|exact ⟨I,β,env,st,.B7 v,h1,h2,h3⟩|exact h2.elim
 | .cond c x y,Q,env,st,U,k=>λn D I0 st0 w0 I β a w h=>by
   simp only [GV,Bool.and_eq_true] at U
   have hc:=h.f.eval c
   have k:(match env.eval c with
    | .bool t=>lit t (Qa T (Bo P) x Q env st) (Qa T (Bo P) y Q env st)
    |_=>False):=k
   split at k
   .rename_i t he
    rw [he] at hc
    have hc:=Jz hc
    cases t with
    |true=>exact wpIn_cond_true hc (Ok hP ro x U.1 (show Qa T (Bo P) x Q env st from k) n D I0 st0 w0 I β a w h)
    |false=>exact wpIn_cond_false hc (Ok hP ro y U.2 (show Qa T (Bo P) y Q env st from k) n D I0 st0 w0 I β a w h)
   simp_all
 | .block id c,Q,env,st,U,k=>λn D I0 st0 w0 I β a w h=>by
   refine wpIn_block (wpIn_mono (Ok hP ro c U (show Qa T (Bo P) c _ env st from k) n D I0 st0 w0 I β a w h) ?_)
   rintro e a w ⟨I,β,env,st,ae,h1,h2,h3⟩
   cases ae with
   |normal=>cases e<;>first|exact ⟨I,β,env,st,.normal,h1,trivial,h3⟩|exact h2.elim
   |exit i=>
    cases e<;>try exact h2.elim
    rename_i i'
    have h2:i'=i:=h2
    subst h2
    simp only [Mp] at h3
    show (if i'=id then Dn D I0 st0 w0 Q .normal a w else Dn D I0 st0 w0 Q (.exit i') a w)
    by_cases hi:i'=id
    .subst hi
     rw [if_pos rfl]
     simp only [Nat.beq_refl,cond_true] at h3
     exact ⟨I,β,env,st,.normal,h1,trivial,h3⟩
    .rw [if_neg hi]
     have:Nat.beq i' id=false:=by
      cases hb:Nat.beq i' id with
      |false=>rfl
      |true=>simp_all
     rw [this] at h3
     exact ⟨I,β,env,st,.exit i',h1,rfl,h3⟩
   |goto i=>cases e<;>first|exact ⟨I,β,env,st,.goto i,h1,h2,h3⟩|exact h2.elim
   |ret=>cases e<;>first|exact ⟨I,β,env,st,.ret,h1,h2,h3⟩|exact h2.elim
   |B7 v=>cases e<;>first|exact ⟨I,β,env,st,.B7 v,h1,h2,h3⟩|exact h2.elim
 | .loop _,_,_,_,U,_| .exit _,_,_,_,U,_| .goto _,_,_,_,U,_| .label _,_,_,_,U,_| .ret,_,_,_,U,_| .rangeFunc ..,_,_,_,U,_| .scope _,_,_,_,U,_| .refuse _,_,_,_,U,_=>by cases U
end
section
variable {D:List Deferred} {P:Program} {T:List (Nat×Ty)} {I0 I:Mem} {st0 st:St} {w0 w:World} {β:Nat->Option Nat} {env:Env} {a:Act}
theorem uw {l:Nat} {o:Nat} {v:Value} (U:w.heap[l]? =some (.loop r)) (h:w.cell? ⟨b,o,none⟩=some v):b≠l:=by
 rintro rfl
 simp [World.cell?,U] at h
theorem CL.put {l:Nat} {r':Loop} (h:CL I st w) (U:w.heap[l]? =some (.loop r)):CL I st (w.putObj l (.loop r')):=by
 have ne:∀{b:Nat} {c:Array Value} {ty:TypeId},w.heap[b]? =some (.cells c ty (0,0))->b≠l:=λe=>by grind
 refine ⟨λb o v e=>?_,λb n e=>?_,λb cs e=>?_,h.IE,λb n e=>?_,h.TQ⟩
 .have e:=h.cell b o v e
  rw [Hr (World.putObj_heap_other (uw U e))];exact e
 .obtain ⟨c,ty,h1,h2⟩:=h.shape b n e
  exact ⟨c,ty,by rw [World.putObj_heap_other (ne h1)];exact h1,h2⟩
 .obtain ⟨vs,ty,h1,h2⟩:=h.box b cs e
  exact ⟨vs,ty,by rw [World.putObj_heap_other (ne h1)];exact h1,h2⟩
 .rw [World.putObj_size];exact h.hw b n e
def Idle (l:Nat) (st:St):Prop:=st.box l=none/\st.hw l=none
theorem Idle.fr {l:Nat} {U:Mem} {st':St} (h:Idle l st) (hl:l<w.heap.size) (hf:Fr I st w U st' w'):Idle l st'/\w'.heap[l]? =w.heap[l]? :=by
 refine ⟨?_,hf.Ie l hl h.1 h.2⟩
 have:¬(st'.box l≠none\/st'.hw l≠none):=λe=>by
  rcases hf.LY l e with e|e|e
  .omega
  .exact e h.1
  .exact e h.2
 exact ⟨Classical.byContradiction λe=>this (.inl e),Classical.byContradiction λe=>this (.inr e)⟩
theorem JZ {l:Nat} {o:Obj} (h:w.heap[l]? =some o):l<w.heap.size:=(Array.getElem?_eq_some_iff.1 h).1
def YS (P:Program) (l:Nat) (r:Loop) (Im:Mem) (vs:List V) (st:St) (K:St->Prop):Prop:=
 ∀n I w (U:List Value),Im.le I->CL I st w->Ap I vs U->w.heap[l]? =some (.loop r)->Idle l st->
  YieldAt (fw none) n P l U.toArray w λe w'=>e=.returned (.bool true)/\∃I' st',Fr I st w I' st' w'/\CL I' st' w'/\K st'
theorem YS.mono {l:Nat} {r:Loop} {Im:Mem} {vs:List V} {K K':St->Prop} (h:YS P l r Im vs st K) (k:∀st,K st->K' st):YS P l r Im vs st K':=λn I w U h1 h2 h3 h4 h5=>by
 obtain ⟨fn,tmps,assign,body,e,hr⟩:=h n I w U h1 h2 h3 h4 h5
 exact ⟨fn,tmps,assign,body,e,hr.mono λe w' ⟨e1,I',st',q1,q2,q3⟩=>⟨e1,I',st',q1,q2,k _ q3⟩⟩
def gb (P:Program) (T:List (Nat×Ty)) (assign body:Code) (env:Env) (st:St) (K:St->Prop):Prop:=
 Qa T (Bo P) assign (B2 (λenv st=>(env.boxes=[]/\(env.tmps.all λp=>p.2.plain)=true)/\Qa T (Bo P) body (B2 (λ_ st=>K st) rB) env st) rB) env st
theorem UF {v:V} {c:Value} (h:A6 I β v c) (U:v.plain=true):A6 I (λ_=>none) v c:=by
 cases v<;>first|exact h|cases U
theorem Rel.bare (h:IC D w0.heap.size I β env st a w) (hb:env.boxes=[]) (hp:(env.tmps.all λp=>p.2.plain)=true) {st':St} {U:Mem} (hs:CL U st' w') (hle:I.le U) {D':List Deferred}:Rel D' U st' w' U (λ_=>none) env st' {a with defers:=D'} w':=by
 refine ⟨Fr.refl,hs,⟨h.size,λt v e=>?_,λid cs e=>?_,(λid b e=>by cases e),(λi j b e=>by cases e),(λid b e=>by cases e),rfl⟩⟩
 .have hv:=List.all_eq_true.1 hp _ (Gi e)
  have:=UF (h.tmps t v e) hv
  have e2:v.plain=true:=hv
  cases v<;>first|exact A3.mono hle _ _ this|cases e2
 .rw [hb] at e;cases e
theorem rp (hP:TU P T) {l:Nat} {wm:World} {stm:St} {B:Nat} (hF:IC D B Im β env stm a wm) (hb:env.boxes=[]) (hp:(env.tmps.all λp=>p.2.plain)=true) {fn:FuncId} {p1 p2:Tmp} {assign body:Code} {df:Nat}
 (hr:r={state:=.ready,pending:=none,fn,tmps:=a.tmps,params:=#[p1,p2],assign,body,defers:=df}) (ok:(GV assign&&GV body)=true) (hlt:(Nat.blt p1 env.sz&&Nat.blt p2 env.sz)=true) {v1 v2:V} {K:St->Prop} (hv:(v1.plain&&v2.plain)=true)
 (h:gb P T assign body {env with tmps:=(p2,v2)::(p1,v1)::env.tmps} st K):YS P l r Im [v1,v2] st K:=by
 intro n I w cargs hle hs hargs hl hid
 simp only [Ap] at hargs
 obtain ⟨c1,r1,rfl,q1,c2,r2,rfl,q2,rfl⟩:=hargs
 simp only [Bool.and_eq_true] at ok hlt hv
 have hl1:p1<env.sz:=by simpa [Nat.blt_eq] using hlt.1
 have hl2:p2<env.sz:=by simpa [Nat.blt_eq] using hlt.2
 have hy:=run_yield (P:=P) (args:=#[c1,c2]) hl f9
 rw [hr] at hy
 have ht:(#[p1,p2].zip #[c1,c2]).foldl (λtmps (x:Nat×Value)=>match x with|(t,a)=>tmps.setIfInBounds t a) a.tmps=(a.tmps.setIfInBounds p1 c1).setIfInBounds p2 c2:=by
  simp [Array.zip]
 dsimp only at hy
 rw [ht] at hy
 refine ⟨fn,_,assign,body,hy,roundIn_of_wpIn trivial ?_⟩
 have hsz:=hF.size
 have r0:Rel [] I st w I (λ_=>none) {env with tmps:=(p2,v2)::(p1,v1)::env.tmps} st {tmps:=(a.tmps.setIfInBounds p1 c1).setIfInBounds p2 c2,defers:=[]} w:=by
  refine ⟨Fr.refl,hs,⟨f9,λt v e=>?_,λid cs e=>?_,λid b e=>(by cases e),λi j b e=>(by cases e),λid b e=>(by cases e),rfl⟩⟩
  .have key:∀{x:V} {c:Value},A3 I x c->x.plain=true->A6 I (λ_=>none) x c:=λh _=>A6.of h
   rw [Bs] at e
   cases hb2:Nat.beq p2 t with
   |true=>
    simp_all
   |false=>
    rw [hb2] at e
    have hn2:p2≠t:=λx=>by simp_all
    simp only [cond_false] at e
    rw [Bs] at e
    cases hb1:Nat.beq p1 t with
    |true=>
     simp_all
    |false=>
     rw [hb1] at e
     have hn1:p1≠t:=λx=>by simp_all
     simp only [cond_false] at e
     have hpl:v.plain=true:=List.all_eq_true.1 hp _ (Gi e)
     have h0:=UF (hF.tmps t v e) hpl
     have:((a.tmps.setIfInBounds p1 c1).setIfInBounds p2 c2).getD t undef=a.tmps.getD t undef:=by
      simp [Array.getD_eq_getD_getElem?,Array.getElem?_setIfInBounds_ne hn2,Array.getElem?_setIfInBounds_ne hn1]
     rw [this]
     cases v<;>first|exact A3.mono hle _ _ h0|cases hpl
  .rw [show ({env with tmps:=(p2,v2)::(p1,v1)::env.tmps}:Env).boxes=[] from hb] at e;cases e
 have hltl:=JZ hl
 refine wpIn_mono (Ok hP (some l) assign ok.1 h n [] I st w I _ _ w r0) ?_
 rintro e a1 w1 ⟨I1,β1,env1,st1,ae,r1,x1,k1⟩
 cases ae with
 |exit _|goto _|ret|B7 _=>exact k1.elim
 |normal=>
 cases e with
 |exit _|goto _|ret|panic _|outgrown=>exact x1.elim
 |normal=>
 obtain ⟨⟨b1,b2⟩,k1⟩:=k1
 obtain ⟨hid1,U⟩:=hid.fr hltl r1.fr
 rw [hl] at U
 have hrdy:r.state=.ready:=by rw [hr]
 refine ⟨_,run_beginRound U hrdy,?_⟩
 have hs2:CL I1 st1 (w1.putObj l (.loop {r with state:=.busy})):=r1.s.put U
 have r2:=Rel.bare (D':=[]) r1.f b1 b2 hs2 (Mem.le_refl _)
 have hd1:a1={a1 with defers:=[]}:=by
  have:=r1.f.defers
  cases a1;simp_all
 rw [hd1]
 refine wpIn_mono (Ok hP (some l) body ok.2 k1 n [] I1 st1 _ I1 _ _ _ r2) ?_
 rintro e a3 w3 ⟨I3,β3,env3,st3,ae,r3,x3,k3⟩
 cases ae with
 |exit _|goto _|ret|B7 _=>exact k3.elim
 |normal=>
 cases e with
 |exit _|goto _|ret|panic _|outgrown=>exact x3.elim
 |normal=>
 have hlt1:l<w1.heap.size:=JZ U
 obtain ⟨hid3,hl3⟩:=hid1.fr (w:=w1.putObj l (.loop {r with state:=.busy})) (by rw [World.putObj_size];omega) r3.fr
 rw [World.putObj_heap_same hlt1] at hl3
 refine ⟨_,_,run_endRound none hl3,?_⟩
 have hrr:({({r with state:=.busy}:Loop) with state:=if (none:Option Code).isNone then .ready else .done,pending:=none}:Loop)=r:=by rw [hr];rfl
 rw [hrr]
 refine ⟨rfl,I3,st3,?_,r3.s.put hl3,k3⟩
 have f1:=r1.fr
 have f3:=r3.fr
 have z1:(w1.putObj l (.loop {r with state:=.busy})).heap.size=w1.heap.size:=World.putObj_size
 have z3:(w3.putObj l (.loop r)).heap.size=w3.heap.size:=World.putObj_size
 have f13:Fr I1 st1 w1 I3 st3 (w3.putObj l (.loop r)):=by
  refine ⟨f3.os,f3.tape,f3.output,by rw [z3,<-z1];exact f3.size,λb hb h1 h2=>?_,f3.le,λb o h1 h2=>by rw [<-z1];exact f3.new b o h1 h2,λb h1 h2=>by rw [<-z1];exact f3.LZ b h1 h2,λb h1=>by rw [<-z1];exact f3.LY b h1⟩
  by_cases e:b=l
  .subst e
   rw [World.putObj_heap_same (JZ hl3),U]
  .rw [World.putObj_heap_other e,f3.Ie b AC h1 h2,World.putObj_heap_other e]
 exact f1.trans f13
def QL (P:Program) (l:Nat) (r:Loop) (Im:Mem) (c:Code) (Q:AP->Env->St->Prop) (env:Env) (st:St):Prop:=
 ∀D I0 st0 w0 I β a w,Im.le I0->w0.heap[l]? =some (.loop r)->Idle l st0->Rel D I0 st0 w0 I β env st a w->c.wp P (Dn D I0 st0 w0 Q) a w
variable {l:Nat} {r:Loop} {Im:Mem} {Q:AP->Env->St->Prop}
theorem QL.of (h:AW P c Q env st):QL P l r Im c Q env st:=λD I0 st0 w0 I β a w _ _ _ U=>h D I0 st0 w0 I β a w U
theorem GJ {x y:Code} (h:QL P l r Im x (B2 (λenv st=>QL P l r Im y Q env st) Q) env st):QL P l r Im (.seq x y) Q env st:=λD I0 st0 w0 I β a w g1 g2 g3 hr=>by
 refine wp_seq (wp_mono (h D I0 st0 w0 I β a w g1 g2 g3 hr) ?_)
 rintro e a w ⟨I,β,env,st,U,h1,h2,h3⟩
 cases U with
 |normal=>cases e<;>first|exact h3 D I0 st0 w0 I β a w g1 g2 g3 h1|exact h2.elim
 |exit i=>cases e<;>first|exact ⟨I,β,env,st,.exit i,h1,h2,h3⟩|exact h2.elim
 |goto i=>cases e<;>first|exact ⟨I,β,env,st,.goto i,h1,h2,h3⟩|exact h2.elim
 |ret=>cases e<;>first|exact ⟨I,β,env,st,.ret,h1,h2,h3⟩|exact h2.elim
 |B7 v=>cases e<;>first|exact ⟨I,β,env,st,.B7 v,h1,h2,h3⟩|exact h2.elim
theorem TS (h:QL P l r Im c (Mp id Q) env st):QL P l r Im (.block id c) Q env st:=λD I0 st0 w0 I β a w g1 g2 g3 hr=>by
 refine wp_block (wp_mono (h D I0 st0 w0 I β a w g1 g2 g3 hr) ?_)
 rintro e a w ⟨I,β,env,st,ae,h1,h2,h3⟩
 cases ae with
 |normal=>cases e<;>first|exact ⟨I,β,env,st,.normal,h1,trivial,h3⟩|exact h2.elim
 |exit i=>
  cases e<;>try exact h2.elim
  rename_i U
  have h2:U=i:=h2
  subst h2
  simp only [Mp] at h3
  show (if U=id then Dn D I0 st0 w0 Q .normal a w else Dn D I0 st0 w0 Q (.exit U) a w)
  by_cases hi:U=id
  .subst hi
   rw [if_pos rfl]
   simp only [Nat.beq_refl,cond_true] at h3
   exact ⟨I,β,env,st,.normal,h1,trivial,h3⟩
  .rw [if_neg hi]
   have:Nat.beq U id=false:=by
    cases hb:Nat.beq U id with
    |false=>rfl
    |true=>simp_all
   rw [this] at h3
   exact ⟨I,β,env,st,.exit U,h1,rfl,h3⟩
 |goto i=>cases e<;>first|exact ⟨I,β,env,st,.goto i,h1,h2,h3⟩|exact h2.elim
 |ret=>cases e<;>first|exact ⟨I,β,env,st,.ret,h1,h2,h3⟩|exact h2.elim
 |B7 v=>cases e<;>first|exact ⟨I,β,env,st,.B7 v,h1,h2,h3⟩|exact h2.elim
theorem lE (h:∃(α:Type) (E:α->Env) (S:α->St) (J:α->Prop) (U:α->Nat) (x0:α),J x0/\(E x0).E3 env/\St.le (S x0) st/\
 ∀x,J x->QL P l r Im c (B2 (λenv' st'=>∃y,J y/\U y<U x/\(E y).E3 env'/\St.le (S y) st') Q) (E x) (S x)):QL P l r Im (.loop c) Q env st:=λD I0 st0 w0 I β a w g1 g2 g3 hr=>by
 obtain ⟨α,E,S,J,U,x0,h0,he,hs,round⟩:=h
 refine Lg (λn a w=>∃I β x,Rel D I0 st0 w0 I β (E x) (S x) a w/\J x/\n=U x) (n0:=U x0) ⟨I,_,x0,(hr.H5 hs).Jf (Env.Js he),h0,rfl⟩ ?_
 rintro n a w ⟨I,β,x,h,hi,rfl⟩
 refine wp_mono (round x hi D I0 st0 w0 I β a w g1 g2 g3 h) ?_
 rintro e a w ⟨I,β,env,st,ae,h1,h2,h3⟩
 cases ae with
 |normal=>
  cases e<;>try exact h2.elim
  obtain ⟨y,q1,q2,q3,q4⟩:=h3
  exact ⟨U y,q2,I,_,y,(h1.H5 q4).Jf (Env.Js q3),q1,rfl⟩
 |exit i=>cases e<;>first|exact ⟨I,β,env,st,.exit i,h1,h2,h3⟩|exact h2.elim
 |goto i=>cases e<;>first|exact ⟨I,β,env,st,.goto i,h1,h2,h3⟩|exact h2.elim
 |ret=>cases e<;>first|exact ⟨I,β,env,st,.ret,h1,h2,h3⟩|exact h2.elim
 |B7 v=>cases e<;>first|exact ⟨I,β,env,st,.B7 v,h1,h2,h3⟩|exact h2.elim
theorem gR (hP:TU P T) {all pre post:List Oper} {oc:Oper} {c:Call} {f:Operand} (hall:all=pre++oc::post) (hnd:Qq all=true) (hc:oc.op=.call c) (hf:c.callee=.value f) (hg:oc.guard=none)
 (h:Iy T (Bo P) all (B2 (λenv st=>env.eval f=.lC l/\XJ env c.args.toList λvs=>YS P l r Im vs st λst'=>env.go oc.dst (.bool true) λenv=>Iy T (Bo P) all Q post env st') Q) pre env st):
 QL P l r Im (.region id all.toArray false) Q env st:=λD I0 st0 w0 I β a w g1 g2 g3 hr=>by
 have hC:=Bq P
 have nd:=KY hnd
 rw [<-wpIn_wide (n:=1)]
 refine wpIn_region_list (F:=fw none) (n:=1) ?_
 rw [show all.toArray.toList=pre++oc::post by rw [hall]]
 have hpre:∀o ∈ pre,∀c,o.op≠.defer c:=λo ho=>nd o f9
 refine Qm (ro:=none) (n:=1) (Q0:=Dn D I0 st0 w0 (B2 (λenv st=>env.eval f=.lC l/\XJ env c.args.toList λvs=>YS P l r Im vs st λst'=>env.go oc.dst (.bool true) λenv=>Iy T (Bo P) all Q post env st') Q)) NH ?_ ?_ pre a w hpre (FJ hP.t hC hr h)
 .rintro e a w hne ⟨I,β,env,st,ae,h1,h2,h3⟩
  cases ae with
  |normal=>cases e<;>first|exact absurd rfl hne|exact h2.elim
  |exit i=>exact ⟨I,β,env,st,.exit i,h1,h2,h3⟩
  |goto i=>exact ⟨I,β,env,st,.goto i,h1,h2,h3⟩
  |ret=>exact ⟨I,β,env,st,.ret,h1,h2,h3⟩
  |B7 v=>exact ⟨I,β,env,st,.B7 v,h1,h2,h3⟩
 .rintro a1 w1 ⟨I1,β1,env1,st1,ae,h1,h2,h3⟩
  cases ae with
  |exit _|goto _|ret|B7 _=>exact h2.elim
  |normal=>
  obtain ⟨he,h3⟩:=h3
  have hfv:=h1.f.eval f
  rw [he] at hfv
  have hfv':A3 I1 (.lC l) (a1.eval f):=hfv
  simp only [A3] at hfv'
  obtain ⟨vs,q1,q2⟩:=Gl h1.f h3
  obtain ⟨hid,hl⟩:=g3.fr (JZ g2) h1.fr
  rw [g2] at hl
  obtain ⟨fn,tmps,assign,body,hy,U⟩:=q2 (1 - 1) I1 w1 _ (Mem.le_trans g1 h1.fr.le) h1.s q1 hl hid
  have harr:(c.args.toList.map a1.eval).toArray=c.args.map a1.eval:=by apply Array.ext';simp
  rw [harr] at hy
  have hrun:(execOp a1.eval oc).run P w1=.ok (.round l fn tmps assign body) w1:=by
   simp only [execOp,hc,resolve,hf,hfv',Deferred.ofValue,Sem.run_bind,Sem.run_pure,Result.andThen_ok,invoke]
   simpa using hy
  unfold wpListIn
  rw [if_pos (by simp [Region.wanted,hg])]
  refine ⟨λ_ _=>trivial,?_⟩
  rw [Oper.semAt_eq _ _ _ f9,hrun]
  refine ⟨λe=>(by cases e),U.mono λe w' ⟨e1,I2,st2,f1,f2,k⟩=>?_⟩
  subst e1
  have r2:=h1.called f1 f2
  obtain ⟨env3,r3,k3⟩:=CY r2 (c:=.bool true) (A6.of H1) k
  have hpost:∀o ∈ post,∀c,o.op≠.defer c:=λo ho=>nd o f9
  have:=Qm (ro:=none) (n:=1) (l2:=[]) NH (λ_ _ _ _ h=>h) (λa w h=>h) post _ w' hpost (FJ hP.t hC r3 k3)
  simp_all
end
def bk:Obj->Bool
 | .loop _| .deferred _=>true
 |_=>false
section
variable {D:List Deferred} {P:Program} {T:List (Nat×Ty)} {I0 I:Mem} {st0 st:St} {w0 w:World} {β:Nat->Option Nat} {env:Env} {a:Act}
theorem rZ {l o:Nat} {x:Obj} {v:Value} (U:w.heap[l]? =some x) (hx:bk x=true) (h:w.cell? ⟨b,o,none⟩=some v):b≠l:=by
 rintro rfl
 cases x<;>first|(simp [World.cell?,U] at h;done)|cases hx
theorem Q3 {l:Nat} {x:Obj} {c:Array Value} (U:w.heap[l]? =some x) (hx:bk x=true) (h:w.heap[b]? =some (.cells c ty (0,0))):b≠l:=by
 rintro rfl
 rw [U] at h;cases h;cases hx
theorem CL.jX {l:Nat} {x y:Obj} (h:CL I st w) (U:w.heap[l]? =some x) (hx:bk x=true):CL I st (w.putObj l y):=by
 refine ⟨λb o v e=>?_,λb n e=>?_,λb cs e=>?_,h.IE,λb n e=>?_,h.TQ⟩
 .have e:=h.cell b o v e
  rw [Hr (World.putObj_heap_other (rZ U hx e))];exact e
 .obtain ⟨c,ty,h1,h2⟩:=h.shape b n e
  exact ⟨c,ty,by rw [World.putObj_heap_other (Q3 U hx h1)];exact h1,h2⟩
 .obtain ⟨vs,ty,h1,h2⟩:=h.box b cs e
  exact ⟨vs,ty,by rw [World.putObj_heap_other (Q3 U hx h1)];exact h1,h2⟩
 .rw [World.putObj_size];exact h.hw b n e
theorem Fr.jX {l:Nat} {y:Obj} (h:Fr I0 st0 w0 I st w) (U:w0.heap.size<=l):Fr I0 st0 w0 I st (w.putObj l y):=
 ⟨h.os,h.tape,h.output,by rw [World.putObj_size];exact h.size,λb hb h1 h2=>by rw [World.putObj_heap_other AC];exact h.Ie b hb h1 h2,h.le,h.new,h.LZ,h.LY⟩
theorem Rel.jX {l:Nat} {x y:Obj} (h:Rel D I0 st0 w0 I β env st a w) (U:w.heap[l]? =some x) (hx:bk x=true) (hw:w0.heap.size<=l):Rel D I0 st0 w0 I β env st a (w.putObj l y):=by
 refine ⟨h.fr.jX hw,h.s.jX U hx,⟨h.f.size,h.f.tmps,λid cs e=>?_,h.f.BU,h.f.inj,λid b e=>?_,h.f.defers⟩⟩
 .obtain ⟨b,h1,h2⟩:=h.f.box id cs e
  refine ⟨b,h1,?_⟩
  have hne:b≠l:=by
   rintro rfl
   rcases h2 with ⟨vs,ty,h2,_⟩|⟨s,pos,_,_,h2⟩
   .exact Q3 U hx h2 rfl
   .rw [U] at h2;cases h2;cases hx
  rw [World.putObj_heap_other hne];exact h2
 .rw [World.putObj_size];exact h.f.sep id b e
theorem CL.idle {l:Nat} (h:CL I st w) (U:w.heap.size<=l):Idle l st:=by
 refine ⟨?_,?_⟩
 .cases e:st.box l with
  |none=>rfl
  |some cs=>
   obtain ⟨vs,ty,h1,_⟩:=h.box l cs e
   simp_all
 .cases e:st.hw l with
  |none=>rfl
  |some n=>have:=(h.hw l n e).1;omega
theorem Vh (hP:TU P T) (hf:P.funcs[f]? =some fn) (hb:fn.body=some c) (hres:fn.results.toList=[]) {l:Nat} {K:St->Prop} (hle:Nat.ble args.length fn.ntmps=true)
 (h:QL P l r Im c (λae _ st=>(ae=.normal\/ae=.ret)/\K st) {tmps:=Ja 0 args,boxes:=[],BU:=0,sz:=fn.ntmps,gl:=[]} st) {U:List Value} (hm:Im.le I) (hs:CL I st w) (hargs:Ap I args U) (hl:w.heap[l]? =some (.loop r)) (hi:Idle l st):
 Calls P f U.toArray w λe w'=>(∃v,e=.returned v)/\∃I' st',Fr I st w I' st' w'/\CL I' st' w'/\K st':=by
 refine calls_of_wp hf hb (wp_mono (h [] I st w I _ _ w hm hl hi (Gz [] hs hargs hle)) ?_)
 rintro e a w' ⟨I1,β1,env1,st1,ae,h1,h2,h3,h4⟩
 have hret:a.defers=[]/\∃v,(results fn a.tmps).run P w'=.ok v w'/\((∃v',Ending.returned v=.returned v')/\∃I' st',Fr I st w I' st' w'/\CL I' st' w'/\K st'):=by
  obtain ⟨v,c,g1,g2,g3⟩:=CK (P:=P) (fn:=fn) (R:=λ_ s=>K s) hP.t h1 (by rw [hres];exact h4)
  exact ⟨h1.f.defers,c,g1,⟨_,rfl⟩,I1,st1,h1.fr,h1.s,g3⟩
 rcases h3 with rfl|rfl<;>(cases e<;>first|exact hret|exact h2.elim)
def yz (P:Program) (T:List (Nat×Ty)) (fn:Func) (g:Operand) (ps:Array Tmp) (assign body rest:Code) (R:As->St->Prop) (env:Env) (st:St):Prop:=
 (env.boxes=[]/\(env.tmps.all λp=>p.2.plain)=true)/\∃(gf:FuncId) (caps:List V) (K:St->Prop),(env.eval g=.func gf [] caps/\Plain P gf)/\
   (∀(D:List Deferred) (B:Nat) (Im:Mem) (β:Nat->Option Nat) (a:Act) (wm:World) (l df:Nat) (fi:FuncId),IC D B Im β env st a wm->
     ∀(I:Mem) (w:World) (U:List Value),Im.le I->CL I st w->Ap I caps U->w.heap[l]? =some (.loop {state:=.ready,pending:=none,fn:=fi,tmps:=a.tmps,params:=ps,assign,body,defers:=df})->Idle l st->
      Calls P gf (Value.func (.yield l) #[] #[]::U).toArray w λe w'=>(∃v,e=.returned v)/\∃I' st',Fr I st w I' st' w'/\CL I' st' w'/\K st')/\
   ∀st',K st'->AW P rest (λae env st=>(ae=.normal\/ae=.ret)/\Xc T fn R env st) env st'
theorem WZ (hP:TU P T) (gl:List Nat) {R:As->St->Prop} (hf:P.funcs[f]? =some fn) {c0 c1 c2 assign body rest:Code} {bid:Nat} {g:Operand} {ps:Array Tmp}
 (hb : fn.body = some (.seq c0 (.seq c1 (.seq (.seq c2 (.block bid (.rangeFunc g ps assign body))) rest)))) (hn : (fn.name == "runtime.NumGoroutine") = false) (hle : Nat.ble args.length fn.ntmps = true)
 (h:AW P c0 (B2 (λenv st=>AW P c1 (B2 (λenv st=>AW P c2 (B2 (rI (yz P T fn g ps assign body rest R)) rB) env st) rB) env st) rB) {tmps:=Ja 0 args,boxes:=[],BU:=0,sz:=fn.ntmps,gl} st):Bo P f args st R:=by
 refine ⟨?_,fn,hf,f9,hn⟩
 intro I w cargs hs hargs
 rw [<-callsIn_wide (n:=3)]
 refine callsIn_of_wp_marks hf hb trivial ?_
 have norm:∀{c:Code} {Q:Env->St->Prop} {n:Nat} {D:List Deferred} {I0:Mem} {st0:St} {w0:World} {X:Act->World->Prop} {Y:Exit->Act->World->Prop} {a:Act} {w:World},c.wp P (Dn D I0 st0 w0 (B2 Q rB)) a w->
  (∀I β env st a w,Rel D I0 st0 w0 I β env st a w->Q env st->X a w)->c.wpIn Fence.wide n P (Exit.then X Y) a w:=λh k=>by
  refine wpIn_wide.2 (wp_mono h ?_)
  rintro e a w ⟨I,β,env,st,ae,h1,h2,h3⟩
  cases ae with
  |exit _|goto _|ret|B7 _=>exact h3.elim
  |normal=>
  cases e with
  |exit _|goto _|ret|panic _|outgrown=>exact h2.elim
  |normal=>exact k I β env st a w h1 h3
 refine wpIn_seq (norm (h [] I st w I _ _ w (Gz gl hs hargs hle)) λI1 β1 env1 st1 a1 w1 r1 k1=>?_)
 refine wpIn_seq (norm (k1 [] I st w I1 β1 a1 w1 r1) λI2 β2 env2 st2 a2 w2 r2 k2=>?_)
 refine wpIn_seq (wpIn_seq (norm (k2 [] I st w I2 β2 a2 w2 r2) λI3 β3 env3 st3 a3 U r3 k3=>?_))
 refine wpIn_block ?_
 obtain ⟨I4,β4,env4,st4,r4,k4⟩:=k3 [] I st w I3 β3 a3 U r3
 obtain ⟨⟨b1,b2⟩,gf,caps,K,⟨hg,fg,q1,q2,q3⟩,hit,hrest⟩:=k4
 have hgv:=r4.f.eval g
 rw [hg] at hgv
 have hgv':A3 I4 (.func gf [] caps) (a3.eval g):=hgv
 simp only [A3,Ap] at hgv'
 obtain ⟨az,lb,hge,haz,hlb⟩:=hgv'
 subst haz
 refine wpIn_rangeFunc λfi hfi=>?_
 obtain ⟨rec,hrec⟩:∃rec:Loop,rec={state:=.ready,pending:=none,fn:=fi,tmps:=a3.tmps,params:=ps,assign,body,defers:=U.heap.size}:=⟨_,rfl⟩
 obtain ⟨W1,hW1⟩:∃W1,(U.alloc (.deferred (some []))).alloc (.loop rec)=W1:=⟨_,rfl⟩
 have hL1:W1.heap[U.heap.size+1]? =some (.loop rec):=by
  rw [<-hW1];have:=World.alloc_heap_new (U.alloc (.deferred (some []))) (.loop rec);rwa [World.size_alloc] at this
 have hK1:W1.heap[U.heap.size]? =some (.deferred (some [])):=by
  rw [<-hW1];exact (RowKit.Below.heap_alloc _ _ _ GT).trans (World.alloc_heap_new U _)
 have r5:Rel [] I st w I4 β4 env4 st4 a3 W1:=by rw [<-hW1];exact (r4.Ic (Gb.alloc _ _)).Ic (Gb.alloc _ _)
 have hidL:Idle (U.heap.size+1) st4:=r4.s.idle AC
 have hidD:Idle U.heap.size st4:=r4.s.idle (Nat.le_refl _)
 have hsz:w.heap.size<=U.heap.size:=r4.fr.size
 have heg:∀args w,(callFunc gf args).run P w=.ok (.enter gf args) w:=λargs w=>by
  have hb:fg.body.isNone=false:=by cases hb:fg.body<;>simp_all
  simp only [callFunc,Sem.run_bind,Sem.run_pure,Result.andThen_ok,run_program,q1]
  rw [q3]
  simp [hb]
 refine ⟨U.heap.size+1,[{target:=.collected U.heap.size,args:=#[]}],W1,{target:=.fn (.func gf) lb.toArray,args:=#[.func (.yield (U.heap.size+1)) #[] #[]]},W1,gf,#[.func (.yield (U.heap.size+1)) #[] #[]]++lb.toArray,W1,?_,?_,λ_ _=>trivial,?_,λe=>(by cases e),?_⟩
 .rw [<-hW1,hrec];exact run_enterLoop_outer _ _ _ _ _
 .simp only [resolve,hge,Deferred.ofValue,Sem.run_pure]
  simp [Act.eval]
 .simp [invoke,heg]
 .have hcall:=hit [] w.heap.size I4 β4 a3 U (U.heap.size+1) U.heap.size fi r4.f I4 W1 lb (Mem.le_refl _) r5.s hlb f9 hidL
  have harr:(Value.func (.yield (U.heap.size+1)) #[] #[]::lb).toArray=#[.func (.yield (U.heap.size+1)) #[] #[]]++lb.toArray:=by apply Array.ext';simp
  rw [harr] at hcall
  refine (callsIn_wide.2 hcall).mono ?_
  rintro e W2 ⟨⟨v,rfl⟩,I6,st6,f6,s6,k6⟩
  have r6:=r5.called f6 s6
  obtain ⟨hidL6,hL6⟩:=hidL.fr (JZ hL1) f6
  obtain ⟨hidD6,hD6⟩:=hidD.fr (JZ hK1) f6
  rw [hL1] at hL6
  rw [hK1] at hD6
  refine ⟨none,W2.putObj (U.heap.size+1) (.loop {rec with state:=.exhausted}),by have:=run_endLoop (P:=P) hL6 (by grind);grind,?_⟩
  have r7:=r6.jX (y:=.loop {rec with state:=.exhausted}) hL6 rfl AC
  have hD7:(W2.putObj (U.heap.size+1) (.loop {rec with state:=.exhausted})).heap[U.heap.size]? =some (.deferred (some [])):=(World.putObj_heap_other AC).trans hD6
  generalize W2.putObj (U.heap.size+1) (.loop {rec with state:=.exhausted})=W3 at r7 hD7
  show rest.wpIn Fence.wide 3 P _ _ W3
  have r8:=Rel.bare (D':=[{target:=.collected U.heap.size,args:=#[]}]) r7.f b1 b2 r7.s (Mem.le_refl _)
  have hd0:a3.defers=[]:=r7.f.defers
  rw [hd0]
  refine wpIn_wide.2 (wp_mono (hrest st6 k6 _ I6 st6 W3 I6 _ _ W3 r8) ?_)
  rintro e a9 w9 ⟨I9,β9,env9,st9,ae,r9,x9,k9,q9⟩
  have hlast:LeavesInM Fence.wide 3 P fn a9.tmps (λe w'=>∃I' st' r,Fr I st w I' st' w'/\CL I' st' w'/\kq I' e r/\R r st') a9.defers .returning w9:=by
   rw [r9.f.defers]
   obtain ⟨_,hD9⟩:=hidD6.fr (JZ hD7) r9.fr
   rw [hD7] at hD9
   refine ⟨GT,.inl ⟨_,_,rfl,run_takeDeferred hD9,?_⟩⟩
   have hle9:W3.heap.size<=w9.heap.size:=r9.fr.size
   have hfr:Fr I st w I9 st9 w9:=r7.fr.trans r9.fr
   have r10:Rel [{target:=.collected U.heap.size,args:=#[]}] I st w I9 β9 env9 st9 a9 w9:=⟨hfr,r9.s,⟨r9.f.size,r9.f.tmps,r9.f.box,r9.f.BU,r9.f.inj,λid b e=>by
    obtain ⟨h1,h2⟩:=r9.f.sep id b e
    grind,r9.f.defers⟩⟩
   have r11:=r10.jX (y:=.deferred none) hD9 rfl hsz
   obtain ⟨v,c,g1,g2,g3⟩:=CK (P:=P) hP.t r11 q9
   exact ⟨c,g1,I9,st9,.ret v,r11.fr,r11.s,g2,g3⟩
  rcases k9 with rfl|rfl
  .cases e<;>first|exact hlast|exact x9.elim
  .cases e<;>first|exact hlast|exact x9.elim
theorem dQ (hP:TU P T) {l:Nat} {Q:AP->Env->St->Prop} {all:List Oper} (k:Nat) {U:Oper} {c:Call} {f:Operand} (hk:all[k]? =some U) (hnd:Qq all=true) (hc:U.op=.call c) (hf:c.callee=.value f) (hg:U.guard=none)
 (h:Iy T (Bo P) all (B2 (λenv st=>env.eval f=.lC l/\XJ env c.args.toList λvs=>YS P l r Im vs st λst'=>env.go U.dst (.bool true) λenv=>Iy T (Bo P) all Q (all.drop (k+1)) env st') Q) (all.take k) env st):
 QL P l r Im (.region id all.toArray false) Q env st:=
 gR hP (by
  obtain ⟨h1,h2⟩:=List.getElem?_eq_some_iff.1 hk
  rw [<-h2,<-List.drop_eq_getElem_cons h1,List.take_append_drop]) hnd hc hf hg h
end
end Go.Aw
