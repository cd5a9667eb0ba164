/-
  Parts of a proof: lemmas that the last text uses.
-/
import Derived.Test.YtpaiiicnhgoijaaGreatDoorT7
set_option linter.unusedVariables false
set_option linter.unusedSimpArgs false
set_option maxHeartbeats 16000000
variable {Q:Go.Aw.AG->Go.Aw.Env->Go.Aw.St->Prop} {env:Go.Aw.Env} {α:Type} {P:Go.Program} {b p n pos sp m n2:Nat} {l s t:List UInt8} {v i ln FP:Int} {st0:Go.Aw.St} {tx j:Bool} {w1 w2:Go.Aw.Ay} {cs:List Go.Aw.V} {K:List UInt8->Prop} {o AR notes:List (List Go.Aw.V)}
namespace Go.Aw
open Go
section
variable {P:Program}
theorem pV {c:Code} {st:St} (E:α->Env) (S:α->St) (J:α->Prop) (μ:α->Nat) (x0:α) (h0:J x0) (he:(E x0).C3 env) (hs:St.le (S x0) st)
 (round:∀x,J x->AW P c (Bz (λenv' st'=>∃y,J y/\μ y<μ x/\(E y).C3 env'/\St.le (S y) st') Q) (E x) (S x)):AW P (.loop c) Q env st:=λD I0 st0 w0 I β a w h=>by
 refine LO (λn a w=>∃I β x,Rel D I0 st0 w0 I β (E x) (S x) a w/\J x/\n=μ x) (n0:=μ x0) ⟨I,_,x0,(h.Iw hs).JF (Env.JS he),h0,rfl⟩ ?_
 rintro n a w ⟨I,β,x,h,hi,rfl⟩
 refine wp_mono (round x hi D I0 st0 w0 I β a w h) ?_
 rintro e a w ⟨I,β,env,st,ae,h1,U,h3⟩
 cases ae with
 |normal=>
  cases e<;>try exact U.elim
  obtain ⟨y,g1,g2,g3,g4⟩:=h3
  exact ⟨μ y,g2,I,_,y,(h1.Iw g4).JF (Env.JS g3),g1,rfl⟩
 |exit i=>cases e<;>first|exact ⟨I,β,env,st,.exit i,h1,U,h3⟩|exact U.elim
 |goto i=>cases e<;>first|exact ⟨I,β,env,st,.goto i,h1,U,h3⟩|exact U.elim
 |ret=>cases e<;>first|exact ⟨I,β,env,st,.ret,h1,U,h3⟩|exact U.elim
 |Ci v=>cases e<;>first|exact ⟨I,β,env,st,.Ci v,h1,U,h3⟩|exact U.elim
theorem Q9 {c:Code} {id:Nat} {st:St} (h:AW P c (MY id Q) env st):AW P (.block id c) Q env st:=λD I0 st0 w0 I β a w hr=>by
 refine wp_block (wp_mono (h D I0 st0 w0 I β a w hr) ?_)
 rintro e a w ⟨I,β,env,st,ae,h1,U,h3⟩
 cases ae with
 |normal=>cases e<;>first|exact ⟨I,β,env,st,.normal,h1,trivial,h3⟩|exact U.elim
 |exit i=>
  cases e<;>try exact U.elim
  rename_i i'
  have U:i'=i:=U
  subst U
  simp only [MY] at h3
  show (if i'=id then DH D I0 st0 w0 Q .normal a w else DH D I0 st0 w0 Q (.exit i') a w)
  by_cases hi:i'=id
  .subst hi
   rw [if_pos rfl]
   simp only [Nat.beq_refl,cond_true] at h3
   exact ⟨I,β,env,st,.normal,h1,trivial,h3⟩
  .rw [if_neg hi]
   have:Nat.beq i' id=false:=by
    cases hb:Nat.beq i' id with
    |false=>rfl
    |true=>exact absurd (Nat.eq_of_beq_eq_true hb) hi
   rw [this] at h3
   exact ⟨I,β,env,st,.exit i',h1,rfl,h3⟩
 |goto i=>cases e<;>first|exact ⟨I,β,env,st,.goto i,h1,U,h3⟩|exact U.elim
 |ret=>cases e<;>first|exact ⟨I,β,env,st,.ret,h1,U,h3⟩|exact U.elim
 |Ci v=>cases e<;>first|exact ⟨I,β,env,st,.Ci v,h1,U,h3⟩|exact U.elim
end
theorem Xo {c:Code} {st:St} (f:α->List (Nat×V)) (g:α->List (Nat×List V)) (keep U:List Nat) (S:α->St) (J:α->Prop) (μ:α->Nat) (x0:α) (h0:J x0) (he:(env.EG (f x0) (g x0) keep U).C3 env) (hs:St.le (S x0) st)
 (round:∀x,J x->AW P c (Bz (λenv' st'=>∃y,J y/\μ y<μ x/\(env.EG (f y) (g y) keep U).C3 env'/\St.le (S y) st') Q) (env.EG (f x) (g x) keep U) (S x)):AW P (.loop c) Q env st:=
 pV (λy=>env.EG (f y) (g y) keep U) S J μ x0 h0 he hs round
theorem ND {x y:Code} {st:St} (f:α->List (Nat×V)) (g:α->List (Nat×List V)) (keep U:List Nat) (S:α->St) (J:α->Prop)
 (hx:AW P x (Bz (λenv' st'=>∃p,J p/\(env.EG (f p) (g p) keep U).C3 env'/\St.le (S p) st') Q) env st)
 (hy:∀p,J p->AW P y Q (env.EG (f p) (g p) keep U) (S p)):AW P (.seq x y) Q env st:=
 NC (λp=>env.EG (f p) (g p) keep U) S J hy hx
theorem yQ {b:Bool} {p q:Prop} (h:b=true) (k:p):BG b p q:=by subst h;exact Wi k
theorem jo (h:A6 l=34):FK l=.inr 1:=by rw [FK,if_pos h]
theorem jn {e:Int} (h:A6 l≠34) (k:KE true l=.inl e):FK l=.inl (0,e):=by
 rw [FK,if_neg h]
 split
 .rename_i e' U;rw [k] at U;injection U with U;rw [U]
 .rename_i p hp;rw [k] at hp;cases hp
theorem oS (h:A6 l≠34) (k:KE true l=.inr (v,n)):FK l=match FK (l.drop n) with| .inl q=>.inl (q.1+n,q.2)| .inr m=>.inr (m+n):=by
 rw [FK,if_neg h]
 split
 .rename_i e' he;rw [k] at he;cases he
 .rename_i p U;rw [k] at U;injection U with U;subst U;rfl
theorem jq (h:A6 l=34):K3 l=[]:=by rw [K3,if_pos h]
theorem oT (h:A6 l≠34) (k:KE true l=.inr (v,n)):K3 l=if v= -1 then K3 (l.drop n) else v::K3 (l.drop n):=by
 rw [K3,if_neg h]
 split
 .rename_i e' he;rw [k] at he;cases he
 .rename_i p U;rw [k] at U;injection U with U;subst U;rfl
theorem jr {q:Nat} (h:A6 l=34):Kb q l=[]:=by rw [Kb,if_pos h]
theorem oU {q:Nat} (h:A6 l≠34) (k:KE true l=.inr (v,n)):Kb q l=if 0<Fx l then (q,q+n)::Kb (q+n) (l.drop n) else Kb (q+n) (l.drop n):=by
 rw [Kb,if_neg h]
 split
 .rename_i e' he;rw [k] at he;cases he
 .rename_i p U;rw [k] at U;injection U with U;subst U;rfl
def fO (q:Nat):Sum (Nat×Int) Nat->Sum (Nat×Int) Nat
 | .inl k=>.inl (q+k.1,k.2)
 | .inr n=>.inr (q+n)
theorem pZ {q:Nat} (h:A6 l≠34) (k:KE true l=.inr (v,n)):fO q (FK l)=fO (q+n) (FK (l.drop n)):=by
 rw [oS h k]
 cases FK (l.drop n) with
 |inl k=>simp only [fO];congr 2;omega
 |inr m=>simp only [fO];congr 1;omega
structure zi where
 q:Nat
 o:List Int
 g:List (Nat×Nat)
 w1:Ay
 w2:Ay
 m:St
end Go.Aw
namespace Go.Proofs.Z
open Go Go.Aw
section
variable {st:St} {R:AD->St->Prop}
noncomputable def vN:List Oper:=match Tryz.f331.body with|some (.seq _ (.seq _ (.seq _ (.seq _ (.seq (.seq _ (.cond _ (.seq (.block _ (.loop (.seq (.seq (.region _ ops _) _) _))) _) _)) _)))))=>ops.toList|_=>[]
noncomputable def yV (b q n:Nat) (s:List UInt8) (e x:Int) (bs:List Bool):Env:=
 {tmps:=nt [(0,.ptr b 0),(3,.int .u8 e)] vN [.ptr b 0,.int .u8 x,.int .u8 e,.bool false,.bool false,.ptr b 0,.ptr b 0,.ptr b 1,.int .i64 (q:Int),.ptr b 0,.ptr b 0,.ptr b 0,.str s,.int .i64 (n:Int),.bool false,.bool false] bs,boxes:=[],BS:=0,sz:=83,gl:=[]}
def uf:List (List Bool×Nat):=yK 16 [0,2,33,34,128,98,161,227,484,997,1001,2022,2025,17381,17386,4071,4073,18406,18410,50149,50155,8168,8169,20455,20458,51174,51179,115685,115692,16361,24552,24554,53223,53227,116710,116716,246757,246765,32746,57320,57323,118759,118764,247782,247789,508901,65515,122856,122860,249831,249837,509926,131052,253928,253933,511975,262125,516072,524270,1048559]
theorem hX (hl:s.length<=100000000) (hp:A6 (s.drop p)=34) (hb0:st0.box b=none) (hb:st.box b=some (qC s p tx [] w1 [] w2)) (hr:Cq st0 st w1 0 w2 0)
 (h0:∀k e,FK (s.drop (p+1))=.inl (k,e)->∀st',QB st0 st' b s true->R (.Ci (KI (p+1+k:Nat) e)) st')
 (h:∀n,FK (s.drop (p+1))=.inr n->∀w1' w2' st',Cq st0 st' w1' (K3 (s.drop (p+1))).length w2' (2*(Kb (p+1) (s.drop (p+1))).length)->st'.box b=some (qC s (p+1+n) true (K3 (s.drop (p+1))) w1' (Kb (p+1) (s.drop (p+1))) w2')->R (.ret (.int .i64 14)) st'):
 PC 331 [.ptr b 0] st R:=by
 have hpl:p<s.length:=Cp (k:=p) H1
 obtain ⟨e,he⟩:∃e,s[p]? =some e:=⟨s[p],List.getElem?_eq_getElem hpl⟩
 have he':s[(p:Int).toNat]? =some e:=he
 have hv:=DG he
 have hv34:((e.toNat:Nat):Int)=34:=H1
 refine AQ Ac [] Tryz.func331 rfl IR rfl ?_
 refine Ah (Aj Ac ?_)
 repeat' ((conv=>whnf);first|exact Ft|(refine CM ?_;intros)|(refine Fu ?_ ?_ ?_;rotate_left)|refine Az [1,5,2,7,9,11,13,15,17,19,21,23,25,27,29,31] [] ?_|refine Au NE ?_|fail)
 refine Ah (Aj Ac ?_)
 repeat' ((conv=>whnf);first|exact Ft|(refine CM ?_;intros)|(refine Fu ?_ ?_ ?_;rotate_left)|refine Aq hb ?_|refine Az [1,5,2,7,9,11,13,15,17,19,21,23,25,27,29,31] [] ?_|refine Au NE ?_|fail)
 refine Ah (Aj Ac ?_)
 repeat' ((conv=>whnf);first|exact Ft|(refine CM ?_;intros)|(refine Fu ?_ ?_ ?_;rotate_left)|refine Aq hb ?_|refine Az [1,5,2,7,9,11,13,15,17,19,21,23,25,27,29,31] [] ?_|refine Au NE ?_|fail)
 refine Ah (Aj Ac ?_)
 repeat' ((conv=>whnf);first|exact Ft|(refine CM ?_;intros)|(refine Fu ?_ ?_ ?_;rotate_left)|refine Aq (St.A1 _ _ _) ?_|refine Az [1,5,2,7,9,11,13,15,17,19,21,23,25,27,29,31] [] ?_|refine Au NE ?_|fail)
 refine dh (st':=st.Ab b (qC s (p+1) true [] w1 [] w2)) (St.LL _ _ _ _).symm ?_
 have hb1:=St.A1 st b (qC s (p+1) true [] w1 [] w2)
 have hr1:=hr.set hb0 (qC s (p+1) true [] w1 [] w2)
 generalize st.Ab b (qC s (p+1) true [] w1 [] w2)=st1 at hb1 hr1
 refine Ah (Ah (Aj Ac ?_))
 repeat' ((conv=>whnf);first|exact Ft|(refine CM ?_;intros)|(refine Fu ?_ ?_ ?_;rotate_left)|refine Aq hb1 ?_|refine Au NE ?_|fail)
 refine pU true rfl ?_
 rw [if_pos rfl]
 refine Ah (Q9 (Xo (α:=zi) (λ_=>[]) (λ_=>[]) [0,3] [] (λx=>x.m) (λx=>x.m.box b=some (qC s x.q true x.o x.w1 x.g x.w2)/\Cq st0 x.m x.w1 x.o.length x.w2 (2*x.g.length)/\x.q<=s.length/\p+1<=x.q/\x.o.length<=x.q/\x.g.length<=x.q/\
  fO (p+1) (FK (s.drop (p+1)))=fO x.q (FK (s.drop x.q))/\K3 (s.drop (p+1))=x.o++K3 (s.drop x.q)/\Kb (p+1) (s.drop (p+1))=x.g++Kb x.q (s.drop x.q))
  (λx=>s.length - x.q) ⟨p+1,[],[],w1,w2,st1⟩ ⟨hb1,hr1,by simp only [];omega,Nat.le_refl _,Pi,Pi,rfl,rfl,rfl⟩ Yl (St.le_refl _) ?_))
 rintro ⟨q,o,g,v1,v2,m⟩ ⟨j1,j2,j3,j4,j5,j6,U,j8,j9⟩
 dsimp only at j1 j2 j3 j4 j5 j6 U j8 j9 |-
 have hx:=Lf (s.drop q)
 have hbt:∀{R:AD->St->Prop},R (.ret (.int .u8 (LV (s.drop q)))) m->PC 375 [.ptr b 0,.int .i64 0] m R:=λh=>Fw (k:=0) hl j3 IR j1 h
 by_cases hq:A6 (s.drop q)=34
 .have hql:q<s.length:=Cp (k:=q) H1
  rw [jo hq] at U
  rw [jq hq,List.append_nil] at j8
  rw [jr hq,List.append_nil] at j9
  clear h0
  have hcd:(!LV (s.drop q)==((e.toNat:Nat):Int))=false:=by rw [show LV (s.drop q)=((e.toNat:Nat):Int) by omega];simp
  have hqi:¬(s.length:Int)<=(q:Int):=H1
  refine Ah (Ah (U4 Ac (BX _) (yV b q s.length s ((e.toNat:Nat):Int) (LV (s.drop q))) (λ_=>m) uf NE Yl (St.le_refl _) ?_ ?_))
  .unfold uf
   repeat' (first|refine List.forall_mem_cons.2 ⟨?_,?_⟩|exact λ_ h=>nomatch h)
   repeat' ((conv=>whnf);first|  refine Ww hqi ?_|exact Ft|(refine CM ?_;intros)|(refine Fu ?_ ?_ ?_;rotate_left)|refine hbt ?_|refine Aq j1 ?_|refine WJ (λ_=>?_)|refine Au NE ?_|fail)
   all_goals conv=>whnf
   all_goals (refine ⟨Yl,?_⟩)
   all_goals exact St.le_refl _
  refine Aj Ac ?_
  repeat' ((conv=>whnf);first|exact Ft|(refine CM ?_;intros)|(refine Fu ?_ ?_ ?_;rotate_left)|refine Au NE ?_|fail)
  refine Aj Ac ?_
  repeat' ((conv=>whnf);first|exact Ft|(refine CM ?_;intros)|(refine Fu ?_ ?_ ?_;rotate_left)|refine Aq j1 ?_|refine Au NE ?_|fail)
  rw [j8,j9] at h
  cases hT:FK (s.drop (p+1)) with
  |inl k=>rw [hT] at U;cases U
  |inr n=>
   rw [hT] at U
   have e7:p+1+n=q+1:=by injection U
   exact fin (h n hT v1 v2 _ (j2.set hb0 _) ((St.A1 _ _ _).trans (congrArg some (Um H1)))) rfl
 .have hne:¬LV (s.drop q)=((e.toNat:Nat):Int):=H1
  have hcd:(!LV (s.drop q)==((e.toNat:Nat):Int))=true:=by rw [beq_eq_false_iff_ne.2 hne];rfl
  refine Aj Ac ?_
  repeat' ((conv=>whnf);first|refine yQ hcd ?_|exact Ft|(refine CM ?_;intros)|(refine Fu ?_ ?_ ?_;rotate_left)|refine hbt ?_|refine uk hl j3 hb0 j1 j2 H1 H1 (λe' hE st' hQ=>?_) (λv n hO u1 u2 st' g' hR hB hG=>?_)|refine Az [1,5,2,7,9,11,13,15,17,19,21,23,25,27,29,31] [] ?_|refine Au NE ?_|fail)
  .rw [jn hq hE] at U
   cases hT:FK (s.drop (p+1)) with
   |inl k=>
    rw [hT] at U
    injection U with U
    injection U with e7 e8
    have:=h0 k.1 k.2 hT st' hQ
    rw [show p+1+k.1=q by simpa using e7,e8] at this
    exact fin this rfl
   |inr n=>rw [hT] at U;cases U
  .have hle:=Oc hO
   rw [List.length_drop] at hle
   dsimp only at hle
   rw [pZ hq hO,List.drop_drop] at U
   rw [oT hq hO,List.drop_drop] at j8
   rw [oU hq hO,List.drop_drop] at j9
   have ho:(VY o v).length<=o.length+1:=by unfold VY;split<;>simp
   have hg:g'.length<=g.length+1:=by rw [hG];split<;>simp
   conv=>whnf
   refine ⟨⟨q+n,VY o v,g',u1,u2,st'⟩,⟨hB,hR,by simp only [];omega,by simp only [];omega,by simp only [];omega,by simp only [];omega,U,?_,?_⟩,by simp only [];omega,Yl,St.le_refl _⟩
   .rw [j8]
    unfold VY
    by_cases hv1:v= -1
    .rw [if_pos hv1,if_pos hv1]
    .rw [if_neg hv1,if_neg hv1];simp
   .rw [j9,hG]
    by_cases hg0:0<Fx (s.drop q)
    .rw [if_pos hg0,if_pos ⟨rfl,hg0⟩];simp
    .rw [if_neg hg0,if_neg (λx=>hg0 x.2)]
end
section
variable {st:St} {R:AD->St->Prop}
theorem hU (hl:s.length<=100000000) (hp:A6 (s.drop p)=39) (hb0:st0.box b=none) (hb:st.box b=some (qC s p tx [] w1 [] w2)) (hr:Cq st0 st w1 0 w2 0)
 (h0:∀k e,PK (s.drop (p+1))=.inl (k,e)->∀st',QB st0 st' b s false->R (.Ci (KI (p+1+k:Nat) e)) st')
 (h:∀n,PK (s.drop (p+1))=.inr n->∀o' w1' w2' st',Cq st0 st' w1' (List.length o') w2' 0->st'.box b=some (qC s (p+1+n) false o' w1' [] w2')->R (.ret (.int .i64 13)) st'):
 PC 331 [.ptr b 0] st R:=by
 have hpl:p<s.length:=Cp (k:=p) H1
 obtain ⟨e,he⟩:∃e,s[p]? =some e:=⟨s[p],List.getElem?_eq_getElem hpl⟩
 have he':s[(p:Int).toNat]? =some e:=he
 have hv:=DG he
 have hv34:((e.toNat:Nat):Int)=39:=H1
 refine AQ Ac [] Tryz.func331 rfl IR rfl ?_
 refine Ah (Aj Ac ?_)
 repeat' ((conv=>whnf);first|exact Ft|(refine CM ?_;intros)|(refine Fu ?_ ?_ ?_;rotate_left)|refine Au NE ?_|fail)
 refine Ah (Aj Ac ?_)
 repeat' ((conv=>whnf);first|exact Ft|(refine CM ?_;intros)|(refine Fu ?_ ?_ ?_;rotate_left)|refine Aq hb ?_|refine Au NE ?_|fail)
 refine Ah (Aj Ac ?_)
 repeat' ((conv=>whnf);first|exact Ft|(refine CM ?_;intros)|(refine Fu ?_ ?_ ?_;rotate_left)|refine Aq hb ?_|refine Au NE ?_|fail)
 refine Ah (Aj Ac ?_)
 repeat' ((conv=>whnf);first|exact Ft|(refine CM ?_;intros)|(refine Fu ?_ ?_ ?_;rotate_left)|refine Aq (St.A1 _ _ _) ?_|refine Au NE ?_|fail)
 refine dh (st':=st.Ab b (qC s (p+1) false [] w1 [] w2)) (St.LL _ _ _ _).symm ?_
 have U:=St.A1 st b (qC s (p+1) false [] w1 [] w2)
 have hr1:=hr.set hb0 (qC s (p+1) false [] w1 [] w2)
 generalize st.Ab b (qC s (p+1) false [] w1 [] w2)=st1 at U hr1
 have hx:=Lf (s.drop (p+1))
 have hbt:∀{R:AD->St->Prop},R (.ret (.int .u8 (LV (s.drop (p+1))))) st1->PC 375 [.ptr b 0,.int .i64 0] st1 R:=λh=>Fw (k:=0) hl H1 IR U h
 have hqb:QB st0 st1 b s false:=⟨_,[],w1,[],w2,U,hr1⟩
 by_cases hq:A6 (s.drop (p+1))=39
 .have h0:=h0 0 50 (if_pos hq) st1 hqb
  clear h
  refine Aj Ac ?_
  repeat' ((conv=>whnf);first|exact Ft|(refine CM ?_;intros)|(refine Fu ?_ ?_ ?_;rotate_left)|refine Aq U ?_|refine hbt ?_|refine Hi ?_|refine Au NE ?_|fail)
  exact fin h0 rfl
 refine Ah (Aj Ac ?_)
 repeat' ((conv=>whnf);first|exact Ft|(refine CM ?_;intros)|(refine Fu ?_ ?_ ?_;rotate_left)|refine Aq U ?_|refine Au NE ?_|fail)
 refine Ah (Aj Ac ?_)
 repeat' ((conv=>whnf);first|exact Ft|(refine CM ?_;intros)|(refine Fu ?_ ?_ ?_;rotate_left)|refine hbt ?_|refine Au NE ?_|fail)
 refine Ah (Aj Ac ?_)
 repeat' ((conv=>whnf);first|exact Ft|(refine CM ?_;intros)|(refine Fu ?_ ?_ ?_;rotate_left)|refine uk (st0:=st0) hl H1 hb0 U hr1 Pi Pi (λe' hE st' hQ=>?_) (λv n hO u1 u2 st' g' hR hB hG=>?_)|refine Au NE ?_|fail)
 .exact fin (h0 0 e' (by unfold PK;rw [if_neg hq,hE]) st' hQ) rfl
 .have hle:=Oc hO
  rw [List.length_drop] at hle
  dsimp only at hle
  rw [if_neg (λx=>by cases x.1)] at hG
  subst hG
  have hc:PK (s.drop (p+1))=if A6 (s.drop (p+1+n))=39 then .inr (n+1) else .inl (n,50):=by
   unfold PK
   rw [if_neg hq,hO]
   show (if A6 ((s.drop (p+1)).drop n)=39 then _ else _)=_
   rw [List.drop_drop]
  have hx2:=Lf (s.drop (p+1+n))
  have hbt2:∀{R:AD->St->Prop},R (.ret (.int .u8 (LV (s.drop (p+1+n))))) st'->PC 375 [.ptr b 0,.int .i64 0] st' R:=λh=>Fw (k:=0) hl H1 IR hB h
  clear hbt U hr1 hqb hb hr
  by_cases hq2:A6 (s.drop (p+1+n))=39
  .rw [if_pos hq2] at hc
   have h:=λst'=>h _ hc (VY [] v) u1 u2 st'
   refine Aj Ac ?_
   repeat' ((conv=>whnf);first|exact Ft|(refine CM ?_;intros)|(refine Fu ?_ ?_ ?_;rotate_left)|refine hbt2 ?_|refine Aq hB ?_|refine Au NE ?_|fail)
   exact fin (h _ (hR.set hb0 _) ((St.A1 _ _ _).trans (congrArg some (Um H1)))) rfl
  .rw [if_neg hq2] at hc
   have h0:=h0 _ _ hc st' ⟨_,_,_,_,_,hB,hR⟩
   refine Aj Ac ?_
   repeat' ((conv=>whnf);first|exact Ft|(refine CM ?_;intros)|(refine Fu ?_ ?_ ?_;rotate_left)|refine hbt2 ?_|refine Aq hB ?_|refine Hi ?_|refine Au NE ?_|fail)
   exact fin h0 rfl
end
end Go.Proofs.Z
namespace Go.Aw
open Go
def ix (s:List UInt8) (pos:Nat):List (Nat×Nat):=if A6 (s.drop pos)=34 then Kb (pos+1) (s.drop (pos+1)) else []
theorem Bw {st:St} {c:Nat} (h:b≠c):(st.Ab b cs).box c=st.box c:=by simp [St.Ab,Ne.symm h]
theorem E7 {st:St} {c:Nat} (h:(st.Ab b cs).fresh c):b≠c/\st.fresh c:=by
 by_cases e:b=c
 .subst e
  have:=h.1
  rw [St.A1] at this
  cases this
 .refine ⟨e,?_,h.2⟩
  have:=h.1
  rw [Bw e] at this
  exact this
theorem U6 {st:St} {K:Nat->Prop} (h:∀b,st.fresh b->K b):∀b,st.fresh b->K b:=h
end Go.Aw
namespace Go.Proofs.Z
open Go Go.Aw
section
variable {st:St} {R:AD->St->Prop}
attribute [local irreducible] Go.Aw.Ai
theorem YQ {b1 b2 b3:Nat} {RS:St->Prop} (h:RS st):Kf Tryz.prog 330 [.ptr b1 0,.ptr b2 0,.ptr b3 0] none st RS:=by
 refine Gg Ac [] Tryz.func330 rfl rfl rfl rfl rfl rfl rfl rfl (λU he=>?_)
 subst he
 conv=>whnf
 refine Ah (Aj Ac ?_)
 repeat' ((conv=>whnf);first|  fail)
 all_goals exact h
theorem PZ {b1 U b3 b4 q:Nat} {o:List Int} {g:List (Nat×Nat)} {e k0 e0:Int} {RS:St->Prop} (h1:st.box b1=some [.ptr b4 0]) (h4:st.box b4=some (qC s q tx o w1 g w2)) (h2:st.box U=some [.int .i64 k0]) (h3:st.box b3=some [.int .i64 e0])
 (d2:b4≠U) (d3:b4≠b3) (d5:U≠b3) (h:RS (((st.Ab b4 (qC s p tx o w1 g w2)).Ab U [.int .i64 0]).Ab b3 [.int .i64 e])):Kf Tryz.prog 330 [.ptr b1 0,.ptr U 0,.ptr b3 0] (some (KI p e)) st RS:=by
 refine Gg Ac [] Tryz.func330 rfl rfl rfl rfl rfl rfl rfl rfl (λenv0 he=>?_)
 subst he
 conv=>whnf
 refine Ah (Aj Ac ?_)
 repeat' ((conv=>whnf);first|exact Ft|(refine Fu ?_ ?_ ?_;rotate_left)|fail)
 refine Ah (Aj Ac ?_)
 repeat' ((conv=>whnf);first|exact Ft|(refine Fu ?_ ?_ ?_;rotate_left)|fail)
 refine Ah (Aj Ac ?_)
 repeat' ((conv=>whnf);first|exact Ft|(refine Fu ?_ ?_ ?_;rotate_left)|fail)
 have k2:∀cs,(st.Ab b4 cs).box U=some [.int .i64 k0]:=λcs=>(Bw d2).trans h2
 have k3:∀cs cs',((st.Ab b4 cs).Ab U cs').box b3=some [.int .i64 e0]:=λcs cs'=>(Bw d5).trans ((Bw d3).trans h3)
 refine Aj Ac ?_
 repeat' ((conv=>whnf);first|refine Ad 10 [7,8,9] [] ?_|exact Ft|(refine Fu ?_ ?_ ?_;rotate_left)|refine Aq h1 ?_|refine Aq h4 ?_|refine Aq (k2 _) ?_|refine Aq (k3 _ _) ?_|fail)
 all_goals exact h
theorem ug (hl:s.length<=100000000) (U:A6 (s.drop p)=34\/A6 (s.drop p)=39) (hb0:st0.box b=none) (hb:st.box b=some (qC s p tx [] w1 [] w2)) (hr:Cq st0 st w1 0 w2 0)
 (h0:∀(q:Nat) e tx',Dc s p=(0,(q:Int),e)->∀st',QB st0 st' b s tx'->R (.Ci (KI q e)) st')
 (h:∀k (q:Nat),Dc s p=(k,(q:Int),0)->∀tx' o u1 g u2 st',g=ix s p->Cq st0 st' u1 (List.length o) u2 (2*List.length g)->st'.box b=some (qC s q tx' o u1 g u2)->R (.ret (.int .i64 k)) st'):PC 331 [.ptr b 0] st R:=by
 rcases U with U|U
 .refine hX hl U hb0 hb hr (λk e hT st' hQ=>h0 _ e true ?_ st' hQ) (λn hT u1 u2 st' hR hB=>h 14 _ ?_ _ _ _ _ _ st' (by unfold ix;rw [if_pos U]) hR hB)
  .unfold Dc;rw [if_pos U,hT]
  .unfold Dc;rw [if_pos U,hT]
 .refine hU hl U hb0 hb hr (λk e hT st' hQ=>h0 _ e false ?_ st' hQ) (λn hT o' u1 u2 st' hR hB=>h 13 _ ?_ _ _ _ _ _ st' (by unfold ix;rw [if_neg H1]) hR hB)
  .unfold Dc;rw [if_neg H1,if_pos U,hT]
  .unfold Dc;rw [if_neg H1,if_pos U,hT]
noncomputable def sj:List Oper:=match Tryz.f270.body with|some (.seq _ (.seq _ (.seq _ (.seq _ (.seq (.region _ ops _) _)))))=>ops.toList|_=>[]
noncomputable def ur (b1 b2 b3 U:Nat) (K:Int) (bs:List Bool):Env:=
 {tmps:=nt [(4,.ptr b1 0),(5,.ptr b2 0),(6,.ptr b3 0)] sj [.ptr U 0,.ptr U 0,.int .i64 K,.Cc,.Cc,.Cc] bs,boxes:=[],BS:=1,sz:=39,gl:=[4,5,6,10]}
def xZ (U b2 b3 b4:Nat) (K:Int) (m:St) (bs:List Bool):St:=
 match bs[3]?,bs[4]?,bs[5]? with
 |_,_,some true=>((m.Ab U [.ptr b4 0]).Ab b2 [.int .i64 K]).Ab b3 [.int .i64 0]
 |_,some true,_=>(m.Ab U [.ptr b4 0]).Ab b2 [.int .i64 K]
 |some true,_,_=>m.Ab U [.ptr b4 0]
 |_,_,_=>m
def uu (s0 A:St) (b4:Nat) (s:List UInt8) (Q U:Int) (G:List (Nat×Nat)) (x:zi×Bool) (bs:List Bool):Prop:=match bs[2]? with
 |some true=>Cq s0 x.1.m x.1.w1 x.1.o.length x.1.w2 (2*x.1.g.length)/\x.1.m.box b4=some (qC s x.1.q x.2 x.1.o x.1.w1 x.1.g x.1.w2)/\(x.1.q:Int)=Q/\U=0/\x.1.g=G
 |_=>x.1.m=A
def nC:List (List Bool×Nat):=[([false,false,false,false,false,false],0),([false,false,false,false,false,false],1),([true,false,false,false,false,false],1),([false,true,false,false,false,false],0),([false,true,false,false,false,false],2),([true,true,false,false,false,false],2),([false,true,true,false,false,false],0),([true,true,true,false,false,false],3),([true,true,true,true,false,false],4),([true,true,true,true,true,false],5)]
noncomputable def nD:Code:=match Tryz.f270.body with|some (.seq _ (.seq _ (.seq _ (.seq _ r))))=>r|_=>.skip
theorem iC {s0:St} {b1 b2 b3 U:Nat} (hl:s.length<=100000000) (hq:A6 (s.drop pos)=34\/A6 (s.drop pos)=39) (hs0:s0.box U=none) (hsl:st.le s0) (n12:b1≠b2) (n13:b1≠b3) (n14:b1≠U) (n23:b2≠b3) (n24:b2≠U) (n34:b3≠U) (k1:st.box b1=none) (k2:st.box b2=none) (k3:st.box b3=none) (k4:st.box U=none)
 (m1:s0.box b1=some [.ptr U 0]) (m2:s0.box b2=some [.int .i64 0]) (m3:s0.box b3=some [.int .i64 0])
 (h:∀U (q:Nat) tx o w1 g w2 st',st.le st'->st'.box U=some (qC s q tx o w1 g w2)->(q:Int)=(Dc s pos).2.1->((Dc s pos).1≠0->g=ix s pos)->R (.ret (.Bl [.ptr U 0,.int .i64 (Dc s pos).1,.int .i64 (Dc s pos).2.2])) st'):
 AW Tryz.prog nD (bH Tryz.prog xh 330 [.ptr b1 0,.ptr b2 0,.ptr b3 0] Tryz.f270 (Go.Aw.Ends R)) (ur b1 b2 b3 U (Dc s pos).1 (List.replicate 6 false)) (s0.Ab U (qC s pos false [] .full [] .full)):=by
 have a1:∀C,(s0.Ab U C).box b1=some [.ptr U 0]:=λC=>(Bw n14.symm).trans m1
 have hr0:Cq s0 (s0.Ab U (qC s pos false [] .full [] .full)) .full 0 .full 0:=⟨trivial,trivial,trivial,trivial,trivial,St.Av (St.le_refl _) hs0 _⟩
 refine Ah (qf Ac (BX _) (λ_ bs=>ur b1 b2 b3 U (Dc s pos).1 bs) (λx bs=>xZ b1 b2 b3 U (Dc s pos).1 x.1.m bs) (λx bs=>uu s0 (s0.Ab U (qC s pos false [] .full [] .full)) U s (Dc s pos).2.1 (Dc s pos).2.2 (ix s pos) x bs) (⟨pos,[],[],.full,.full,s0.Ab U (qC s pos false [] .full [] .full)⟩,false) nC NE rfl Yl (St.le_refl _) ?_ ?_)
 .unfold nC
  repeat' (first|refine List.forall_mem_cons.2 ⟨?_,?_⟩|exact List.forall_mem_nil _)
  all_goals rintro ⟨⟨q,o,g,w1,w2,m⟩,tx⟩ hj
  all_goals dsimp only [uu,List.getElem?_cons_zero,List.getElem?_cons_succ] at hj
  all_goals try subst hj
  .skip
   repeat' ((conv=>whnf);first|  refine Aq (a1 _) ?_|fail)
   all_goals conv=>whnf
   all_goals exact ⟨(⟨q,o,g,w1,w2,_⟩,tx),rfl,Yl,St.le_refl _⟩
  .skip
   repeat' ((conv=>whnf);first|  refine Aq (a1 _) ?_|fail)
   all_goals conv=>whnf
   all_goals exact ⟨(⟨q,o,g,w1,w2,_⟩,tx),rfl,Yl,St.le_refl _⟩
  .skip
   repeat' ((conv=>whnf);first|  refine Aq (a1 _) ?_|fail)
   all_goals conv=>whnf
   all_goals exact ⟨(⟨q,o,g,w1,w2,_⟩,tx),rfl,Yl,St.le_refl _⟩
  .skip
   repeat' ((conv=>whnf);first|  refine Aq (a1 _) ?_|fail)
   all_goals conv=>whnf
   all_goals exact ⟨(⟨q,o,g,w1,w2,_⟩,tx),rfl,Yl,St.le_refl _⟩
  .skip
   repeat' ((conv=>whnf);first|  refine ug hl hq hs0 (St.A1 ..) hr0 (λq' e' tx' hz st' hQ=>?_) (λk q' hz tx' o' u1 g' u2 st' hg hR hB=>?_)|refine Aq (a1 _) ?_|fail)
   .obtain ⟨q1,o1,u1,g1,u2,hB,hR⟩:=hQ
    conv=>whnf
    refine PZ (hR.le.1 _ _ m1) hB (hR.le.1 _ _ m2) (hR.le.1 _ _ m3) n24.symm n34.symm n23 ?_
    have c1:(((st'.Ab U (qC s q' tx' o1 u1 g1 u2)).Ab b2 [.int .i64 0]).Ab b3 [.int .i64 e']).box b1=some [.ptr U 0]:=(Bw n13.symm).trans ((Bw n12.symm).trans ((Bw n14.symm).trans (hR.le.1 _ _ m1)))
    have c2:(((st'.Ab U (qC s q' tx' o1 u1 g1 u2)).Ab b2 [.int .i64 0]).Ab b3 [.int .i64 e']).box b2=some [.int .i64 0]:=(Bw n23.symm).trans (St.A1 _ _ _)
    have c3:(((st'.Ab U (qC s q' tx' o1 u1 g1 u2)).Ab b2 [.int .i64 0]).Ab b3 [.int .i64 e']).box b3=some [.int .i64 e']:=St.A1 _ _ _
    have c4:(((st'.Ab U (qC s q' tx' o1 u1 g1 u2)).Ab b2 [.int .i64 0]).Ab b3 [.int .i64 e']).box U=some (qC s q' tx' o1 u1 g1 u2):=(Bw n34).trans ((Bw n24).trans (St.A1 _ _ _))
    have c5:(Dc s pos).1=0:=by rw [hz]
    have c6:(Dc s pos).2.1=q':=by rw [hz]
    have c7:(Dc s pos).2.2=e':=by rw [hz]
    have gg:=λle=>h U q' tx' o1 u1 g1 u2 _ le c4 c6.symm (λx=>absurd c5 x)
    rw [c5,c7] at gg
    clear h hz c4 c5 c6 c7
    repeat' ((conv=>whnf);first|  refine Aq c1 ?_|refine Aq c2 ?_|refine Aq c3 ?_|fail)
    exact fin (gg (St.Av (St.Av (St.Av (St.le_trans hsl hR.le) k4 _) k2 _) k3 _)) rfl
   .have hz1:(Dc s pos).1=k:=by rw [hz]
    have hz2:(Dc s pos).2.1=q':=by rw [hz]
    have hz3:(Dc s pos).2.2=0:=by rw [hz]
    conv=>whnf
    rw [hz1,hz2]
    exact ⟨(⟨q',o',g',u1,u2,st'⟩,tx'),⟨hR,hB,rfl,hz3,hg⟩,Yl,St.le_refl _⟩
  .skip
   repeat' ((conv=>whnf);first|  refine ug hl hq hs0 (St.A1 ..) hr0 (λq' e' tx' hz st' hQ=>?_) (λk q' hz tx' o' u1 g' u2 st' hg hR hB=>?_)|refine Aq (a1 _) ?_|fail)
   .obtain ⟨q1,o1,u1,g1,u2,hB,hR⟩:=hQ
    conv=>whnf
    refine PZ (hR.le.1 _ _ m1) hB (hR.le.1 _ _ m2) (hR.le.1 _ _ m3) n24.symm n34.symm n23 ?_
    have c1:(((st'.Ab U (qC s q' tx' o1 u1 g1 u2)).Ab b2 [.int .i64 0]).Ab b3 [.int .i64 e']).box b1=some [.ptr U 0]:=(Bw n13.symm).trans ((Bw n12.symm).trans ((Bw n14.symm).trans (hR.le.1 _ _ m1)))
    have c2:(((st'.Ab U (qC s q' tx' o1 u1 g1 u2)).Ab b2 [.int .i64 0]).Ab b3 [.int .i64 e']).box b2=some [.int .i64 0]:=(Bw n23.symm).trans (St.A1 _ _ _)
    have c3:(((st'.Ab U (qC s q' tx' o1 u1 g1 u2)).Ab b2 [.int .i64 0]).Ab b3 [.int .i64 e']).box b3=some [.int .i64 e']:=St.A1 _ _ _
    have c4:(((st'.Ab U (qC s q' tx' o1 u1 g1 u2)).Ab b2 [.int .i64 0]).Ab b3 [.int .i64 e']).box U=some (qC s q' tx' o1 u1 g1 u2):=(Bw n34).trans ((Bw n24).trans (St.A1 _ _ _))
    have c5:(Dc s pos).1=0:=by rw [hz]
    have c6:(Dc s pos).2.1=q':=by rw [hz]
    have c7:(Dc s pos).2.2=e':=by rw [hz]
    have gg:=λle=>h U q' tx' o1 u1 g1 u2 _ le c4 c6.symm (λx=>absurd c5 x)
    rw [c5,c7] at gg
    clear h hz c4 c5 c6 c7
    repeat' ((conv=>whnf);first|  refine Aq c1 ?_|refine Aq c2 ?_|refine Aq c3 ?_|fail)
    exact fin (gg (St.Av (St.Av (St.Av (St.le_trans hsl hR.le) k4 _) k2 _) k3 _)) rfl
   .have hz1:(Dc s pos).1=k:=by rw [hz]
    have hz2:(Dc s pos).2.1=q':=by rw [hz]
    have hz3:(Dc s pos).2.2=0:=by rw [hz]
    conv=>whnf
    rw [hz1,hz2]
    exact ⟨(⟨q',o',g',u1,u2,st'⟩,tx'),⟨hR,hB,rfl,hz3,hg⟩,Yl,St.le_refl _⟩
  .have b1':m.box b1=some [.ptr U 0]:=hj.1.le.1 _ _ m1
   repeat' ((conv=>whnf);first|  refine Aq b1' ?_|fail)
   all_goals conv=>whnf
   all_goals exact ⟨(⟨q,o,g,w1,w2,m⟩,tx),hj,Yl,St.le_refl _⟩
  .have b1':m.box b1=some [.ptr U 0]:=hj.1.le.1 _ _ m1
   repeat' ((conv=>whnf);first|  refine Aq b1' ?_|fail)
   all_goals conv=>whnf
   all_goals exact ⟨(⟨q,o,g,w1,w2,m⟩,tx),hj,Yl,St.le_refl _⟩
  .have b2':(m.Ab b1 [.ptr U 0]).box b2=some [.int .i64 0]:=(Bw n12).trans (hj.1.le.1 _ _ m2)
   repeat' ((conv=>whnf);first|  refine Aq b2' ?_|fail)
   all_goals conv=>whnf
   all_goals exact ⟨(⟨q,o,g,w1,w2,m⟩,tx),hj,Yl,St.le_refl _⟩
  .have b3':((m.Ab b1 [.ptr U 0]).Ab b2 [.int .i64 (Dc s pos).1]).box b3=some [.int .i64 0]:=(Bw n23).trans ((Bw n13).trans (hj.1.le.1 _ _ m3))
   repeat' ((conv=>whnf);first|  refine Aq b3' ?_|fail)
   all_goals conv=>whnf
   all_goals exact ⟨(⟨q,o,g,w1,w2,m⟩,tx),hj,Yl,St.le_refl _⟩
 .rintro ⟨⟨q,o,g,w1,w2,m⟩,tx⟩ ⟨j1,j2,j3,j0,jg⟩
  dsimp only at j1 j2 j3 j0
  have c1:(((m.Ab b1 [.ptr U 0]).Ab b2 [.int .i64 (Dc s pos).1]).Ab b3 [.int .i64 0]).box b1=some [.ptr U 0]:=(Bw n13.symm).trans ((Bw n12.symm).trans (St.A1 _ _ _))
  have c2:(((m.Ab b1 [.ptr U 0]).Ab b2 [.int .i64 (Dc s pos).1]).Ab b3 [.int .i64 0]).box b2=some [.int .i64 (Dc s pos).1]:=(Bw n23.symm).trans (St.A1 _ _ _)
  have c3:(((m.Ab b1 [.ptr U 0]).Ab b2 [.int .i64 (Dc s pos).1]).Ab b3 [.int .i64 0]).box b3=some [.int .i64 0]:=St.A1 _ _ _
  have c4:(((m.Ab b1 [.ptr U 0]).Ab b2 [.int .i64 (Dc s pos).1]).Ab b3 [.int .i64 0]).box U=some (qC s q tx o w1 g w2):=(Bw n34).trans ((Bw n24).trans ((Bw n14).trans j2))
  have gg:=λle=>h U q tx o w1 g w2 _ le c4 j3 (λ_=>jg)
  rw [j0] at gg
  clear h
  show AW _ _ _ _ _
  refine Aj Ac (YQ ?_)
  repeat' ((conv=>whnf);first|  refine Aq c1 ?_|refine Aq c2 ?_|refine Aq c3 ?_|fail)
  exact fin (gg (St.Av (St.Av (St.Av (St.le_trans hsl j1.le) k1 _) k2 _) k3 _)) rfl
theorem wq (hl:s.length<=100000000) (hp:pos<=s.length)
 (h:∀U (q:Nat) tx o w1 g w2 st',st.le st'->st'.box U=some (qC s q tx o w1 g w2)->(q:Int)=(Dc s pos).2.1->((Dc s pos).1≠0->g=ix s pos)->R (.ret (.Bl [.ptr U 0,.int .i64 (Dc s pos).1,.int .i64 (Dc s pos).2.2])) st'):PC 270 [.str s,.int .i64 pos] st R:=by
 refine Bp.ends (TD Ac [4,5,6,10] Tryz.func270 rfl IR rfl rfl rfl rfl rfl rfl ⟨_,Tryz.func330,rfl,IR⟩ rfl ?_)
 refine Aj Ac ?_
 repeat' ((conv=>whnf);first|  (refine CM ?_;intros)|(refine DD ?_ ?_<;>intro _)|refine U6 (λb3 f3=>?_)|fail)
 rename_i b1 f1 b2 f2
 obtain ⟨n12,f2a⟩:=E7 f2
 obtain ⟨n23,f3a⟩:=E7 f3
 obtain ⟨n13,f3b⟩:=E7 f3a
 refine Aj Ac ?_
 have kk:∀U cs,((((st.Ab b1 [V.GK]).Ab b2 [V.int .i64 0]).Ab b3 [V.int .i64 0]).fresh U)->((((st.Ab b1 [V.GK]).Ab b2 [V.int .i64 0]).Ab b3 [V.int .i64 0]).Ab U cs).box b1=some [V.GK]:=λU cs f4=>by
  obtain ⟨m3,f4a⟩:=E7 f4
  obtain ⟨m2,f4b⟩:=E7 f4a
  obtain ⟨m1,f4c⟩:=E7 f4b
  simp [St.Ab,m1,n12,n13]
 repeat' ((conv=>whnf);first|  (refine CM ?_;intros)|(refine DD ?_ ?_<;>intro _)|refine U6 (λU f4=>?_)|refine Aq (kk _ _ f4) ?_|fail)
 obtain ⟨n34,f4a⟩:=E7 f4
 obtain ⟨n24,f4b⟩:=E7 f4a
 obtain ⟨n14,f4c⟩:=E7 f4b
 obtain ⟨s0,hs0,hsl,m1,m2,m3,hst⟩:∃s0:St,s0.box U=none/\st.le s0/\s0.box b1=some [.ptr U 0]/\s0.box b2=some [.int .i64 0]/\s0.box b3=some [.int .i64 0]/\
  s0.Ab U (qC s pos false [] .full [] .full)=(((((st.Ab b1 [V.GK]).Ab b2 [V.int .i64 0]).Ab b3 [V.int .i64 0]).Ab U (qC s pos false [] .full [] .full)).Ab b1 [.ptr U 0]):=by
  refine ⟨((st.Ab b1 [.ptr U 0]).Ab b2 [.int .i64 0]).Ab b3 [.int .i64 0],?_,St.Av (St.Av (St.Av (St.le_refl _) f1.1 _) f2a.1 _) f3b.1 _,?_,?_,?_,?_⟩
  .simp [St.Ab,n14.symm,n24.symm,n34.symm];exact f4c.1
  .simp [St.Ab,n12,n13]
  .simp [St.Ab,n23]
  .simp [St.Ab]
  .simp only [St.Ab,St.mk.injEq,and_true]
   funext x
   by_cases x1:x=b1
   .subst x1;simp [n12,n13,n14]
   .by_cases x4:x=U
    .subst x4;simp [x1]
    .simp [x1,x4]
 refine dh (st':=s0.Ab U (qC s pos false [] .full [] .full)) hst ?_
 clear kk f4 f4a f4b f3 f3a f2 hst
 have a1:∀C,(s0.Ab U C).box b1=some [.ptr U 0]:=λC=>(Bw n14.symm).trans m1
 by_cases hq:A6 (s.drop pos)=34\/A6 (s.drop pos)=39
 .have hlt:pos<s.length:=Cp (k:=pos) H1
  obtain ⟨e,he⟩:∃e,s[pos]? =some e:=⟨s[pos],List.getElem?_eq_getElem hlt⟩
  have he':s[(pos:Int).toNat]? =some e:=he
  have hv:=DG he
  refine Aj Ac ?_
  repeat' ((conv=>whnf);first|  (refine CM ?_;intros)|(refine DD ?_ ?_<;>intro _)|fail)
  all_goals conv=>whnf
  all_goals refine ⟨rfl,A7 rfl ?_⟩
  all_goals exact di (iC hl hq hs0 (St.le_trans hsl (St.le_refl _)) n12 n13 n14 n23 n24 n34 f1.1 f2a.1 f3b.1 f4c.1 m1 m2 m3 h) Yl (St.le_refl _)
 .have hz:Dc s pos=(0,0,0):=by unfold Dc;rw [if_neg (λx=>hq (.inl x)),if_neg (λx=>hq (.inr x))]
  rw [hz] at h
  have a1':∀C C',((s0.Ab U C).Ab U C').box b1=some [.ptr U 0]:=λC C'=>(Bw n14.symm).trans (a1 C)
  have a2':∀C C' D,(((s0.Ab U C).Ab U C').Ab b1 D).box b2=some [.int .i64 0]:=λC C' D=>(Bw n12).trans ((Bw n24.symm).trans ((Bw n24.symm).trans m2))
  have a3':∀C C' D F,((((s0.Ab U C).Ab U C').Ab b1 D).Ab b2 F).box b3=some [.int .i64 0]:=λC C' D F=>(Bw n23).trans ((Bw n13).trans ((Bw n34.symm).trans ((Bw n34.symm).trans m3)))
  have e3:∀C C' D F G,(((((s0.Ab U C).Ab U C').Ab b1 D).Ab b2 F).Ab b3 G).box b3=some G:=λC C' D F G=>St.A1 _ _ _
  have e2:∀C C' D F G,(((((s0.Ab U C).Ab U C').Ab b1 D).Ab b2 F).Ab b3 G).box b2=some F:=λC C' D F G=>(Bw n23.symm).trans (St.A1 _ _ _)
  have e1:∀C C' D F G,(((((s0.Ab U C).Ab U C').Ab b1 D).Ab b2 F).Ab b3 G).box b1=some D:=λC C' D F G=>(Bw n13.symm).trans ((Bw n12.symm).trans (St.A1 _ _ _))
  have e4:∀C C' D F G,(((((s0.Ab U C).Ab U C').Ab b1 D).Ab b2 F).Ab b3 G).box U=some C':=λC C' D F G=>(Bw n34).trans ((Bw n24).trans ((Bw n14).trans (St.A1 _ _ _)))
  by_cases hlt:pos<s.length
  .obtain ⟨e,he⟩:∃e,s[pos]? =some e:=⟨s[pos],List.getElem?_eq_getElem hlt⟩
   have he':s[(pos:Int).toNat]? =some e:=he
   have hv:=DG he
   refine Aj Ac ?_
   repeat' ((conv=>whnf);first|  (refine CM ?_;intros)|(refine DD ?_ ?_<;>intro _)|refine Aq (a1 _) ?_|refine Aq (St.A1 _ _ _) ?_|refine Aq (a1' _ _) ?_|refine Aq (a2' _ _ _) ?_|refine Aq (a3' _ _ _ _) ?_|refine Aq (e1 _ _ _ _ _) ?_|refine Aq (e2 _ _ _ _ _) ?_|refine Aq (e3 _ _ _ _ _) ?_|fail)
   exact fin (h U 0 false [] .full [] .full _ (St.Av (St.Av (St.Av (St.Av (St.Av hsl f4c.1 _) f4c.1 _) f1.1 _) f2a.1 _) f3b.1 _) (e4 _ _ _ _ _) rfl (λx=>absurd rfl x)) rfl
  .skip
   refine Aj Ac ?_
   repeat' ((conv=>whnf);first|  (refine CM ?_;intros)|(refine DD ?_ ?_<;>intro _)|refine Aq (a1 _) ?_|refine Aq (St.A1 _ _ _) ?_|refine Aq (a1' _ _) ?_|refine Aq (a2' _ _ _) ?_|refine Aq (a3' _ _ _ _) ?_|refine Aq (e1 _ _ _ _ _) ?_|refine Aq (e2 _ _ _ _ _) ?_|refine Aq (e3 _ _ _ _ _) ?_|fail)
   exact fin (h U 0 false [] .full [] .full _ (St.Av (St.Av (St.Av (St.Av (St.Av hsl f4c.1 _) f4c.1 _) f1.1 _) f2a.1 _) f3b.1 _) (e4 _ _ _ _ _) rfl (λx=>absurd rfl x)) rfl
end
section
variable {st:St} {R:AD->St->Prop}
attribute [local irreducible] Go.Aw.Ai
theorem sd (hl:s.length<=100000000) (hp:pos<s.length) (h:R (.ret (.Bl [.int .i64 (Dc s pos).1,.int .i64 (Dc s pos).2.1,.int .i64 (Dc s pos).2.2])) st):PC 203 [.str s,.int .i64 pos] st R:=by
 refine pB Tryz.func203 ?_
 repeat' ((conv=>whnf);first|exact Ft|(refine Fu ?_ ?_ ?_;rotate_left)|refine wq hl (Nat.le_of_lt hp) (λb4 q tx o w1 g w2 st' U hb hq _=>?_)|refine Aq hb ?_|refine Au NE ?_|fail)
 all_goals rw [<-hq] at h
 all_goals exact CS U rfl h
end
end Go.Proofs.Z
namespace Go.Aw
open Go
theorem SD (h:(B7 l).1≠10):EA l=(11,2+BJ (B7 l).1 (l.drop 2)):=if_pos h
theorem bZ (h:(B7 l).1=10) (k:BJ 10 l=0):EA l=(0,0):=by unfold EA;rw [if_neg (λe=>e h),if_pos k]
theorem VT {f e:Nat} (h:(B7 l).1=10) (hn:BJ 10 l=n) (U:n≠0) (hf:Ia (l.drop n)=f) (he:JG (l.drop (n+f))=e):EA l=(if 0<f\/0<e then 12 else 11,n+f+e):=by
 subst hn;subst hf;subst he
 unfold EA;rw [if_neg (λe=>e h),if_neg U]
theorem eJ {b:Int} (h:B7 l=(b,2)):A6 l=48/\2<=l.length:=by
 unfold B7 at h
 split at h
 .rename_i hc
  refine ⟨hc.1,?_⟩
  have:=hc.2.2
  have U:=Du (Ex l) (l.drop 2)
  rw [List.length_drop] at U
  omega
 .injection h with _ h;cases h
def HP (s:List UInt8) (pos:Nat):Int×Int:=if (EA (s.drop pos)).1=0 then (0,0) else ((EA (s.drop pos)).1,(pos+(EA (s.drop pos)).2:Nat))
end Go.Aw
namespace Go.Proofs.Z
open Go Go.Aw
section
variable {st:St} {R:AD->St->Prop}
theorem xD (e:i.toNat=n) (h:R (.ret (.bool (decide (A6 (s.drop n)=46)))) st):PC 130 [.str (s.drop i.toNat),.str [46]] st R:=by
 refine JY ?_
 rw [DM,e]
 exact h
theorem bb (e:i.toNat=n) (U:s.length<=4611686018427387903) (h:R (.ret (.int .i64 (JG (s.drop n):Nat))) st):PC 329 [.str (s.drop i.toNat)] st R:=by
 rw [e];exact aZ So h
theorem nY {b:Int} (e:i.toNat=n) (U:s.length<=4611686018427387903) (h:R (.ret (.int .i64 (BJ b (s.drop n):Nat))) st):PC 328 [.str (s.drop i.toNat),.int .i64 b] st R:=by
 rw [e];exact ux So h
theorem uy {b:Int} {v:Nat} (e:i.toNat=n) (hv:BJ b (s.drop n)=v) (U:s.length<=4611686018427387903) (h:R (.ret (.int .i64 v)) st):PC 328 [.str (s.drop i.toNat),.int .i64 b] st R:=
 nY e U (by rw [hv];exact h)
theorem RW {v:Nat} (e:i.toNat=n) (hv:JG (s.drop n)=v) (U:s.length<=4611686018427387903) (h:R (.ret (.int .i64 v)) st):PC 329 [.str (s.drop i.toNat)] st R:=
 bb e U (by rw [hv];exact h)
theorem QS {k:Int} (U:EA s=(k,n)) (e2:i.toNat=n):AD.ret (.Bl [.int .i64 (EA s).1,.str (s.take (EA s).2)])=AD.ret (.Bl [.int .i64 k,.str (s.take i.toNat)]):=by rw [U,e2]
theorem mX (U:EA s=(0,0)):AD.ret (.Bl [.int .i64 (EA s).1,.str (s.take (EA s).2)])=AD.ret (.Bl [.int .i64 0,.str []]):=by rw [U];rfl
theorem KG {b:Int} (hp:B7 s=(b,n)) (U:s.length<=4611686018427387903) (h:R (.ret (.Bl [.int .i64 b,.int .i64 n])) st):PC 327 [.str s] st R:=
 cm U (by rw [hp];exact h)
theorem ey (hl:s.length<=4611686018427387903) (h:R (.ret (.Bl [.int .i64 (EA s).1,.str (s.take (EA s).2)])) st):PC 269 [.str s] st R:=by
 have hle:=VS s
 refine pB Tryz.func269 ?_
 rcases Ir s with hp|⟨hp,_⟩|⟨hp,_⟩
 .have h1:=Du 10 s
  have h2:=Sg (s.drop (BJ 10 s))
  have h3:=Vm (s.drop (BJ 10 s+Ia (s.drop (BJ 10 s))))
  rw [List.length_drop] at h2 h3
  generalize hr:BJ 10 s=r at h1 h2 h3
  have hr0:BJ 10 (s.drop 0)=r:=hr
  generalize hf:Ia (s.drop r)=f at h2 h3
  generalize he:JG (s.drop (r+f))=e at h3
  have h4:=Du 10 (s.drop (r+1))
  have e0:(B7 s).1=10:=by rw [hp]
  have hlt:=aT s r
  have hfd:(A6 (s.drop r)=46/\BJ 10 (s.drop (r+1))≠0/\f=1+BJ 10 (s.drop (r+1)))\/((A6 (s.drop r)≠46\/BJ 10 (s.drop (r+1))=0)/\f=0):=by
   rw [<-hf]
   unfold Ia
   rw [List.drop_drop]
   split<;>omega
  rw [List.length_drop] at h4
  generalize hd:BJ 10 (s.drop (r+1))=d at h4 hfd
  repeat' ((conv=>whnf);first|exact Ft|(refine CM ?_;intros)|(refine Fu ?_ ?_ ?_;rotate_left)|(refine DD ?_ ?_<;>intro _)|refine KG hp hl ?_|refine uy H1 hr0 hl ?_|refine uy H1 hd hl ?_|refine xD (n:=r) H1 ?_|refine RW H1 he hl ?_|refine RW H1 he' hl ?_|refine Au NE ?_|fail)
  all_goals first
   |(have U:=bZ e0 H1;exact fin h (mX U))
   |(have U:=VT e0 hr H1 hf he;rw [if_pos H1] at U;exact fin h (QS U H1))
   |(have U:=VT e0 hr H1 hf he;rw [if_neg H1] at U;exact fin h (QS U H1))
 .have hr:=Du 8 (s.drop 2)
  have h2:=(eJ hp).2
  rw [List.length_drop] at hr
  repeat' ((conv=>whnf);first|exact Ft|(refine CM ?_;intros)|(refine Fu ?_ ?_ ?_;rotate_left)|(refine DD ?_ ?_<;>intro _)|refine KG hp hl ?_|refine nY (n:=2) H1 hl ?_|refine Au NE ?_|fail)
  all_goals (have U:=SD (l:=s) (by rw [hp];decide);rw [hp] at U;dsimp only at U;exact fin h (QS U H1))
 .have hr:=Du 16 (s.drop 2)
  have h2:=(eJ hp).2
  rw [List.length_drop] at hr
  repeat' ((conv=>whnf);first|exact Ft|(refine CM ?_;intros)|(refine Fu ?_ ?_ ?_;rotate_left)|(refine DD ?_ ?_<;>intro _)|refine KG hp hl ?_|refine nY (n:=2) H1 hl ?_|refine Au NE ?_|fail)
  all_goals (have U:=SD (l:=s) (by rw [hp];decide);rw [hp] at U;dsimp only at U;exact fin h (QS U H1))
theorem mW (hl:s.length<=4611686018427387903) (hp:pos<s.length) (h:R (.ret (.Bl [.int .i64 (HP s pos).1,.int .i64 (HP s pos).2])) st):PC 202 [.str s,.int .i64 pos] st R:=by
 have hw:=VS (s.drop pos)
 have ht:((s.drop pos).take (EA (s.drop pos)).2).length=(EA (s.drop pos)).2:=WF
 rw [List.length_drop] at hw
 have U:(s.drop pos).length<=4611686018427387903:=So
 refine pB Tryz.func202 ?_
 repeat' ((conv=>whnf);first|(refine CM ?_;intros)|(refine DD ?_ ?_<;>intro _)|refine ey U ?_)
 .exact fin h (by unfold HP;rw [if_pos ‹_›];simp_all)
 .exact fin h (by unfold HP;rw [if_neg ‹_›];simp only [];rw [show (pos:Int).toNat=pos by omega] at *;rw [ht];rfl)
end
section
variable {st:St} {R:AD->St->Prop}
theorem H6 {b:Int} {v:Nat} (e:i=n) (hv:BJ b (s.drop n)=v) (U:s.length<=4611686018427387903) (hn:n<=4611686018427387905) (h:R (.ret (.int .i64 (n+v:Nat))) st):PC 368 [.str s,.int .i64 i,.int .i64 b] st R:=by
 subst e
 exact iB U hn (by rw [hv];exact h)
theorem il (h:BJ 10 (s.drop pos)=0):HP s pos=(0,0):=by
 have e:EA (s.drop pos)=(0,0):=by
  refine bZ ?_ h
  unfold B7
  rw [if_neg]
  rintro ⟨U,_⟩
  have hp:pos<s.length:=Cp (k:=pos) H1
  rw [List.drop_eq_getElem_cons hp] at U h
  have U:((s[pos].toNat:Nat):Int)=48:=U
  rw [BJ,U,if_neg IR] at h
  cases h
 unfold HP;rw [e];rfl
theorem Mb {k:Int} (h:EA (s.drop pos)=(k,n)) (U:k≠0) (hi:i=(pos+n:Nat)):AD.ret (.Bl [.int .i64 (HP s pos).1,.int .i64 (HP s pos).2])=AD.ret (.Bl [.int .i64 k,.int .i64 i]):=by
 unfold HP;rw [h,if_neg U,hi]
theorem wC (hl:s.length<=4611686018427387903) (hp:pos<s.length) (h:R (.ret (.Bl [.int .i64 (HP s pos).1,.int .i64 (HP s pos).2])) st):PC 309 [.str s,.int .i64 pos] st R:=by
 have h1:=Du 10 (s.drop pos)
 rw [List.length_drop] at h1
 generalize hr:BJ 10 (s.drop pos)=r at h1
 refine AQ Ac [] Tryz.func309 rfl IR rfl ?_
 refine Ah (Aj Ac ?_)
 repeat' ((conv=>whnf);first|(refine CM ?_;intros)|(refine DD ?_ ?_<;>intro _)|fail)
 refine Ah (Aj Ac ?_)
 repeat' ((conv=>whnf);first|(refine CM ?_;intros)|(refine DD ?_ ?_<;>intro _)|refine H6 H1 hr hl H1 ?_)
 .exact fin h (by rw [il H1])
 have hr0:r≠0:=H1
 refine NC (α:=Unit) (λ_=>{tmps:=[(0,.str s),(1,.int .i64 (pos:Int))],boxes:=[],BS:=0,sz:=149,gl:=[]}) (λ_=>st) (λ_=>(B7 (s.drop pos)).1=10) (λ_ e0=>?_) (Aj Ac ?_)
 .have h2:=Sg (s.drop (pos+r))
  rw [List.length_drop] at h2
  have hlt:=aT s (pos+r)
  have h4:=Du 10 (s.drop (pos+r+1))
  rw [List.length_drop] at h4
  generalize hf:Ia (s.drop (pos+r))=f at h2
  generalize hd:BJ 10 (s.drop (pos+r+1))=d at h4
  have hfd:(A6 (s.drop (pos+r))=46/\d≠0/\f=1+d)\/((A6 (s.drop (pos+r))≠46\/d=0)/\f=0):=by
   rw [<-hf,<-hd]
   unfold Ia
   rw [List.drop_drop]
   split<;>omega
  refine Ah (Aj Ac ?_)
  repeat' ((conv=>whnf);first|(refine CM ?_;intros)|(refine DD ?_ ?_<;>intro _)|fail)
  refine Ah (Aj Ac ?_)
  repeat' ((conv=>whnf);first|(refine CM ?_;intros)|(refine DD ?_ ?_<;>intro _)|refine H6 H1 hr hl H1 ?_)
  refine NC (α:=Int×Nat) (λp=>{tmps:=[(0,.str s),(1,.int .i64 (pos:Int)),(7,.int .i64 p.1),(8,.int .i64 (p.2:Int))],boxes:=[],BS:=0,sz:=149,gl:=[]}) (λ_=>st) (λp=>p.1=(if f=0 then 11 else 12)/\p.2=pos+r+f) ?_ (Aj Ac ?_)
  .rintro ⟨k,n⟩ ⟨hk,hn⟩
   dsimp only at hk hn |-
   subst hk;subst hn
   have h3:=Vm (s.drop (pos+r+f))
   rw [List.length_drop] at h3
   have e1:=VT (f:=f) e0 hr hr0 (by rw [List.drop_drop];exact hf) rfl
   rw [List.drop_drop,<-Nat.add_assoc] at e1
   have ha:=Du 10 (s.drop (pos+r+f+1))
   have hb:=Du 10 (s.drop (pos+r+f+2))
   rw [List.length_drop] at ha hb
   generalize hra:BJ 10 (s.drop (pos+r+f+1))=ra at ha
   generalize hrb:BJ 10 (s.drop (pos+r+f+2))=rb at hb
   have d1:(s.drop (pos+r+f)).drop 1=s.drop (pos+r+f+1):=List.drop_drop
   have d2:(s.drop (pos+r+f)).drop 2=s.drop (pos+r+f+2):=List.drop_drop
   have hx:((A6 (s.drop (pos+r+f))=101\/A6 (s.drop (pos+r+f))=69)/\(A6 (s.drop (pos+r+f+1))=43\/A6 (s.drop (pos+r+f+1))=45)/\rb≠0->JG (s.drop (pos+r+f))=2+rb)/\
    ((A6 (s.drop (pos+r+f))=101\/A6 (s.drop (pos+r+f))=69)/\¬(A6 (s.drop (pos+r+f+1))=43\/A6 (s.drop (pos+r+f+1))=45)/\ra≠0->JG (s.drop (pos+r+f))=1+ra)/\
    (¬(A6 (s.drop (pos+r+f))=101\/A6 (s.drop (pos+r+f))=69)->JG (s.drop (pos+r+f))=0)/\
    ((A6 (s.drop (pos+r+f))=101\/A6 (s.drop (pos+r+f))=69)/\(A6 (s.drop (pos+r+f+1))=43\/A6 (s.drop (pos+r+f+1))=45)/\rb=0->JG (s.drop (pos+r+f))=0)/\
    ((A6 (s.drop (pos+r+f))=101\/A6 (s.drop (pos+r+f))=69)/\¬(A6 (s.drop (pos+r+f+1))=43\/A6 (s.drop (pos+r+f+1))=45)/\ra=0->JG (s.drop (pos+r+f))=0):=
    ⟨λk=>by rw [Vl (j:=2) k.1 (by rw [d1,Q3 k.2.1]) (by rw [d2,hrb];exact k.2.2),d2,hrb],
     λk=>by rw [Vl (j:=1) k.1 (by rw [d1,Q2 k.2.1]) (by rw [d1,hra];exact k.2.2),d1,hra],
     λk=>dP k,
     λk=>Vk (j:=2) k.1 (by rw [d1,Q3 k.2.1]) (by rw [d2,hrb];exact k.2.2),
     λk=>Vk (j:=1) k.1 (by rw [d1,Q2 k.2.1]) (by rw [d1,hra];exact k.2.2)⟩
   generalize hx0:JG (s.drop (pos+r+f))=x at hx h3 e1
   refine Aj Ac ?_
   repeat' ((conv=>whnf);first|(refine CM ?_;intros)|(refine DD ?_ ?_<;>intro _)|refine H6 H1 hra hl H1 ?_|refine H6 H1 hrb hl H1 ?_)
   all_goals try have f0:=DG (show s[pos+r+f]? =some _ by assumption)
   all_goals try have f0:=ET (s:=s) (i:=pos+r+f) H1
   all_goals try have f1:=DG (show s[pos+r+f+1]? =some _ by assumption)
   all_goals try have f1:=ET (s:=s) (i:=pos+r+f+1) H1
   all_goals first
    |(have hq:0<x:=by omega
      rw [if_pos (.inr hq)] at e1
      exact fin h (Mb e1 IR H1))
    |(have hq:x=0:=by omega
      have e2:EA (s.drop pos)=(if f=0 then 11 else 12,r+f+x):=by rw [e1];congr 1;(split<;>split<;>first|rfl|omega)
      exact fin h (Mb e2 (by split<;>decide) H1))
  .skip
   repeat' ((conv=>whnf);first|(refine CM ?_;intros)|(refine DD ?_ ?_<;>intro _)|refine H6 H1 hd hl H1 ?_)
   all_goals try have f0:=DG (show s[pos+r]? =some _ by assumption)
   all_goals try have f0:=ET (s:=s) (i:=pos+r) H1
   .have:f=1+d:=H1
    conv=>whnf
    exact ⟨(12,pos+r+1+d),⟨(if_neg H1).symm,f9⟩,Yl,St.le_refl _⟩
   all_goals have:f=0:=H1
   all_goals conv=>whnf
   all_goals exact ⟨(11,pos+r),⟨(if_pos this).symm,f9⟩,Yl,St.le_refl _⟩
 .have h8:=Du 8 (s.drop (pos+2))
  have h16:=Du 16 (s.drop (pos+2))
  rw [List.length_drop] at h8 h16
  generalize hr8:BJ 8 (s.drop (pos+2))=r8 at h8
  generalize U:BJ 16 (s.drop (pos+2))=r16 at h16
  have d1:(s.drop pos).drop 1=s.drop (pos+1):=List.drop_drop
  have d2:(s.drop pos).drop 2=s.drop (pos+2):=List.drop_drop
  have p8:A6 (s.drop pos)=48->(A6 (s.drop (pos+1))=111\/A6 (s.drop (pos+1))=79)->r8≠0->EA (s.drop pos)=(11,2+r8):=λk1 k2 k3=>by
   have e:=H2 k1 (Qy (by rw [d1];exact k2)) IR (by rw [d2,hr8];exact k3)
   rw [SD (by rw [e];decide),e,d2,hr8]
  have p16:A6 (s.drop pos)=48->(A6 (s.drop (pos+1))=120\/A6 (s.drop (pos+1))=88)->r16≠0->EA (s.drop pos)=(11,2+r16):=λk1 k2 k3=>by
   have e:=H2 k1 (NJ (by rw [d1];exact k2)) IR (by rw [d2,U];exact k3)
   rw [SD (by rw [e];decide),e,d2,U]
  have p10:(A6 (s.drop pos)≠48\/(A6 (s.drop (pos+1))≠111/\A6 (s.drop (pos+1))≠79/\A6 (s.drop (pos+1))≠120/\A6 (s.drop (pos+1))≠88)\/((A6 (s.drop (pos+1))=111\/A6 (s.drop (pos+1))=79)/\r8=0)\/((A6 (s.drop (pos+1))=120\/A6 (s.drop (pos+1))=88)/\r16=0))->(B7 (s.drop pos)).1=10:=λk=>by
   rcases k with k|k|k|k
   .rw [Hu (.inl k)]
   .rw [Hu (.inr (.inl (XB (by rw [d1];exact k))))]
   .rw [Hu (.inr (.inr (by rw [Qy (by rw [d1];exact k.1),d2,hr8];exact k.2)))]
   .rw [Hu (.inr (.inr (by rw [NJ (by rw [d1];exact k.1),d2,U];exact k.2)))]
  repeat' ((conv=>whnf);first|(refine CM ?_;intros)|(refine DD ?_ ?_<;>intro _)|refine H6 H1 hr8 hl H1 ?_|refine H6 H1 U hl H1 ?_)
  all_goals try have f0:=DG (show s[pos]? =some _ by assumption)
  all_goals try have f1:=DG (show s[pos+1]? =some _ by assumption)
  all_goals try have f1:=ET (s:=s) (i:=pos+1) H1
  all_goals first
   |exact fin h (Mb (p8 H1 H1 H1) IR H1)
   |exact fin h (Mb (p16 H1 H1 H1) IR H1)
   |(have e0:=p10 H1
     conv=>whnf
     exact ⟨(),e0,Yl,St.le_refl _⟩)
end
end Go.Proofs.Z
namespace Go.Aw
open Go
def Dx (s:List UInt8) (p:Nat):Int×Int×Int:=
 if (HP s p).1≠0 then ((HP s p).1,(HP s p).2,0)
 else if (Dc s p).1=0/\(Dc s p).2.2=0 then
  if (IA s p).1=0 then (0,p,70) else ((IA s p).1,(IA s p).2,0)
 else Dc s p
def QP (s:List UInt8) (p sp:Nat) (U Da:Int) (AR notes:List (List V)) (w1 w2:Ay) (FP ends:Int) (j:Bool):List V:=
 [.str s,.int .i64 p,.int .i64 sp,.int .i64 U,.int .i64 Da,.slice 4 AR w1,.slice 5 notes w2,.int .i64 FP,.int .i64 ends,.bool j]
end Go.Aw
namespace Go.Proofs.Z
open Go Go.Aw
section
variable {st:St} {R:AD->St->Prop}
theorem vP {Da ends:Int} (hl:s.length<=100000000) (U:p<s.length) (hb:st.box b=some (QP s p sp ln Da AR notes w1 w2 FP ends j))
 (h:R (.ret (.agg [.int .i64 (HP s p).1,.int .i64 (HP s p).2,.int .i64 0])) st):PC 134 [.ptr b 0] st R:=by
 refine pB Tryz.func134 ?_
 repeat' ((conv=>whnf);first|exact B1|(refine B2 ?_ ?_ ?_;rotate_left)|refine Aq hb ?_|refine mW H1 U ?_|refine Ad 14 [8] [] ?_|fail)
 all_goals exact fin h rfl
theorem vT {Da ends:Int} (U:s.length<=100000000) (hp:p<s.length) (hb:st.box b=some (QP s p sp ln Da AR notes w1 w2 FP ends j))
 (h:R (.ret (.agg [.int .i64 (IA s p).1,.int .i64 (IA s p).2,.int .i64 0])) st):PC 136 [.ptr b 0] st R:=by
 refine pB Tryz.func136 ?_
 repeat' ((conv=>whnf);first|exact B1|(refine B2 ?_ ?_ ?_;rotate_left)|refine Aq hb ?_|refine pE U hp ?_|refine Ad 14 [8] [] ?_|fail)
 all_goals exact fin h rfl
theorem vO {Da ends:Int} (U:s.length<=100000000) (hp:p<s.length) (hb:st.box b=some (QP s p sp ln Da AR notes w1 w2 FP ends j))
 (h:R (.ret (.agg [.int .i64 (Dc s p).1,.int .i64 (Dc s p).2.1,.int .i64 (Dc s p).2.2])) st):PC 135 [.ptr b 0] st R:=by
 refine pB Tryz.func135 ?_
 repeat' ((conv=>whnf);first|exact B1|(refine B2 ?_ ?_ ?_;rotate_left)|refine Aq hb ?_|refine sd U hp ?_|refine Ad 16 [8] [] ?_|fail)
 all_goals exact fin h rfl
theorem mA {Da ends:Int} (hl:s.length<=100000000) (hp:p<s.length) (hb:st.box b=some (QP s p sp ln Da AR notes w1 w2 FP ends j))
 (h:R (.ret (.agg [.int .i64 (Dx s p).1,.int .i64 (Dx s p).2.1,.int .i64 (Dx s p).2.2])) st):PC 62 [.ptr b 0] st R:=by
 refine pB Tryz.func62 ?_
 have U:∀a b c,Dx s p=(a,b,c)->R (.ret (.agg [.int .i64 a,.int .i64 b,.int .i64 c])) st:=λa b c e=>by rw [e] at h;exact h
 clear h
 unfold Dx at U
 repeat' ((conv=>whnf);first|(refine Bc ?_;intros)|(refine CD ?_ ?_<;>intro _)|refine vP hl hp hb ?_|refine vO hl hp hb ?_|refine vT hl hp hb ?_|refine Aq hb ?_)
 .exact fin (U _ _ _ (by rw [if_neg H1,if_pos ⟨H1,H1⟩,if_pos H1])) rfl
 .exact fin (U _ _ _ (by rw [if_neg H1,if_pos ⟨H1,H1⟩,if_neg H1])) rfl
 .exact fin (U _ _ _ (by rw [if_neg H1,if_neg (λx=>by omega)])) rfl
 .exact fin (U _ _ _ (by rw [if_neg H1,if_neg (λx=>by omega)])) rfl
 .exact fin (U _ _ _ (by rw [if_pos H1])) rfl
end
section
variable {st:St} {R:AD->St->Prop}
theorem XH {k Da:Int} (h:R (.ret (.bool (decide (¬k=15)|| !Lib.contains [123,125,59] t))) st):PC 137 [.agg [.int .i64 k,.str t,.int .i64 ln,.int .i64 Da]] st R:=by
 refine pB Tryz.func137 ?_
 repeat' ((conv=>whnf);first|  (refine CD ?_ ?_<;>intro _)|refine aQ IR ?_)
 all_goals first
  |exact An h (by simp [*])
  |(rename_i U _;exact An h (by simp [U]))
theorem NM {U Da ends:Int} (hl:s.length<=100000000) (hp:p<=s.length) (hb:st.box b=some (QP s p sp U Da AR notes w1 w2 FP ends j))
 (h:R (.ret (.Bl [])) (st.Ab b (QP s (p+CF (λc=>A4 c==1) (s.drop p)) sp U Da AR notes w1 w2 FP ends j))):PC 59 [.ptr b 0] st R:=by
 refine pB Tryz.func59 ?_
 repeat' ((conv=>whnf);first|refine Ad 13 [9,12] [] ?_|exact B1|(refine B2 ?_ ?_ ?_;rotate_left)|refine Aq hb ?_|refine Mi hl hp rfl rfl ?_|fail)
 all_goals exact fin h rfl
end
end Go.Proofs.Z
namespace Go.Aw
open Go
def BA (s:List UInt8) (a b:Nat):List UInt8:=(s.take b).drop a
theorem V1 {a:Nat} (U:a<=b) (h2:b<=s.length) (k:K (BA s a b)):
 (0<=(a:Int)/\(a:Int)<=b/\(b:Int)<=s.length)/\∀s',s'=(s.take (b:Int).toNat).drop (a:Int).toNat->K s':=
 ⟨⟨H1,H1,H1⟩,λs' e=>by
   rw [show (b:Int).toNat=b by omega,show (a:Int).toNat=a by omega] at e
   subst e;exact k⟩
end Go.Aw
namespace Go.Proofs.Z
open Go Go.Aw
section
variable {st:St} {R:AD->St->Prop}
theorem zc {q:Nat} {Da ends:Int} (hl:s.length<=100000000) (hsp:sp<=q) (hq:q<=s.length) (hln:1<=ln/\ln<=1000000000) (U:1<=Da/\Da<=2147483648)
 (hw:1<=(Cz (BA s sp q) (BA s sp q).length (1,1)).1/\(Cz (BA s sp q) (BA s sp q).length (1,1)).1<=1000000000)
 (hb:st.box b=some (QP s p sp ln Da AR notes w1 w2 FP ends j))
 (h:R (.ret (.Bl [.int .i64 (ln+(Cz (BA s sp q) (BA s sp q).length (1,1)).1 - 1),.int .i64 (Cz (BA s sp q) (BA s sp q).length (1,Da)).2]))
   (st.Ab b (QP s p q (ln+(Cz (BA s sp q) (BA s sp q).length (1,1)).1 - 1) (Cz (BA s sp q) (BA s sp q).length (1,Da)).2 AR notes w1 w2 FP ends j))):PC 133 [.ptr b 0,.int .i64 q] st R:=by
 have hpl:(BA s sp q).length<=100000000:=by unfold BA;rw [List.length_drop,List.length_take];omega
 have b2:∀cs,(st.Ab b cs).box b=some cs:=λcs=>St.A1 _ _ _
 refine pB Tryz.func133 ?_
 repeat' ((conv=>whnf);first|exact B1|(refine Bc ?_;intros)|(refine B2 ?_ ?_ ?_;rotate_left)|refine V1 hsp hq ?_|refine (λ(_:(BA s sp q).length<Fk)=>?_)|refine yW hpl (Nat.le_refl _) ?_|refine tu hpl U.1 U.2 ?_|refine Aq hb ?_|refine Aq (b2 _) ?_|refine Au NE ?_|fail)
 all_goals exact fin h rfl
end
end Go.Proofs.Z
namespace Go.Aw
open Go
def C7 (s:List UInt8) (a b:Nat) (p:Int×Int):Int×Int:=Cz (BA s a b) (BA s a b).length p
theorem JX {a:Nat} (U:a<=b) (h2:b<=s.length):(BA s a b).length=b - a:=by
 unfold BA;rw [List.length_drop,List.length_take];omega
theorem eG {a:Nat} {p:Int×Int} (U:a<=b) (h2:b<=s.length) (h:1<=p.2):p.1<=(C7 s a b p).1/\(C7 s a b p).1<=p.1+(b - a:Nat)/\1<=(C7 s a b p).2/\(C7 s a b p).2<=p.2+8*(b - a:Nat):=by
 have:=Tl _ (BA s a b) (BA s a b).length p (Nat.le_refl _) h
 rw [JX U h2] at this
 unfold C7
 rw [JX U h2]
 omega
end Go.Aw
namespace Go.Proofs.Z
open Go Go.Aw
section
variable {st:St} {R:AD->St->Prop}
theorem sX {q:Nat} {U Da ends:Int} (hl:s.length<=100000000) (hsp:sp<=q) (hq:q<=s.length) (hln:1<=U/\U<=1000000000) (hcol:1<=Da/\Da<=2147483648)
 (hb:st.box b=some (QP s p sp U Da AR notes w1 w2 FP ends j))
 (h:R (.ret (.Bl [.int .i64 (C7 s sp q (U,Da)).1,.int .i64 (C7 s sp q (U,Da)).2]))
   (st.Ab b (QP s p q (C7 s sp q (U,Da)).1 (C7 s sp q (U,Da)).2 AR notes w1 w2 FP ends j))):PC 133 [.ptr b 0,.int .i64 q] st R:=by
 have hlen:=JX hsp hq
 have h1:=Tl _ (BA s sp q) (BA s sp q).length (1,1) (Nat.le_refl _) IR
 have h2:=UN _ (BA s sp q) (BA s sp q).length 1 1 Da U (Nat.le_refl _)
 have h3:=Z3 _ (BA s sp q) (BA s sp q).length 1 Da U (Nat.le_refl _)
 have e1:U+(Cz (BA s sp q) (BA s sp q).length (1,1)).1 - 1=(C7 s sp q (U,Da)).1:=by unfold C7;omega
 have e2:(Cz (BA s sp q) (BA s sp q).length (1,Da)).2=(C7 s sp q (U,Da)).2:=h3
 refine zc hl hsp hq hln hcol ⟨by dsimp only at h1;omega,by dsimp only at h1;omega⟩ hb ?_
 rw [e1,e2]
 exact h
end
end Go.Proofs.Z
namespace Go.Aw
open Go
theorem pw {a:Nat} (h:Cj l a) (k:Nat) (p:Int×Int):Cz l (a+k) p=Cz (l.drop a) k (Cz l a p):=by
 induction h generalizing p with
 |zero l=>rw [G9,Nat.zero_add,List.drop_zero]
 |@step l j U h ih=>
  rw [FL U H1,FL (k:=Be l+j) U H1,show Be l+j+k - Be l=j+k by omega,show Be l+j - Be l=j by omega,ih,List.drop_drop]
theorem Lq (h:0<m):A6 (l.take m)=A6 l:=by
 cases l with
 |nil=>rw [List.take_nil]
 |cons a r=>
  obtain ⟨m,rfl⟩:∃k,m=k+1:=⟨m - 1,H1⟩
  rfl
theorem T4:A6 ((l.take m).drop 1)=if 1<m then A6 (l.drop 1) else -1:=by
 rw [List.drop_take]
 by_cases h:1<m
 .rw [if_pos h,Lq H1]
 .rw [if_neg h,show m - 1=0 by omega,List.take_zero];rfl
theorem mR (h:0<m) (h2:Jv l<=m):Jv (l.take m)=Jv l:=by
 rcases GY l with ⟨e,U⟩|⟨e,U,h3⟩|⟨e,U,h3⟩
 .rw [e];unfold Jv;rw [Lq h,if_neg (λx=>U (.inl x.1)),if_neg U]
 .rw [e];unfold Jv;rw [Lq h,T4,if_neg,if_pos U]
  rintro ⟨x,y⟩
  split at y
  .exact h3 ⟨x,y⟩
  .exact absurd y IR
 .rw [e];unfold Jv;rw [Lq h,T4,if_pos (show 1<m by omega),if_pos ⟨U,h3⟩]
theorem jE {k:Nat} (h:Cj l k) (hv:Vd l) (p:Int×Int):Cz (l.take k) k p=Cz l k p:=by
 induction h generalizing p with
 |zero l=>rw [G9,G9]
 |@step l j U h ih=>
  have h1:=Hw U
  have hn:Jv (l.take (Be l+j))=Jv l:=mR H1 (by
   by_cases hc:0<Jv l
   .have e:Be l=Jv l:=if_pos hc
    omega
   .omega)
  have hr:=hv.rune U
  have es:Be (l.take (Be l+j))=Be l:=by
   by_cases hc:0<Jv l
   .have e3:Be (l.take (Be l+j))=Jv (l.take (Be l+j)):=if_pos (by rw [hn];exact hc)
    rw [e3,hn];exact (if_pos hc).symm
   .have e1:Be l=(Br l).2:=if_neg hc
    have e2:Br (l.take (Be l+j))=Br l:=by
     have:=lf U hr.1 ((l.take (Be l+j)).drop (Br l).2)
     rwa [show l.take (Br l).2=(l.take (Be l+j)).take (Br l).2 by rw [List.take_take,Nat.min_eq_left H1],List.take_append_drop] at this
    have e3:Be (l.take (Be l+j))=(Br (l.take (Be l+j))).2:=if_neg (by rw [hn];exact hc)
    rw [e3,e2];exact e1.symm
  have hne':l.take (Be l+j)≠[]:=λe=>by
   have:=congrArg List.length e
   rw [List.length_take,List.length_nil] at this;omega
  have hv':Vd (l.drop (Be l)):=(Cj.step U (.zero (l.drop (Be l)))).bd.vd hv
  rw [FL hne' H1,FL U H1,es,show Be l+j - Be l=j by omega,List.drop_take,show Be l+j - Be l=j by omega,ih hv']
  congr 1
  unfold GA HF
  rw [hn,Lq H1]
def Ei (s:List UInt8) (p:Nat):Int×Int:=Cz s p (1,1)
theorem nn {a:Nat} (hv:Vd s) (U:Cj s a) (hb:Cj (s.drop a) (b - a)) (h:a<=b) (hl:b<=s.length):C7 s a b (Ei s a)=Ei s b:=by
 have e:BA s a b=(s.drop a).take (b - a):=by unfold BA;rw [List.drop_take]
 have hp:=JX h hl
 unfold C7 Ei
 rw [hp,e,jE hb (U.bd.vd hv),<-pw U,show a+(b - a)=b by omega]
theorem ou (s:List UInt8) (n:Nat) (k:Int):n<=(I8 s n k).2:=by
 fun_induction I8 s n k with
 |case1 n k hn hc ih=>omega
 |case2 n k hn hc=>omega
 |case3 n k hn=>omega
theorem iv (h:(BB l).1≠0):0<(BB l).2:=by
 by_cases U:0<(BB l).2
 .exact U
 .exfalso
  cases l with
  |nil=>exact h rfl
  |cons a r=>
   have hne:a::r≠[]:=Pi
   have hp:=Ho (a::r)
   apply h
   unfold BB at U |-
   split
   .simp_all
   .rename_i h6
    rw [if_neg h6] at U
    have key:∀p:Int->Bool,p (((Br (a::r)).1:Nat):Int)=true->0<CF p (a::r):=λp hp'=>by
     rw [iY hne hp'];omega
    split
    .rename_i h5
     rw [if_pos h5] at U
     have:=key (λc=>A4 c==5) (beq_iff_eq.2 h5)
     omega
    .rename_i h5
     rw [if_neg h5] at U
     split
     .rename_i h3
      rw [if_pos h3] at U
      have h3':A4 (((Br (a::r)).1:Nat):Int)=3:=h3
      have:=key Jn (by unfold Jn;simp_all)
      unfold MJ at U;omega
     .rename_i h3
      rw [if_neg h3] at U
      split
      .rename_i h2
       rw [if_pos h2] at U
       have h2':A4 (((Br (a::r)).1:Nat):Int)=2:=h2
       have:=key Jn (by unfold Jn;simp_all)
       unfold MJ at U;omega
      .rfl
def wV (k:Int) (t:List UInt8) (p:Int×Int):List V:=[.int .i64 k,.str t,.int .i64 p.1,.int .i64 p.2]
theorem n9 {st:St} {k a b:Int} {K:V->St->Prop} (h:Cq st0 st w1 (o.length*4) w2 n2) (hl:o.length<=1000000000)
 (kk:∀U st',Cq st0 st' U ((o.length+1)*4) w2 n2->st'.box=st.box->K (.slice 4 (o++[wV k t (a,b)]) U) st'):Ai 4 40 o w1 [[.int .i64 k,.str t,.int .i64 a,.int .i64 b]] st K:=
 Mh h rfl (by rw [List.length_singleton];omega) (by rw [List.length_singleton];unfold Fk;omega) rfl Pi (λU st' hr hb=>kk U st' hr hb)
end Go.Aw
namespace Go.Proofs.Z
open Go Go.Aw
section
variable {st:St} {R:AD->St->Prop}
attribute [local irreducible] Go.Aw.Ai
theorem sY {q:Nat} {k e0 Da ends:Int} (hl:s.length<=100000000) (hsp:sp<=p) (hpq:p<=q) (hq:q<=s.length) (hln:1<=ln/\ln<=800000000) (hcol:1<=Da/\Da<=1000000000)
 (hg:0<=FP/\FP<=1000000000) (ht:AR.length<=1000000000) (U:st0.box b=none) (hR:Cq st0 st w1 (AR.length*4) w2 n2) (hb:st.box b=some (QP s p sp ln Da AR notes w1 w2 FP ends j))
 (h:∀w1' st',Cq st0 st' w1' ((AR.length+1)*4) w2 n2->st'.box b=some (QP s q q (C7 s p q (C7 s sp p (ln,Da))).1 (C7 s p q (C7 s sp p (ln,Da))).2 (AR++[wV k (BA s p q) (C7 s sp p (ln,Da))]) notes w1' w2
   (if decide (¬k=15)|| !Lib.contains [123,125,59] (BA s p q) then FP+1 else FP) (C7 s p q (C7 s sp p (ln,Da))).1 true)->R (.ret (.Bl [])) st'):PC 63 [.ptr b 0,.agg [.int .i64 k,.int .i64 q,.int .i64 e0]] st R:=by
 have z1:=eG (s:=s) (p:=(ln,Da)) hsp H1 hcol.1
 refine AQ Ac [] Tryz.func63 rfl IR rfl ?_
 refine Ah (Aj Ac ?_)
 repeat' ((conv=>whnf);first|exact B1|(refine Bc ?_;intros)|(refine B2 ?_ ?_ ?_;rotate_left)|fail)
 refine Ah (Aj Ac ?_)
 repeat' ((conv=>whnf);first|exact B1|(refine Bc ?_;intros)|(refine B2 ?_ ?_ ?_;rotate_left)|refine sX hl hsp H1 H1 H1 hb ?_|refine Aq hb ?_|fail)
 generalize C7 s sp p (ln,Da)=pl1 at h z1 |-
 have z2:=eG (s:=s) (p:=pl1) hpq hq z1.2.2.1
 dsimp only at z1 z2
 refine Ah (OM Ac (BX _) (λ_ _ _ _ _ h k=>k.mono h) 16 6 [(0,true),(1,true),(2,true),(3,true),(4,true),(5,true),(6,true),(7,true),(8,true),(9,true),(10,true),(11,true),(12,true),(13,true),(14,true),(15,true)] [] rfl rfl rfl M2 M2 rfl rfl rfl (Nat.le_of_ble_eq_true rfl) rfl ?_)
 repeat' ((conv=>whnf);first|exact B1|(refine Bc ?_;intros)|(refine B2 ?_ ?_ ?_;rotate_left)|refine V1 hpq hq ?_|refine Aq (St.A1 _ _ _) ?_|fail)
 refine Ah (Aj Ac ?_)
 repeat' ((conv=>whnf);first|refine Ad 11 [7,10] [] ?_|exact B1|(refine Bc ?_;intros)|(refine B2 ?_ ?_ ?_;rotate_left)|refine Aq (St.A1 _ _ _) ?_|refine n9 (hR.set U _) ht (λw1' st1 hr1 hb1=>?_)|refine Aq ((congrFun hb1 b).trans (St.A1 _ _ _)) ?_|fail)
 clear hR hb
 rcases hc:(decide (¬k=15)|| !Lib.contains [123,125,59] (BA s p q)) with _|_
 all_goals rw [hc] at h
 .have hcc:∀{st:St} {R:AD->St->Prop},R (.ret (.bool false)) st->PC 137 [.agg [.int .i64 k,.str (BA s p q),.int .i64 pl1.1,.int .i64 pl1.2]] st R:=λh=>XH (by rw [hc];exact h)
  refine Ah (Aj Ac ?_)
  repeat' ((conv=>whnf);first|exact B1|(refine Bc ?_;intros)|(refine B2 ?_ ?_ ?_;rotate_left)|refine hcc ?_|refine Aq (St.A1 _ _ _) ?_|fail)
  refine Aj Ac ?_
  repeat' ((conv=>whnf);first|exact B1|(refine Bc ?_;intros)|(refine B2 ?_ ?_ ?_;rotate_left)|refine sX hl hpq hq H1 H1 (St.A1 _ _ _) ?_|refine Aq (St.A1 _ _ _) ?_|fail)
  all_goals exact fin (h w1' _ ((((hr1.set U _).set U _).set U _).set U _) (St.A1 _ _ _)) rfl
 .have hcc:∀{st:St} {R:AD->St->Prop},R (.ret (.bool true)) st->PC 137 [.agg [.int .i64 k,.str (BA s p q),.int .i64 pl1.1,.int .i64 pl1.2]] st R:=λh=>XH (by rw [hc];exact h)
  refine Ah (Aj Ac ?_)
  repeat' ((conv=>whnf);first|exact B1|(refine Bc ?_;intros)|(refine B2 ?_ ?_ ?_;rotate_left)|refine hcc ?_|refine Aq (St.A1 _ _ _) ?_|fail)
  refine Aj Ac ?_
  repeat' ((conv=>whnf);first|exact B1|(refine Bc ?_;intros)|(refine B2 ?_ ?_ ?_;rotate_left)|refine sX hl hpq hq H1 H1 (St.A1 _ _ _) ?_|refine Aq (St.A1 _ _ _) ?_|fail)
  all_goals exact fin (h w1' _ (((((hr1.set U _).set U _).set U _).set U _).set U _) (St.A1 _ _ _)) rfl
end
structure Nt where
 text:List UInt8
 FP:Int
 wh:Int
 line:Int
 Da:Int
def Nt.cells (n:Nt):List V:=[.str n.text,.int .i64 n.FP,.int .i64 n.wh,.int .i64 n.line,.int .i64 n.Da]
def MD (l:List Nt):List (List V):=l.map Nt.cells
structure Lx where
 AR:List Tk
 notes:List Nt
 FP:Int
 ends:Int
 j:Bool
def xS:Lx:=⟨[],[],0,0,false⟩
def cntF (k:Int) (t:List UInt8):Bool:=decide (¬k=15)|| !Lib.contains [123,125,59] t
def ZR (s:List UInt8) (p q:Nat) (k:Int) (x:Lx):Lx:=
 ⟨x.AR++[⟨k,BA s p q,(Ei s p).1,(Ei s p).2⟩],x.notes,if cntF k (BA s p q) then x.FP+1 else x.FP,(Ei s q).1,true⟩
def EN (s:List UInt8) (p:Nat):Nat:=p+CF (λc=>A4 c==1) (s.drop p)
theorem LU (h:p<=s.length):p<=EN s p/\EN s p<=s.length:=by
 have:=Gz (λc=>A4 c==1) (s.drop p)
 rw [List.length_drop] at this
 unfold EN;omega
def xA (s:List UInt8) (p q:Nat) (x:Lx):Bool:=x.j&&decide (x.ends=(Ei s p).1)&&decide ((Ei s q).1=(Ei s p).1)
def bo (s:List UInt8) (p q:Nat):Bool:=decide (EN s q<s.length)&&decide ((Ei s (EN s q)).1=(Ei s p).1)
def mV (s:List UInt8) (p q:Nat) (x:Lx):Lx:=
 ⟨x.AR,x.notes++[⟨BA s p q,x.FP,if xA s p q x then (if bo s p q then 1 else 2) else 3,(Ei s p).1,(Ei s p).2⟩],x.FP,(Ei s q).1,xA s p q x&&bo s p q⟩
def IF (s:List UInt8) (p:Nat) (x:Lx):Sum (Int×Int) Lx:=
 if hp:p<s.length then
  if (Dk s p).2≠0 then .inl ((p:Nat),(Dk s p).2)
  else if 0<(Dk s p).1 then
   (if U:p<(Dk s p).1.toNat then IF s (EN s (Dk s p).1.toNat) (mV s p (Dk s p).1.toNat x) else .inr x)
  else if (Dx s p).2.2≠0 then .inl ((Dx s p).2.1,(Dx s p).2.2)
  else (if U:p<(Dx s p).2.1.toNat then IF s (EN s (Dx s p).2.1.toNat) (ZR s p (Dx s p).2.1.toNat (Dx s p).1 x) else .inr x)
 else .inr x
termination_by s.length - p
decreasing_by
 all_goals unfold EN;omega
def Gq (s:List UInt8):Sum (Int×Int) Lx:=
 if 16777216<s.length then .inl (0,3)
 else if (OT s).2≠0 then .inl (OT s)
 else if 0<=bm (λc=>A4 (c:Nat)==0) s then .inl (bm (λc=>A4 (c:Nat)==0) s,70)
 else IF s (EN s 0) xS
theorem kY (h:(OT s).2=0):Vd s:=by
 unfold OT at h
 split at h
 .exact absurd h (show ¬(10:Int)=0 by decide)
 .have:=S6 F4 s
  unfold Vd;omega
end Go.Proofs.Z
namespace Go.Aw
open Go
theorem Cj.le {k:Nat} (h:Cj l k):k<=l.length:=by
 induction h with
 |zero l=>omega
 |step U h ih=>have:=Hw U;grind
theorem Cj.blank (hv:Vd l):Cj l (CF (λc=>A4 c==1) l):=by
 refine Bd.cut (Bd.span _ l) ?_
 rintro ⟨h0,_,U⟩
 have U:A6 (l.drop (CF (λc=>A4 c==1) l))=10:=U
 have hlt:=Cp (l:=l) (k:=CF (λc=>A4 c==1) l) H1
 have:=S7 (λc=>A4 c==1) l hlt
 rw [(Hc H1 H1).2,U] at this
 exact absurd this IR
theorem mT (e:(Dk s p).2=0) (U:0<(Dk s p).1):∃n:Nat,0<n/\Gv (s.drop p)=(n:Nat)/\(Dk s p).1=(p+n:Nat):=by
 unfold Dk at e U |-
 split
 .simp_all
 .rename_i h
  rw [if_neg h] at e U
  split
  .simp_all
  .rename_i h1
   exact ⟨(Gv (s.drop p)).toNat,H1,H1,H1⟩
theorem YI (hv:Vd s) (h:Cj s p) (e:(Dk s p).2=0) (U:0<(Dk s p).1):∃q,(Dk s p).1=(q:Nat)/\p<q/\q<=s.length/\Cj s q:=by
 obtain ⟨n,h1,h2,h3⟩:=mT e U
 have hc:=Cj.add h (Cj.note (h.bd.vd hv) h2)
 exact ⟨p+n,h3,H1,hc.le,hc⟩
theorem rY (h:(EA l).1≠0):0<(EA l).2:=by
 unfold EA at h |-
 grind
theorem pC (h:(E1 l).1≠0):0<(E1 l).2:=by
 have U:=ou l (BB l).2 (BB l).1
 by_cases hp:(BB l).1=0
 .unfold E1 at h
  rw [Zo (λx=>by omega)] at h
  omega
 .have:=iv hp
  unfold E1;omega
theorem Yh (hv:Vd s) (h:Cj s p) (e:(Dx s p).2.2=0):(Dx s p).1≠0/\∃q,(Dx s p).2.1=(q:Nat)/\p<q/\q<=s.length/\Cj s q:=by
 have hv':=h.bd.vd hv
 unfold Dx at e |-
 split
 .rename_i U
  refine ⟨U,p+(EA (s.drop p)).2,?_⟩
  have hn:(EA (s.drop p)).1≠0:=λx=>by
   unfold HP at U;simp_all
  have hc:=Cj.add h (Cj.num (s.drop p))
  have:=rY hn
  refine ⟨?_,H1,hc.le,hc⟩
  unfold HP;simp_all
 .rename_i U
  rw [if_neg U] at e
  split
  .rename_i h2
   rw [if_pos h2] at e
   split
   .simp_all
   .rename_i h3
    refine ⟨h3,p+(E1 (s.drop p)).2,?_⟩
    have hn:(E1 (s.drop p)).1≠0:=λx=>by
     unfold IA at h3;simp_all
    have hc:=Cj.add h (Cj.word (s.drop p))
    have:=pC hn
    refine ⟨?_,H1,hc.le,hc⟩
    unfold IA;simp_all
  .rename_i h2
   rw [if_neg h2] at e
   have hk:(Dc s p).1≠0:=λx=>h2 ⟨x,e⟩
   obtain ⟨n,e1,e2,e3⟩:=Cj.quote hv' hk
   have hc:=Cj.add h e3
   exact ⟨hk,p+n,e1,H1,hc.le,hc⟩
theorem Cj.uZ (U:Vd s) (h:Cj s p):Cj s (Go.Proofs.Z.EN s p):=Cj.add h (Cj.blank (h.bd.vd U))
theorem Cj.sub {i j:Nat} (h:Cj l i) (k:Cj l j) (hij:i<=j):Cj (l.drop i) (j - i):=by
 induction h generalizing j with
 |zero l=>exact k
 |@step l i hne h ih=>
  cases k with
  |zero=>simp_all
  |@step _ U _ k=>
   rw [show Be l+U - (Be l+i)=U - i by omega,<-List.drop_drop]
   simp_all
theorem Rp:1<=(Ei s p).1/\(Ei s p).1<=1+s.length/\1<=(Ei s p).2/\(Ei s p).2<=1+8*s.length:=by
 have:=Tl _ s p (1,1) (Nat.le_refl _) IR
 unfold Ei
 omega
theorem Ph {a:Nat} (hv:Vd s) (U:Cj s a) (hb:Cj s b) (h:a<=b):C7 s a b (Ei s a)=Ei s b:=nn hv U (U.sub hb h) h hb.le
def zm (t:List UInt8) (FP wh:Int) (p:Int×Int):List V:=[.str t,.int .i64 FP,.int .i64 wh,.int .i64 p.1,.int .i64 p.2]
theorem Pp {st:St} {n1:Nat} {g k a b:Int} {K:V->St->Prop} (h:Cq st0 st w1 n1 w2 (o.length*5)) (hl:o.length<=1000000000)
 (kk:∀U st',Cq st0 st' w1 n1 U ((o.length+1)*5)->st'.box=st.box->K (.slice 5 (o++[zm t g k (a,b)]) U) st'):Ai 5 48 o w2 [[.str t,.int .i64 g,.int .i64 k,.int .i64 a,.int .i64 b]] st K:=
 Mh h.swap rfl (by rw [List.length_singleton];omega) (by rw [List.length_singleton];unfold Fk;omega) rfl Pi (λw1' st' hr hb=>kk w1' st' hr.swap hb)
end Go.Aw
namespace Go.Proofs.Z
open Go Go.Aw
section
variable {st:St} {R:AD->St->Prop}
attribute [local irreducible] Go.Aw.Ai
theorem fB {q:Nat} {ends:Int} (hl:s.length<=100000000) (hv:Vd s) (c1:Cj s sp) (c2:Cj s q) (U:sp<=q)
 (hb:st.box b=some (QP s p sp (Ei s sp).1 (Ei s sp).2 AR notes w1 w2 FP ends j))
 (h:R (.ret (.Bl [.int .i64 (Ei s q).1,.int .i64 (Ei s q).2])) (st.Ab b (QP s p q (Ei s q).1 (Ei s q).2 AR notes w1 w2 FP ends j))):PC 133 [.ptr b 0,.int .i64 q] st R:=by
 have e:C7 s sp q ((Ei s sp).1,(Ei s sp).2)=Ei s q:=Ph hv c1 c2 U
 have hc:=Rp (s:=s) (p:=sp)
 refine sX hl U c2.le H1 H1 hb ?_
 rw [e];exact h
theorem pb {q:Nat} {k e0 ends:Int} (hl:s.length<=50000000) (hv:Vd s) (c1:Cj s sp) (c2:Cj s p) (c3:Cj s q) (hsp:sp<=p) (hpq:p<=q)
 (hg:0<=FP/\FP<=1000000000) (ht:AR.length<=1000000000) (hb0:st0.box b=none) (hR:Cq st0 st w1 (AR.length*4) w2 n2) (hb:st.box b=some (QP s p sp (Ei s sp).1 (Ei s sp).2 AR notes w1 w2 FP ends j))
 (h:∀U st',Cq st0 st' U ((AR.length+1)*4) w2 n2->st'.box b=some (QP s q q (Ei s q).1 (Ei s q).2 (AR++[wV k (BA s p q) (Ei s p)]) notes U w2
   (if cntF k (BA s p q) then FP+1 else FP) (Ei s q).1 true)->R (.ret (.Bl [])) st'):PC 63 [.ptr b 0,.agg [.int .i64 k,.int .i64 q,.int .i64 e0]] st R:=by
 have e1:C7 s sp p ((Ei s sp).1,(Ei s sp).2)=Ei s p:=Ph hv c1 c2 hsp
 have e2:C7 s p q (Ei s p)=Ei s q:=Ph hv c2 c3 hpq
 have hc:=Rp (s:=s) (p:=sp)
 refine sY H1 hsp hpq c3.le H1 H1 hg ht hb0 hR hb (λU st' hr hb'=>h U st' hr ?_)
 rw [e1,e2] at hb';exact hb'
theorem vY {q n1:Nat} {ends:Int} (hl:s.length<=50000000) (hv:Vd s) (c1:Cj s sp) (c2:Cj s p) (c3:Cj s q) (hsp:sp<=p) (hpq:p<=q)
 (hg:0<=FP/\FP<=1000000000) (ht:notes.length<=1000000000) (U:st0.box b=none) (hR:Cq st0 st w1 n1 w2 (notes.length*5)) (hb:st.box b=some (QP s p sp (Ei s sp).1 (Ei s sp).2 AR notes w1 w2 FP ends j))
 (h:∀w2' st' sp',Cj s sp'->sp'<=EN s q->Cq st0 st' w1 n1 w2' ((notes.length+1)*5)->
   st'.box b=some (QP s (EN s q) sp' (Ei s sp').1 (Ei s sp').2 AR (notes++[zm (BA s p q) FP (if j&&decide (ends=(Ei s p).1)&&decide ((Ei s q).1=(Ei s p).1) then (if bo s p q then 1 else 2) else 3) (Ei s p)]) w1 w2' FP (Ei s q).1
    (j&&decide (ends=(Ei s p).1)&&decide ((Ei s q).1=(Ei s p).1)&&bo s p q))->R (.ret (.Bl [])) st'):PC 61 [.ptr b 0,.int .i64 q] st R:=by
 have c4:=c3.uZ hv
 have hq:=c3.le
 have hr:=LU hq
 have z1:=Rp (s:=s) (p:=p)
 have z2:=Rp (s:=s) (p:=q)
 have z3:=Rp (s:=s) (p:=EN s q)
 refine AQ Ac [] Tryz.func61 rfl IR rfl ?_
 refine Ah (Aj Ac ?_)
 repeat' ((conv=>whnf);first|exact B1|(refine Bc ?_;intros)|(refine B2 ?_ ?_ ?_;rotate_left)|refine fB H1 hv c1 c2 hsp hb ?_|refine Aq hb ?_|refine Au NE ?_|fail)
 refine Ah (OM Ac (BX _) (λ_ _ _ _ _ h k=>k.mono h) 17 6 [(0,true),(1,true),(2,true),(3,true),(4,true),(5,true),(6,true),(7,true),(8,true),(9,true),(10,true),(11,true),(12,true),(13,true),(14,true),(15,true),(16,true)] [] rfl rfl rfl M2 M2 rfl rfl rfl (Nat.le_of_ble_eq_true rfl) rfl ?_)
 repeat' ((conv=>whnf);first|exact B1|(refine Bc ?_;intros)|(refine B2 ?_ ?_ ?_;rotate_left)|refine V1 hpq hq ?_|refine Aq (St.A1 _ _ _) ?_|refine Au NE ?_|fail)
 refine Ah (Aj Ac ?_)
 repeat' ((conv=>whnf);first|exact B1|(refine Bc ?_;intros)|(refine B2 ?_ ?_ ?_;rotate_left)|refine fB H1 hv c2 c3 hpq (St.A1 _ _ _) ?_|refine Aq (St.A1 _ _ _) ?_|refine Au NE ?_|fail)
 have hbl:∀{st:St} {R:AD->St->Prop} {sp:Nat} {FP ends:Int} {j:Bool} {notes:List (List V)} {w2:Ay},st.box b=some (QP s q sp (Ei s sp).1 (Ei s sp).2 AR notes w1 w2 FP ends j)->
  R (.ret (.Bl [])) (st.Ab b (QP s (EN s q) sp (Ei s sp).1 (Ei s sp).2 AR notes w1 w2 FP ends j))->PC 59 [.ptr b 0] st R:=λhb h=>NM H1 hq hb h
 have hcase:(j=false\/(j=true/\¬ends=(Ei s p).1)\/(j=true/\ends=(Ei s p).1/\¬(Ei s q).1=(Ei s p).1))\/(j=true/\ends=(Ei s p).1/\(Ei s q).1=(Ei s p).1):=by
  cases j
  .exact .inl (.inl rfl)
  .by_cases e1:ends=(Ei s p).1
   .by_cases e2:(Ei s q).1=(Ei s p).1
    .exact .inr ⟨rfl,e1,e2⟩
    .exact .inl (.inr (.inr ⟨rfl,e1,e2⟩))
   .exact .inl (.inr (.inl ⟨rfl,e1⟩))
 rcases hcase with hc|⟨rfl,he1,he2⟩
 .have e:(j&&decide (ends=(Ei s p).1)&&decide ((Ei s q).1=(Ei s p).1))=false:=by
   rcases hc with rfl|⟨rfl,e1⟩|⟨rfl,e1,e2⟩<;>simp [*]
  rw [e] at h
  rcases hc with rfl|⟨rfl,e1⟩|⟨rfl,e1,e2⟩
  all_goals refine Ah (Aj Ac ?_)
  repeat' ((conv=>whnf);first|exact B1|(refine Bc ?_;intros)|(refine B2 ?_ ?_ ?_;rotate_left)|refine Aq (St.A1 _ _ _) ?_|refine Au NE ?_|fail)
  all_goals refine Ah (Aj Ac ?_)
  repeat' ((conv=>whnf);first|exact B1|(refine Bc ?_;intros)|(refine B2 ?_ ?_ ?_;rotate_left)|refine Aq (St.A1 _ _ _) ?_|refine Au NE ?_|fail)
  all_goals refine Ah (Aj Ac ?_)
  repeat' ((conv=>whnf);first|exact B1|(refine Bc ?_;intros)|(refine B2 ?_ ?_ ?_;rotate_left)|refine hbl (St.A1 _ _ _) ?_|refine Au NE ?_|fail)
  all_goals refine Ah (Aj Ac ?_)
  repeat' ((conv=>whnf);first|exact B1|(refine Bc ?_;intros)|(refine B2 ?_ ?_ ?_;rotate_left)|refine Aq (St.A1 _ _ _) ?_|refine Au NE ?_|fail)
  all_goals refine Ah (Aj Ac ?_)
  repeat' ((conv=>whnf);first|exact B1|(refine Bc ?_;intros)|(refine B2 ?_ ?_ ?_;rotate_left)|refine Au NE ?_|fail)
  all_goals refine Aj Ac ?_
  repeat' ((conv=>whnf);first|refine Ad 11 [7,10] [] ?_|exact B1|(refine Bc ?_;intros)|(refine B2 ?_ ?_ ?_;rotate_left)|refine Aq (St.A1 _ _ _) ?_|refine Pp (((((hR.set U _).set U _).set U _).set U _).set U _) ht (λw1' st1 hr1 hb1=>?_)|refine Aq ((congrFun hb1 b).trans (St.A1 _ _ _)) ?_|refine Au NE ?_|fail)
  all_goals exact fin (h w1' _ q c3 hr.1 (hr1.set U _) (St.A1 _ _ _)) rfl
 .have e:(true&&decide (ends=(Ei s p).1)&&decide ((Ei s q).1=(Ei s p).1))=true:=by simp [*]
  rw [e] at h
  refine Ah (Aj Ac ?_)
  repeat' ((conv=>whnf);first|exact B1|(refine Bc ?_;intros)|(refine B2 ?_ ?_ ?_;rotate_left)|refine Aq (St.A1 _ _ _) ?_|refine Au NE ?_|fail)
  refine Ah (Aj Ac ?_)
  repeat' ((conv=>whnf);first|exact B1|(refine Bc ?_;intros)|(refine B2 ?_ ?_ ?_;rotate_left)|refine Aq (St.A1 _ _ _) ?_|refine Au NE ?_|fail)
  refine Ah (Aj Ac ?_)
  repeat' ((conv=>whnf);first|exact B1|(refine Bc ?_;intros)|(refine B2 ?_ ?_ ?_;rotate_left)|refine hbl (St.A1 _ _ _) ?_|refine Au NE ?_|fail)
  refine Ah (Aj Ac ?_)
  repeat' ((conv=>whnf);first|exact B1|(refine Bc ?_;intros)|(refine B2 ?_ ?_ ?_;rotate_left)|refine Aq (St.A1 _ _ _) ?_|refine Au NE ?_|fail)
  rcases hin:bo s p q with _|_
  all_goals rw [hin] at h
  .have hno:¬EN s q<s.length\/(EN s q<s.length/\¬(Ei s (EN s q)).1=(Ei s p).1):=by
    by_cases h1:EN s q<s.length
    .exact .inr ⟨h1,λx=>by unfold bo at hin;simp [h1,x] at hin⟩
    .exact .inl h1
   rcases hno with hno|⟨hy,hno⟩
   all_goals refine Ah (Aj Ac ?_)
   repeat' ((conv=>whnf);first|exact B1|(refine Bc ?_;intros)|(refine B2 ?_ ?_ ?_;rotate_left)|refine fB H1 hv c3 c4 hr.1 (St.A1 _ _ _) ?_|refine Aq (St.A1 _ _ _) ?_|refine WJ (λ_=>?_)|refine Au NE ?_|fail)
   all_goals refine Aj Ac ?_
   repeat' ((conv=>whnf);first|refine Ad 11 [7,10] [] ?_|exact B1|(refine Bc ?_;intros)|(refine B2 ?_ ?_ ?_;rotate_left)|refine Aq (St.A1 _ _ _) ?_|refine Pp ((((((hR.set U _).set U _).set U _).set U _).set U _).set U _) ht (λw1' st1 hr1 hb1=>?_)|refine Aq ((congrFun hb1 b).trans (St.A1 _ _ _)) ?_|refine Au NE ?_|fail)
   all_goals exact fin (h w1' _ (EN s q) c4 (Nat.le_refl _) (hr1.set U _) (St.A1 _ _ _)) rfl
  .have hy:EN s q<s.length/\(Ei s (EN s q)).1=(Ei s p).1:=by unfold bo at hin;simpa using hin
   obtain ⟨hy1,hy2⟩:=hy
   refine Ah (Aj Ac ?_)
   repeat' ((conv=>whnf);first|exact B1|(refine Bc ?_;intros)|(refine B2 ?_ ?_ ?_;rotate_left)|refine fB H1 hv c3 c4 hr.1 (St.A1 _ _ _) ?_|refine Aq (St.A1 _ _ _) ?_|refine WJ (λ_=>?_)|refine Au NE ?_|fail)
   refine Aj Ac ?_
   repeat' ((conv=>whnf);first|refine Ad 11 [7,10] [] ?_|exact B1|(refine Bc ?_;intros)|(refine B2 ?_ ?_ ?_;rotate_left)|refine Aq (St.A1 _ _ _) ?_|refine Pp (((((((hR.set U _).set U _).set U _).set U _).set U _).set U _).set U _) ht (λw1' st1 hr1 hb1=>?_)|refine Aq ((congrFun hb1 b).trans (St.A1 _ _ _)) ?_|refine Au NE ?_|fail)
   all_goals exact fin (h w1' _ (EN s q) c4 (Nat.le_refl _) (hr1.set U _) (St.A1 _ _ _)) rfl
end
end Go.Proofs.Z
namespace Go.Aw
open Go
def u4 (l:List UInt8):Nat:=CF (λc=>A4 c==1) l
def yH (l:List UInt8):List UInt8:=l.drop (u4 l)
def Cl (l:List UInt8):Prop:=CI (λd=> !(A4 (d.1:Nat)==0)) l=l.length
theorem qj (l:List UInt8):u4 (yH l)=0:=by
 by_cases h:u4 l<l.length
 .have:=S7 (λc=>A4 c==1) l h
  exact oG this
 .have:yH l=[]:=List.drop_eq_nil_iff.2 H1
  rw [this];exact iX _
end Go.Aw
namespace Go.Proofs.Z
open Go Go.Aw
def zx (s:List UInt8):Prop:=s.length<=16777216/\Vd s/\Cl s
theorem rD {y:Lx} (h:Gq s=.inr y):zx s:=by
 unfold Gq at h
 split at h
 .cases h
 .split at h
  .cases h
  .rename_i h1 h2
   split at h
   .cases h
   .rename_i U
    refine ⟨H1,kY H1,?_⟩
    unfold bm at U
    have hle:=S6 (λd=> !((λc:Nat=>A4 (c:Nat)==0) d.1)) s
    split at U
    .omega
    .show CI (λd=> !((λc:Nat=>A4 (c:Nat)==0) d.1)) s=_
     omega
theorem mv {x:Lx} (h:¬p<s.length):IF s p x=.inr x:=by rw [IF,dif_neg h]
theorem mr {x:Lx} (h:p<s.length) (U:(Dk s p).2≠0):IF s p x=.inl ((p:Nat),(Dk s p).2):=by rw [IF,dif_pos h,if_pos U]
theorem gX {q:Nat} {x:Lx} (h:p<s.length) (U:(Dk s p).2=0) (h2:(Dk s p).1=(q:Nat)) (h3:p<q):IF s p x=IF s (EN s q) (mV s p q x):=by
 rw [IF,dif_pos h,if_neg (λe=>e U),if_pos H1,h2,Int.toNat_natCast,dif_pos h3]
theorem mw {x:Lx} (h:p<s.length) (U:(Dk s p).2=0) (h2:¬0<(Dk s p).1) (h3:(Dx s p).2.2≠0):IF s p x=.inl ((Dx s p).2.1,(Dx s p).2.2):=by
 rw [IF,dif_pos h,if_neg (λe=>e U),if_neg h2,if_pos h3]
theorem mz {q:Nat} {x:Lx} (h:p<s.length) (U:(Dk s p).2=0) (h2:¬0<(Dk s p).1) (h3:(Dx s p).2.2=0) (h4:(Dx s p).2.1=(q:Nat)) (h5:p<q):IF s p x=IF s (EN s q) (ZR s p q (Dx s p).1 x):=by
 rw [IF,dif_pos h,if_neg (λe=>e U),if_neg h2,if_neg (λe=>e h3),h4,Int.toNat_natCast,dif_pos h5]
structure LW where
 p:Nat
 sp:Nat
 x:Lx
 w1:Ay
 w2:Ay
 m:St
theorem jv (l:List Tk) (t:Tk):Bb (l++[t])=Bb l++[t.cells]:=by simp [Bb]
theorem bY (l:List Nt) (t:Nt):MD (l++[t])=MD l++[t.cells]:=by simp [MD]
theorem KD (l:List Nt):(MD l).length=l.length:=by simp [MD]
theorem qm (s:List UInt8) (p:Nat):EN s (EN s p)=EN s p:=by
 have h:=qj (s.drop p)
 have e:yH (s.drop p)=s.drop (EN s p):=by unfold yH;rw [List.drop_drop];rfl
 rw [e] at h
 exact Nat.add_eq_left.2 h
section
variable {st:St} {R:AD->St->Prop}
attribute [local irreducible] Go.Aw.Ai
theorem Yg (c:Nat) (hc:c<=1114111):PC 57 [.int .i32 (c:Int)] vX λr _=>r=.ret (.bool (A4 (c:Int)==0)):=by
 refine pB Tryz.func57 ?_
 repeat' ((conv=>whnf);first|  (refine CD ?_ ?_<;>intro _)|refine LX ?_)
 all_goals first|exact An rfl (by simp [*])|(conv=>whnf;simp [*])
theorem ue (h1:∀i e,Gq s=.inl (i,e)->R (.ret (.Bl [.slice 4 [] .full,.slice 5 [] .full,.int .i64 i,.int .i64 e])) st)
 (h1':∀i e st',st.le st'->Gq s=.inl (i,e)->R (.ret (.Bl [.slice 4 [] .full,.slice 5 [] .full,.int .i64 i,.int .i64 e])) st')
 (h2:∀x w1 w2 st',Gq s=.inr x->st.le st'->R (.ret (.Bl [.slice 4 (Bb x.AR) w1,.slice 5 (MD x.notes) w2,.int .i64 0,.int .i64 0])) st'):PC 22 [.str s] st R:=by
 refine AQ Ac [30] Tryz.func22 rfl IR rfl ?_
 by_cases hl:16777216<s.length
 .have e:Gq s=.inl (0,3):=by unfold Gq;rw [if_pos hl]
  refine Aj Ac ?_
  repeat' ((conv=>whnf);first|exact B1|(refine Bc ?_;intros)|(refine B2 ?_ ?_ ?_;rotate_left)|refine WJ (λ_=>?_)|refine Au NE ?_|fail)
  exact fin (h1 _ _ e) rfl
 .by_cases hk:(OT s).2=0
  .by_cases hx:0<=bm (λc=>A4 (c:Nat)==0) s
   .have e:Gq s=.inl (bm (λc=>A4 (c:Nat)==0) s,70):=by unfold Gq;rw [if_neg hl,if_neg (λx=>x hk),if_pos hx]
    refine Aj Ac ?_
    repeat' ((conv=>whnf);first|exact B1|(refine Bc ?_;intros)|(refine B2 ?_ ?_ ?_;rotate_left)|refine WJ (λ_=>?_)|refine U9 ?_|refine dV (p:=λc=>A4 (c:Nat)==0) Yg ?_|refine Au NE ?_|fail)
    exact fin (h1 _ _ e) rfl
   .have e:Gq s=IF s (EN s 0) xS:=by unfold Gq;rw [if_neg hl,if_neg (λx=>x hk),if_neg hx]
    have hv:=kY hk
    refine Ah (Aj Ac ?_)
    repeat' ((conv=>whnf);first|exact B1|(refine Bc ?_;intros)|(refine B2 ?_ ?_ ?_;rotate_left)|refine Au NE ?_|fail)
    refine Ah (Aj Ac ?_)
    repeat' ((conv=>whnf);first|exact B1|(refine Bc ?_;intros)|(refine B2 ?_ ?_ ?_;rotate_left)|refine WJ (λ_=>?_)|refine Au NE ?_|fail)
    refine Ah (Aj Ac ?_)
    repeat' ((conv=>whnf);first|exact B1|(refine Bc ?_;intros)|(refine B2 ?_ ?_ ?_;rotate_left)|refine U9 ?_|refine Au NE ?_|fail)
    refine Ah (Aj Ac ?_)
    repeat' ((conv=>whnf);first|exact B1|(refine Bc ?_;intros)|(refine B2 ?_ ?_ ?_;rotate_left)|refine dV (p:=λc=>A4 (c:Nat)==0) Yg ?_|refine Au NE ?_|fail)
    refine Ah (Aj Ac ?_)
    repeat' ((conv=>whnf);first|exact B1|(refine Bc ?_;intros)|(refine B2 ?_ ?_ ?_;rotate_left)|refine U6 (λb fb=>?_)|refine Au NE ?_|fail)
    have hb0:=fb.1
    have hq0:=LU (s:=s) (p:=0) H1
    refine Aj Ac ?_
    repeat' ((conv=>whnf);first|exact B1|(refine Bc ?_;intros)|(refine B2 ?_ ?_ ?_;rotate_left)|refine NM (p:=0) H1 H1 (St.A1 _ _ _) ?_|refine Au NE ?_|fail)
    refine O9 (α:=LW) (λ_=>[]) [0,6] [] (λy=>y.m) (λy=>y.m.box b=some (QP s y.p y.sp (Ei s y.sp).1 (Ei s y.sp).2 (Bb y.x.AR) (MD y.x.notes) y.w1 y.w2 y.x.FP y.x.ends y.x.j)/\Cq st y.m y.w1 (y.x.AR.length*4) y.w2 (y.x.notes.length*5)/\
     Cj s y.sp/\Cj s y.p/\y.sp<=y.p/\0<=y.x.FP/\y.x.FP<=y.p/\y.x.AR.length<=y.p/\y.x.notes.length<=y.p/\IF s (EN s 0) xS=IF s y.p y.x)
     (λy=>s.length - y.p) ⟨EN s 0,0,xS,.full,.full,_⟩ ⟨?_,⟨trivial,trivial,trivial,trivial,trivial,St.Av (St.Av (St.le_refl _) hb0 _) hb0 _⟩,.zero s,Cj.uZ hv (.zero s),by simp only [];omega,Int.le_refl _,by simp only [xS];omega,Nat.zero_le _,Nat.zero_le _,rfl⟩ Yl (St.le_refl _) ?_
    .have e0:Ei s 0=(1,1):=G9
     dsimp only
     rw [e0]
     exact St.A1 _ _ _
    rintro ⟨p,sp,x,w1,w2,m⟩ ⟨j1,j2,j3,j4,j5,j6,j7,j8,j9,U⟩
    dsimp only at j1 j2 j3 j4 j5 j6 j7 j8 j9 U |-
    have hp:=j4.le
    by_cases hpl:p<s.length
    .have hns:=λ{R:AD->St->Prop}=>rX (st:=m) (R:=R) (s:=s) (pos:=p) H1 hpl
     by_cases n2:(Dk s p).2=0
     .rw [n2] at hns
      by_cases n1:0<(Dk s p).1
      .obtain ⟨q,e1,e2,e3,e4⟩:=YI hv j4 n2 n1
       rw [e1] at hns
       rw [gX hpl n2 e1 e2] at U
       have hq:=LU e3
       have hnt:=λ{R:AD->St->Prop}=>vY (st:=m) (R:=R) (st0:=st) H1 hv j3 j4 e4 j5 H1 ⟨j6,H1⟩ (by rw [KD];omega) hb0 (by rw [KD];exact j2) j1
       repeat' ((conv=>whnf);first|exact B1|(refine Bc ?_;intros)|(refine B2 ?_ ?_ ?_;rotate_left)|refine hns ?_|refine Aq j1 ?_|refine WJ (λ_=>?_)|refine hnt (λv2 st' sp' c' hs' hR hB=>?_)|refine NM (p:=EN s q) H1 H1 hB ?_|refine Au NE ?_|fail)
       all_goals conv=>whnf
       have eb:=qm s q
       refine ⟨⟨EN s q,sp',mV s p q x,w1,v2,_⟩,⟨?_,?_,c',e4.uZ hv,hs',j6,by show x.FP<=_;simp only [];omega,by show x.AR.length<=_;simp only [];omega,by show (x.notes++[_]).length<=_;rw [List.length_append,List.length_singleton];simp only [];omega,U⟩,by simp only [];omega,Yl,St.le_refl _⟩
       .refine (St.A1 _ _ _).trans ?_
        show _=some (QP s (EN s q) sp' _ _ (Bb x.AR) (MD (x.notes++[_])) w1 v2 x.FP (Ei s q).1 _)
        rw [bY]
        exact congrArg (λz=>some (QP s z sp' _ _ _ _ _ _ _ _ _)) eb
       .show Cq st _ w1 (x.AR.length*4) v2 ((x.notes++[_]).length*5)
        rw [List.length_append,List.length_singleton]
        rw [KD] at hR
        exact hR.set hb0 _
      .have hlx:=λ{R:AD->St->Prop}=>mA (st:=m) (R:=R) H1 hpl j1
       by_cases k2:(Dx s p).2.2=0
       .obtain ⟨k1,q,e1,e2,e3,e4⟩:=Yh hv j4 k2
        rw [k2,e1] at hlx
        rw [mz hpl n2 n1 k2 e1 e2] at U
        have hq:=LU e3
        have htk:=λ{R:AD->St->Prop}=>pb (st:=m) (R:=R) (st0:=st) (k:=(Dx s p).1) (e0:=0) H1 hv j3 j4 e4 j5 H1 ⟨j6,H1⟩ (by rw [Jc];omega) hb0 (by rw [Jc];exact j2) j1
        repeat' ((conv=>whnf);first|exact B1|(refine Bc ?_;intros)|(refine B2 ?_ ?_ ?_;rotate_left)|refine hns ?_|refine Aq j1 ?_|refine WJ (λ_=>?_)|refine hlx ?_|refine htk (λv1 st' hR hB=>?_)|refine NM (p:=q) H1 e3 hB ?_|refine Au NE ?_|fail)
        all_goals conv=>whnf
        have hgap:(ZR s p q (Dx s p).1 x).FP=x.FP\/(ZR s p q (Dx s p).1 x).FP=x.FP+1:=by
         show (if cntF (Dx s p).1 (BA s p q) then x.FP+1 else x.FP)=_\/(if cntF (Dx s p).1 (BA s p q) then x.FP+1 else x.FP)=_
         split
         .exact .inr rfl
         .exact .inl rfl
        refine ⟨⟨EN s q,q,ZR s p q (Dx s p).1 x,v1,w2,_⟩,⟨?_,?_,e4,e4.uZ hv,hq.1,by simp only [];omega,by simp only [];omega,by show (x.AR++[_]).length<=_;rw [List.length_append,List.length_singleton];simp only [];omega,by show x.notes.length<=_;simp only [];omega,U⟩,by simp only [];omega,Yl,St.le_refl _⟩
        .refine (St.A1 _ _ _).trans ?_
         show _=some (QP s (EN s q) q _ _ (Bb (x.AR++[_])) (MD x.notes) v1 w2 _ (Ei s q).1 true)
         rw [jv]
         rfl
        .show Cq st _ v1 ((x.AR++[_]).length*4) w2 (x.notes.length*5)
         rw [List.length_append,List.length_singleton]
         rw [Jc] at hR
         exact hR.set hb0 _
       .rw [mw hpl n2 n1 k2] at U
        repeat' ((conv=>whnf);first|exact B1|(refine Bc ?_;intros)|(refine B2 ?_ ?_ ?_;rotate_left)|refine hns ?_|refine Aq j1 ?_|refine WJ (λ_=>?_)|refine hlx ?_|refine Au NE ?_|fail)
        exact fin (h1' _ _ _ j2.le (e.trans U)) rfl
     .rw [mr hpl n2] at U
      repeat' ((conv=>whnf);first|exact B1|(refine Bc ?_;intros)|(refine B2 ?_ ?_ ?_;rotate_left)|refine hns ?_|refine Aq j1 ?_|refine WJ (λ_=>?_)|refine Au NE ?_|fail)
      exact fin (h1' _ _ _ j2.le (e.trans U)) rfl
    .rw [mv hpl] at U
     repeat' ((conv=>whnf);first|exact B1|(refine Bc ?_;intros)|(refine B2 ?_ ?_ ?_;rotate_left)|refine Aq j1 ?_|refine WJ (λ_=>?_)|refine Au NE ?_|fail)
     exact fin (h2 x w1 w2 m (e.trans U) j2.le) rfl
  .have e:Gq s=.inl ((OT s).1,(OT s).2):=by unfold Gq;rw [if_neg hl,if_pos hk]
   refine Aj Ac ?_
   repeat' ((conv=>whnf);first|exact B1|(refine Bc ?_;intros)|(refine B2 ?_ ?_ ?_;rotate_left)|refine WJ (λ_=>?_)|refine U9 ?_|refine Au NE ?_|fail)
   exact fin (h1 _ _ e) rfl
end
section
variable {st0 st:St} {b d:Nat} {s:Af} {rows:List (Ay×List Nd)} {K:AD->St->Prop} {L:DL}
attribute [local irreducible] Go.Aw.Ai
theorem uS (U:MQ d L) {ops exp stmt:Rd Nd} (ho:Bi enc 212 (λb=>[pv b d]) ops) (he:Bi enc 292 (λb=>[pv b d]) exp) (hs:Bi enc 360 (λb=>[pv b d]) stmt):
 Bi enc 415 (λb=>[pv b d]) (aE L ops exp stmt):=by
 refine ⟨λ{st0 b s st rows K} hc h=>?_⟩
 simp only [aE,Rd.Ao,Rd.wp_seq,Rd.wp_ret,Rd.BD] at h
 refine pB Tryz.func415 ?_
 repeat' ((conv=>whnf);(first|exact C1|(refine C2 ?_ ?_ ?_;rotate_left)|refine Ej ?_ ?_|exact Ge|refine K9 ?_|refine AA ?_|refine GJ.go (by first|exact Bi.q|exact (nH U he hs).a) ?_ ?_|refine Vy ?_|refine VN ?_|refine VM ?_|refine Ad 4 [2,3] [] ?_|refine Ad 6 [2,4,5] [1] ?_|fail)<;>intros)
end
theorem Rd.mF {σ β:Type} {body:σ->Rd (Sum σ β)} {P:β->Prop} (h1:∀x s y s',(body x).run s=.inr (.inr y,s')->P y) (x:σ) (s:Af):∀y s',(Rd.loop body x).run s=.inr (y,s')->P y:=by
 show ∀y s',Rd.iter body x s=.inr (y,s')->_
 fun_induction Rd.iter body x s with
 |case1 x s e h=>intro y s' U;cases U
 |case2 x s y s1 h=>intro y s' U;cases U;exact h1 _ _ _ _ h
 |case3 x s x' s1 h hlt ih=>exact ih
 |case4 x s x' s1 h hlt=>intro y s' U;cases U
theorem n7 {opd:Rd Nd} {U:Bool} {s s':Af} {p:List Nd×Bool} (h:(H8 opd U).run s=.inr (p,s')):∃x,p.1[((p.1.length:Nat) - 1:Int).toNat]? =some x/\p.1.getLastD BC=x/\1<=p.1.length:=by
 have:∃l x,p.1=l++[x]:=by
  refine Rd.mF (body:=Zb opd U) (P:=λp=>∃l x,p.1=l++[x]) (λx s y s' h=>?_) _ _ _ _ h
  unfold Zb at h
  obtain ⟨l,s1,_,h⟩:=Bn h
  obtain ⟨n,s2,_,h⟩:=Bn h
  replace h:(if Gp (Aa s2).1=true then .seq EB λo=>
   if U=true then .look λs=>if AP s 15 [41]=true then .ret (.inr (l++[n]++[o],true)) else .ret (.inl (l++[n]++[o]))
   else .ret (.inl (l++[n]++[o]))
   else .ret (.inr (l++[n],false)):Rd (Sum (List Nd) (List Nd×Bool))).run s2=.inr (.inr y,s'):=h
  split at h
  .obtain ⟨o,s3,_,h⟩:=Bn h
   split at h
   .replace h:(if AP s3 15 [41]=true then .ret (.inr (l++[n]++[o],true)) else .ret (.inl (l++[n]++[o])):Rd (Sum (List Nd) (List Nd×Bool))).run s3=.inr (.inr y,s'):=h
    split at h
    .cases h;exact ⟨_,_,rfl⟩
    .cases h
   .cases h
  .cases h;exact ⟨_,_,rfl⟩
 obtain ⟨l,x,e⟩:=this
 refine ⟨x,?_,?_,?_⟩
 .rw [e];simp only [List.length_append,List.length_cons,List.length_nil]
  rw [show (((l.length+(0+1):Nat):Int) - 1).toNat=l.length by omega]
  simp
 .rw [e];simp
 .rw [e];simp
theorem cG {l:List Nd} {K:List (List V)->Prop} (hn:1<=l.length) (k:K ((l.take (l.length - 1)).map Ap)):
 ((0:Int)<=0/\(0:Int)<=(l.length:Int) - 1/\(l.length:Int) - 1=(l.length:Int) - 1/\(l.length:Int) - 1<=((l.map Ap).length:Int))/\∀U,U=List.drop (Int.toNat 0) (List.take ((l.length:Int) - 1).toNat (l.map Ap))->K U:=by
 refine ⟨⟨H1,H1,rfl,by rw [List.length_map];omega⟩,λU e=>?_⟩
 rw [e,show ((l.length:Int) - 1).toNat=l.length - 1 by omega,<-List.map_take]
 exact k
section
variable {st0 st:St} {b d:Nat} {s:Af} {rows:List (Ay×List Nd)} {K:AD->St->Prop} {L:DL}
attribute [local irreducible] Go.Aw.Ai
theorem U7 {opd full exp:Rd Nd} {o:Nd} (ho:Bi enc 342 (λb=>[pv b d]) opd) (hf:Bi enc 289 (λb=>[pv b d]) full) (he:Bi enc 292 (λb=>[pv b d]) exp):
 Bi enc 419 (λb=>[pv b d,enc o]) (ER opd full exp o):=by
 refine ⟨λ{st0 b s st rows K} hc h=>?_⟩
 simp only [ER,Rd.Ao,Rd.wp_seq,Rd.wp_ret,Rd.BD] at h
 have hmu:=hc.mu
 refine AQ Ac [] Tryz.func419 rfl IR rfl ?_
 refine Ah (Aj Ac ?_)
 repeat' ((conv=>whnf);first|exact C1|(refine AV ?_;intros)|(refine C2 ?_ ?_ ?_;rotate_left)|(refine Ej ?_ ?_<;>intro e h)|fail)
 refine Ah (Aj Ac ?_)
 repeat' ((conv=>whnf);first|exact C1|(refine AV ?_;intros)|(refine C2 ?_ ?_ ?_;rotate_left)|(refine Ej ?_ ?_<;>intro e h)|refine tH.go (n8 ho) hc h (λp own1 s1 U hr hm hc h=>?_) (λe s1 U hc h=>?_)|exact Ch hc h|fail)
 all_goals obtain ⟨x,hx,hd,hn⟩:=n7 hr
 all_goals try rw [hd] at h
 all_goals refine Aj Ac ?_
 all_goals (repeat' ((conv=>whnf);first|exact C1|(refine AV ?_;intros)|(refine C2 ?_ ?_ ?_;rotate_left)|(refine Ej ?_ ?_<;>intro e h)|(refine MR ?_ ?_<;>intro U hc e h)|(refine NF ?_;intro s1 U hz hm hc h)|(refine Mt ?_ ?_<;>(first|intro n s1 U hr hm hc h|intro e s1 U hc h))|exact Ge|refine K9 ?_|(refine MA ?_;intro own1 U hc)|refine BH (λ_=>?_)|refine AA (λe1=>?_)|refine cG hn ?_|refine MT hx H1 ?_|refine Bi.go (ZY hf) hc h (λn s1 U hr hm hc h=>?_) (λe s1 U hc h=>?_)|refine Az [1,3,5,7,9,13,15,17,19,21,23,10,24,27,28,30] [2] ?_|refine Ad 7 [3,4] [] ?_|fail))
 all_goals refine CZ (λ(q:Int×List Nd) own=>[(9,.int .i64 q.1),(8,.slice 6 (q.2.map Ap) own)]) (λ_ _=>[]) [2,4] [0,2] (λq own=>(own,q.2)::rows) (λq=>q.2.length) .full (hc.drop.push _) h (by show 2+_<=_;omega) Yl ?_
 all_goals intro q s1 U own1 hc h hl hm1
 all_goals simp only [Ti,Rd.Ag,Rd.Ao,Rd.wp_seq,Rd.wp_ret,Rd.AO] at h
 all_goals obtain ⟨k,l⟩:=q
 all_goals dsimp only at hc h hl
 all_goals (repeat' ((conv=>whnf);first|exact C1|(refine AV ?_;intros)|(refine C2 ?_ ?_ ?_;rotate_left)|(refine Ej ?_ ?_<;>intro e h)|exact ⟨⟨(5,_),_,_,_⟩,⟨hc,Rd.Bh h i7,kw,i7⟩,i7,Yl,St.le_refl _⟩|(refine MR ?_ ?_<;>intro U hc e h)|(refine NF ?_;intro s1 U hz hm hc h)|(refine Mt ?_ ?_<;>(first|intro n s1 U hr hm hc h|intro e s1 U hc h))|exact Ge|refine K9 ?_|(refine MA ?_;intro own1 U hc)|refine BH (λ_=>?_)|refine AA (λe1=>?_)|refine Bi.go he hc h (λn s1 U hr hm hc h=>?_) (λe s1 U hc h=>?_)|refine Az [1,3,5,7,9,13,15,17,19,21,23,10,24,27,28,30] [2] ?_|refine Ad 7 [3,4] [] ?_|fail))
 all_goals conv=>whnf
end
section
variable {st0 st:St} {b d c:Nat} {s:Af} {rows:List (Ay×List Nd)} {K:AD->St->Prop} {L:DL} {o:Nd} {A:Rd Nd}
theorem nM (hb:Bi enc 419 (λb=>[pv b d,enc o]) A) (U:st.box c=some (Ap o)) (hc:Cx st0 b s st rows)
 (h:Rd.wp A s (λv s'=>∀st',Cx st0 b s' st' rows->K (.ret (enc v)) st') (λe s'=>∀st',Cy st0 b s' st' rows->K (.Ci (fault e.1)) st')):PC 418 [pv b d,.ptr c 0] st K:=by
 refine pB Tryz.func418 ?_
 repeat' ((conv=>whnf);(first|  refine AK U ?_|refine GJ.go (by first|exact Bi.q) ?_ ?_|exact Ge|fail)<;>intros)
theorem iZ (hb:Bi enc 421 (λb=>[pv b d,enc o]) A) (U:st.box c=some (Ap o)) (hc:Cx st0 b s st rows)
 (h:Rd.wp A s (λv s'=>∀st',Cx st0 b s' st' rows->K (.ret (enc v)) st') (λe s'=>∀st',Cy st0 b s' st' rows->K (.Ci (fault e.1)) st')):PC 420 [pv b d,.ptr c 0] st K:=by
 refine pB Tryz.func420 ?_
 repeat' ((conv=>whnf);(first|  refine AK U ?_|refine GJ.go (by first|exact Bi.q) ?_ ?_|exact Ge|fail)<;>intros)
end
section
variable {st0 st:St} {b d:Nat} {s:Af} {rows:List (Ay×List Nd)} {K:AD->St->Prop} {L:DL}
attribute [local irreducible] Go.Aw.Ai
theorem bh:Bi enc 281 (λb=>[pv b d]) AB:=by
 refine ⟨λ{st0 b s st rows K} hc h=>?_⟩
 refine pB Tryz.func281 ?_
 repeat' ((conv=>whnf);(first|  refine HS.go ‹_› ‹_› ?_ ?_|exact Ge|fail)<;>intros)
theorem np {n x:Nd} (hx:n.kids[(Int.tdiv (n.kids.length:Int) 2).toNat]? =some x) (U:n.kids[n.kids.length / 2]? =some x) (h:K (.ret (.bool (EH n))) st):PC 284 [enc n] st K:=by
 have e:EH n= !(x.form==7||x.form==8||x.form==3||x.form==4):=by unfold EH;rw [U]
 rw [e] at h
 refine pB Tryz.func284 ?_
 have h0:0<=Int.tdiv (n.kids.length:Int) 2:=Int.tdiv_nonneg H1 H1
 repeat' ((conv=>whnf);(first|refine AV ?_|refine BU ?_ ?_|refine Wm hx h0 ?_)<;>intros)
 all_goals conv=>whnf
 all_goals (refine An h ?_;clear h;simp_all)
end
end Go.Proofs.Z
namespace Go.Aw
open Go
theorem Ul {f:FuncId} {r:List V} {st:St} {R:AD->St->Prop} (hb:Plain P f) (h:s.length<4611686018427387904->Bp P f (.str s::r) st R):Bp P f (.str s::r) st R:=by
 refine ⟨?_,hb⟩
 intro I w cargs hs U
 have hl:s.length<4611686018427387904:=by
  have h2:=U
  simp only [Ar,A0] at h2
  obtain ⟨c,rr,_,h2,_⟩:=h2
  exact h2.2
 exact (h hl).a I w cargs hs U
def FX (s:List UInt8) (k:Int):Bool:=(EA s).1==k&&(s.take (EA s).2==s)
theorem ji (h:n<=s.length):s.take n=s↔n=s.length:=by
 constructor
 .intro e
  have:=congrArg List.length e
  rw [List.length_take] at this
  omega
 .intro e;rw [e,List.take_length]
theorem JQ {k:Int}:FX s k=true↔(EA s).1=k/\(EA s).2=s.length:=by
 unfold FX
 rw [Bool.and_eq_true,beq_iff_eq,beq_iff_eq,ji (VS s)]
theorem PG (h:FX s 11=true):BJ (B7 s).1 (s.drop (B7 s).2)=s.length - (B7 s).2/\(B7 s).2<=s.length:=by
 obtain ⟨U,h2⟩:=JQ.1 h
 by_cases hb:(B7 s).1=10
 .have hp:B7 s=(10,0):=by
   rcases Ir s with e|⟨e,_⟩|⟨e,_⟩
   .exact e
   .rw [e] at hb;cases hb
   .rw [e] at hb;cases hb
  rw [hp]
  refine ⟨?_,Nat.zero_le _⟩
  show BJ 10 (s.drop 0)=s.length - 0
  rw [List.drop_zero,Nat.sub_zero]
  by_cases h0:BJ 10 s=0
  .rw [bZ hb h0] at U;cases U
  .have e:=VT (l:=s) hb rfl h0 rfl rfl
   rw [e] at U h2
   dsimp only at U h2
   split at U
   .cases U
   .omega
 .have e:=SD (l:=s) hb
  have hp2:(B7 s).2=2:=by
   rcases Ir s with e|⟨e,_⟩|⟨e,_⟩
   .rw [e] at hb;exact absurd rfl hb
   .rw [e]
   .rw [e]
  rw [e] at h2
  dsimp only at h2
  rw [hp2]
  omega
theorem TZ {c b:Int} (hb:b<=16) (h:¬BQ c b<0):0<=BQ c b/\BQ c b<b/\BQ c b<=15:=by
 unfold BQ at h |-
 dsimp only at h |-
 (repeat' split at h)<;>(repeat' split)<;>omega
end Go.Aw
namespace Go.Proofs.Z
open Go Go.Aw
theorem Z5 {base:Int} {c:Nat} (h:pos<s.length) (U:(c,m)=Br (s.drop pos)) (k:¬BQ (c:Int) base<0):
 m=1/\Ha base (s.drop pos) v=if (4611686018427387904 - BQ (c:Int) base) / base<v then (0,3) else Ha base (s.drop (pos+1)) (v*base+BQ (c:Int) base):=by
 obtain ⟨a,ha⟩:∃a,s[pos]? =some a:=⟨_,List.getElem?_eq_getElem h⟩
 have e:=drop_at ha
 have hlo:a.toNat<128:=by
  apply Classical.byContradiction
  intro hn
  have:=QG (r:=s.drop (pos+1)) hn
  rw [e] at U
  rw [<-U] at this
  exact k (JD (by dsimp only at this;omega))
 rw [e,LZ hlo] at U
 obtain ⟨rfl,rfl⟩:=Prod.mk.inj U
 refine ⟨rfl,?_⟩
 rw [e,Ha]
theorem oE (ht:s.drop n=t) (U:0<=(n:Int)) (h1:(n:Int)<=s.length) (k:K t):
 (0<=(n:Int)/\(n:Int)<=(s.length:Int)/\(s.length:Int)<=s.length)/\∀s',s'=(s.take (s.length:Int).toNat).drop (n:Int).toNat->K s':=WN U h1 (by subst ht;exact k)
section
variable {st:St} {R:AD->St->Prop}
theorem xV {k:Int} (U:s.length<=4611686018427387903) (h:R (.ret (.bool (FX s k))) st):PC 387 [.str s,.int .i64 k] st R:=by
 refine pB Tryz.func387 ?_
 repeat' ((conv=>whnf);(first|  refine BU ?_ ?_|refine ey U ?_)<;>intros)
 all_goals conv=>whnf
 all_goals (refine An h ?_;clear h;simp_all [FX])
theorem uj {k:Int} {b:Bool} (e:FX s k=b) (U:s.length<=4611686018427387903) (h:R (.ret (.bool b)) st):PC 387 [.str s,.int .i64 k] st R:=xV U (by rw [e];exact h)
theorem qB {c:Nat} {b:Int} (hb:b<=16) (hl:pos<t.length) (hd:(c,m)=Br (t.drop pos)) (hr:BJ b (t.drop pos)=t.length - pos) (k:∀d,d=BQ c b->0<=d->d<b->R (.ret (.int .i64 d)) st):PC 374 [.int .i32 c,.int .i64 b] st R:=by
 have hn:¬BQ (c:Int) b<0:=λe=>by
  have:=I7 hl hd e
  omega
 obtain ⟨U,h2,_⟩:=TZ hb hn
 exact NS (k _ rfl U h2)
theorem ui {b d:Int} {K:Int->Prop} (hb:b=10\/b=8\/b=16) (U:0<=v) (h1:0<=d) (h2:d<b) (h3:¬(4611686018427387904 - d) / b<v) (k:K (v*b)):∃r,r=IntKind.i64.wrap (v*b)/\K r:=by
 refine ⟨_,(Mr ?_ ?_).symm,k⟩<;>(rcases hb with rfl|rfl|rfl<;>omega)
theorem tM {b d:Int} {K:Int->Prop} (hb:b=10\/b=8\/b=16) (U:0<=v) (h1:0<=d) (h2:d<b) (h3:¬(4611686018427387904 - d) / b<v) (k:K (v*b+d)):∃r,r=IntKind.i64.wrap (v*b+d)/\K r:=by
 refine ⟨_,(Mr ?_ ?_).symm,k⟩<;>(rcases hb with rfl|rfl|rfl<;>omega)
theorem tV {b d:Int} (hb:b=10\/b=8\/b=16) (U:0<=v) (h1:0<=d) (h2:d<b) (h3:¬(4611686018427387904 - d) / b<v):0<=v*b+d/\v*b+d<=4611686018427387904:=by
 rcases hb with rfl|rfl|rfl<;>omega
theorem UP {b:Int} (hn:FX s 11=true) (U:B7 s=(b,n)):Fs s=Ha b (s.drop n) 0:=by
 unfold Fs
 rw [if_pos (JQ.1 hn),U]
theorem tv (h:R (.ret (.Bl [.int .i64 (Fs s).1,.int .i64 (Fs s).2])) st):PC 340 [.str s] st R:=by
 refine Ul ⟨_,Tryz.func340,IR,IR⟩ λhl0=>?_
 have hl:s.length<=4611686018427387903:=H1
 refine pB Tryz.func340 ?_
 cases hn:FX s 11 with
 |false=>
  have hw:Fs s=(0,40):=by
   unfold Fs
   rw [if_neg λe=>?_]
   rw [JQ.2 e] at hn;cases hn
  rw [hw] at h
  repeat' ((conv=>whnf);first|(refine AV ?_;intros)|(refine BU ?_ ?_<;>intro _)|refine uj hn hl ?_)
  all_goals exact fin h rfl
 |true=>
  obtain ⟨hr,hle⟩:=PG hn
  have key:∀(b:Int) (n:Nat),B7 s=(b,n)->b=10\/b=8\/b=16:=λb n e=>by
   rcases Ir s with h|⟨h,_⟩|⟨h,_⟩<;>(rw [h] at e;cases e;omega)
  generalize hp:B7 s=p at hr hle
  obtain ⟨b,n⟩:=p
  have hp0:B7 s=(b,n):=hp
  dsimp only at hr hle
  have hb:=key b n hp
  rw [UP hn hp] at h
  have hlen:(s.drop n).length=s.length - n:=by rw [List.length_drop]
  generalize ht:s.drop n=t at h hr hlen
  have hr:BJ b t=t.length:=H1
  clear hp key hlen
  repeat' ((conv=>whnf);first|(refine AV ?_;intros)|(refine BU ?_ ?_<;>intro _)|refine uj hn hl ?_|refine KG hp0 hl ?_|refine oE ht H1 H1 ?_)
  conv=>whnf
  refine VG (α:=Nat) (β:=Int) (λpos v=>[(6,.int .i64 v)]) (λpos v=>[(0,[.Qo t pos])]) [0,4,5,21] [] (λ_ _=>st) (λpos v=>pos<=t.length/\BJ b (t.drop pos)=t.length - pos/\Ha b t 0=Ha b (t.drop pos) v/\0<=v/\v<=4611686018427387904) (λpos v=>t.length - pos) 0 0 ⟨Nat.zero_le _,by rw [List.drop_zero];omega,by rw [List.drop_zero],H1,H1⟩ Yl (St.le_refl _) ?_
  rintro pos v ⟨j1,j2,j3,j4,j5⟩
  rw [j3] at h
  have hb0:0<b:=H1
  repeat' ((conv=>whnf);first|(refine AV ?_;intros)|(refine BU ?_ ?_<;>intro _)|refine WK (λc m hd=>?_)|refine Wr hb0 H1 H1 ?_|refine qB H1 ‹_› ‹_› j2 (λd U hd1 hd2=>?_)|refine ui hb j4 hd1 hd2 ‹_› ?_|refine tM hb j4 hd1 hd2 ‹_› ?_)
  .rename_i hlt hgt
   obtain ⟨e1,e2⟩:=Z5 (v:=v) (base:=b) hlt hd (by rw [<-U];omega)
   rw [e2,<-U,if_pos hgt] at h
   exact fin h rfl
  .rename_i hlt hgt
   obtain ⟨e1,e2⟩:=Z5 (v:=v) (base:=b) hlt hd (by rw [<-U];omega)
   have e3:=(Oq (base:=b) hlt hd (by rw [<-U];omega)).2
   rw [<-U,if_neg hgt] at e2
   have hf:=tV hb j4 hd1 hd2 hgt
   subst e1
   conv=>whnf
   exact ⟨(pos+1,v*b+d),⟨f9,f9,by rw [j3,e2],hf.1,hf.2⟩,f9,Yl,St.le_refl _⟩
  .rename_i hlt
   rw [List.drop_eq_nil_iff.2 H1] at h
   exact fin h rfl
end
theorem Dv.sz {A:Rd Nd} {s s':Af} {n:Nd} (h:Dv A) (U:A.run s=.inr (n,s')) (hm:mu s<=100000000):n.size<=1000000000:=by have:=h.size U;omega
theorem ni {n:Nd} {s s':Af} (h:EB.run s=.inr (n,s')):∃x,n.kids[(Int.tdiv (n.kids.length:Int) 2).toNat]? =some x/\n.kids[n.kids.length / 2]? =some x:=by
 unfold EB at h
 replace h:(if HD (Aa s).1=true then Rd.seq AB λt=>.ret (Al 18 [t]) else Rd.seq (Bo 15 [96]) λo=>.seq (Cm [1,2,3,4]) λn=>.seq (Bo 15 [96]) λc=>.ret (Al 18 [o,n,c]):Rd Nd).run s=.inr (n,s'):=h
 split at h
 .obtain ⟨t,s1,_,h⟩:=Bn h
  cases h
  exact ⟨t,(by show [t][(Int.tdiv (1:Int) 2).toNat]? =some t;rw [show (Int.tdiv (1:Int) 2).toNat=0 by decide];rfl),by simp [Al,Nd.kids]⟩
 .obtain ⟨o,s1,_,h⟩:=Bn h
  obtain ⟨x,s2,_,h⟩:=Bn h
  obtain ⟨c,U,_,h⟩:=Bn h
  cases h
  exact ⟨x,(by show [o,x,c][(Int.tdiv (3:Int) 2).toNat]? =some x;rw [show (Int.tdiv (3:Int) 2).toNat=1 by decide];rfl),by simp [Al,Nd.kids]⟩
section
variable {st0 st:St} {b d:Nat} {s:Af} {rows:List (Ay×List Nd)} {K:AD->St->Prop} {L:DL}
attribute [local irreducible] Go.Aw.Ai
theorem qA {n:Nd} (h:K (.ret (.bool (OY n))) st):PC 282 [enc n] st K:=by
 refine pB Tryz.func282 ?_
 repeat' ((conv=>whnf);(first|  refine BU ?_ ?_|refine tv ?_)<;>intros)
 all_goals conv=>whnf
 all_goals (refine An h ?_;clear h;simp_all [OY])
theorem X4:Bi enc 280 (λb=>[pv b d,.func 283 [] [],.func 284 [] []]) (CY EB EH):=
 L5 QT λhr _ k=>by obtain ⟨x,U,h2⟩:=ni hr;exact np U h2 k
theorem qR:Bi enc 280 (λb=>[pv b d,.func 281 [] [],.func 282 [] []]) (CY AB OY):=
 L5 bh λ_ _ k=>qA k
theorem qX {atom:Rd Nd} (ha:Bi enc 288 (λb=>[pv b d]) atom) (U:Dv atom):Bi enc 280 (λb=>[pv b d,.func 288 [] [],.func 287 [] []]) (CY atom Nx):=
 L5 ha λhr hm k=>dX (Dv.sz U hr hm) k
theorem gN:Bi enc 211 (λb=>[pv b d]) HM:=by
 refine ⟨λ{st0 b s st rows K} hc h=>?_⟩
 simp only [HM,Gl,Rd.Ag,Rd.Ao,Rd.wp_seq,Rd.wp_ret] at h
 have hmu:=hc.mu
 refine pB Tryz.func211 ?_
 repeat' ((conv=>whnf);(first|refine AV ?_|refine Ej ?_ ?_|refine Cx.BE (l:=[_]) (Cx.push ‹_› [_]) (Nat.le_of_ble_eq_true rfl) ?_|refine UY ?_|refine MR ?_ ?_|refine NF ?_|refine Mt ?_ ?_|exact Ge|refine K9 ?_|refine MA ?_|refine GJ.go (by first|  exact qR.a|exact X4.a) ?_ ?_)<;>intros)
 all_goals refine CZ (λl own=>[(3,.slice 6 (l.map Ap) own)]) (λ_ _=>[]) [1,2] [0,1] (λl own=>(own,l)::rows) (λl=>l.length) _ ‹_› ‹_› f7 Yl ?_
 all_goals intro l s1 st1 U hc h hl hm1
 all_goals simp only [L3,Rd.Ag,Rd.Ao,Rd.wp_seq,Rd.wp_ret,Rd.AO] at h
 all_goals (repeat' ((conv=>whnf);(first|refine AV ?_|refine Ej ?_ ?_|refine UY ?_|refine MR ?_ ?_|refine NF ?_|refine Mt ?_ ?_|exact Ge|refine K9 ?_|refine MA ?_|refine GJ.go (by first|  exact X4.a) ?_ ?_)<;>intros))
theorem wP {atom full:Rd Nd} {n:Nd} (hn:n.size<=1000000000) (ha:Bi enc 288 (λb=>[pv b d]) atom) (hD:Dv atom) (hf:Bi enc 289 (λb=>[pv b d]) full):Bi enc 214 (λb=>[pv b d,enc n]) (Zs atom full n):=by
 refine ⟨λ{st0 b s st rows K} hc h=>?_⟩
 simp only [Zs,Rd.Ao,Rd.wp_seq,Rd.wp_ret,Rd.BD] at h
 have hmu:=hc.mu
 refine pB Tryz.func214 ?_
 repeat' ((conv=>whnf);(first|exact C1|refine AV ?_|(refine C2 ?_ ?_ ?_;rotate_left)|refine Ej ?_ ?_|refine MR ?_ ?_|refine NF ?_|refine Mt ?_ ?_|exact Ge|refine K9 ?_|refine MA ?_|refine AA ?_|refine dX hn ?_|refine VN ?_|refine VM ?_|refine Ad 4 [2,3] [] ?_|fail)<;>intros)
 all_goals refine CZ (λl own=>[(5,.slice 6 (l.map Ap) own)]) (λ_ _=>[]) [2,3,4] [0,1,2] (λl own=>(own,l)::rows) (λl=>l.length) .full (Cx.push ‹_› _) ‹_› (by show 1+_<=_;omega) Yl ?_
 all_goals intro l s1 st1 U hc h hl hm1
 all_goals simp only [oC,Rd.Ag,Rd.Ao,Rd.wp_seq,Rd.wp_ret,Rd.AO] at h
 all_goals (repeat' ((conv=>whnf);(first|exact C1|refine AV ?_|(refine C2 ?_ ?_ ?_;rotate_left)|refine Ej ?_ ?_|refine MR ?_ ?_|refine NF ?_|refine Mt ?_ ?_|exact Ge|refine K9 ?_|refine MA ?_|refine AA ?_|refine GJ.go (by first|exact Bi.q|exact (qX ha hD).a) ?_ ?_|fail)<;>intros))
theorem qy {atom ops exp stmt full:Rd Nd} (hL:MQ d L) (ha:Bi enc 288 (λb=>[pv b d]) atom) (hD:Dv atom) (ho:Bi enc 212 (λb=>[pv b d]) ops) (hE:Dv ops) (he:Bi enc 292 (λb=>[pv b d]) exp)
 (hs:Bi enc 360 (λb=>[pv b d]) stmt) (hf:Bi enc 289 (λb=>[pv b d]) full):Bi enc 155 (λb=>[pv b d]) (RH L atom ops exp stmt full):=by
 refine ⟨λ{st0 b s st rows K} hc h=>?_⟩
 simp only [RH,Rd.Ag,Rd.Ao,Rd.wp_seq,Rd.wp_ret,Rd.BD] at h
 have U:=hc.mu
 refine pB Tryz.func155 ?_
 repeat' ((conv=>whnf);(first|exact C1|refine AV ?_|(refine C2 ?_ ?_ ?_;rotate_left)|refine Ej ?_ ?_|refine UY ?_|refine MR ?_ ?_|exact Ge|refine K9 ?_|refine AA ?_|refine Vq ?_|refine GJ.go (by first|exact Bi.q|exact gN.a|exact (wP (Dv.sz hE ‹_› U) ha hD hf).a|exact (nH hL he hs).a) ?_ ?_|refine xO ?_|refine VN ?_|refine VM ?_|refine Ad 6 [2,4,5] [1] ?_|fail)<;>intros)
end
end Go.Proofs.Z
namespace Go.Aw
theorem Se {fs:List V} {k:List V->Prop} (h:k (fs++cs)):GS (fs++([]++cs)) k:=Bq.2 h
end Go.Aw
namespace Go.Proofs.Z
open Go Go.Aw
theorem Dv.XW {A:Rd Nd} (h:Dv A):Rd.AZ A:=λs n s' e=>by
 have U:=h.size e
 have h2:=size_pos n
 omega
def Kk (starts:Tk->Bool) (item:List Nd->Rd Nd) (f:Bool) (l:List Nd):Rd (Sum (List Nd) (List Nd)):=.seq LK λ_=>.look λs=>.seq (Gi f (!starts (Aa s).1)) λe=>
 if e=true then .ret (.inr l) else .seq (item l) λn=>.look λs=>.seq (Gi f (!FG (Aa s).1)) λe=>if e=true then .ret (.inr (l++[n])) else .ret (.inl (l++[n]))
def NN (starts:Tk->Bool) (item:List Nd->Rd Nd):Rd Nd:=.look λs=>if ((Aa s).1.kind==18)=true then .seq GN λ_=>.seq (.loop (Kk starts item false) []) λl=>.ret (Dn false l)
 else .seq (Bo 15 [123]) λ_=>.seq (.loop (Kk starts item true) []) λl=>.ret (Dn true l)
theorem Yq {σ β:Type} {ih:(AG->Env->St->Prop)->Env->St->Prop} {Q0:AG->Env->St->Prop} {st:St} {s:Af} {Q:β->Af->Prop} {E:Er->Af->Prop} {body:σ->Rd (Sum σ β)} {x0:σ} (base:σ->St)
 (f:σ->Ay->List (Nat×V)) (g:σ->Ay->List (Nat×List V)) (keep kb:List Nat) (rw:σ->Ay->List (Ay×List Nd)) (wt:σ->Nat) (U:Ay) (hc:Cx (base x0) b s st (rw x0 U)) (h:Rd.wp (Rd.loop body x0) s Q E) (hl:wt x0+4*mu s<=500000000)
 (he:(env.EG (f x0 U) (g x0 U) keep kb).C3 env)
 (hb:∀x s1 st1 own1,Cx (base x) b s1 st1 (rw x own1)->Rd.wp (body x) s1 (Rd.again body s1 Q E) E->wt x+4*mu s1<=500000000->mu s1<=mu s->
   ih (Bz (λenv' st'=>∃y:LS σ,(Cx (base y.x) b y.s y.m (rw y.x y.o)/\Rd.wp (Rd.loop body y.x) y.s Q E/\wt y.x+4*mu y.s<=500000000/\mu y.s<=mu s)/\mu y.s<mu s1/\(env.EG (f y.x y.o) (g y.x y.o) keep kb).C3 env'/\St.le y.m st') Q0)
    (env.EG (f x own1) (g x own1) keep kb) st1):
 ∃(α:Type) (E:α->Env) (S:α->St) (J:α->Prop) (μ:α->Nat) (x0:α),J x0/\(E x0).C3 env/\St.le (S x0) st/\
  ∀x,J x->ih (Bz (λenv' st'=>∃y,J y/\μ y<μ x/\(E y).C3 env'/\St.le (S y) st') Q0) (E x) (S x):=
 ⟨LS σ,λy=>env.EG (f y.x y.o) (g y.x y.o) keep kb,λy=>y.m,
   λy=>Cx (base y.x) b y.s y.m (rw y.x y.o)/\Rd.wp (Rd.loop body y.x) y.s Q E/\wt y.x+4*mu y.s<=500000000/\mu y.s<=mu s,λy=>mu y.s,⟨x0,s,st,U⟩,⟨hc,h,hl,Nat.le_refl _⟩,he,St.le_refl _,
   λy ⟨j1,j2,j3,j4⟩=>hb y.x y.s y.m y.o j1 (by rw [<-Rd.wp_loop];exact j2) j3 j4⟩
section
variable {st0 st:St} {b d:Nat} {s:Af} {rows:List (Ay×List Nd)} {K:AD->St->Prop} {L:DL}
attribute [local irreducible] Go.Aw.Ai
theorem dz (hb:s.Cf.length<=500000000) (h:K (.ret (.Bl [Am (DX s).1,.bool (DX s).2])) st):PC 206 [Am s] st K:=by
 refine pB Tryz.func206 ?_
 have h0:¬Hy s=0->s.Cf≠[]:=λe e2=>e (by unfold Hy;rw [e2];rfl)
 unfold DX at h
 by_cases U:Mx s=true
 .by_cases hw:s.wait=1
  .rw [if_neg H1] at h
   repeat' ((conv=>whnf);(first|refine AV ?_|refine BU ?_ ?_|refine Yv ?_|refine Qe ?_)<;>intros)
   all_goals first|exact AU rfl h|(rw [U] at *;simp at *)
  .by_cases ht:Hy s=0
   .rw [if_neg H1] at h
    repeat' ((conv=>whnf);(first|refine AV ?_|refine BU ?_ ?_|refine Yv ?_|refine Qe ?_)<;>intros)
    all_goals first|exact AU rfl h|(rw [U] at *;simp at *)
   .rw [if_pos ⟨U,hw,ht⟩] at h
    repeat' ((conv=>whnf);(first|refine AV ?_|refine BU ?_ ?_|refine Yv ?_|refine Qe ?_|refine NO (h0 ht) hb ?_)<;>intros)
    all_goals first|exact AU rfl h|(rw [U] at *;simp at *)
 .rw [if_neg (by simp [U])] at h
  repeat' ((conv=>whnf);(first|refine AV ?_|refine BU ?_ ?_|refine Yv ?_|refine Qe ?_)<;>intros)
  all_goals first|exact AU rfl h|exact absurd ‹_› U
def bv (x:Bool):V:=.bool x
theorem lF {f m:Bool}:Bi bv 141 (λb=>[.ptr b 0,.bool f,.bool m]) (Gi f m):=by
 refine ⟨λ{st0 b s st rows K} hc h=>?_⟩
 simp only [Gi,Rd.Ag,Rd.Ao,Rd.wp_seq,Rd.wp_ret] at h
 have U:=hc.look
 refine pB Tryz.func141 ?_
 have hcl:Rd.wp OW s (λ_ s'=>∀st',Cx st0 b s' st' rows->K (.ret (.bool true)) st') (λe s'=>∀st',Cy st0 b s' st' rows->K (.Ci (fault e.1)) st')->if (DX s).2=true then mu (DX s).1<=mu s/\∀st',Cx st0 b (DX s).1 st' rows->K (.ret (.bool true)) st'
  else Rd.wp (MX:Rd Unit) s (λ_ s'=>∀st',Cx st0 b s' st' rows->K (.ret (.bool true)) st') (λe s'=>∀st',Cy st0 b s' st' rows->K (.Ci (fault e.1)) st'):=λh=>by
  unfold OW Rd.wp at h
  dsimp only at h
  split
  .rename_i e;rw [if_pos e] at h;exact ⟨LY e,h⟩
  .rename_i e;rw [if_neg e] at h;exact h
 have hmu:=hc.mu
 cases f
 .simp only [Bool.false_eq_true,if_false] at h
  cases m
  .simp only [Bool.false_eq_true,if_false] at h
   repeat' ((conv=>whnf);(first|refine AV ?_|refine Ej ?_ ?_|refine BU ?_ ?_|refine HB hc.has hc.hb ?_|refine Ml U ‹_› H1 ?_|exact DR U ‹_› rfl|exact Ge|fail)<;>intros)
  .simp only [if_true] at h
   repeat' ((conv=>whnf);first|refine XC (hcl h) (λe h=>?_) (λe h=>?_)|(refine AV ?_;intros)|(refine Ej ?_ ?_<;>intro e h)|(refine BU ?_ ?_<;>intro _)|refine HB hc.has hc.hb ?_|refine Ml U h H1 (λs1 st1 hz hm hc h=>?_)|refine AK (St.As ..) ?_|refine dz hc.hb ?_|refine xJ U H1 (λst1 hc=>?_)|exact DR hc h.2 rfl|refine TO U h (λe s1 st1 hc h=>?_)|exact Ge|fail)
 .simp only [if_true] at h
  by_cases hi:AP s 15 [125]=true
  .rw [if_pos hi] at h
   obtain ⟨h1,h2⟩:(Aa s).1.kind=15/\(Aa s).1.text=[125]:=by
    unfold AP at hi
    simp only [Bool.and_eq_true,beq_iff_eq] at hi
    exact hi
   repeat' ((conv=>whnf);(first|refine AV ?_|refine Ej ?_ ?_|refine BU ?_ ?_|refine HB hc.has hc.hb ?_|refine Ml U ‹_› H1 ?_|exact Ge|fail)<;>intros)
  .rw [if_neg hi] at h
   have hx:(Aa s).1.kind=15->¬(Aa s).1.text=[125]:=λh1 h2=>hi (by unfold AP;rw [h1,h2];rfl)
   cases m
   .simp only [Bool.false_eq_true,if_false] at h
    repeat' ((conv=>whnf);(first|refine kD (beq_eq_false_iff_ne.2 (hx ‹_›)) ?_|refine AV ?_|refine Ej ?_ ?_|refine BU ?_ ?_|refine HB hc.has hc.hb ?_|exact DR U ‹_› rfl|exact Ge|fail)<;>intros)
   .simp only [if_true] at h
    repeat' ((conv=>whnf);(first|refine kD (beq_eq_false_iff_ne.2 (hx ‹_›)) ?_|refine AV ?_|refine Ej ?_ ?_|refine BU ?_ ?_|refine HB hc.has hc.hb ?_|refine AK (St.As ..) ?_|refine dz hc.hb ?_|refine TO U ‹_› ?_|exact Ge|fail)<;>intros)
theorem QH {f m U:Bool} (e:U=m):Bi bv 141 (λb=>[.ptr b 0,.bool f,.bool m]) (Gi f U):=by rw [e];exact lF
theorem Ui {b:Bool} (h:b=true):(!b)=false:=by rw [h];rfl
theorem Ug {b:Bool} (h:b=false):(!b)=true:=by rw [h];rfl
theorem Sa {l:List Nd} {own:Ay}:AD.ret (enc (Dn false l))=(AD.ret (.agg [.int .i64 2,.int .i64 0,.str [],.int .i64 0,.int .i64 0,.slice 6 (l.map Ap) own])).wk:=by unfold Dn;rw [lD];rfl
theorem Sb {l:List Nd} {own:Ay}:AD.ret (enc (Dn true l))=(AD.ret (.agg [.int .i64 2,.int .i64 1,.str [],.int .i64 0,.int .i64 0,.slice 6 (l.map Ap) own])).wk:=by unfold Dn;rw [lD];rfl
def xq (base:List Nd->St) (st0:St) (b:Nat) (i:FuncId) (cs:List V) (item:List Nd->Rd Nd):Prop:=∀(l:List Nd) (s:Af) (st:St) (rows:List (Ay×List Nd)) (K:AD->St->Prop) (Q:Nd->Af->Prop) (E:Er->Af->Prop),Cx (base l) b s st rows->Rd.wp (item l) s Q E->
 (∀n s1 U,mu s1<mu s->Cx (base (l++[n])) b s1 U rows->Q n s1->K (.ret (enc n)) U)->(∀e s1 U,Cy st0 b s1 U rows->E e s1->K (.Ci (fault e.1)) U)->PC i cs st K
theorem TQ {g i:FuncId} {fs:List V} {starts:Tk->Bool} {base:List Nd->St} {item:List Nd->Rd Nd} (hg:∀{t:Tk} {st:St} {K:AD->St->Prop},K (.ret (.bool (starts t))) st->PC g [DP t] st K)
 (hi:xq base st0 b i (fs++cs) item) (hx:∀{l s st rows},Cy (base l) b s st rows->Cy st0 b s st rows) (hc:Cx (base []) b s st rows)
 (h:Rd.wp (NN starts item) s (λn s'=>∀l st',Cx (base l) b s' st' rows->K (.ret (enc n)) st') (λe s'=>∀st',Cy st0 b s' st' rows->K (.Ci (fault e.1)) st')):
 PC 69 [.ptr b 0,.func g [] [],.func i fs cs] st K:=by
 simp only [NN,Rd.Ag,Rd.Ao,Rd.wp_seq,Rd.wp_ret] at h
 have hmu:=hc.mu
 refine pB Tryz.func69 ?_
 repeat' ((conv=>whnf);first|exact C1|(refine AV ?_;intros)|(refine C2 ?_ ?_ ?_;rotate_left)|(refine Ej ?_ ?_<;>intro e h)|(refine BU ?_ ?_<;>intro _)|(refine UY ?_;intro U hc)|(refine Mt ?_ ?_<;>(first|intro n s1 U hr hm hc h|intro e s1 U hc h))|exact Ge|(refine MA ?_;intro own1 U hc)|refine AA (λe1=>?_)|refine Ml hc h H1 (λs1 U hz hm hc h=>?_)|exact Ch (hx hc) h|refine Ad 10 [6,7,9] [] ?_|refine Ad 8 [3,5,7] [1] ?_|refine Ad 9 [5,6,8] [] ?_|fail)
 .refine Yq base (λl own=>[]) (λl own=>[(1,[.int .i64 2,.int .i64 0,.str [],.int .i64 0,.int .i64 0,.slice 6 (l.map Ap) own])]) [0,1,2,6,7] [0] (λl own=>(own,l)::rows) (λl=>l.length) .full (hc.push []) h li Yl ?_
  intro l s1 U own1 hc h hl hm1
  simp only [Kk,Rd.Ag,Rd.Ao,Rd.wp_seq,Rd.wp_ret,Rd.AO] at h
  repeat' ((conv=>whnf);(first|exact C1|refine AV ?_|(refine C2 ?_ ?_ ?_;rotate_left)|refine Ej ?_ ?_|refine BU ?_ ?_|fail)<;>intros)
  unfold LK at h
  refine CZ (λ_ _=>[]) (λ_ _=>[]) [0,1,2,6,7] [0,1] (λ_ _=>(own1,l)::rows) (λ_=>l.length) .full ‹_› ‹_› hl Yl ?_
  intro u s2 st2 own2 hc h hl hm2
  simp only [Np,Rd.Ag,Rd.Ao,Rd.wp_seq,Rd.wp_ret,Rd.AO] at h
  repeat' ((conv=>whnf);first|exact C1|(refine AV ?_;intros)|(refine C2 ?_ ?_ ?_;rotate_left)|(refine Ej ?_ ?_<;>intro e h)|(refine BU ?_ ?_<;>intro _)|(refine UY ?_;intro U hc)|(refine Mt ?_ ?_<;>(first|intro n s1 U hr hm hc h|intro e s1 U hc h))|exact Ge|(refine MA ?_;intro own1 U hc)|refine AA (λe1=>?_)|refine WH ?_|refine hg ?_|refine Ml hc h (Ja ‹_›) (λs1 U hz hm hc h=>?_)|refine Bi.go (QH (Ui ‹_›)) hc h (λv s1 U hr hm hc h=>?_) (λe s1 U hc h=>?_)|refine Bi.go (QH (Ug ‹_›)) hc h (λv s1 U hr hm hc h=>?_) (λe s1 U hc h=>?_)|refine Se ?_|refine hi _ _ _ _ _ _ _ hc h (λn s1 U hm hc h=>?_) (λe s1 U hc h=>?_)|exact Ch (hx hc).drop h|exact Ch (Cy.drop hc) h|exact DR hc.drop (h l) Sa|exact DR hc.drop (h (l++[_])) Sa|refine Ad 10 [6,7,9] [] ?_|refine Ad 8 [3,5,7] [1] ?_|refine Ad 9 [5,6,8] [] ?_|fail)
  all_goals conv=>whnf
  all_goals exact ⟨⟨(),_,_,.full⟩,⟨hc,Rd.Bh h H1,f9,f9⟩,f9,Yl,St.le_refl _⟩
 .refine Yq base (λl own=>[]) (λl own=>[(1,[.int .i64 2,.int .i64 1,.str [],.int .i64 0,.int .i64 0,.slice 6 (l.map Ap) own])]) [0,1,2,6,7] [0] (λl own=>(own,l)::rows) (λl=>l.length) .full (hc.push []) h li Yl ?_
  intro l s1 U own1 hc h hl hm1
  simp only [Kk,Rd.Ag,Rd.Ao,Rd.wp_seq,Rd.wp_ret,Rd.AO] at h
  repeat' ((conv=>whnf);(first|exact C1|refine AV ?_|(refine C2 ?_ ?_ ?_;rotate_left)|refine Ej ?_ ?_|refine BU ?_ ?_|fail)<;>intros)
  unfold LK at h
  refine CZ (λ_ _=>[]) (λ_ _=>[]) [0,1,2,6,7] [0,1] (λ_ _=>(own1,l)::rows) (λ_=>l.length) .full ‹_› ‹_› hl Yl ?_
  intro u s2 st2 own2 hc h hl hm2
  simp only [Np,Rd.Ag,Rd.Ao,Rd.wp_seq,Rd.wp_ret,Rd.AO] at h
  repeat' ((conv=>whnf);first|exact C1|(refine AV ?_;intros)|(refine C2 ?_ ?_ ?_;rotate_left)|(refine Ej ?_ ?_<;>intro e h)|(refine BU ?_ ?_<;>intro _)|(refine UY ?_;intro U hc)|(refine Mt ?_ ?_<;>(first|intro n s1 U hr hm hc h|intro e s1 U hc h))|exact Ge|(refine MA ?_;intro own1 U hc)|refine AA (λe1=>?_)|refine WH ?_|refine hg ?_|refine Ml hc h (Ja ‹_›) (λs1 U hz hm hc h=>?_)|refine Bi.go (QH (Ui ‹_›)) hc h (λv s1 U hr hm hc h=>?_) (λe s1 U hc h=>?_)|refine Bi.go (QH (Ug ‹_›)) hc h (λv s1 U hr hm hc h=>?_) (λe s1 U hc h=>?_)|refine Se ?_|refine hi _ _ _ _ _ _ _ hc h (λn s1 U hm hc h=>?_) (λe s1 U hc h=>?_)|exact Ch (hx hc).drop h|exact Ch (Cy.drop hc) h|exact DR hc.drop (h l) Sb|exact DR hc.drop (h (l++[_])) Sb|refine Ad 10 [6,7,9] [] ?_|refine Ad 8 [3,5,7] [1] ?_|refine Ad 9 [5,6,8] [] ?_|fail)
  all_goals conv=>whnf
  all_goals exact ⟨⟨(),_,_,.full⟩,⟨hc,Rd.Bh h H1,f9,f9⟩,f9,Yl,St.le_refl _⟩
theorem Ru {g i:FuncId} {starts:Tk->Bool} {item:Rd Nd} (hg:∀{t:Tk} {st:St} {K:AD->St->Prop},K (.ret (.bool (starts t))) st->PC g [DP t] st K) (hi:Bi enc i (λb=>[pv b d]) item) (hF:Dv item):
 Bi enc 69 (λb=>[.ptr b 0,.func g [] [],.func i [pv b d] []]) (Dp starts item):=
 ⟨λ{st0 b s st rows K} hc h=>TQ (fs:=[pv b d]) (cs:=[]) (base:=λ_=>st0) (item:=λ_=>item) hg (λl s st rows K Q E hc h k kb=>hi.Tr hF.XW hc h (λn s1 U _ hm hc q=>k n s1 U hm hc q) kb) (λh=>h) hc
   (Rd.wp_mono (show Rd.wp (NN starts λ_=>item) s _ _ from h) (λ_ _ _ h _=>h) (λ_ _ _ h=>h))⟩
end
end Go.Proofs.Z
