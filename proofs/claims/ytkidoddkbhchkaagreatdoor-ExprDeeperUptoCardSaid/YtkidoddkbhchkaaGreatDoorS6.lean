/-
  Parts of a proof: lemmas that the last text uses.
-/
import Derived.Test.YtkidoddkbhchkaaGreatDoorS5
import Derived.Lib.Join
set_option linter.unusedVariables false
set_option linter.unusedSimpArgs false
namespace Go.Proofs.YtkidoddkbhchkaaGreatDoor
open Go Go.Aw
def NotesAt (st m:St) (nv:V) (l:List Nt):Prop:=
 (nv=.slice 5 [] .full∧l=[])∨∃b cap rest,nv=.mrow 5 b l.length cap∧m.box b=some ((encNs l).flatten++rest)∧((encNs l).flatten++rest).length=cap*5∧st.box b=none∧l≠[]
structure RW where
 i:Nat
 x:Lx
 wait:Bool
 w1:Own
 nv:V
 m:St
def RW.good (s:List UInt8) (st:St) (y:RW):Prop:=
 NotesAt st y.m y.nv y.x.notes∧Rows2 st y.m y.w1 (y.x.toks.length*4) .full 0∧Cut s y.i∧0≤y.x.gap∧y.x.gap≤y.i∧y.x.toks.length≤y.i∧y.x.notes.length≤y.i∧(y.wait=true→y.x.notes≠[])
theorem Xmi (a b:List (List UInt8)):Lib.lens (a++b)=Lib.lens a+Lib.lens b:=by simp [Lib.lens]
theorem Xmo {s:List UInt8} {p:Nat} {x y:Lx} (hv:Vd s) (hp:Cut s p) (h:x.toks.length≤p∧Lib.lens (x.toks.map Tk.text)≤p) (e:lexL s p x=.inr y):y.toks.length≤s.length∧Lib.lens (y.toks.map Tk.text)≤s.length:=by
 have hpl:=hp.le
 fun_induction lexL s p x with
 |case1 p x hl h1=>cases e
 |case2 p x hl h1 h2 h3 ih=>
  obtain ⟨q,e1,e2,e3,e4⟩:=XfU hv hp (by omega) h2
  have eq:(noteF s p).1.toNat=q:=by omega
  rw [eq] at ih e
  have hb:=Ul e3
  exact ih (e4.blk hv) ⟨by show x.toks.length≤_;omega,by show Lib.lens (x.toks.map Tk.text)≤_;omega⟩ e hb.2
 |case3 p x hl h1 h2 h3=>injection e with e;subst e;omega
 |case4 p x hl h1 h2 h3=>cases e
 |case5 p x hl h1 h2 h3 h4 ih=>
  obtain ⟨e0,q,e1,e2,e3,e4⟩:=XfG hv hp (by omega)
  have eq:(lexmF s p).2.1.toNat=q:=by omega
  rw [eq] at ih e
  have hb:=Ul e3
  have hpc:(pieceF s p q).length=q - p:=Ud (by omega) e3
  have l1:(tokX s p q (lexmF s p).1 x).toks.length=x.toks.length+1:=by simp [tokX]
  have l2:Lib.lens ((tokX s p q (lexmF s p).1 x).toks.map Tk.text)=Lib.lens (x.toks.map Tk.text)+(q - p):=by
   show Lib.lens ((x.toks++[_]).map Tk.text)=_
   rw [List.map_append,Xmi]
   simp [Lib.lens,hpc]
  exact ih (e4.blk hv) ⟨by omega,by omega⟩ e hb.2
 |case6 p x hl h1 h2 h3 h4=>injection e with e;subst e;omega
 |case7 p x hl=>injection e with e;subst e;omega
theorem Xmk {s:List UInt8} {y:Lx} (e:lexF s=.inr y):y.toks.length≤s.length∧Lib.lens (y.toks.map Tk.text)≤s.length:=by
 have ok:=lexF_ok e
 unfold lexF at e
 split at e
 ·cases e
 ·split at e
  ·cases e
  ·split at e
   ·cases e
   ·exact Xmo ok.2.1 (Cut.blk ok.2.1 (.zero s)) ⟨Nat.zero_le _,Nat.zero_le _⟩ e
theorem XjW {s:List UInt8} {p:Nat} {x:Lx} {i e:Int} (h:lexL s p x=.inl (i,e)):e≠0:=by
 fun_induction lexL s p x with
 |case1 p x hl h1=>injection h with h;injection h with h h';omega
 |case2 p x hl h1 h2 h3 ih=>exact ih h
 |case3 p x hl h1 h2 h3=>cases h
 |case4 p x hl h1 h2 h3=>injection h with h;injection h with h h';omega
 |case5 p x hl h1 h2 h3 h4 ih=>exact ih h
 |case6 p x hl h1 h2 h3 h4=>cases h
 |case7 p x hl=>cases h
theorem Xmj {s:List UInt8} {i e:Int} (h:lexF s=.inl (i,e)):e≠0:=by
 unfold lexF at h
 split at h
 ·injection h with h;injection h with h h';omega
 ·split at h
  ·rename_i h2
   injection h with h
   rw [h] at h2;exact h2
  ·split at h
   ·injection h with h;injection h with h h';omega
   ·exact XjW h
section
variable {st:St} {R:Res→St→Prop}
theorem lex_l {s:List UInt8} {i e:Int} (hs:lexF s=.inl (i,e)) (h:∀st',st.le st'→R (.ret (.tup [.slice 4 [] .full,.slice 5 [] .full,.int .i64 i,.int .i64 e])) st'):PC 13 [.str s] st R:=by
 refine lex_c (fun i' e' he=>?_) (fun i' e' st' hle he=>?_) (fun x w1 w2 st' he=>?_)
 ·rw [hs] at he;injection he with he;injection he with e1 e2;subst e1;subst e2;exact h st (St.le_refl _)
 ·rw [hs] at he;injection he with he;injection he with e1 e2;subst e1;subst e2;exact h st' hle
 ·rw [hs] at he;cases he
theorem XfE {s:List UInt8} {x:Lx} (hs:lexF s=.inr x) (h:∀w1 w2 st',st.le st'→R (.ret (.tup [.slice 4 (encTs x.toks) w1,.slice 5 (encNs x.notes) w2,.int .i64 0,.int .i64 0])) st'):PC 13 [.str s] st R:=by
 refine lex_c (fun i' e' he=>?_) (fun i' e' st' hle he=>?_) (fun x w1 w2 st' he hle=>?_)
 ·rw [hs] at he;cases he
 ·rw [hs] at he;cases he
 ·rw [hs] at he;injection he with he;subst he;exact h w1 w2 st' hle
end
theorem QD (l:List Tk):(encTs l).length=l.length:=by unfold encTs;rw [List.length_map]
theorem app_tks {l m:List Tk} {own:Own} {st:St} {K:V→St→Prop} (h:own.good st) (hb:l.length+m.length≤1000000000)
 (k:∀own':Own,own'.good st→K (.slice 4 (encTs (l++m)) own') (own'.st st ((l++m).length*4))):appendTo 4 40 (encTs l) own (encTs m) (own.st st (l.length*4)) K:=by
 have hw:(encTs m).map (·.map V.wk0)=encTs m:=by
  unfold encTs
  rw [List.map_map]
  exact List.map_congr_left fun x _=>rfl
 have hsc:((encTs m).all fun v=>v.all V.sc)=true:=by
  unfold encTs
  rw [List.all_map,List.all_eq_true]
  intro x _;rfl
 have:=QW (sz:=4) (bytes:=40) (es:=encTs l) (new:=encTs m) (K:=K) h (by rw [QD,QD];omega) (by rw [QD,QD];simp only [lim];omega) hsc (fun own' ho=>by
  have:=k own' ho
  rw [QD,QD,hw,show encTs l++encTs m=encTs (l++m) by unfold encTs;rw [List.map_append],←List.length_append]
  exact this)
 rw [QD] at this
 exact this
structure Tst0 (p:Tk→Bool):Prop where
 e:p ⟨21,[],0,0⟩=false
 z:p tk0=false
 k:∀a b:Tk,a.kind=b.kind→a.text=b.text→p a=p b
structure Tst (p:Tk→Bool):Prop extends Tst0 p where
 c:p ⟨15,[41],0,0⟩=false
structure TstT (p:Tk→Bool):Prop extends Tst0 p where
 b1:p ⟨15,[123],0,0⟩=false
 b2:p ⟨15,[125],0,0⟩=false
theorem UF {k:Int} {x:List UInt8} (h:k≠0∧k≠21):Tst0 (fun t=>t.kind==k&&t.text==x):=
 ⟨by show ((21:Int)==k&&_)=false;rw [beq_eq_false_iff_ne.2 (fun e=>h.2 e.symm)];rfl,by show ((0:Int)==k&&_)=false;rw [beq_eq_false_iff_ne.2 (fun e=>h.1 e.symm)];rfl,fun a b h1 h2=>by rw [h1,h2]⟩
theorem Xny {k:Int} {x:List UInt8} (h:k≠0∧k≠21) (hc:¬(k=15∧x=[41])):Tst (fun t=>t.kind==k&&t.text==x):=
 ⟨UF h,by
   by_cases e:k=15
   ·subst e
    show ((15:Int)==15&&([41]:List UInt8)==x)=false
    rw [beq_eq_false_iff_ne.2 (fun e=>hc ⟨rfl,e.symm⟩),Bool.and_false]
   ·show ((15:Int)==k&&_)=false
    rw [beq_eq_false_iff_ne.2 (fun f=>e f.symm)];rfl⟩
theorem tstT_is {k:Int} {x:List UInt8} (h:k≠0∧k≠21) (hb:¬(k=15∧(x=[123]∨x=[125]))):TstT (fun t=>t.kind==k&&t.text==x):=
 ⟨UF h,by
   by_cases e:k=15
   ·subst e
    show ((15:Int)==15&&([123]:List UInt8)==x)=false
    rw [beq_eq_false_iff_ne.2 (fun e=>hb ⟨rfl,.inl e.symm⟩),Bool.and_false]
   ·show ((15:Int)==k&&_)=false
    rw [beq_eq_false_iff_ne.2 (fun f=>e f.symm)];rfl,by
   by_cases e:k=15
   ·subst e
    show ((15:Int)==15&&([125]:List UInt8)==x)=false
    rw [beq_eq_false_iff_ne.2 (fun e=>hb ⟨rfl,.inr e.symm⟩),Bool.and_false]
   ·show ((15:Int)==k&&_)=false
    rw [beq_eq_false_iff_ne.2 (fun f=>e f.symm)];rfl⟩
theorem XaS:TstT startsF:=⟨⟨rfl,rfl,fun a b h1 h2=>by unfold startsF;rw [h1,h2]⟩,rfl,rfl⟩
theorem XcK:Tst startsF:=⟨⟨rfl,rfl,fun a b h1 h2=>by unfold startsF;rw [h1,h2]⟩,rfl⟩
inductive All2 (T:Nd→Nd→Prop):List Nd→List Nd→Prop where
 |nil:All2 T [] []
 |cons {a b:Nd} {l m:List Nd}:T a b→All2 T l m→All2 T (a::l) (b::m)
theorem All2.one {T:Nd→Nd→Prop} {a b:Nd} (h:T a b):All2 T [a] [b]:=.cons h .nil
theorem All2.app {T:Nd→Nd→Prop} {l m l' m':List Nd} (h:All2 T l m) (k:All2 T l' m'):All2 T (l++l') (m++m'):=by
 induction h with
 |nil=>exact k
 |cons h1 _ ih=>exact .cons h1 ih
theorem All2.len {T:Nd→Nd→Prop} {l m:List Nd} (h:All2 T l m):l.length=m.length:=by
 induction h with
 |nil=>rfl
 |cons _ _ ih=>rw [List.length_cons,List.length_cons,ih]
structure Sm where
 R:Sta→Sta→Prop
 T:Nd→Nd→Prop
 Out:Sta→Prop
 Lim:Sta→Prop
 out:∀{s s':Sta},Out s→mu s'≤mu s→Out s'
 lim:∀{s s':Sta},Lim s→mu s'<mu s→Out s'
 yes:∀{s t:Sta} {p:Tk→Bool},R s t→TstT p→p (nextM s).1=true→(nextM s).2.2=0→Lim s∨(p (nextM t).1=true∧(nextM t).2.2=0∧R (nextM s).2.1 (nextM t).2.1∧T (leafT (nextM s).1) (leafT (nextM t).1))
 no:∀{s t:Sta} {p:Tk→Bool},R s t→Tst p→p (nextM s).1=false→p (nextM t).1=false
 cno:∀{s t:Sta},R s t→isF s 15 [41]=false→isF t 15 [41]=false∨∀p,Tst p→p (nextM s).1=false
 mu:∀{s t s' t':Sta},R s t→R s' t'→Proofs.YtkidoddkbhchkaaGreatDoor.mu s'<Proofs.YtkidoddkbhchkaaGreatDoor.mu s→Proofs.YtkidoddkbhchkaaGreatDoor.mu t'<Proofs.YtkidoddkbhchkaaGreatDoor.mu t
 node:∀{k:Int} {l m:List Nd},All2 T l m→T (nodeK k l) (nodeK k m)
variable (S:Sm)
def ER {α:Type} (T:α→α→Prop) (q q':Sum (Int×Sta) (α×Sta)):Prop:=∀v s1,q=.inr (v,s1)→S.Out s1∨∃w t1,q'=.inr (w,t1)∧T v w∧S.R s1 t1
def Sim (A:Sta→Rs):Prop:=∀s t,S.R s t→ER S S.T (A s) (A t)
variable {S}
theorem Sm.is {s t:Sta} {k:Int} {x:List UInt8} (hr:S.R s t) (hk:k≠0∧k≠21) (hb:¬(k=15∧(x=[123]∨x=[125]))) (h:isF s k x=true):S.Lim s∨(isF t k x=true∧S.R (nextM s).2.1 (nextM t).2.1∧S.T (leafT (nextM s).1) (leafT (nextM t).1)):=by
 rcases S.yes (p:=fun t=>t.kind==k&&t.text==x) hr (tstT_is hk hb) h (Jp h hk.1) with h|⟨h1,_,h3,h4⟩
 ·exact .inl h
 ·exact .inr ⟨h1,h3,h4⟩
theorem Sm.isnt {s t:Sta} {k:Int} {x:List UInt8} (hr:S.R s t) (hk:k≠0∧k≠21) (hc:¬(k=15∧x=[41])) (h:¬isF s k x=true):¬isF t k x=true:=by
 have:=S.no (p:=fun t=>t.kind==k&&t.text==x) hr (Xny hk hc) (show isF s k x=false from Bool.eq_false_iff.2 h)
 show ¬(((nextM t).1.kind==k&&(nextM t).1.text==x)=true)
 rw [this];decide
section
variable {A Y:Sta→Rs}
theorem sm_rowL (hA:Sim S A) (l:List Nd) (s:Sta):∀m t,All2 S.T l m→S.R s t→ER S (All2 S.T) (rowL A l s) (rowL A m t):=by
 fun_induction rowL A l s with
 |case1 l s h1 e1 h2=>intro m t hl hr v s1 h;cases h
 |case2 l s h1 p h2 h3 ih=>
  intro m t hl hr v s1 h
  have hm:=XeA _ _ _ _ h
  rcases S.yes hr XaS h1 (QF (VH h1).1) with ho|⟨y1,y2,y3,y4⟩
  ·exact .inl (S.out (S.lim ho h3) hm)
  ·rcases hA s t hr p.1 p.2 h2 with ho|⟨w,t1,e,ht,hr1⟩
   ·exact .inl (S.out ho hm)
   ·rw [Xez (A:=A) (n:=w) (s':=t1) y1 e (S.mu hr hr1 h3)]
    exact ih (m++[w]) t1 (hl.app (.one ht)) hr1 v s1 h
 |case3 l s h1 p h2 h3=>intro m t hl hr v s1 h;cases h
 |case4 l s h1=>
  intro m t hl hr v s1 h
  cases h
  exact .inr ⟨m,t,by rw [rowL,if_neg (by rw [S.no hr XcK (by simpa using h1)];decide)],hl,hr⟩
theorem XhD (hA:Sim S A):Sim S (rowP A):=fun s t hr v s1 h=>by
 unfold rowP at h
 split at h
 ·cases h
 ·rename_i p hp
  split at h
  ·cases h
  ·rename_i q hq
   have hm:=XeA _ _ _ _ hq
   have hs:s1=q.2:=by split at h<;>(cases h;rfl)
   rcases hA s t hr p.1 p.2 hp with ho|⟨w,t1,e,ht,hr1⟩
   ·exact .inl (S.out ho (by rw [hs];exact hm))
   ·rcases sm_rowL hA [p.1] p.2 [w] t1 (.one ht) hr1 q.1 q.2 hq with ho|⟨m,t2,e2,hl,hr2⟩
    ·exact .inl (hs ▸ ho)
    ·right
     have hlen:=hl.len
     unfold rowP
     rw [e]
     dsimp only
     rw [e2]
     dsimp only
     split at h
     ·cases h;rw [if_pos (by omega)];exact ⟨w,t2,rfl,ht,hr2⟩
     ·cases h;rw [if_neg (by omega)];exact ⟨_,t2,rfl,S.node hl,hr2⟩
theorem sm_arrL (hA:Sim S A) (l:List Nd) (s:Sta):∀m t,All2 S.T l m→S.R s t→ER S (All2 S.T) (arrL A l s) (arrL A m t):=by
 fun_induction arrL A l s with
 |case1 l s h1 e1 h2=>intro m t hl hr v s1 h;cases h
 |case2 l s h1 p h2 h3 ih=>
  intro m t hl hr v s1 h
  have hm:=XhW _ _ _ _ h
  rcases Sm.is hr (by decide) (by decide) h1 with ho|⟨y1,y3,y4⟩
  ·exact .inl (S.out (S.lim ho h3) hm)
  ·rcases XhD hA _ _ y3 p.1 p.2 h2 with ho|⟨w,t1,e,ht,hr1⟩
   ·exact .inl (S.out ho hm)
   ·rw [XdI (A:=A) (n:=w) (s':=t1) y1 e (S.mu hr hr1 h3)]
    exact ih _ t1 (hl.app (.cons y4 (.one ht))) hr1 v s1 h
 |case3 l s h1 p h2 h3=>intro m t hl hr v s1 h;cases h
 |case4 l s h1=>
  intro m t hl hr v s1 h
  cases h
  exact .inr ⟨m,t,by rw [arrL,if_neg (Sm.isnt hr (by decide) (by decide) h1)],hl,hr⟩
theorem Xdx (hA:Sim S A) {n n':Nd} (hn:S.T n n') {s t:Sta} (hr:S.R s t):ER S S.T (arrowsP A n s) (arrowsP A n' t):=fun v s1 h=>by
 unfold arrowsP at h
 split at h
 ·cases h
 ·rename_i q hq
  have hs:s1=q.2:=by split at h<;>(cases h;rfl)
  rcases sm_arrL hA [n] s [n'] t (.one hn) hr q.1 q.2 hq with ho|⟨m,t2,e2,hl,hr2⟩
  ·exact .inl (hs ▸ ho)
  ·right
   have hlen:=hl.len
   unfold arrowsP
   rw [e2]
   dsimp only
   split at h
   ·cases h;rw [if_pos (by omega)];exact ⟨n',t2,rfl,hn,hr2⟩
   ·cases h;rw [if_neg (by omega)];exact ⟨_,t2,rfl,S.node hl,hr2⟩
theorem Xgg (hA:Sim S A):Sim S (wholeP A):=fun s t hr v s1 h=>by
 unfold wholeP at h
 split at h
 ·cases h
 ·rename_i p hp
  have hm:=Vl h
  rcases XhD hA s t hr p.1 p.2 hp with ho|⟨w,t1,e,ht,hr1⟩
  ·exact .inl (S.out ho hm)
  ·unfold wholeP
   rw [e]
   exact Xdx hA ht hr1 v s1 h
theorem sm_full (hF:Falls A) (hA:Sim S A):Sim S (fullP A):=fun s t hr v s1 h=>by
 unfold fullP at h
 split at h
 ·cases h
 ·rename_i p hp
  rcases XhD hA s t hr p.1 p.2 hp with ho|⟨w,t1,e,ht,hr1⟩
  ·left
   refine S.out ho ?_
   split at h
   ·rename_i h1
    have:=Qq h1 (by decide) (by decide)
    split at h
    ·cases h
    ·rename_i q hq
     have:=Jw hF _ _ _ hq
     cases h
     omega
   ·exact Vl h
  ·unfold fullP
   rw [e]
   dsimp only
   split at h
   ·rename_i h1
    have:=Qq h1 (by decide) (by decide)
    split at h
    ·cases h
    ·rename_i q hq
     have:=Jw hF _ _ _ hq
     rcases Sm.is hr1 (by decide) (by decide) h1 with ho|⟨y1,y3,y4⟩
     ·cases h;exact .inl (S.lim ho (by omega))
     ·rcases Xgg hA _ _ y3 q.1 q.2 hq with ho|⟨w2,t2,e2,ht2,hr2⟩
      ·cases h;exact .inl ho
      ·cases h
       rw [if_pos y1,e2]
       exact .inr ⟨_,t2,rfl,S.node (.cons ht (.cons y4 (.one ht2))),hr2⟩
   ·rename_i h1
    rw [if_neg (Sm.isnt hr1 (by decide) (by decide) h1)]
    exact Xdx hA ht hr1 v s1 h
theorem Xko (hA:Sim S A) (l:List Nd) (s:Sta):∀m t,All2 S.T l m→S.R s t→ER S (All2 S.T) (typesL A l s) (typesL A m t):=by
 fun_induction typesL A l s with
 |case1 l s h1 e1 h2=>intro m t hl hr v s1 h;cases h
 |case2 l s h1 p h2 h3 ih=>
  intro m t hl hr v s1 h
  have hm:=Ui _ _ _ _ h
  rcases Sm.is hr (by decide) (by decide) h1 with ho|⟨y1,y3,y4⟩
  ·exact .inl (S.out (S.lim ho h3) hm)
  ·rcases hA _ _ y3 p.1 p.2 h2 with ho|⟨w,t1,e,ht,hr1⟩
   ·exact .inl (S.out ho hm)
   ·rw [Xat (Y:=A) (n:=w) (s':=t1) y1 e (S.mu hr hr1 h3)]
    exact ih _ t1 (hl.app (.cons y4 (.one ht))) hr1 v s1 h
 |case3 l s h1 p h2 h3=>intro m t hl hr v s1 h;cases h
 |case4 l s h1=>
  intro m t hl hr v s1 h
  cases h
  exact .inr ⟨m,t,by rw [typesL,if_neg (Sm.isnt hr (by decide) (by decide) h1)],hl,hr⟩
theorem Xnk (l:List Nd) (s:Sta):∀m t,All2 S.T l m→S.R s t→S.Out (commaL l s).2∨(All2 S.T (commaL l s).1 (commaL m t).1∧S.R (commaL l s).2 (commaL m t).2):=by
 fun_induction commaL l s with
 |case1 l s h1 h2 ih=>
  intro m t hl hr
  have hm:=Vo (l++[leafT (nextM s).1]) (nextM s).2.1
  rcases Sm.is hr (by decide) (by decide) h1 with ho|⟨y1,y3,y4⟩
  ·exact .inl (S.out (S.lim ho h2) hm)
  ·rw [show commaL m t=commaL (m++[leafT (nextM t).1]) (nextM t).2.1 by rw [commaL,if_pos y1,if_pos (S.mu hr y3 h2)]]
   exact ih _ _ (hl.app (.one y4)) y3
 |case2 l s h1 h2=>exact absurd (Qq h1 (by decide) (by decide)) h2
 |case3 l s h1=>
  intro m t hl hr
  rw [show commaL m t=(m,t) by rw [commaL,if_neg (Sm.isnt hr (by decide) (by decide) h1)]]
  exact .inr ⟨hl,hr⟩
theorem Xcw {k:Int} {l m:List Nd} {s t:Sta} {x:List UInt8} (hx:x≠[123]∧x≠[125]) (hl:All2 S.T l m) (hr:S.R s t):ER S S.T (finP k l s x) (finP k m t x):=fun v s1 h=>by
 have hm:=QM h
 unfold finP wantP at h
 by_cases h1:isF s 15 x=true
 ·rw [if_pos h1,Jh h1 (by decide)] at h
  cases h
  rcases Sm.is hr (by decide) (fun e=>e.2.elim hx.1 hx.2) h1 with ho|⟨y1,y3,y4⟩
  ·exact .inl (S.lim ho hm)
  ·right
   unfold finP wantP
   rw [if_pos y1,Jh y1 (by decide)]
   exact ⟨_,_,rfl,S.node (hl.app (.one y4)),y3⟩
 ·rw [if_neg h1] at h
  cases h
theorem XeD {s t:Sta} (hr:S.R s t) (h1:startsF (nextM s).1=true):ER S S.T (takeP s) (takeP t):=fun v s1 h=>by
 have hm:=VI h1 h
 have hz:=QF (VH h1).1
 rcases S.yes hr XaS h1 hz with ho|⟨y1,y2,y3,y4⟩
 ·exact .inl (S.lim ho hm)
 ·unfold takeP at h ⊢
  rw [if_pos hz] at h
  rw [if_pos y2]
  cases h
  exact .inr ⟨_,_,rfl,y4,y3⟩
def Begins (Y:Sta→Rs):Prop:=∀s n s',Y s=.inr (n,s')→startsF (nextM s).1=true
theorem Xnl (hF:Falls Y) (hB:Begins Y) (hY:Sim S Y) {s t:Sta} (hr:S.R s t) (hs:startsF (nextM s).1=true):ER S S.T (roundP Y s) (roundP Y t):=fun v s1 h=>by
 have hm:=Xf3 hF hs h
 unfold roundP at h
 split at h
 ·cases h
 ·rename_i p hp
  rcases XeD hr hs p.1 p.2 hp with ho|⟨w,t1,e,ht,hr1⟩
  ·left
   refine S.out ho ?_
   split at h
   ·rename_i h1;have:=Qq h1 (by decide) (by decide);have:=QM h;omega
   split at h
   ·have:=QM h;omega
   split at h
   ·have:=QM h;have:=Vo [p.1] p.2;omega
   split at h
   ·cases h
   ·rename_i q hq
    have:=hF _ _ _ hq
    split at h
    ·cases h
    ·rename_i r hr
     have:=Ui _ _ _ _ hr
     have:=QM h
     omega
  ·unfold roundP
   rw [e]
   dsimp only
   by_cases h1:isF p.2 10 [45,62]=true
   ·rw [if_pos h1] at h
    have:=Qq h1 (by decide) (by decide)
    rcases Sm.is hr1 (by decide) (by decide) h1 with ho|⟨y1,y3,y4⟩
    ·have:=QM h;exact .inl (S.lim ho (by omega))
    ·rw [if_pos y1]
     exact Xcw (by decide) (.cons ht (.one y4)) y3 v s1 h
   rw [if_neg h1] at h
   rw [if_neg (Sm.isnt hr1 (by decide) (by decide) h1)]
   by_cases h2:isF p.2 15 [41]=true
   ·rw [if_pos h2] at h
    rcases Sm.is hr1 (by decide) (by decide) h2 with ho|⟨y1,y3,y4⟩
    ·have:=QM h;exact .inl (S.lim ho (by omega))
    ·rw [if_pos y1]
     exact Xcw (by decide) (.one ht) hr1 v s1 h
   rw [if_neg h2] at h
   by_cases h3:isF p.2 15 [44]=true
   ·rw [if_pos h3] at h
    rcases Sm.is hr1 (by decide) (by decide) h3 with ho|⟨y1,y3,y4⟩
    ·have:=QM h;have:=Vo [p.1] p.2;exact .inl (S.lim ho (by omega))
    ·have hno:¬isF t1 15 [41]=true:=fun e=>by
      unfold isF at e y1
      simp only [Bool.and_eq_true,beq_iff_eq] at e y1
      rw [e.2] at y1
      exact absurd y1.2 (by decide)
     rw [if_neg hno,if_pos y1]
     rcases Xnk [p.1] p.2 [w] t1 (.one ht) hr1 with ho|⟨hl,hr2⟩
     ·have:=QM h;exact .inl (S.out ho (by omega))
     ·exact Xcw (by decide) hl hr2 v s1 h
   rw [if_neg h3] at h
   split at h
   ·cases h
   ·rename_i q hq
    have hb:=hB _ _ _ hq
    have hf:=hF _ _ _ hq
    have hno:¬isF t1 15 [41]=true:=fun e=>by
     rcases S.cno hr1 (by simpa using h2) with h4|h4
     ·rw [h4] at e;cases e
     ·rw [h4 _ XcK] at hb;cases hb
    rw [if_neg hno,if_neg (Sm.isnt hr1 (by decide) (by decide) h3)]
    split at h
    ·cases h
    ·rename_i r hq2
     have hm2:=Ui _ _ _ _ hq2
     have hm3:=QM h
     rcases hY p.2 t1 hr1 q.1 q.2 hq with ho|⟨w2,t2,e2,ht2,hr2⟩
     ·exact .inl (S.out ho (by omega))
     ·rw [e2]
      dsimp only
      rcases Xko hY [p.1,q.1] q.2 [w,w2] t2 (.cons ht (.one ht2)) hr2 r.1 r.2 hq2 with ho|⟨m,t3,e3,hl,hr3⟩
      ·exact .inl (S.out ho (by omega))
      ·rw [e3]
       dsimp only
       rw [←hl.len]
       exact Xcw (by decide) hl hr3 v s1 h
theorem Xkn (hF:Falls Y) (hY:Sim S Y) {s t:Sta} (hr:S.R s t) (hs:startsF (nextM s).1=true):ER S S.T (squareP Y s) (squareP Y t):=fun v s1 h=>by
 unfold squareP at h
 split at h
 ·cases h
 ·rename_i p hp
  rcases XeD hr hs p.1 p.2 hp with ho|⟨w,t1,e,ht,hr1⟩
  ·left
   refine S.out ho ?_
   split at h
   ·rename_i h1;have:=Qq h1 (by decide) (by decide);cases h;omega
   split at h
   ·cases h
   ·rename_i q hq
    have:=hF _ _ _ hq
    have:=QM h
    omega
  ·unfold squareP
   rw [e]
   dsimp only
   by_cases h1:isF p.2 15 [93]=true
   ·rw [if_pos h1] at h
    have:=Qq h1 (by decide) (by decide)
    cases h
    rcases Sm.is hr1 (by decide) (by decide) h1 with ho|⟨y1,y3,y4⟩
    ·exact .inl (S.lim ho (by omega))
    ·rw [if_pos y1]
     exact .inr ⟨_,_,rfl,S.node (.cons ht (.one y4)),y3⟩
   ·rw [if_neg h1] at h
    rw [if_neg (Sm.isnt hr1 (by decide) (by decide) h1)]
    split at h
    ·cases h
    ·rename_i q hq
     have hm3:=QM h
     rcases hY p.2 t1 hr1 q.1 q.2 hq with ho|⟨w2,t2,e2,ht2,hr2⟩
     ·exact .inl (S.out ho (by omega))
     ·rw [e2]
      exact Xcw (by decide) (.cons ht (.one ht2)) hr2 v s1 h
theorem XiW (hF:Falls Y) (hB:Begins Y) (hY:Sim S Y):Sim S (atomP Y):=fun s t hr v s1 h=>by
 have hm:=QE hF _ _ _ h
 unfold atomP at h
 split at h
 ·rename_i hs
  have hz:=QF (VH hs).1
  have tk:TstT (fun u=>startsF u&&(decide (u.kind=(nextM s).1.kind)&&decide (u.text=(nextM s).1.text))):=⟨⟨rfl,rfl,fun a b h1 h2=>by unfold startsF;rw [h1,h2]⟩,rfl,rfl⟩
  rcases S.yes hr tk (by simp [hs]) hz with ho|⟨y1,_,_,_⟩
  ·exact .inl (S.lim ho hm)
  ·simp only [Bool.and_eq_true,decide_eq_true_eq] at y1
   obtain ⟨y1,y2,y3⟩:=y1
   unfold atomP
   rw [if_pos y1,y2,y3]
   split at h
   ·rename_i h1
    rw [if_pos h1]
    split at h
    ·rename_i h2
     rw [if_pos h2]
     exact Xnl hF hB hY hr hs v s1 h
    ·rename_i h2
     rw [if_neg h2]
     exact Xkn hF hY hr hs v s1 h
   ·rename_i h1
    rw [if_neg h1]
    exact XeD hr hs v s1 h
 ·cases h
theorem Xe2:Begins (atomP Y):=fun s n s' h=>by
 unfold atomP at h
 split at h
 ·assumption
 ·cases h
theorem XdJ (hB:Begins A):Begins (wholeP A):=fun s n s' h=>by
 unfold wholeP rowP at h
 cases hA:A s with
 |inl p=>rw [hA] at h;cases h
 |inr p=>exact hB s p.1 p.2 hA
theorem Xaz:∀d,Begins (typeP d)
 |0=>fun s n s' h=>by cases h
 |d+1=>XdJ Xe2
theorem XiX:∀d,Sim S (typeP d)
 |0=>fun s t hr v s1 h=>by cases h
 |d+1=>Xgg (XiW (Qk d) (Xaz d) (XiX d))
end
theorem Xkd (l:List UInt8):0≤(plainF l).1∧(plainF l).1<16:=by
 unfold plainF symF
 (repeat' split)<;>(dsimp only;omega)
theorem XmX (k:Int):0≤qualF k∧qualF k<16:=by
 unfold qualF
 (repeat' split)<;>decide
theorem Xnf {s:List UInt8} {n:Nat} {k:Int} (h:0≤k∧k<16):0≤(scanG s n k).1∧(scanG s n k).1<16:=by
 fun_induction scanG s n k with
 |case1 n k hn hc ih=>exact ih (XmX _)
 |case2 n k hn hc=>exact h
 |case3 n k hn=>exact h
theorem lexm_kd {s:List UInt8} {p:Nat} (h:(lexmF s p).2.2=0):0<(lexmF s p).1∧(lexmF s p).1<16:=by
 unfold lexmF at h ⊢
 split
 ·rename_i h1
  show 0<(nscF s p).1∧(nscF s p).1<16
  unfold nscF at h1 ⊢
  split
  ·rename_i h2;rw [if_pos h2] at h1;exact absurd rfl h1
  ·rename_i h2
   show 0<(numF (s.drop p)).1∧(numF (s.drop p)).1<16
   unfold numF at h2 ⊢
   split
   ·dsimp only;omega
   ·rename_i h3
    rw [if_neg h3] at h2
    split
    ·rename_i h4;rw [if_pos h4] at h2;exact absurd rfl h2
    ·show 0<(if _ then (12:Int) else 11)∧(if _ then (12:Int) else 11)<16
     split<;>exact ⟨by decide,by decide⟩
 ·rename_i h1
  rw [if_neg h1] at h
  split
  ·rename_i h2
   rw [if_pos h2] at h
   split
   ·rename_i h3;rw [if_pos h3] at h;exact absurd h (show ¬(70:Int)=0 by decide)
   ·rename_i h3
    show 0<(wscanF s p).1∧(wscanF s p).1<16
    unfold wscanF at h3 ⊢
    split
    ·rename_i h4;rw [if_pos h4] at h3;exact absurd rfl h3
    ·rename_i h4
     have:=Xnf (s:=s.drop p) (n:=(plainF (s.drop p)).2) (Xkd (s.drop p))
     show 0<(wordF (s.drop p)).1∧(wordF (s.drop p)).1<16
     unfold wordF at h4 ⊢
     omega
  ·rename_i h2
   rw [if_neg h2] at h
   have hq:(quoF s p).1=0∨(quoF s p).1=14∨(quoF s p).1=13:=by
    unfold quoF
    (repeat' split)<;>simp
   omega
theorem lexL_kd {s:List UInt8} {p:Nat} {x y:Lx} (h:∀t ∈ x.toks,0<t.kind∧t.kind<16) (e:lexL s p x=.inr y):∀t ∈ y.toks,0<t.kind∧t.kind<16:=by
 fun_induction lexL s p x with
 |case1 p x hl h1=>cases e
 |case2 p x hl h1 h2 h3 ih=>exact ih h e
 |case3 p x hl h1 h2 h3=>injection e with e;subst e;exact h
 |case4 p x hl h1 h2 h3=>cases e
 |case5 p x hl h1 h2 h3 h4 ih=>
  refine ih (fun t ht=>?_) e
  rcases List.mem_append.1 (show t ∈ x.toks++[_] from ht) with ht|ht
  ·exact h t ht
  ·rw [List.mem_singleton.1 ht];exact lexm_kd (by omega)
 |case6 p x hl h1 h2 h3 h4=>injection e with e;subst e;exact h
 |case7 p x hl=>injection e with e;subst e;exact h
theorem lexF_kd {s:List UInt8} {y:Lx} (e:lexF s=.inr y):∀t ∈ y.toks,0<t.kind∧t.kind<16:=by
 unfold lexF at e
 split at e
 ·cases e
 ·split at e
  ·cases e
  ·split at e
   ·cases e
   ·exact lexL_kd (fun t ht=>by cases ht) e
inductive Alk:Nd→Nd→Prop where
 |mk {k f:Int} {t:List UInt8} {a b a' b':Int} {l m:List Nd}:All2 Alk l m→Alk (.mk k f t a b l) (.mk k f t a' b' m)
theorem All2.at {T:Nd→Nd→Prop} {l m:List Nd} (h:All2 T l m):∀{i:Nat} {x y:Nd},l[i]? =some x→m[i]? =some y→T x y:=by
 induction h with
 |nil=>intro i x y h;simp at h
 |cons h1 _ ih=>
  intro i x y hx hy
  cases i with
  |zero=>simp at hx hy;subst hx;subst hy;exact h1
  |succ i=>rw [List.getElem?_cons_succ] at hx hy;exact ih hx hy
mutual
theorem Alk.rfl':∀n:Nd,Alk n n
 | .mk k f t a b l=>.mk (All2.rfl' l)
theorem All2.rfl':∀l:List Nd,All2 Alk l l
 |[]=>.nil
 |n::r=>.cons (Alk.rfl' n) (All2.rfl' r)
end
section
variable {st:St} {R:Res→St→Prop}
attribute [local irreducible] Go.Aw.appendTo
theorem XlQ {f:FuncId} {l l':List Nd} {o1 o2:Own} (hl:l.length=l'.length) (hf:∀(i:Nat) x y (st:St) (R:Res→St→Prop),l[i]? =some x→l'[i]? =some y→R (.ret (.bool true)) st→PC f [enc x,enc y] st R) (h:R (.ret (.bool true)) st):
 PC 53 [.slice 6 (encs l) o1,.slice 6 (encs l') o2,.func f [] []] st R:=by
 refine Xa Xb [] Tryz.func53 rfl (by decide) ?_
 repeat' ((conv=>whnf);first|(with_reducible first|refine Yb0 ?_|(refine Yb1 ?_ ?_<;>intro _)|refine Wl (fun _=>?_)|refine Wm (by assumption) (by omega) ?_|refine Wn (by omega) (by omega) (fun _ _ _=>?_)|refine Wq (by omega) (by omega) ?_|refine Wz (fun _=>?_)|refine WA (fun _=>?_)|refine WB (by assumption) (by omega) ?_|refine WC (by omega) (by omega) (fun _ _=>?_)|refine WD (by omega) (by omega) (fun _ _=>?_)))
 refine Xah 17 [15,16,1,2] l.length (fun k=>k≤l.length) (Nat.zero_le _) Yl ?_
 intro k hk
 by_cases hlt:k<l.length
 ·obtain ⟨x,hx⟩:∃x,l[(k:Int).toNat]? =some x:=⟨_,List.getElem?_eq_getElem hlt⟩
  obtain ⟨y,hy⟩:∃y,l'[(k:Int).toNat]? =some y:=⟨_,List.getElem?_eq_getElem (show k<l'.length by omega)⟩
  repeat' ((conv=>whnf);first|(with_reducible first|refine Yb0 ?_|(refine Yb1 ?_ ?_<;>intro _)|refine Wl (fun _=>?_)|refine Wm (by assumption) (by omega) ?_|refine Wn (by omega) (by omega) (fun _ _ _=>?_)|refine Wq (by omega) (by omega) ?_|refine Wz (fun _=>?_)|refine WA (fun _=>?_)|refine WB (by assumption) (by omega) ?_|refine WC (by omega) (by omega) (fun _ _=>?_)|refine WD (by omega) (by omega) (fun _ _=>?_))|refine hf k x y _ _ hx hy ?_|refine Wq (a:=(k:Int)+1) (by omega) (by omega) ?_)
  all_goals conv=>whnf
  all_goals exact ⟨k+1,hlt,Nat.sub_lt_sub_left hlt (Nat.lt_succ_self k),Yl,St.le_refl _⟩
 ·skip
  repeat' ((conv=>whnf);first|(with_reducible first|refine Yb0 ?_|(refine Yb1 ?_ ?_<;>intro _)|refine Wl (fun _=>?_)|refine Wm (by assumption) (by omega) ?_|refine Wn (by omega) (by omega) (fun _ _ _=>?_)|refine Wq (by omega) (by omega) ?_|refine Wz (fun _=>?_)|refine WA (fun _=>?_)|refine WB (by assumption) (by omega) ?_|refine WC (by omega) (by omega) (fun _ _=>?_)|refine WD (by omega) (by omega) (fun _ _=>?_)))
  all_goals exact fin h rfl
theorem Xnc:∀(m:Nat) {n n':Nd} {st:St} {R:Res→St→Prop},n.size≤m→Alk n n'→R (.ret (.bool true)) st→PC 17 [enc n,enc n'] st R:=by
 intro m
 induction m with
 |zero=>intro n n' st R hm;cases n;rw [Nd.size] at hm;omega
 |succ m ih=>
  intro n n' st R hm ha h
  cases ha with
  |@mk k f t a b a' b' l l' hl=>
   refine Xa Xb [] Tryz.func17 rfl (by decide) ?_
   repeat' ((conv=>whnf);first|with_reducible refine Wt rfl ?_|with_reducible refine Wi ?_|(with_reducible first|refine Yb0 ?_|(refine Yb1 ?_ ?_<;>intro _))|refine XlQ hl.len (fun i x y st R hx hy h=>ih (by have:=Zn (n:=.mk k f t a b l) (List.mem_of_getElem? hx)<;>omega) (hl.at hx hy) h) ?_)
   all_goals exact fin h rfl
end
abbrev opT:Tk:=⟨15,[40],0,0⟩
abbrev clT:Tk:=⟨15,[41],0,0⟩
abbrev enT:Tk:=⟨21,[],0,0⟩
structure Pl (s:Sta):Prop where
 tk:∀t ∈ s.toks,0<t.kind∧t.kind<16
 p0:0≤s.pos
 p1:s.pos≤s.toks.length
 op:∀x ∈ s.opn,x=0
 wt:s.wait=0
def emb (s:Sta):Sta:=⟨opT::(s.toks++[clT]),s.pos+1,s.opn,s.wait⟩
theorem Pl.top {s:Sta} (h:Pl s):topF s=0:=by
 unfold topF
 cases e:s.opn.getLast? with
 |none=>rfl
 |some x=>exact h.op x (List.mem_of_getLast? e)
theorem XiG {l:List Int} (h:∀x ∈ l,x=0):(l.any fun x=>decide (x<0))=false:=by
 apply Bool.eq_false_iff.2
 intro e
 obtain ⟨x,h1,h2⟩:=List.any_eq_true.1 e
 rw [h x h1] at h2
 exact absurd h2 (by decide)
theorem Pl.may {s:Sta} (h:Pl s):mayF s=true:=by
 unfold mayF
 rw [h.wt,XiG h.op,decide_eq_true h.p0,decide_eq_true h.p1];rfl
theorem Pl.may2 {s:Sta} (h:Pl s):mayF (emb s)=true:=by
 unfold mayF emb
 have h0:=h.p0
 have h1:=h.p1
 dsimp only
 rw [h.wt,XiG h.op,decide_eq_true (show (0:Int)≤s.pos+1 by omega),decide_eq_true (show s.pos+1≤((opT::(s.toks++[clT])).length:Int) by rw [List.length_cons,List.length_append,List.length_singleton];omega)];rfl
theorem Pl.next {s:Sta} {t:Tk} (h:Pl s) (ht:s.toks[s.pos.toNat]? =some t):nextM s=braceF t s:=by
 have hk:=h.tk t (List.mem_of_getElem? ht)
 unfold nextM
 rw [if_pos h.may,Jr ht h.p0,if_neg (by omega),if_neg (by omega)]
theorem Pl.next2 {s:Sta} {t:Tk} (h:Pl s) (hk:t.kind≠16∧t.kind≠17) (ht:(emb s).toks[(emb s).pos.toNat]? =some t):nextM (emb s)=braceF t (emb s):=by
 have h0:=h.p0
 unfold nextM
 rw [if_pos h.may2,Jr ht (show (0:Int)≤s.pos+1 by omega),if_neg (by omega),if_neg (by omega)]
theorem XlI {s:Sta} {t:Tk} (h0:0≤s.pos) (ht:s.toks[s.pos.toNat]? =some t):(emb s).toks[(emb s).pos.toNat]? =some t:=by
 unfold emb
 dsimp only
 rw [show (s.pos+1).toNat=s.pos.toNat+1 by omega,List.getElem?_cons_succ,List.getElem?_append_left (List.getElem?_eq_some_iff.1 ht).1]
 exact ht
theorem emb_end {s:Sta} (h0:0≤s.pos) (h:s.pos=s.toks.length):(emb s).toks[(emb s).pos.toNat]? =some clT:=by
 unfold emb
 dsimp only
 rw [show (s.pos+1).toNat=s.pos.toNat+1 by omega,List.getElem?_cons_succ,List.getElem?_append_right (by omega),show s.pos.toNat - s.toks.length=0 by omega]
 rfl
theorem Pl.brace {s:Sta} {t:Tk} (h:Pl s) (ht:s.toks[s.pos.toNat]? =some t) (hz:(braceF t s).2.2=0):Pl (braceF t s).2.1:=by
 have hl:=(List.getElem?_eq_some_iff.1 ht).1
 have h0:=h.p0
 unfold braceF at hz ⊢
 split
 ·exact ⟨h.tk,by show 0≤s.pos+1;omega,by show s.pos+1≤(s.toks.length:Int);omega,fun x hx=>by
   rcases List.mem_append.1 hx with hx|hx
   ·exact h.op x hx
   ·exact List.mem_singleton.1 hx,h.wt⟩
 ·rename_i e1
  rw [if_neg e1] at hz
  split
  ·rename_i e2
   rw [if_pos e2] at hz
   split
   ·rename_i e3;rw [if_pos e3] at hz;cases hz
   ·exact ⟨h.tk,by show 0≤s.pos+1;omega,by show s.pos+1≤(s.toks.length:Int);omega,fun x hx=>h.op x ((List.dropLast_sublist _).subset hx),h.wt⟩
  ·exact ⟨h.tk,by show 0≤s.pos+1;omega,by show s.pos+1≤(s.toks.length:Int);omega,h.op,h.wt⟩
theorem Xc6 {s:Sta} {t:Tk}:braceF t (emb s)=((braceF t s).1,emb (braceF t s).2.1,(braceF t s).2.2):=by
 unfold braceF
 have e:topF (emb s)=topF s:=rfl
 rw [e]
 by_cases h1:t.kind=15∧t.text=[123]
 ·rw [if_pos h1,if_pos h1];rfl
 ·rw [if_neg h1,if_neg h1]
  by_cases h2:t.kind=15∧t.text=[125]
  ·rw [if_pos h2,if_pos h2]
   by_cases h3:s.opn=[]∨topF s≠0
   ·rw [if_pos h3,if_pos (show (emb s).opn=[]∨topF s≠0 from h3)]
   ·rw [if_neg h3,if_neg (show ¬((emb s).opn=[]∨topF s≠0) from h3)];rfl
  ·rw [if_neg h2,if_neg h2];rfl
theorem Pl.cases {s:Sta} (h:Pl s):(∃t,s.toks[s.pos.toNat]? =some t)∨s.pos=s.toks.length:=by
 have h0:=h.p0
 have h1:=h.p1
 by_cases e:s.pos=s.toks.length
 ·exact .inr e
 ·exact .inl ⟨_,List.getElem?_eq_getElem (show s.pos.toNat<s.toks.length by omega)⟩
theorem Pl.fin {s:Sta} (h:Pl s) (e:s.pos=s.toks.length):(nextM s).1=enT∨(nextM s).1=tk0:=by
 unfold nextM
 rw [if_pos h.may,Xaj (by omega) h.p0]
 unfold endFT
 split
 ·exact .inl rfl
 ·rw [if_neg (by rw [h.top];decide)];exact .inr rfl
theorem Pl.fin2 {s:Sta} (h:Pl s) (e:s.pos=s.toks.length):nextM (emb s)=(clT,{emb s with pos:=(emb s).pos+1},0):=by
 rw [h.next2 (by decide) (emb_end h.p0 e)];rfl
theorem Pl.test {s:Sta} {p:Tk→Bool} (h:Pl s) (hp:Tst p):p (nextM (emb s)).1=p (nextM s).1:=by
 rcases h.cases with ⟨t,ht⟩|e
 ·have hk:=h.tk t (List.mem_of_getElem? ht)
  rw [h.next ht,h.next2 (by omega) (XlI h.p0 ht),Xc6]
 ·rw [h.fin2 e]
  show p clT=_
  rw [hp.c]
  rcases h.fin e with h1|h1
  ·rw [h1];exact hp.e.symm
  ·rw [h1];exact hp.z.symm
theorem Pl.has {s:Sta} {p:Tk→Bool} (h:Pl s) (hp:Tst0 p) (e:p (nextM s).1=true):∃t,s.toks[s.pos.toNat]? =some t:=by
 rcases h.cases with h1|h1
 ·exact h1
 ·rcases h.fin h1 with h2|h2
  ·rw [h2,hp.e] at e;cases e
  ·rw [h2,hp.z] at e;cases e
theorem Pl.go {s:Sta} {t:Tk} (h:Pl s) (ht:s.toks[s.pos.toNat]? =some t):nextM (emb s)=((nextM s).1,emb (nextM s).2.1,(nextM s).2.2)∧((nextM s).2.2=0→Pl (nextM s).2.1):=by
 have hk:=h.tk t (List.mem_of_getElem? ht)
 rw [h.next ht,h.next2 (by omega) (XlI h.p0 ht)]
 exact ⟨Xc6,h.brace ht⟩
theorem Pl.is {s:Sta} {k:Int} {x:List UInt8} (h:Pl s) (hk:k≠0∧k≠21) (hc:¬(k=15∧x=[41])):isF (emb s) k x=isF s k x:=h.test (p:=fun t=>t.kind==k&&t.text==x) (Xny hk hc)
theorem Pl.mu {s:Sta} (h:Pl s):mu (emb s)=mu s+4:=by
 have h0:=h.p0
 have h1:=h.p1
 unfold Proofs.YtkidoddkbhchkaaGreatDoor.mu emb
 dsimp only
 rw [List.length_cons,List.length_append,List.length_singleton]
 omega
def smB:Sm where
 R:=fun s t=>Pl s∧t=emb s
 T:=Eq
 Out:=fun _=>False
 Lim:=fun _=>False
 out:=fun h _=>h
 lim:=fun h _=>h
 yes:=by
  rintro s t p ⟨h,rfl⟩ hp e hz
  obtain ⟨u,hu⟩:=h.has hp.toTst0 e
  obtain ⟨h1,h2⟩:=h.go hu
  rw [h1]
  exact .inr ⟨e,hz,⟨h2 hz,rfl⟩,rfl⟩
 no:=by
  rintro s t p ⟨h,rfl⟩ hp e
  rw [h.test hp];exact e
 cno:=by
  rintro s t ⟨h,rfl⟩ e
  rcases h.cases with ⟨u,hu⟩|h1
  ·left
   show ((nextM (emb s)).1.kind==15&&(nextM (emb s)).1.text==[41])=false
   rw [(h.go hu).1];exact e
  ·right
   intro p hp
   rcases h.fin h1 with h2|h2
   ·rw [h2];exact hp.e
   ·rw [h2];exact hp.z
 mu:=by
  rintro s t s' t' ⟨h,rfl⟩ ⟨h',rfl⟩ hm
  rw [h.mu,h'.mu];omega
 node:=fun {k l m} h=>by
  have:l=m:=by
   induction h with
   |nil=>rfl
   |cons h1 _ ih=>rw [h1,ih]
  rw [this]
def EmX {α:Type} (X:α→Sta→Prop) (a b:Rd α) (s:Sta):Prop:=∀v s',a.run s=.inr (v,s')→Pl s'∧(X v s'∨b.run (emb s)=.inr (v,emb s'))
abbrev EmA {α:Type} (a b:Rd α) (s:Sta):Prop:=EmX (fun _ _=>False) a b s
def Em {α:Type} (a:Rd α):Prop:=∀s,Pl s→EmA a a s
def Rl (s:Sta):Prop:=∃t,s.toks[s.pos.toNat]? =some t
def Fa {α:Type} (A:Rd α) (s:Sta):Prop:=Rd.wp A s (fun _ _=>False) (fun _ _=>True)
section
variable {α β σ:Type} {s:Sta} {X:α→Sta→Prop} {Y:β→Sta→Prop}
theorem Fa.no {A:Rd α} {s':Sta} {v:α} (h:Fa A s) (e:A.run s=.inr (v,s')):False:=by
 unfold Fa Rd.wp at h
 rw [e] at h;exact h
theorem Fa.of {A:Rd α} (h:∀v s',A.run s≠.inr (v,s')):Fa A s:=Rd.Xgz (fun v s' e=>h v s' e) (fun _ _ _=>trivial)
theorem Fa.seq {m:Rd α} {k:α→Rd β} (h:Fa m s):Fa (.seq m k) s:=by
 unfold Fa
 rw [Rd.wp_seq]
 exact Rd.wp_mono h (fun _ _ _ f=>f.elim) (fun _ _ _ _=>trivial)
theorem EmX.fa {A B:Rd α} (h:Fa A s):EmX X A B s:=fun v s' e=>(h.no e).elim
theorem EmX.ret {v:α} (h:Pl s):EmX X (.ret v) (.ret v) s:=fun w s' e=>by cases e;exact ⟨h,.inr rfl⟩
theorem EmX.fail {e:Er} {b:Rd α}:EmX X (.fail e) b s:=fun w s' h=>by cases h
theorem EmX.failAt {t:Sta} {e:Er} {b:Rd α}:EmX X (.failAt t e) b s:=fun w s' h=>by cases h
theorem EmX.bad {b:Rd α}:EmX X badR b s:=fun w s' h=>by cases h
theorem EmX.wk {a b:Rd α} (h:EmA a b s):EmX X a b s:=fun v s' e=>by
 obtain ⟨h1,h2|h2⟩:=h v s' e
 ·exact h2.elim
 ·exact ⟨h1,.inr h2⟩
theorem EmX.seqE {m m':Rd α} {k k':α→Rd β} (h:EmA m m' s) (hk:∀v s',m.run s=.inr (v,s')→Pl s'→EmX Y (k v) (k' v) s'):EmX Y (.seq m k) (.seq m' k') s:=fun v s' e=>by
 unfold Rd.seq at e ⊢
 dsimp only at e ⊢
 cases hm:m.run s with
 |inl p=>rw [hm] at e;cases e
 |inr p=>
  rw [hm] at e
  obtain ⟨h1,h2|h2⟩:=h p.1 p.2 hm
  ·exact h2.elim
  ·rw [h2]
   exact hk p.1 p.2 hm h1 v s' e
theorem EmX.seq {m m':Rd α} {k k':α→Rd β} (h:EmA m m' s) (hk:∀v s',Pl s'→EmX Y (k v) (k' v) s'):EmX Y (.seq m k) (.seq m' k') s:=EmX.seqE h fun v s' _=>hk v s'
theorem EmX.look {f f':Sta→Rd α} (h:EmX X (f s) (f' (emb s)) s):EmX X (.look f) (.look f') s:=h
theorem EmX.ite {c c':Prop} [Decidable c] [Decidable c'] {a b a' b':Rd α} (h:c'↔c) (h1:c→EmX X a a' s) (h2:¬c→EmX X b b' s):EmX X (if c then a else b) (if c' then a' else b') s:=by
 by_cases e:c
 ·rw [if_pos e,if_pos (h.2 e)];exact h1 e
 ·rw [if_neg e,if_neg (fun e'=>e (h.1 e'))];exact h2 e
theorem EmX.tst {p:Tk→Bool} {a b a' b':Rd α} (h:Pl s) (hp:Tst p) (h1:Rl s→p (nextM s).1=true→EmX X a a' s) (h2:EmX X b b' s):EmX X (if p (nextM s).1=true then a else b) (if p (nextM (emb s)).1=true then a' else b') s:=by
 rw [h.test hp]
 by_cases e:p (nextM s).1=true
 ·rw [if_pos e,if_pos e];exact h1 (h.has hp.toTst0 e) e
 ·rw [if_neg e,if_neg e];exact h2
theorem EmX.is {k:Int} {x:List UInt8} {a b a' b':Rd α} (h:Pl s) (hk:k≠0∧k≠21) (hc:¬(k=15∧x=[41])) (h1:Rl s→EmX X a a' s) (h2:EmX X b b' s):EmX X (if isF s k x=true then a else b) (if isF (emb s) k x=true then a' else b') s:=
 EmX.ite (by rw [h.is hk hc]) (fun e=>h1 (h.has (p:=fun t=>t.kind==k&&t.text==x) (UF hk) e)) fun _=>h2
theorem Pl.same (h:Pl s) (r:Rl s):(nextM (emb s)).1=(nextM s).1:=by
 obtain ⟨t,ht⟩:=r
 rw [(h.go ht).1]
theorem Pl.sec (h:Pl s) (r:Rl s) (hz:(nextM s).2.2=0):Pl (nextM s).2.1∧(nextM (emb s)).2.1=emb (nextM s).2.1:=by
 obtain ⟨t,ht⟩:=r
 exact ⟨(h.go ht).2 hz,by rw [(h.go ht).1]⟩
theorem EmX.atp (p:Tk→Bool) {a b a' b':Rd α} (h:Pl s) (r:Rl s) (h1:p (nextM s).1=true→EmX X a a' s) (h2:¬p (nextM s).1=true→EmX X b b' s):EmX X (if p (nextM s).1=true then a else b) (if p (nextM (emb s)).1=true then a' else b') s:=
 EmX.ite (by rw [h.same r]) h1 h2
theorem EmX.clo {a b a' b':Rd α} (h:Pl s) (h1:Rl s→EmX X a a' s) (h2:EmX X b b' s) (h3:s.pos=s.toks.length→EmX X b a' s):EmX X (if isF s 15 [41]=true then a else b) (if isF (emb s) 15 [41]=true then a' else b') s:=by
 rcases h.cases with ⟨t,ht⟩|e
 ·have r:Rl s:=⟨t,ht⟩
  refine EmX.ite ?_ (fun _=>h1 r) (fun _=>h2)
  unfold isF
  rw [h.same r]
 ·have n1:isF s 15 [41]=false:=by
   show ((nextM s).1.kind==15&&(nextM s).1.text==[41])=false
   rcases h.fin e with h4|h4<;>rw [h4]<;>rfl
  have n2:isF (emb s) 15 [41]=true:=by
   show ((nextM (emb s)).1.kind==15&&(nextM (emb s)).1.text==[41])=true
   rw [h.fin2 e];rfl
  rw [n1,n2,if_neg (by decide),if_pos rfl]
  exact h3 e
theorem EmX.loop {body:σ→Rd (Sum σ α)} (h:∀x s,Pl s→EmX (fun r s1=>∃x',r=.inl x'∧Fa (.loop body x') s1) (body x) (body x) s) (x:σ):Em (.loop body x):=fun s=>by
 show Pl s→∀v s',Rd.iter body x s=.inr (v,s')→Pl s'∧(False∨Rd.iter body x (emb s)=.inr (v,emb s'))
 fun_induction Rd.iter body x s with
 |case1 x s p h1=>intro hs v s' e;cases e
 |case2 x s y s1 h1=>
  intro hs v s' e
  cases e
  obtain ⟨h2,⟨x',h3,_⟩|h3⟩:=h x s hs _ _ h1
  ·cases h3
  ·refine ⟨h2,.inr ?_⟩
   rw [Rd.iter,h3]
 |case3 x s x' s1 h1 hlt ih=>
  intro hs v s' e
  obtain ⟨h2,⟨x2,h3,h4⟩|h3⟩:=h x s hs _ _ h1
  ·cases h3
   exact (h4.no (v:=v) (s':=s') e).elim
  ·obtain ⟨h4,h5⟩:=ih h2 v s' e
   refine ⟨h4,?_⟩
   rw [Rd.iter,h3]
   dsimp only
   rw [if_pos (by rw [hs.mu,h2.mu];omega)]
   exact h5
 |case4 x s x' s1 h1 hlt=>intro hs v s' e;cases e
theorem EmX.tk {X:Nd→Sta→Prop} (h:Pl s) (r:Rl s):EmX X takeR takeR s:=fun v s' hr=>by
 obtain ⟨t,ht⟩:=r
 obtain ⟨h1,h2⟩:=h.go ht
 by_cases hz:(nextM s).2.2=0
 ·rw [Ql hz] at hr
  cases hr
  refine ⟨h2 hz,.inr ?_⟩
  rw [Ql (by rw [h1];exact hz),h1]
 ·rw [He hz] at hr;cases hr
theorem Qv {k:Int} {x:List UInt8} (hk:k≠0∧k≠21):Em (wantR k x):=fun s hs=>EmX.look (fun v s' hr=>by
 by_cases e:isF s k x=true
 ·rw [if_pos e] at hr
  have r:Rl s:=hs.has (p:=fun t=>t.kind==k&&t.text==x) (UF hk) e
  have h3:isF (emb s) k x=true:=by
   obtain ⟨t,ht⟩:=r
   unfold isF
   rw [(hs.go ht).1];exact e
  rw [if_pos h3]
  exact EmX.tk (X:=fun _ _=>False) hs r v s' hr
 ·rw [if_neg e] at hr;cases hr)
theorem Xih {ks:List Int} (h1:ks.contains 0=false) (h2:ks.contains 21=false):Em (kindR ks):=fun s hs=>EmX.look (fun v s' hr=>by
 have hp:Tst0 (fun t=>ks.contains t.kind):=⟨h2,h1,fun a b e _=>by rw [e]⟩
 by_cases e:ks.contains (nextM s).1.kind=true
 ·rw [if_pos e] at hr
  have r:Rl s:=hs.has hp e
  have h3:ks.contains (nextM (emb s)).1.kind=true:=by
   obtain ⟨t,ht⟩:=r
   rw [(hs.go ht).1];exact e
  rw [if_pos h3]
  exact EmX.tk (X:=fun _ _=>False) hs r v s' hr
 ·rw [if_neg e] at hr;cases hr)
theorem em_ofRs {A:Sta→Rs} {hle:∀s v s',A s=.inr (v,s')→mu s'≤mu s} (h:Sim smB A):Em (ofRs A hle):=fun s hs v s' hr=>by
 cases hA:A s with
 |inl p=>unfold ofRs at hr;dsimp only at hr;rw [hA] at hr;dsimp only at hr;split at hr<;>cases hr
 |inr p=>
  rw [Uw hA] at hr
  cases hr
  have h2:False∨∃w t1,A (emb s)=.inr (w,t1)∧v=w∧(Pl s'∧t1=emb s'):=h s (emb s) (show Pl s∧emb s=emb s from ⟨hs,rfl⟩) _ _ hA
  rcases h2 with ho|⟨w,t1,e,rfl,h1,rfl⟩
  ·exact ho.elim
  ·exact ⟨h1,.inr (Uw e)⟩
end
theorem Xif (d:Nat):Em (fullL d):=em_ofRs (sm_full (QE (Qk _)) (XiW (Qk _) (Xaz _) (XiX _)))
namespace Rd
variable {α β γ σ:Type}
theorem Xms {body:σ→Rd (Sum σ β)} {P:β→Sta→Prop} (h1:∀x s y s',(body x).run s=.inr (.inr y,s')→P y s') (x:σ) (s:Sta):∀y s',(loop body x).run s=.inr (y,s')→P y s':=by
 show ∀y s',iter body x s=.inr (y,s')→P y s'
 fun_induction iter body x s with
 |case1 x s e h=>intro y s' h';cases h'
 |case2 x s y s1 h=>intro y s' h';cases h';exact h1 _ _ _ _ h
 |case3 x s x' s1 h hlt ih=>exact ih
 |case4 x s x' s1 h hlt=>intro y s' h';cases h'
end Rd
theorem row_end {br:Bool} {opd:Rd Nd} {s s':Sta} {p:List Nd×Bool} (h:(erowR opd br).run s=.inr (p,s')):p.2=true→br=true∧isF s' 15 [41]=true∧2≤p.1.length:=
 Rd.Xms (body:=rowB opd br) (P:=fun p s'=>p.2=true→br=true∧isF s' 15 [41]=true∧2≤p.1.length) (fun l s y s' h=>by
  unfold rowB at h
  obtain ⟨l2,s2,_,h⟩:=XW h
  obtain ⟨n,s3,_,h⟩:=XW h
  replace h:(if infixF (nextM s3).1=true then Rd.seq operR fun o=>(if br=true then Rd.look fun s=>if isF s 15 [41]=true then Rd.ret (.inr (l2++[n]++[o],true)) else Rd.ret (.inl (l2++[n]++[o])) else Rd.ret (.inl (l2++[n]++[o]))) else Rd.ret (.inr (l2++[n],false)):Rd (Sum (List Nd) (List Nd×Bool))).run s3=.inr (.inr y,s'):=h
  split at h
  ·obtain ⟨o,s4,_,h⟩:=XW h
   split at h
   ·rename_i hb
    replace h:(if isF s4 15 [41]=true then Rd.ret (.inr (l2++[n]++[o],true)) else Rd.ret (.inl (l2++[n]++[o])):Rd (Sum (List Nd) (List Nd×Bool))).run s4=.inr (.inr y,s'):=h
    split at h
    ·rename_i hi;cases h;exact fun _=>⟨hb,hi,by simp⟩
    ·cases h
   ·cases h
  ·cases h;exact fun e=>Bool.noConfusion (show false=true from e)) _ _ _ _ h
theorem XeP:Tst symT:=⟨⟨rfl,rfl,fun a b h1 h2=>by unfold symT;rw [h1,h2]⟩,rfl⟩
theorem XeO:Tst infixF:=⟨⟨rfl,rfl,fun a b h1 h2=>by unfold infixF symT;rw [h1,h2]⟩,rfl⟩
theorem Xbm:Tst atomicF:=⟨⟨rfl,rfl,fun a b h1 h2=>by unfold atomicF;rw [h1,h2]⟩,rfl⟩
theorem XeN:Tst beginsF:=⟨⟨rfl,rfl,fun a b h1 h2=>by unfold beginsF atomicF;rw [h1,h2]⟩,rfl⟩
theorem tst_fix:Tst fixesF:=⟨⟨rfl,rfl,fun a b h1 h2=>by unfold fixesF;rw [h1,h2]⟩,rfl⟩
theorem XkI:Tst declsF:=⟨⟨rfl,rfl,fun a b h1 h2=>by unfold declsF beginsF fixesF atomicF;rw [h1,h2]⟩,rfl⟩
theorem XcJ:Tst semiF:=⟨⟨rfl,rfl,fun a b h1 h2=>by unfold semiF;rw [h1,h2]⟩,rfl⟩
theorem XeM {k:Int} (h:k≠0∧k≠21):Tst0 (fun t=>t.kind==k):=⟨beq_eq_false_iff_ne.2 fun e=>h.2 e.symm,beq_eq_false_iff_ne.2 fun e=>h.1 e.symm,fun a b h1 _=>by rw [h1]⟩
theorem XcI {k:Int} (h:k≠0∧k≠21∧k≠15):Tst (fun t=>t.kind==k):=⟨XeM ⟨h.1,h.2.1⟩,beq_eq_false_iff_ne.2 fun e=>h.2.2 e.symm⟩
def Hard {α:Type} (A:Rd α):Prop:=∀s,Pl s→s.pos=s.toks.length→Fa A s
theorem Pl.no {s:Sta} {p:Tk→Bool} (h:Pl s) (e:s.pos=s.toks.length) (hp:Tst0 p):p (nextM s).1=false:=by
 rcases h.fin e with h1|h1
 ·rw [h1];exact hp.e
 ·rw [h1];exact hp.z
theorem Pl.noIs {s:Sta} {k:Int} {x:List UInt8} (h:Pl s) (e:s.pos=s.toks.length) (hk:k≠0∧k≠21):isF s k x=false:=h.no (p:=fun t=>t.kind==k&&t.text==x) e (UF hk)
section
variable {A B C D E:Rd Nd} {L:Low} {s:Sta} {o:Nd}
theorem XjQ:Hard (baseR L):=fun s h e=>by
 unfold Fa baseR
 rw [Rd.Xi,if_neg (by rw [h.no e Xbm.toTst0];decide)]
 exact trivial
theorem XjP:Hard (atomR L):=fun s h e=>(XjQ s h e).seq
theorem Xl9 (hA:Hard A):Hard (operandR L A):=fun s h e=>by
 unfold Fa operandR
 rw [Rd.Xi,if_neg (by rw [h.no (p:=fun t=>t.kind==10) e (XeM (by decide))];decide),if_neg (by rw [h.no (p:=fun t=>t.kind==9) e (XeM (by decide))];decide)]
 exact (hA s h e).seq
theorem Xcb {l:List Nd} (h:Pl s) (e:s.pos=s.toks.length) {Q:List Nd→Sta→Prop} {E:Er→Sta→Prop} (k:Q l s):Rd.wp (minusR l) s Q E:=by
 unfold minusR
 rw [Rd.wp_loop]
 unfold minusB
 rw [Rd.Xi,if_neg (by rw [h.noIs e (by decide)];decide),Rd.wp_ret]
 exact k
theorem Xdh {b:Bool} {l:List Nd} (hA:Hard A):Hard (.loop (rowB A b) l):=fun s h e=>by
 unfold Fa
 rw [Rd.wp_loop]
 unfold rowB
 rw [Rd.wp_seq]
 refine Xcb h e ?_
 rw [Rd.wp_seq]
 exact Rd.wp_mono (hA s h e) (fun _ _ _ f=>f.elim) (fun _ _ _ _=>trivial)
theorem Xfx {b:Bool} (hA:Hard A):Hard (erowR A b):=Xdh hA
theorem Xdg {b:Bool} (hA:Hard A) (h:Pl s) (e:isF s 5 [45]=true) (e2:(nextM s).2.1.pos=(nextM s).2.1.toks.length):Fa (erowR A b) s:=by
 unfold Fa erowR
 rw [Rd.wp_loop]
 unfold rowB
 rw [Rd.wp_seq]
 unfold minusR
 rw [Rd.wp_loop]
 have r:Rl s:=h.has (p:=fun t=>t.kind==5&&t.text==[45]) (UF (by decide)) e
 have hz:=Jp e (by decide)
 have h1:=(h.sec r hz).1
 have hm:=Qq e (by decide) (by decide)
 have hb:(minusB []:Rd (Sum (List Nd) (List Nd))).run s=.inr (.inl ([]++[nodeK 19 [leafT (nextM s).1]]),(nextM s).2.1):=by
  show (if isF s 5 [45]=true then (Rd.seq takeR fun t=>Rd.ret (Sum.inl ([]++[nodeK 19 [t]]))) else Rd.ret (Sum.inr []):Rd (Sum (List Nd) (List Nd))).run s=_
  rw [if_pos e]
  unfold Rd.seq
  dsimp only
  rw [Ql hz];rfl
 have hw:∀{Q:Sum (List Nd) (List Nd)→Sta→Prop} {E:Er→Sta→Prop},Q (.inl ([]++[nodeK 19 [leafT (nextM s).1]])) (nextM s).2.1→Rd.wp (minusB []) s Q E:=fun k=>by unfold Rd.wp;rw [hb];exact k
 refine hw ?_
 show if mu (nextM s).2.1<mu s then _ else _
 rw [if_pos hm]
 refine Xcb h1 e2 ?_
 rw [Rd.wp_seq]
 exact Rd.wp_mono (hA _ h1 e2) (fun _ _ _ f=>f.elim) (fun _ _ _ _=>trivial)
theorem Xma (hA:Hard A):Hard (opsR A):=fun s h e=>(Xfx hA s h e).seq
structure LowEm (L:Low):Prop where
 atom:Em L.atom
 exp:Em L.exp
 ops:Em L.ops
 decls:Em L.decls
 stmts:Em L.stmts
 alts:Em L.alts
 brack:∀o,Em (L.brack o)
 list:∀o,Em (L.list o)
 hops:Hard L.ops
 hb:∀o,Hard (L.brack o)
 hb2:∀o s,Pl s→isF s 5 [45]=true→(nextM s).2.1.pos=(nextM s).2.1.toks.length→Fa (L.brack o) s
theorem Xa5:Em operR:=fun s hs=>.look (.tst hs XeP (fun r _=>.seq (.tk hs r) fun v s1 h1=>.ret h1)
 (.seq (Qv (by decide) s hs) fun v s1 h1=>.seq (Xih rfl rfl s1 h1) fun v s2 h2=>.seq (Qv (by decide) s2 h2) fun v s3 h3=>.ret h3))
theorem XlC {l:List Nd}:Em (minusR l):=EmX.loop (body:=minusB) (fun l s hs=>.look (.is hs (by decide) (by decide) (fun r=>.seq (.tk hs r) fun v s1 h1=>.ret h1) (.ret hs))) l
theorem JU {p:Nd→Bool} (hA:EmA A A s):EmA (formedR A p) (formedR A p) s:=.look (.seq hA fun n s1 h1=>.ite Iff.rfl (fun _=>.ret h1) fun _=>.failAt)
theorem XgT {b:Bool} (hA:Em A) (hH:Hard A):Em (erowR A b):=EmX.loop (body:=rowB A b) (fun l s hs=>.seq (XlC s hs) fun l1 s1 h1=>.seq (hA s1 h1) fun n s2 h2=>
 .look (.tst h2 XeO (fun _ _=>.seq (Xa5 s2 h2) fun o s3 h3=>.ite Iff.rfl (fun _=>.look (.clo h3 (fun _=>.ret h3) (.ret h3) (fun he v s' e=>by cases e;exact ⟨h3,.inl ⟨_,rfl,Xdh hH _ h3 he⟩⟩))) fun _=>.ret h3) (.ret h2))) []
theorem XdW (hA:Em A) (hH:Hard A):Em (opsR A):=fun s hs=>.seq (XgT hA hH s hs) fun v s1 h1=>.ret h1
theorem XbS {n:Nd} (hB:Em B):Em (typedR B n):=fun s hs=>.look (.is hs (by decide) (by decide) (fun r=>.seq (.tk hs r) fun c s1 h1=>.seq (hB s1 h1) fun t s2 h2=>.ret h2) (.ret hs))
theorem em_exp (hA:Em A) (hH:Hard A) (hB:Em B):Em (expR A B):=fun s hs=>.seq (XdW hA hH s hs) fun n s1 h1=>XbS hB s1 h1
theorem Xfi (hL:LowEm L) {a b:Nd}:Em (localR L a b):=fun s hs=>.seq (Qv (by decide) s hs) fun _ s1 h1=>.seq (hL.exp s1 h1) fun _ s2 h2=>.ret h2
theorem em_let (hL:LowEm L) (hs:Pl s) (r:Rl s):EmA (letR L) (letR L) s:=.seq (.tk hs r) fun _ s1 h1=>.seq (hL.decls s1 h1) fun _ s2 h2=>Xfi hL s2 h2
theorem Xii {X:Sum (List Nd) (List Nd)→Sta→Prop} {l:List Nd} (hA:Em A) (hs:Pl s):EmX X (lambdaS A l) (lambdaS A l) s:=.seq (JU (hA s hs)) fun _ s1 h1=>.ret h1
theorem XjD (hL:LowEm L) (hA:Em A) (hs:Pl s) (r:Rl s):EmA (lambdaR L A) (lambdaR L A) s:=.seq (.tk hs r) fun b s1 h1=>.seq (EmX.loop (body:=lambdaB A) (fun l s hs=>.ite Iff.rfl (fun _=>Xii hA hs) fun _=>.look (.tst hs Xbm (fun _ _=>Xii hA hs) (.ret hs))) [b] s1 h1) fun l s2 h2=>
 .seq (Qv (by decide) s2 h2) fun a s3 h3=>.seq (hL.exp s3 h3) fun e s4 h4=>.ret h4
theorem Gt (hs:Pl s) (r:Rl s):EmA skipR skipR s:=.seq (.tk hs r) fun _ s1 h1=>.ret h1
theorem em_semi {w:List UInt8}:Em (semiR w):=fun s hs=>.look (.tst hs XcJ (fun r e=>by
 have hz:(nextM s).2.2=0:=QF (Gx (Xaf e)).1
 obtain ⟨h1,h2⟩:=hs.sec r hz
 refine .ite ?_ (fun _=>Gt hs r) (fun _=>.ret hs)
 rw [h2,h1.is (by decide) (fun e=>absurd e.1 (by decide))]) (.ret hs))
theorem Xij (hL:LowEm L) {l:List Nd} {w:List UInt8}:Em (partR L l w):=fun s hs=>.seq (em_semi s hs) fun _ s1 h1=>.seq (Qv (by decide) s1 h1) fun a s2 h2=>.seq (hL.exp s2 h2) fun e s3 h3=>.ret h3
theorem XjB (hL:LowEm L) (hs:Pl s) (r:Rl s):EmA (branchR L) (branchR L) s:=.seq (.tk hs r) fun i s1 h1=>.seq (hL.exp s1 h1) fun c s2 h2=>.seq (Xij hL s2 h2) fun l s3 h3=>.seq (Xij hL s3 h3) fun l s4 h4=>.ret h4
theorem em_case (hL:LowEm L) (hs:Pl s) (r:Rl s):EmA (caseR L) (caseR L) s:=.seq (.tk hs r) fun i s1 h1=>.seq (hL.exp s1 h1) fun c s2 h2=>.seq (Qv (by decide) s2 h2) fun l s3 h3=>.seq (hL.alts s3 h3) fun l s4 h4=>.ret h4
theorem XlH (hL:LowEm L) (hs:Pl s) (r:Rl s):EmA (stepsR L) (stepsR L) s:=.seq (.tk hs r) fun i s1 h1=>.seq (hL.stmts s1 h1) fun c s2 h2=>.ite Iff.rfl (fun _=>.fail) fun _=>.ret h2
theorem XbP (hA:Em A):Em (atomsR A):=fun s hs=>.seq (hA s hs) fun n s1 h1=>.seq (EmX.loop (body:=atomsB A) (fun l s hs=>.look (.tst hs Xbm (fun _ _=>.seq (hA s hs) fun n s1 h1=>.ret h1) (.ret hs))) [n] s1 h1) fun l s2 h2=>.ret h2
theorem XgS (hL:LowEm L) (hA:Em A):Em (operandR L A):=fun s hs=>.look (EmX.tst (p:=fun t=>t.kind==10) hs (XcI (by decide)) (fun r _=>EmX.atp (fun t=>t.text==[92]) hs r (fun _=>XjD hL hA hs r) fun _=>XbP hA s hs)
 (EmX.tst (p:=fun t=>t.kind==9) hs (XcI (by decide)) (fun r _=>EmX.atp (fun t=>t.text==wLet) hs r (fun _=>em_let hL hs r) fun _=>EmX.atp (fun t=>t.text==wIf) hs r (fun _=>XjB hL hs r) fun _=>EmX.atp (fun t=>t.text==wCase) hs r (fun _=>em_case hL hs r) fun _=>
   EmX.atp (fun t=>t.text==wDo) hs r (fun _=>XlH hL hs r) fun _=>XbP hA s hs) (XbP hA s hs)))
theorem Xig:Em (headR o):=fun s hs=>.seq (EmX.loop (body:=commasB) (fun l s hs=>.look (.is hs (by decide) (by decide) (fun r=>.seq (.tk hs r) fun c s1 h1=>.ret h1) (.ret hs))) [o] s hs) fun l s1 h1=>.seq (Qv (by decide) s1 h1) fun c s2 h2=>.ret h2
theorem Xdd (hL:LowEm L):Em (roundC L o):=fun s hs=>.look (.tst hs XeO (fun _ _=>.is hs (by decide) (by decide) (fun _=>hL.brack o s hs) (.seq (Xa5 s hs) fun p s1 h1=>.seq (hL.ops s1 h1) fun e s2 h2=>.seq (Qv (by decide) s2 h2) fun c s3 h3=>.ret h3)) (hL.brack o s hs))
theorem XjM (hL:LowEm L):Hard (roundC L o):=fun s h e=>by
 unfold Fa roundC
 rw [Rd.Xi,if_neg (by rw [h.no e XeO.toTst0];decide)]
 exact hL.hb o s h e
theorem XgY (hL:LowEm L) (h:Pl s) (r:Rl s) (e:symT (nextM s).1=true) (e2:(nextM s).2.1.pos=(nextM s).2.1.toks.length):Fa (roundC L o) s:=by
 have hz:=QF (XJ e).1
 obtain ⟨h1,_⟩:=h.sec r hz
 unfold Fa roundC
 rw [Rd.Xi,if_pos (by unfold infixF;rw [e];rfl)]
 split
 ·exact hL.hb2 o s h ‹_› e2
 ·unfold operR
  rw [Rd.wp_seq,Rd.Xi,if_pos e,Rd.wp_seq]
  unfold Rd.wp
  rw [Ql hz]
  exact (hL.hops _ h1 e2).seq
theorem XjG (hL:LowEm L):Em (roundB L o):=fun s hs=>.look (.tst hs XeP (fun r e=>by
 have hz:=QF (XJ e).1
 obtain ⟨h1,h2⟩:=hs.sec r hz
 rw [h2]
 have hsec:EmA (.seq takeR fun p=>.seq takeR fun c=>.ret (nodeK 3 [o,p,c])) (.seq takeR fun p=>.seq takeR fun c=>.ret (nodeK 3 [o,p,c])) s∨¬Rl (nextM s).2.1:=by
  by_cases r2:Rl (nextM s).2.1
  ·refine .inl (.seqE (.tk hs r) fun v s1 hv p1=>?_)
   rw [Ql hz] at hv
   cases hv
   exact .seq (.tk p1 r2) fun c s2 p2=>.ret p2
  ·exact .inr r2
 rcases h1.cases with ⟨t,ht⟩|e2
 ·have r2:Rl (nextM s).2.1:=⟨t,ht⟩
  refine .ite ?_ (fun _=>hsec.resolve_right fun n=>n r2) (fun _=>Xdd hL s hs)
  unfold isF
  rw [h1.same r2]
 ·have n1:isF (nextM s).2.1 15 [41]=false:=h1.noIs e2 (by decide)
  rw [n1,if_neg (by decide)]
  exact .fa (XgY hL hs r e e2)) (Xdd hL s hs))
theorem XlE (hL:LowEm L) (hs:Pl s) (r:Rl s):EmA (roundR L) (roundR L) s:=.seq (.tk hs r) fun o s1 h1=>.look (.clo h1 (fun _=>Xig s1 h1) (.is h1 (by decide) (by decide) (fun _=>Xig s1 h1) (XjG hL s1 h1)) fun e=>.fa (by
 rw [if_neg (by rw [h1.noIs e (by decide)];decide)]
 unfold Fa roundB
 rw [Rd.Xi,if_neg (by rw [h1.no e XeP.toTst0];decide)]
 exact XjM hL s1 h1 e))
theorem XjH (hL:LowEm L) (hs:Pl s) (r:Rl s):EmA (squareR L) (squareR L) s:=.seq (.tk hs r) fun o s1 h1=>.look (.is h1 (by decide) (by decide) (fun r=>.seq (.tk h1 r) fun c s2 h2=>.ret h2) (hL.list o s1 h1))
theorem em_base (hL:LowEm L):Em (baseR L):=fun s hs=>.look (.tst hs Xbm (fun r _=>EmX.atp (fun t=>t.kind==15) hs r (fun _=>EmX.atp (fun t=>t.text==[40]) hs r (fun _=>XlE hL hs r) fun _=>XjH hL hs r)
 fun _=>EmX.atp (fun t=>t.kind==9) hs r (fun _=>.seq (.tk hs r) fun w s1 h1=>.ret h1) fun _=>EmX.atp (fun t=>t.kind==10) hs r (fun _=>.seq (.tk hs r) fun w s1 h1=>.seq (hL.atom s1 h1) fun a s2 h2=>.ret h2)
 fun _=>.seq (.tk hs r) fun n s1 h1=>.ite (by rw [hs.same r]) (fun _=>.look (.is h1 (by decide) (by decide) (fun r=>.seq (.tk h1 r) fun w s2 h2=>.seq (hL.atom s2 h2) fun a s3 h3=>.ret h3) (.ret h1))) fun _=>.ret h1) .bad)
theorem Xdb {X:Sum (List Nd) (List Nd)→Sta→Prop} {l:List Nd} (hL:LowEm L) (hs:Pl s):EmX X (fieldS L l) (fieldS L l) s:=.seq (Xih rfl rfl s hs) fun nm s1 h1=>.seq (Qv (by decide) s1 h1) fun q s2 h2=>.seq (hL.exp s2 h2) fun e s3 h3=>
 .look (.is h3 (by decide) (by decide) (fun r=>.seq (.tk h3 r) fun c s4 h4=>.ret h4) (.ret h3))
theorem XjF {n:Nd} (hL:LowEm L) (hs:Pl s) (r:Rl s):EmA (recordR L n) (recordR L n) s:=.seq (.tk hs r) fun b s1 h1=>.seq (EmX.loop (body:=recordB L) (fun l s hs=>.look (.is hs (by decide) (by decide) (fun _=>.ite Iff.rfl (fun _=>Xdb hL hs) fun _=>.ret hs) (Xdb hL hs))) [n,b] s1 h1)
 fun l s2 h2=>.seq (Qv (by decide) s2 h2) fun c s3 h3=>.ret h3
theorem XdV (hL:LowEm L):Em (atomR L):=fun s hs=>.seq (em_base hL s hs) fun n s1 h1=>EmX.loop (body:=atomB L) (fun n s hs=>.look (.is hs (by decide) (by decide) (fun r=>.seq (XjF hL hs r) fun n s1 h1=>.ret h1) (.ret hs))) n s1 h1
theorem Xly (hA:Em A) (hH:Hard A) (hB:Em B) (hC:Em C):Em (bracketedR A B C o):=fun s hs=>.seqE (XgT hA hH s hs) fun p s1 hp h1=>.ite Iff.rfl (fun e=>.seq (.tk h1 (h1.has (p:=fun t=>t.kind==15&&t.text==[41]) (UF (by decide)) (row_end hp e).2.1)) fun c s2 h2=>.ret h2)
 fun _=>.seq (XbS hB s1 h1) fun e s2 h2=>.seq (EmX.loop (body:=tupleB C) (fun l s hs=>.look (.is hs (by decide) (by decide) (fun r=>.seq (.tk hs r) fun c s1 h1=>.seq (hC s1 h1) fun e s2 h2=>.ret h2) (.ret hs))) (4,[o,e]) s2 h2) fun q s3 h3=>.seq (Qv (by decide) s3 h3) fun c s4 h4=>.ret h4
theorem XjE (hB:Em B) {l:List Nd}:Em (.loop (qualsB B) l):=EmX.loop (body:=qualsB B) (fun l s hs=>.look (.is hs (by decide) (by decide) (fun r=>.seq (.tk hs r) fun c s1 h1=>.seq (hB s1 h1) fun e s2 h2=>.ret h2) (.ret hs))) l
theorem Xfq (h:Fa (erowR A true) s):Fa (bracketedR A B C o) s:=h.seq
theorem Xfj (hB:Em B) {l:List Nd}:Em (qualsR B l):=fun s hs=>.seq (Qv (by decide) s hs) fun b s1 h1=>.seq (hB s1 h1) fun t s2 h2=>XjE hB s2 h2
theorem Xfh {X:Sum (List Nd) (Int×List Nd)→Sta→Prop} {l:List Nd} (hA:Em A) (hs:Pl s):EmX X (listC A l) (listC A l) s:=.look (.is hs (by decide) (by decide) (fun r=>.seq (.tk hs r) fun c s1 h1=>.seq (hA s1 h1) fun e s2 h2=>.ret h2) (.ret hs))
theorem em_list (hA:Em A) (hB:Em B):Em (listR A B o):=fun s hs=>.seq (hA s hs) fun e s1 h1=>.look (.is h1 (by decide) (by decide) (fun _=>.seq (Xfj hB s1 h1) fun l s2 h2=>.seq (Qv (by decide) s2 h2) fun c s3 h3=>.ret h3)
 (.seq (EmX.loop (body:=listB A) (fun l s hs=>.ite Iff.rfl (fun _=>.look (.is hs (by decide) (by decide) (fun r=>.seq (.tk hs r) fun d s1 h1=>.look (.is h1 (by decide) (by decide) (fun _=>.ret h1) (.seq (hA s1 h1) fun e s2 h2=>.ret h2))) (Xfh hA hs))) fun _=>Xfh hA hs) [o,e] s1 h1) fun q s2 h2=>.seq (Qv (by decide) s2 h2) fun c s3 h3=>.ret h3))
theorem Xie {n:Nd} (hA:Em A):Em (bindR A n):=fun s hs=>.look (.is hs (by decide) (by decide) (fun r=>.ite Iff.rfl (fun _=>.seq (.tk hs r) fun c s1 h1=>.seq (hA s1 h1) fun e s2 h2=>.ret h2) fun _=>.fail) (.ret hs))
theorem em_stmt (hL:LowEm L) (hA:Em A):Em (stmtR L A):=fun s hs=>.look (.is hs (by decide) (by decide) (fun r=>.seq (.tk hs r) fun t s1 h1=>.seq (hL.decls s1 h1) fun b s2 h2=>.look (.is h2 (by decide) (by decide) (fun _=>.seq (Xfi hL s2 h2) fun n s3 h3=>Xie hA s3 h3) (.ret h2))) (.seq (hA s hs) fun n s1 h1=>Xie hA s1 h1))
theorem Xdc {X:Sum (List Nd) (List Nd)→Sta→Prop} {m:List UInt8} {l:List Nd} (hA:Em A) (hB:Em B) (hs:Pl s):EmX X (guardS A B m l) (guardS A B m l) s:=.seq (Xfj hB s hs) fun g s1 h1=>.seq (Qv (by decide) s1 h1) fun q s2 h2=>.seq (hA s2 h2) fun e s3 h3=>.ret h3
theorem Xik (hL:LowEm L) (hA:Em A) (hB:Em B) {m:List UInt8} {l:List Nd}:Em (rhsB L A B m l):=fun s hs=>.seq (EmX.loop (body:=guardB A B m) (fun l s hs=>.ite Iff.rfl (fun _=>Xdc hA hB hs) fun _=>.ite Iff.rfl (fun _=>.look (.is hs (by decide) (by decide) (fun _=>Xdc hA hB hs) (.ret hs))) fun _=>.ret hs) l s hs)
 fun l s1 h1=>.look (.is h1 (by decide) (by decide) (fun r=>.seq (.tk h1 r) fun w s2 h2=>.seq (hL.decls s2 h2) fun b s3 h3=>.ret h3) (.ret h1))
theorem XlD (hL:LowEm L) (hA:Em A) (hB:Em B) {m:List UInt8}:Em (rhsR L A B m):=fun s hs=>(.look (.is hs (by decide) (fun e=>absurd e.1 (by decide)) (fun r=>.seq (.tk hs r) fun a s1 h1=>.seq (hA s1 h1) fun e s2 h2=>Xik hL hA hB s2 h2) (.is hs (by decide) (by decide) (fun _=>Xik hL hA hB s hs) .bad)))
theorem em_alt (hL:LowEm L) (hA:Em A) (hB:Em B) (hC:Em C):Em (altR L A B C):=fun s hs=>.seq (hA s hs) fun n s1 h1=>.ite Iff.rfl (fun _=>.seq (XlD hL hB hC s1 h1) fun r s2 h2=>.ret h2) fun _=>.fail
theorem XbR {l:List Nd}:Em (fixityC l):=fun s hs=>.seq (JU (Xa5 s hs)) fun o s1 h1=>.seq (EmX.loop (body:=fixityB) (fun l s hs=>.look (.is hs (by decide) (by decide) (fun r=>.seq (.tk hs r) fun c s1 h1=>.seq (JU (Xa5 s1 h1)) fun o s2 h2=>.ret h2) (.ret hs))) (l++[o]) s1 h1) fun l s2 h2=>.ret h2
theorem XjC (hs:Pl s) (r:Rl s):EmA fixityR fixityR s:=.seq (.tk hs r) fun f s1 h1=>.look (EmX.tst (p:=fun t=>t.kind==11) h1 (XcI (by decide)) (fun r _=>.seq (JU (.tk h1 r)) fun d s2 h2=>XbR s2 h2) (XbR s1 h1))
theorem XlG {n:Nd} (hA:Em A) (hB:Em B):Em (sigR A B n):=fun s hs=>.ite Iff.rfl (fun _=>.seq (EmX.loop (body:=sigB A) (fun l s hs=>.look (.is hs (by decide) (by decide) (fun r=>.seq (.tk hs r) fun c s1 h1=>.seq (JU (hA s1 h1)) fun o s2 h2=>.ret h2) (.ret hs))) [n] s hs) fun l s1 h1=>
 .seq (Qv (by decide) s1 h1) fun c s2 h2=>.seq (hB s2 h2) fun t s3 h3=>.ret h3) fun _=>.fail
theorem em_decl (hL:LowEm L) (hA:Em A) (hB:Em B) (hC:Em C) (hD:Em D) (hE:Em E):Em (declR L A B C D E):=fun s hs=>.look (.tst hs tst_fix (fun r _=>XjC hs r) (.seq (hB s hs) fun n s1 h1=>.look (.is h1 (by decide) (by decide) (fun _=>XlG hA hE s1 h1)
 (.is h1 (by decide) (by decide) (fun _=>XlG hA hE s1 h1) (.ite Iff.rfl (fun _=>.seq (XlD hL hC hD s1 h1) fun r s2 h2=>.ret h2) fun _=>.fail)))))
theorem XlF:Em semisR:=EmX.loop (body:=semisB) (fun l s hs=>.look (.tst hs XcJ (fun r _=>.seq (Gt hs r) fun _ s1 h1=>.ret h1) (.ret hs))) ()
theorem Xlz {X:Unit→Sta→Prop} (hs:Pl s):EmX X closeR closeR s:=fun v s' e=>by
 have h0:(closeF s).2=false:=by unfold closeF;rw [if_neg (fun h=>h.2.2 hs.top)]
 have:closeR.run s=.inl (⟨badE s,Xa2 s⟩,s):=by
  show (if (closeF s).2=true then _ else _)=_
  rw [h0,if_neg (by decide)]
 rw [this] at e;cases e
theorem Xfg {f m m':Bool} (e:m'=m) (hs:Pl s):EmA (endedR f m) (endedR f m') s:=by
 subst e
 cases f with
 |true=>exact .look (.is hs (by decide) (by decide) (fun r=>.seq (Gt hs r) fun _ s1 h1=>.ret h1) (.ite Iff.rfl (fun _=>.ite Iff.rfl (fun _=>.bad) (fun e=>absurd rfl e)) fun _=>.ret hs))
 |false=>exact .look (EmX.tst (p:=fun t=>t.kind==20) hs (XcI (by decide)) (fun r _=>.seq (Gt hs r) fun _ s1 h1=>.ret h1) (.ite Iff.rfl (fun _=>.ite Iff.rfl (fun e=>Bool.noConfusion e) (fun _=>.seq (Xlz hs) fun _ s1 h1=>.ret h1)) fun _=>.ret hs))
theorem XbQ {p:Tk→Bool} (hp:Tst p) (hA:Em A):Em (blockR p A):=by
 have hb:∀f l,Em (.loop (blockB p A f) l):=fun f l=>EmX.loop (body:=blockB p A f) (fun l s hs=>.seq (XlF s hs) fun _ s1 h1=>.look (.seq (Xfg (by rw [h1.test hp]) h1) fun e s2 h2=>.ite Iff.rfl (fun _=>.ret h2) fun _=>
  .seq (hA s2 h2) fun n s3 h3=>.look (.seq (Xfg (by rw [h3.test XcJ]) h3) fun e s4 h4=>.ite Iff.rfl (fun _=>.ret h4) fun _=>.ret h4))) l
 exact fun s hs=>.look (EmX.tst (p:=fun t=>t.kind==18) hs (XcI (by decide)) (fun r _=>.seq (Gt hs r) fun _ s1 h1=>.seq (hb _ _ s1 h1) fun l s2 h2=>.ret h2) (.seq (Qv (by decide) s hs) fun _ s1 h1=>.seq (hb _ _ s1 h1) fun l s2 h2=>.ret h2))
end
section
variable {A:Rd Nd} {L:Low}
theorem Hz (hL:LowEm L):Em (opdL L):=XgS hL (XdV hL)
theorem QL:Hard (opdL L):=Xl9 XjP
theorem Vq (hA:Em A) (hL:LowEm L):Em (expL A L):=em_exp (Hz hL) QL hA
theorem Gu (hA:Em A) (hL:LowEm L):Em (stmtL A L):=em_stmt hL (Vq hA hL)
theorem em_altL (hA:Em A) (hL:LowEm L):Em (altL A L):=em_alt hL (XdW (Hz hL) QL) (Vq hA hL) (Gu hA hL)
theorem XlA (hA:Em A) (hL:LowEm L):Em (declL A L):=em_decl hL (XdV hL) (XdW (Hz hL) QL) (Vq hA hL) (Gu hA hL) hA
theorem em_up (hA:Em A) (hL:LowEm L):LowEm (upL A L) where
 atom:=XdV hL
 exp:=Vq hA hL
 ops:=XdW (Hz hL) QL
 decls:=XbQ XkI (XlA hA hL)
 stmts:=XbQ XeN (Gu hA hL)
 alts:=XbQ XeN (em_altL hA hL)
 brack:=fun o=>Xly (Hz hL) QL hA (Vq hA hL)
 list:=fun o=>em_list (Vq hA hL) (Gu hA hL)
 hops:=Xma QL
 hb:=fun o s h e=>show Fa (bracketedR (opdL L) A (expL A L) o) s from Xfq (Xfx QL s h e)
 hb2:=fun o s h e e2=>show Fa (bracketedR (opdL L) A (expL A L) o) s from Xfq (Xdg QL h e e2)
theorem XlB:∀d,LowEm (lowR d)
 |0=>⟨fun _ _=>.fail,fun _ _=>.fail,fun _ _=>.fail,fun _ _=>.fail,fun _ _=>.fail,fun _ _=>.fail,fun _ _ _=>.fail,fun _ _ _=>.fail,fun _ _ _=>trivial,fun _ _ _ _=>trivial,fun _ _ _ _ _=>trivial⟩
 |d+1=>em_up (Xif _) (XlB d)
end
section
variable {α β σ:Type} {s s1:Sta}
theorem run_seq {m:Rd α} {k:α→Rd β} {v:α} (h:m.run s=.inr (v,s1)):(Rd.seq m k).run s=(k v).run s1:=by
 unfold Rd.seq
 dsimp only
 rw [h]
theorem Jb {f:Sta→Rd α}:(Rd.look f).run s=(f s).run s:=rfl
theorem Vg {body:σ→Rd (Sum σ α)} {x:σ} {y:α} (h:(body x).run s=.inr (.inr y,s1)):(Rd.loop body x).run s=.inr (y,s1):=by
 show Rd.iter body x s=_
 rw [Rd.iter,h]
theorem XnE {m:Rd α} {v:α} {Q:α→Sta→Prop} {E:Er→Sta→Prop} (h:m.run s=.inr (v,s1)) (k:Q v s1):Rd.wp m s Q E:=by
 unfold Rd.wp
 rw [h];exact k
end
section
variable {L:Low} {A B C:Rd Nd} {s s':Sta} {o n:Nd}
theorem fa_base (h:atomicF (nextM s).1=false):Fa (baseR L) s:=by
 unfold Fa baseR
 rw [Rd.Xi,if_neg (by rw [h];decide)]
 exact trivial
theorem XgX (h:beginsF (nextM s).1=false):Fa (opdL L) s:=by
 have ha:atomicF (nextM s).1=false:=by
  unfold beginsF at h
  simp only [Bool.or_eq_false_iff] at h
  exact h.2
 have hx:Fa (atomsR (atomR L)) s:=((fa_base ha).seq).seq
 unfold beginsF at h
 simp only [Bool.or_eq_false_iff,Bool.and_eq_false_iff] at h
 obtain ⟨⟨⟨h1,h2⟩,h3⟩,_⟩:=h
 show Rd.wp (operandR L (atomR L)) s (fun _ _=>False) (fun _ _=>True)
 unfold operandR
 rw [Rd.Xi]
 split
 ·rename_i e
  rw [e] at h2
  have h2:=h2.resolve_left (by decide)
  rw [if_neg (by rw [h2];decide)]
  exact hx
 ·split
  ·rename_i e
   rw [e] at h1
   obtain ⟨⟨⟨h4,h5⟩,h6⟩,h7⟩:=h1.resolve_left (by decide)
   rw [if_neg (by rw [h4];decide),if_neg (by rw [h5];decide),if_neg (by rw [h6];decide),if_neg (by rw [h7];decide)]
   exact hx
  ·exact hx
theorem Xcj {l:List Nd} (h:isF s 5 [45]=false):(minusR l).run s=.inr (l,s):=Vg (by
 show (if isF s 5 [45]=true then (Rd.seq takeR fun t=>.ret (.inl (l++[nodeK 19 [t]]))) else .ret (.inr l):Rd (Sum (List Nd) (List Nd))).run s=_
 rw [h];rfl)
theorem Xd9 {s:Sta} (h:isF s 15 [41]=true):isF s 5 [45]=false∧beginsF (nextM s).1=false:=by
 unfold isF at h ⊢
 simp only [Bool.and_eq_true,beq_iff_eq] at h
 unfold beginsF atomicF
 rw [h.1,h.2]
 exact ⟨rfl,rfl⟩
theorem Xip {b:Bool} {l:List Nd} (h:isF s 5 [45]=false) (hA:Fa A s):Fa (.loop (rowB A b) l) s:=by
 unfold Fa
 rw [Rd.wp_loop]
 unfold rowB
 rw [Rd.wp_seq]
 refine XnE (Xcj h) ?_
 rw [Rd.wp_seq]
 exact Rd.wp_mono hA (fun _ _ _ f=>f.elim) (fun _ _ _ _=>trivial)
theorem row_ft (hA:∀s,isF s 15 [41]=true→Fa A s) (x:List Nd) (s:Sta):∀p s',Rd.iter (rowB A false) x s=.inr (p,s')→Rd.iter (rowB A true) x s=.inr ((p.1,false),s'):=by
 have hb:∀{x:List Nd} {s:Sta} {r:Sum (List Nd) (List Nd×Bool)} {s1:Sta},(rowB A false x).run s=.inr (r,s1)→(match r with
  | .inr y=>(rowB A true x).run s=.inr (.inr (y.1,false),s1)
  | .inl x'=>isF s1 15 [41]=true∨(rowB A true x).run s=.inr (.inl x',s1)):=by
  intro x s r s1 h
  obtain ⟨l,s2,h1,h⟩:=XW h
  obtain ⟨n,s3,h2,h⟩:=XW h
  have e:(rowB A true x).run s=(if infixF (nextM s3).1=true then Rd.seq operR fun o=>.look fun s=>if isF s 15 [41]=true then .ret (.inr (l++[n]++[o],true)) else .ret (.inl (l++[n]++[o])) else .ret (.inr (l++[n],false)):Rd (Sum (List Nd) (List Nd×Bool))).run s3:=by
   unfold rowB
   rw [run_seq h1,run_seq h2];rfl
  rw [e]
  replace h:(if infixF (nextM s3).1=true then Rd.seq operR fun o=>.ret (.inl (l++[n]++[o])) else .ret (.inr (l++[n],false)):Rd (Sum (List Nd) (List Nd×Bool))).run s3=.inr (r,s1):=h
  split at h
  ·rename_i hi
   rw [if_pos hi]
   obtain ⟨w,s4,h4,h⟩:=XW h
   cases h
   by_cases hc:isF s1 15 [41]=true
   ·exact .inl hc
   ·right
    rw [run_seq h4,Jb,if_neg hc];rfl
  ·rename_i hi
   rw [if_neg hi]
   cases h;rfl
 fun_induction Rd.iter (rowB A false) x s with
 |case1 x s p h1=>intro p s' e;cases e
 |case2 x s y s1 h1=>
  intro p s' e
  cases e
  rw [Rd.iter,hb h1]
 |case3 x s x' s1 h1 hlt ih=>
  intro p s' e
  rcases hb h1 with h2|h2
  ·exact ((Xip (b:=false) (l:=x') (Xd9 h2).1 (hA _ h2)).no (v:=p) (s':=s') e).elim
  ·rw [Rd.iter,h2]
   dsimp only
   rw [if_pos hlt]
   exact ih p s' e
 |case4 x s x' s1 h1 hlt=>intro p s' e;cases e
theorem Xhw {b:Bool} {p:List Nd×Bool} (h:(erowR (opdL L) b).run s=.inr (p,s')):beginsF (nextM s).1=true∧(isF s 5 [45]=true→¬isF (nextM s).2.1 15 [41]=true):=by
 constructor
 ·cases hb:beginsF (nextM s).1 with
  |true=>rfl
  |false=>
   have hm:isF s 5 [45]=false:=by
    unfold beginsF at hb
    simp only [Bool.or_eq_false_iff] at hb
    exact hb.1.2
   exact ((Xip (b:=b) (l:=[]) hm (XgX (L:=L) hb)).no h).elim
 ·intro e hc
  have hz:=Jp e (by decide)
  have hm:=Qq e (by decide) (by decide)
  obtain ⟨h1,h2⟩:=Xd9 hc
  have hf:Fa (erowR (opdL L) b) s:=by
   unfold Fa erowR
   rw [Rd.wp_loop]
   unfold rowB
   rw [Rd.wp_seq]
   have hb:(minusR []).run s=.inr ([]++[nodeK 19 [leafT (nextM s).1]],(nextM s).2.1):=by
    show Rd.iter minusB [] s=_
    have hb:(minusB []:Rd (Sum (List Nd) (List Nd))).run s=.inr (.inl ([]++[nodeK 19 [leafT (nextM s).1]]),(nextM s).2.1):=by
     show (if isF s 5 [45]=true then (Rd.seq takeR fun t=>Rd.ret (Sum.inl ([]++[nodeK 19 [t]]))) else Rd.ret (Sum.inr []):Rd (Sum (List Nd) (List Nd))).run s=_
     rw [if_pos e,run_seq (Ql hz)];rfl
    rw [Rd.iter,hb]
    dsimp only
    rw [if_pos hm]
    exact Xcj h1
   refine XnE hb ?_
   rw [Rd.wp_seq]
   exact Rd.wp_mono (XgX h2) (fun _ _ _ f=>f.elim) (fun _ _ _ _=>trivial)
  exact hf.no h
theorem Xjc (h:beginsF (nextM s).1=true):isF s 15 [41]=false∧isF s 15 [44]=false∧(infixF (nextM s).1=true→isF s 5 [45]=true):=by
 have hk:∀{k:Int} {x:List UInt8},isF s k x=true→(nextM s).1.kind=k∧(nextM s).1.text=x:=fun {k x} e=>by
  unfold isF at e;simpa using e
 refine ⟨?_,?_,?_⟩
 ·cases e:isF s 15 [41] with
  |false=>rfl
  |true=>rw [(Xd9 e).2] at h;cases h
 ·cases e:isF s 15 [44] with
  |false=>rfl
  |true=>
   obtain ⟨h1,h2⟩:=hk e
   unfold beginsF atomicF at h
   rw [h1,h2] at h
   exact absurd h (by decide)
 ·intro hi
  unfold isF
  unfold infixF symT at hi
  unfold beginsF atomicF at h
  simp only [Bool.or_eq_true,Bool.and_eq_true,beq_iff_eq] at hi h ⊢
  rcases hi with ((((k|k)|k)|k)|⟨k,t⟩)|⟨k,t⟩
  ·rcases h with ((h|h)|h)|h
   ·omega
   ·omega
   ·exact h
   ·omega
  all_goals exfalso
  all_goals first
   |(rw [k] at h;simp at h;done)
   |(rw [k,t] at h;simp [wLet,wIf,wCase,wDo] at h;done)
end
theorem XlN {s:Sta} (h:s.pos=s.toks.length) (ho:s.opn=[]) (hw:s.wait=0):nextM s=(enT,s,0):=by
 have hm:mayF s=true:=by
  unfold mayF
  rw [hw,ho,decide_eq_true (show 0≤s.pos by omega),decide_eq_true (show s.pos≤s.toks.length by omega)];rfl
 unfold nextM
 rw [if_pos hm,Xaj (by omega) (by omega)]
 unfold endFT
 rw [if_pos ho]
theorem XlL {s:Sta} (h:nextM s=(enT,s,0)) {k:Int} {x:List UInt8} (hk:k≠21):isF s k x=false:=by
 unfold isF
 rw [h]
 show ((21:Int)==k&&_)=false
 rw [beq_eq_false_iff_ne.2 fun e=>hk e.symm];rfl
theorem XjL {d:Nat} {l:List Tk} {n:Nd} {s':Sta} (hd:1≤d) (hl:∀t ∈ l,0<t.kind∧t.kind<16) (h:(expD d).run ⟨l,0,[],0⟩=.inr (n,s')) (hp:s'.pos=l.length) (ho:s'.opn=[]):
 (expD (d+1)).run ⟨opT::(l++[clT]),0,[],0⟩=.inr (nodeK 4 [leafT opT,n,leafT clT],⟨opT::(l++[clT]),((opT::(l++[clT])).length:Nat),[],0⟩):=by
 obtain ⟨d,rfl⟩:∃e,d=e+1:=⟨d - 1,by omega⟩
 have h0:Pl ⟨l,0,[],0⟩:=⟨hl,Int.le_refl _,by show (0:Int)≤(l.length:Int);omega,(fun x hx=>by cases hx),rfl⟩
 have hL:=XlB d
 have hopd:=Hz hL
 have hF:=Xif (d+1)
 obtain ⟨m,s2,h1,h2⟩:=XW (show (Rd.seq (opsR (opdL (lowR d))) fun n=>typedR (fullL (d+1)) n).run ⟨l,0,[],0⟩=.inr (n,s') from h)
 obtain ⟨p,s1,h3,h4⟩:=XW (show (Rd.seq (erowR (opdL (lowR d)) false) fun p=>.ret (oneK 17 p.1)).run ⟨l,0,[],0⟩=.inr (m,s2) from h1)
 cases h4
 obtain ⟨hb1,hb2⟩:=Xhw h3
 obtain ⟨n1,n2,n3⟩:=Xjc hb1
 have r3:(erowR (opdL (lowR d)) true).run ⟨l,0,[],0⟩=.inr ((p.1,false),s2):=row_ft (fun s hs=>XgX (Xd9 hs).2) [] _ p s2 h3
 obtain ⟨q1,e3|e3⟩:=XgT (b:=true) hopd QL _ h0 _ _ r3
 ·exact e3.elim
 obtain ⟨q2,e2|e2⟩:=XbS hF _ q1 _ _ h2
 ·exact e2.elim
 have hR:Rl ⟨l,0,[],0⟩:=h0.has XeN.toTst0 hb1
 have hz:(nextM ⟨l,0,[],0⟩).2.2=0:=QF (by
  intro e
  unfold beginsF atomicF at hb1
  rw [e] at hb1
  simp at hb1)
 obtain ⟨g1,g2⟩:=h0.sec hR hz
 have g3:=h0.same hR
 have htk:s'.toks=l:=(((show Dv (expD (d+1)) from Uq (UN _) (XbN _)).at h).ps (fun t ht=>by have:=(hl t ht).2;omega)).tk
 have hem:emb s'=⟨opT::(l++[clT]),(l.length:Nat)+1,[],0⟩:=by
  unfold emb
  rw [htk,hp,ho,q2.wt]
 have e5:nextM (emb s')=(clT,{emb s' with pos:=(emb s').pos+1},0):=q2.fin2 (by rw [hp,htk])
 have hT:({emb s' with pos:=(emb s').pos+1}:Sta)=⟨opT::(l++[clT]),((opT::(l++[clT])).length:Nat),[],0⟩:=by
  rw [hem]
  show (⟨_,((l.length:Nat):Int)+1+1,[],0⟩:Sta)=_
  congr 1
  rw [List.length_cons,List.length_append,List.length_singleton];omega
 generalize hTe:(⟨opT::(l++[clT]),((opT::(l++[clT])).length:Nat),[],0⟩:Sta)=T at hT ⊢
 have hend:nextM T=(enT,T,0):=by rw [←hTe];exact XlN rfl rfl rfl
 have e4:(Rd.loop (tupleB (expL (fullL (d+1)) (lowR d))) (4,[leafT opT,n])).run (emb s')=.inr ((4,[leafT opT,n]),emb s'):=Vg (by
  show (if isF (emb s') 15 [44]=true then _ else _:Rd (Sum (Int×List Nd) (Int×List Nd))).run (emb s')=_
  rw [if_neg (by unfold isF;rw [e5];exact Bool.false_ne_true)];rfl)
 have e6:(wantR 15 [41]).run (emb s')=.inr (leafT clT,T):=by
  show (if isF (emb s') 15 [41]=true then takeR else badR).run (emb s')=_
  rw [if_pos (by unfold isF;rw [e5];rfl),Ql (by rw [e5]),e5,hT]
 have e7:(bracketedR (opdL (lowR d)) (fullL (d+1)) (expL (fullL (d+1)) (lowR d)) (leafT opT)).run (emb ⟨l,0,[],0⟩)=.inr (nodeK 4 [leafT opT,n,leafT clT],T):=by
  unfold bracketedR
  rw [run_seq e3,if_neg Bool.false_ne_true,run_seq e2,run_seq e4,run_seq e6];rfl
 have e8:(roundC (lowR (d+1)) (leafT opT)).run (emb ⟨l,0,[],0⟩)=.inr (nodeK 4 [leafT opT,n,leafT clT],T):=by
  unfold roundC
  rw [Jb]
  by_cases hi:infixF (nextM (emb ⟨l,0,[],0⟩)).1=true
  ·rw [if_pos hi,if_pos (by rw [h0.is (by decide) (by decide)];exact n3 (by rw [←g3];exact hi))]
   exact e7
  ·rw [if_neg hi];exact e7
 have e9:(roundB (lowR (d+1)) (leafT opT)).run (emb ⟨l,0,[],0⟩)=.inr (nodeK 4 [leafT opT,n,leafT clT],T):=by
  unfold roundB
  rw [Jb]
  by_cases hi:symT (nextM (emb ⟨l,0,[],0⟩)).1=true
  ·have hs:isF ⟨l,0,[],0⟩ 5 [45]=true:=n3 (by unfold infixF;rw [←g3,hi];rfl)
   have hcl:isF (nextM (emb ⟨l,0,[],0⟩)).2.1 15 [41]=false:=by
    rw [g2]
    rcases g1.cases with ⟨t,ht⟩|he
    ·unfold isF
     rw [g1.same ⟨t,ht⟩]
     exact Bool.eq_false_iff.2 (hb2 hs)
    ·exact ((Xdg (b:=false) QL h0 hs he).no h3).elim
   rw [if_pos hi,if_neg (by rw [hcl];decide)]
   exact e8
  ·rw [if_neg hi];exact e8
 have hn0:nextM ⟨opT::(l++[clT]),0,[],0⟩=(opT,emb ⟨l,0,[],0⟩,0):=by
  have hm:mayF ⟨opT::(l++[clT]),0,[],0⟩=true:=by
   unfold mayF
   dsimp only
   rw [decide_eq_true (show (0:Int)≤((opT::(l++[clT])).length:Int) by omega)];rfl
  unfold nextM
  rw [if_pos hm,Jr (t:=opT) rfl (Int.le_refl _)]
  rfl
 have i0:∀{k:Int} {x:List UInt8},isF ⟨opT::(l++[clT]),0,[],0⟩ k x=((15:Int)==k&&([40]:List UInt8)==x):=fun {k x}=>by unfold isF;rw [hn0]
 have e10:(roundR (lowR (d+1))).run ⟨opT::(l++[clT]),0,[],0⟩=.inr (nodeK 4 [leafT opT,n,leafT clT],T):=by
  unfold roundR
  rw [run_seq (Ql (by rw [hn0])),hn0,Jb]
  dsimp only
  have hcl:isF (emb ⟨l,0,[],0⟩) 15 [41]=false:=by
   unfold isF
   rw [g3];exact n1
  rw [if_neg (by rw [hcl];decide),if_neg (by rw [h0.is (by decide) (by decide),n2];decide)]
  exact e9
 have e11:(baseR (lowR (d+1))).run ⟨opT::(l++[clT]),0,[],0⟩=.inr (nodeK 4 [leafT opT,n,leafT clT],T):=by
  unfold baseR
  rw [Jb,hn0]
  exact e10
 have e12:(atomR (lowR (d+1))).run ⟨opT::(l++[clT]),0,[],0⟩=.inr (nodeK 4 [leafT opT,n,leafT clT],T):=by
  unfold atomR
  rw [run_seq e11]
  exact Vg (by
   show (if isF T 15 [123]=true then _ else _:Rd (Sum Nd Nd)).run T=_
   rw [if_neg (by rw [XlL hend (by decide)];decide)];rfl)
 have e13:(opdL (lowR (d+1))).run ⟨opT::(l++[clT]),0,[],0⟩=.inr (nodeK 4 [leafT opT,n,leafT clT],T):=by
  unfold opdL operandR
  rw [Jb,hn0]
  show (atomsR (atomR (lowR (d+1)))).run _=_
  unfold atomsR
  rw [run_seq e12,run_seq (Vg (s1:=T) (y:=[nodeK 4 [leafT opT,n,leafT clT]]) (by
   show (if atomicF (nextM T).1=true then _ else _:Rd (Sum (List Nd) (List Nd))).run T=_
   rw [hend];rfl))]
  rfl
 show (Rd.seq (Rd.seq (erowR (opdL (lowR (d+1))) false) fun p=>.ret (oneK 17 p.1)) fun n=>typedR (fullL (d+2)) n).run _=_
 have e14:(erowR (opdL (lowR (d+1))) false).run ⟨opT::(l++[clT]),0,[],0⟩=.inr (([nodeK 4 [leafT opT,n,leafT clT]],false),T):=Vg (by
  unfold rowB
  rw [run_seq (Xcj (by rw [i0];decide)),run_seq e13,Jb,hend];rfl)
 rw [run_seq (show (Rd.seq (erowR (opdL (lowR (d+1))) false) fun p=>.ret (oneK 17 p.1)).run _=.inr (nodeK 4 [leafT opT,n,leafT clT],T) by rw [run_seq e14];rfl)]
 unfold typedR
 rw [Jb,if_neg (by rw [XlL hend (by decide)];decide)];rfl
end Go.Proofs.YtkidoddkbhchkaaGreatDoor
namespace Go.Aw
theorem and63 {a:Int} {K:Int→Prop} (k:∀d,0≤d→d≤63→K d):∃r,r=IntKind.i64.wrap ((BitVec.ofInt IntKind.i64.bits a&&&BitVec.ofInt IntKind.i64.bits 63).toNat:Int)∧K r:=by
 have hb:(BitVec.ofInt IntKind.i64.bits a&&&BitVec.ofInt IntKind.i64.bits 63).toNat≤63:=by
  rw [BitVec.toNat_and]
  exact Nat.and_le_right
 generalize (BitVec.ofInt IntKind.i64.bits a&&&BitVec.ofInt IntKind.i64.bits 63).toNat=v at hb
 refine ⟨_,rfl,?_⟩
 have:IntKind.i64.wrap (v:Int)=(v:Int):=by
  revert v
  decide
 rw [this]
 exact k _ (by omega) (by omega)
end Go.Aw
namespace Go.Proofs.YtkidoddkbhchkaaGreatDoor
open Go Go.Aw
section
variable {st:St} {R:Res→St→Prop}
attribute [local irreducible] Go.Aw.appendTo
theorem XbY {s:List UInt8} {deep:Int} (h:∀st',R (.ret (.bool true)) st'):PC 10 [.str s,.int .i64 deep] st R:=by
 refine Xa Xb [] Tryz.func10 rfl (by decide) ?_
 repeat' ((conv=>whnf);first|(with_reducible first|exact Wa|exact Wb|exact Wc|refine Wd (by kernel_rfl) ?_|refine We ?_ ?_ ?_|refine W8 (by decide +kernel) ?_ ?_ ?_|refine W0 (by decide +kernel) ?_ ?_ ?_|refine W9 ?_ ?_ ?_|refine Yb0 ?_|(refine Yb1 ?_ ?_<;>intro _)|refine Wl (fun _=>?_)|refine Wm (by assumption) (by omega) ?_|refine Wn (by omega) (by omega) (fun _ _ _=>?_)|refine Wq (by omega) (by omega) ?_|refine Wz (fun _=>?_)|refine WA (fun _=>?_)|refine WB (by assumption) (by omega) ?_|refine WC (by omega) (by omega) (fun _ _=>?_)|refine WD (by omega) (by omega) (fun _ _=>?_))|refine Jl (fun st1 hle1=>?_)|refine and63 (fun d hd0 hd1=>?_)|with_reducible refine WF ?_)
 cases e:lexF s with
 |inl q=>
  obtain ⟨i,e'⟩:=q
  have he:=Xmj e
  repeat' ((conv=>whnf);first|(with_reducible first|exact Wa|exact Wb|exact Wc|refine Wd (by kernel_rfl) ?_|refine We ?_ ?_ ?_|refine W8 (by decide +kernel) ?_ ?_ ?_|refine W0 (by decide +kernel) ?_ ?_ ?_|refine W9 ?_ ?_ ?_|refine Yb0 ?_|(refine Yb1 ?_ ?_<;>intro _)|refine Wl (fun _=>?_)|refine Wm (by assumption) (by omega) ?_|refine Wn (by omega) (by omega) (fun _ _ _=>?_)|refine Wq (by omega) (by omega) ?_|refine Wz (fun _=>?_)|refine WA (fun _=>?_)|refine WB (by assumption) (by omega) ?_|refine WC (by omega) (by omega) (fun _ _=>?_)|refine WD (by omega) (by omega) (fun _ _=>?_))|refine lex_l e (fun st2 hle2=>?_)|refine WJ (fun _=>?_)|with_reducible refine WF ?_)
  all_goals exact fin (h _) rfl
 |inr x=>
  by_cases hs:(s.length:Int)>2000
  ·skip
   repeat' ((conv=>whnf);first|(with_reducible first|exact Wa|exact Wb|exact Wc|refine Wd (by kernel_rfl) ?_|refine We ?_ ?_ ?_|refine W8 (by decide +kernel) ?_ ?_ ?_|refine W0 (by decide +kernel) ?_ ?_ ?_|refine W9 ?_ ?_ ?_|refine Yb0 ?_|(refine Yb1 ?_ ?_<;>intro _)|refine Wl (fun _=>?_)|refine Wm (by assumption) (by omega) ?_|refine Wn (by omega) (by omega) (fun _ _ _=>?_)|refine Wq (by omega) (by omega) ?_|refine Wz (fun _=>?_)|refine WA (fun _=>?_)|refine WB (by assumption) (by omega) ?_|refine WC (by omega) (by omega) (fun _ _=>?_)|refine WD (by omega) (by omega) (fun _ _=>?_))|refine XfE e (fun w1 w2 st2 hle2=>?_)|refine WJ (fun _=>?_)|with_reducible refine WF ?_)
   all_goals exact fin (h _) rfl
  ·have hlen:=(Xmk e).1
   have hkd:=lexF_kd e
   have hm:mu ⟨x.toks,0,[],0⟩≤100000000:=by unfold mu;simp only [List.length_nil];omega
   generalize hq:catchR ⟨x.toks,0,[],0⟩ d (rsOf (expD (depF d)) ⟨x.toks,0,[],0⟩)=q
   obtain ⟨n,t,e'⟩:=q
   have hc1:∀{st:St} {K:Res→St→Prop} {w:Own},K (.ret (encR3 n t e')) st→PC 36 [.agg [.slice 4 (encTs x.toks) w,.int .i64 0,.slice 1 [] .full,.int .i64 0],.int .i64 d] st K:=fun h=>Vv (args':=[encS ⟨x.toks,0,[],0⟩,.int .i64 d]) rfl (XhN hm hq h)
   by_cases g1:e'=0
   ·by_cases g2:t.pos=x.toks.length
    ·by_cases g3:t.opn=[]
     ·subst g1
      have hr:=Xc7 hq
      have hd:1≤d:=by
       apply Classical.byContradiction
       intro hn
       unfold catchR at hq
       rw [if_pos (by omega)] at hq
       cases hq
      have dq:depF d=d.toNat∧depF (d+1)=d.toNat+1:=by unfold depF;constructor<;>(split<;>omega)
      rw [dq.1] at hr
      have hr2:=XjL (d:=d.toNat) (by omega) hkd hr g2 g3
      have c2:catchR ⟨[opT]++x.toks++[clT],0,[],0⟩ (d+1) (rsOf (expD (depF (d+1))) ⟨[opT]++x.toks++[clT],0,[],0⟩)=(nodeK 4 [leafT opT,n,leafT clT],⟨[opT]++x.toks++[clT],(([opT]++x.toks++[clT]).length:Nat),[],0⟩,0):=by
       rw [dq.2,show [opT]++x.toks++[clT]=opT::(x.toks++[clT]) from rfl]
       unfold catchR rsOf
       rw [if_neg (by omega),hr2]
      have hm2:mu ⟨[opT]++x.toks++[clT],0,[],0⟩≤100000000:=by unfold mu;simp only [List.length_nil,List.length_append,List.length_singleton];omega
      have hc2:∀{st:St} {K:Res→St→Prop} {w:Own},K (.ret (encR3 (nodeK 4 [leafT opT,n,leafT clT]) ⟨[opT]++x.toks++[clT],(([opT]++x.toks++[clT]).length:Nat),[],0⟩ 0)) st→PC 36 [.agg [.slice 4 (encTs ([opT]++x.toks++[clT])) w,.int .i64 0,.slice 1 [] .full,.int .i64 0],.int .i64 (d+1)] st K:=fun h=>Vv (args':=[encS ⟨[opT]++x.toks++[clT],0,[],0⟩,.int .i64 (d+1)]) rfl (XhN hm2 c2 h)
      have hk1:(nodeK 4 [leafT opT,n,leafT clT]).kids[(1:Int).toNat]? =some n:=rfl
      have hk2:(((nodeK 4 [leafT opT,n,leafT clT]).kids.length:Nat):Int)=3:=rfl
      have hk3:(nodeK 4 [leafT opT,n,leafT clT]).kind=4:=rfl
      have hk5:(⟨[opT]++x.toks++[clT],(([opT]++x.toks++[clT]).length:Nat),[],0⟩:Sta).pos=((([opT]++x.toks++[clT]).length:Nat):Int):=rfl
      have ho:¬((t.opn.length:Nat):Int)>0:=by rw [g3];decide
      repeat' ((conv=>whnf);first|(with_reducible first|exact Wa|exact Wb|exact Wc|refine Wd (by kernel_rfl) ?_|refine We ?_ ?_ ?_|refine W8 (by decide +kernel) ?_ ?_ ?_|refine W0 (by decide +kernel) ?_ ?_ ?_|refine W9 ?_ ?_ ?_|refine Yb0 ?_|(refine Yb1 ?_ ?_<;>intro _)|refine Wl (fun _=>?_)|refine Wm (by assumption) (by omega) ?_|refine Wn (by omega) (by omega) (fun _ _ _=>?_)|refine Wq (by omega) (by omega) ?_|refine Wz (fun _=>?_)|refine WA (fun _=>?_)|refine WB (by assumption) (by omega) ?_|refine WC (by omega) (by omega) (fun _ _=>?_)|refine WD (by omega) (by omega) (fun _ _=>?_))|refine XfE e (fun w1 w2 st2 hle2=>?_)|refine WJ (fun _=>?_)|refine hc1 ?_|refine hc2 ?_|refine app_tks (l:=[opT]) (m:=x.toks) (own:=.full) (st:=st2) trivial (by show 1+x.toks.length≤_<;>omega) (fun own1 ho1=>?_)|refine XgF (l:=[opT]++x.toks) (x:=clT) ho1 (by simp only [List.length_append,List.length_singleton]<;>omega) (fun own2 ho2=>?_)|refine Wq (a:=d+1) (by omega) (by omega) ?_|refine Xnc _ (Nat.le_refl _) (Alk.rfl' n) ?_|refine Xk [(0,true),(1,true),(2,true),(3,true),(4,true),(5,true),(6,true),(7,true),(8,true),(9,true),(10,true),(11,true),(12,true),(13,true),(14,true),(15,true),(16,true),(17,true),(18,true),(19,true),(20,true),(21,true),(22,true),(23,true),(24,true),(25,true),(26,true),(27,true),(28,true),(29,false),(30,true),(31,true)] [] (by decide +kernel) ?_|with_reducible refine WF ?_)
      all_goals exact fin (h _) rfl
     ·have ho:((t.opn.length:Nat):Int)>0:=by have:=List.length_pos_iff.2 g3;omega
      repeat' ((conv=>whnf);first|(with_reducible first|exact Wa|exact Wb|exact Wc|refine Wd (by kernel_rfl) ?_|refine We ?_ ?_ ?_|refine W8 (by decide +kernel) ?_ ?_ ?_|refine W0 (by decide +kernel) ?_ ?_ ?_|refine W9 ?_ ?_ ?_|refine Yb0 ?_|(refine Yb1 ?_ ?_<;>intro _)|refine Wl (fun _=>?_)|refine Wm (by assumption) (by omega) ?_|refine Wn (by omega) (by omega) (fun _ _ _=>?_)|refine Wq (by omega) (by omega) ?_|refine Wz (fun _=>?_)|refine WA (fun _=>?_)|refine WB (by assumption) (by omega) ?_|refine WC (by omega) (by omega) (fun _ _=>?_)|refine WD (by omega) (by omega) (fun _ _=>?_))|refine XfE e (fun w1 w2 st2 hle2=>?_)|refine WJ (fun _=>?_)|refine hc1 ?_|with_reducible refine WF ?_)
      all_goals exact fin (h _) rfl
    ·skip
     repeat' ((conv=>whnf);first|(with_reducible first|exact Wa|exact Wb|exact Wc|refine Wd (by kernel_rfl) ?_|refine We ?_ ?_ ?_|refine W8 (by decide +kernel) ?_ ?_ ?_|refine W0 (by decide +kernel) ?_ ?_ ?_|refine W9 ?_ ?_ ?_|refine Yb0 ?_|(refine Yb1 ?_ ?_<;>intro _)|refine Wl (fun _=>?_)|refine Wm (by assumption) (by omega) ?_|refine Wn (by omega) (by omega) (fun _ _ _=>?_)|refine Wq (by omega) (by omega) ?_|refine Wz (fun _=>?_)|refine WA (fun _=>?_)|refine WB (by assumption) (by omega) ?_|refine WC (by omega) (by omega) (fun _ _=>?_)|refine WD (by omega) (by omega) (fun _ _=>?_))|refine XfE e (fun w1 w2 st2 hle2=>?_)|refine WJ (fun _=>?_)|refine hc1 ?_|with_reducible refine WF ?_)
     all_goals exact fin (h _) rfl
   ·skip
    repeat' ((conv=>whnf);first|(with_reducible first|exact Wa|exact Wb|exact Wc|refine Wd (by kernel_rfl) ?_|refine We ?_ ?_ ?_|refine W8 (by decide +kernel) ?_ ?_ ?_|refine W0 (by decide +kernel) ?_ ?_ ?_|refine W9 ?_ ?_ ?_|refine Yb0 ?_|(refine Yb1 ?_ ?_<;>intro _)|refine Wl (fun _=>?_)|refine Wm (by assumption) (by omega) ?_|refine Wn (by omega) (by omega) (fun _ _ _=>?_)|refine Wq (by omega) (by omega) ?_|refine Wz (fun _=>?_)|refine WA (fun _=>?_)|refine WB (by assumption) (by omega) ?_|refine WC (by omega) (by omega) (fun _ _=>?_)|refine WD (by omega) (by omega) (fun _ _=>?_))|refine XfE e (fun w1 w2 st2 hle2=>?_)|refine WJ (fun _=>?_)|refine hc1 ?_|with_reducible refine WF ?_)
    all_goals exact fin (h _) rfl
end
end Go.Proofs.YtkidoddkbhchkaaGreatDoor
