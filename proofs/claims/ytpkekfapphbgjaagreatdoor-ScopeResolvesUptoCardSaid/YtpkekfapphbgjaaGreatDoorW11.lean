/-
  Parts of a proof: lemmas that the last text uses.
-/
import Derived.Test.YtpkekfapphbgjaaGreatDoorW10
open Go.Proofs.YtpkekfapphbgjaaGreatDoor
set_option linter.unusedVariables false
set_option linter.unusedSimpArgs false
set_option maxHeartbeats 16000000
variable {l:List Go.Proofs.Z.Tk} {K:Go.Aw.V->Go.Aw.St->Prop} {k e:Int} {x s:List UInt8} {i b p:Nat} {w:Go.Aw.AH} {S:Go.Aw.St} {n:Go.Aw.Nd} {C args:List Go.Aw.V} {f:Go.FuncId} {env:List Go.Proofs.Z.Fx}
namespace Go.Proofs.Z
open Go Go.Aw
theorem jn {l:List (List UInt8)} {K:Nat->Prop} (k:l.length<4611686018427387904->K l.length):∀m,m=(strs l).length->m<DR->K m:=λm U h=>by
 rw [show (strs l).length=l.length by simp [strs]] at U;subst U;exact k h
theorem cz (s:List UInt8) (U pos:Nat):(D4 s U pos).length<=s.length - pos+1:=by
 fun_induction D4 s U pos with
 |case1 U pos h1 h2 ih=>rw [List.length_cons];omega
 |case2 U pos h1 h2 ih=>omega
 |case3 U pos h1=>rw [List.length_singleton];omega
def Sk (t:Tk):Bool:=t.kind==9&&(t.text==[108,101,116]||t.text==[119,104,101,114,101]||t.text==[100,111]||t.text==[111,102])
def bY (t:Tk) (k:Int) (x:List UInt8):Bool:=t.kind==k&&t.text==x
def vS (t:Tk):Int:=t.line+((D4 t.text 0 0).length:Nat) - 1
def KW (p:Option Tk) (t:Tk):Int:=match p with
 |none=>if (bY t 9 [109,111,100,117,108,101]||bY t 15 [123])=true then 17 else 16
 |some p=>if (Sk p&& !bY t 15 [123])=true then 16 else if (!(t.line==p.line)&& !(t.line==vS p))=true then 17 else 0
def markT (m:Int) (t:Tk):List Tk:=if m=0 then [t] else [⟨m,[],t.line,t.BT⟩,t]
def Dh:Option Tk->List Tk->List Tk
 |_,[]=>[]
 |p,t::r=>markT (KW p t) t++Dh (some t) r
def KV (l:List Tk):List Tk:=match l.getLast? with
 |none=>[⟨16,[],0,0⟩]
 |some t=>if Sk t=true then [⟨16,[],0,0⟩] else []
def CA (l:List Tk):List Tk:=Dh none l++KV l
def ahead (l:List Tk) (i:Nat):Option Tk:=if i=0 then none else l[i - 1]?
def F3 (l:List Tk) (i:Nat):Int:=match l[i]? with
 |some t=>KW (ahead l i) t
 |none=>0
section
variable {st:St} {K:As->St->Prop}
theorem Sl {t:Tk} (h:K (.ret (.bool (Sk t))) st):PC 67 [FX t] st K:=by
 refine pB Tryz.func67 ?_
 repeat' ((conv=>whnf);first|  (refine Bb ?_ ?_<;>intro _)|fail)
 all_goals conv=>whnf
 all_goals (refine AB h ?_;clear h;simp_all [Sk])
theorem wa {t:Tk} (h:K (.ret (.bool (bY t k x))) st):PC 115 [FX t,.int .i64 k,.str x] st K:=by
 refine pB Tryz.func115 ?_
 repeat' ((conv=>whnf);first|  (refine Bb ?_ ?_<;>intro _)|fail)
 all_goals conv=>whnf
 all_goals (refine AB h ?_;clear h;simp_all [bY])
theorem xw {t:Tk} (h1:t.text.length<=100000000) (h2: -1000000000<=t.line) (h3:t.line<=1000000000) (h:K (.ret (.int .i64 (vS t))) st):PC 116 [FX t] st K:=by
 refine pB Tryz.func116 ?_
 have hb:=cz t.text 0 0
 repeat' ((conv=>whnf);first|exact Bi|(refine AE ?_;intros)|(refine Bj ?_ ?_ ?_;rotate_left)|refine fm h1 (λown U=>?_)|refine jn (λ_=>?_)|refine zqq 9 [4] [] ?_|fail)
 all_goals conv=>whnf
 all_goals exact ⟨_,_,.inl rfl,AH.Bz U,h⟩
theorem u9 {own:AH} (h:∀c,st.fresh c->K (.ret (.func 114 [] [.ptr c 0])) (st.Aa c [.slice 4 (AU l) own])):PC 66 [.slice 4 (AU l) own] st K:=by
 refine AM Ac [] Tryz.func66 rfl Do rfl ?_
 refine Ad (Af Ac ?_)
 repeat' ((conv=>whnf);first|  fail)
 refine Mg 1 0 rfl rfl rfl (λc U=>?_)
 refine Af Ac ?_
 repeat' ((conv=>whnf);first|  fail)
 all_goals conv=>whnf
 all_goals exact ⟨_,_,.inl rfl,St.le_refl _,h c U⟩
end
def lJ (l:List Tk):Prop:=∀t ∈ l,t.text.length<=100000000/\ -1000000000<=t.line/\t.line<=1000000000
theorem lJ.at (h:lJ l) {t:Tk} (e:l[i]? =some t):t.text.length<=100000000/\ -1000000000<=t.line/\t.line<=1000000000:=h t (List.mem_of_getElem? e)
theorem wQ {L:Nat} {r:Loop} {Im:Mem} {v:V} {m m':Int} {st:St} {K U:St->Prop} (h:YS Tryz.prog L r Im [v,.int .i64 m'] st K) (e:m'=m) (k:∀st,K st->U st):YS Tryz.prog L r Im [v,.int .i64 m] st U:=by subst e;exact h.mono k
section
variable {st:St} {l:List Tk} {own:AH} {c L:Nat} {r:Loop} {Im:Mem}
attribute [local irreducible] Go.Aw.Aj
theorem xP (hok:lJ l) (hn:l.length<=100000000) {J:Nat->St->Prop} (hJ:∀i st,J i st->st.box c=some [.slice 4 (AU l) own]) (hY:∀i st,i<l.length->J i st->YS Tryz.prog L r Im [.int .i64 (i:Int),.int .i64 (F3 l i)] st (J (i+1))) (h0:J 0 st)
 {I:Mem} {w:World} {cargs:List Value} (hm:Im.le I) (hs:CL I st w) (U:Ap I [.ptr c 0] cargs) (hl:w.heap[L]? =some (.loop r)) (hi:Idle L st):
 Calls Tryz.prog 114 (Value.func (.yield L) #[] #[]::cargs).toArray w λe w'=>(∃v,e=.returned v)/\∃I' st',Fr I st w I' st' w'/\CL I' st' w'/\J l.length st':=by
 refine Vh Ac Tryz.func114 rfl rfl (r:=r) (Im:=Im) (args:=[.lC L,.ptr c 0]) (K:=J l.length) rfl ?_ hm hs (by
  simp only [Ap] at U |-
  exact ⟨_,_,rfl,by simp only [A3],U⟩) hl hi
 have hb:=hJ 0 st h0
 refine GJ (QL.of (Af Ac ?_))
 repeat' ((conv=>whnf);first|exact Bi|(refine AE ?_;intros)|(refine Bj ?_ ?_ ?_;rotate_left)|(refine Bb ?_ ?_<;>intro _)|refine Am hb ?_|fail)
 refine TS ?_
 refine lE ?_
 refine Sh (α:=Nat×St) (λx=>[(8,.int .i64 (x.1:Int))]) (λ_=>[]) [0,1,6,7] [] (λx=>x.2) (λx=>x.1<=l.length/\J x.1 x.2) (λx=>l.length - x.1) (0,st) ⟨Nat.zero_le _,h0⟩ Yl (St.le_refl _) ?_
 rintro ⟨i,st1⟩ ⟨hi1,hj⟩
 dsimp only at hi1 hj |-
 have hb1:=hJ i st1 hj
 refine GJ (QL.of (Af Ac ?_))
 by_cases hlt:i<l.length
 .obtain ⟨t,ht⟩:∃t,l[(i:Int).toNat]? =some t:=⟨_,List.getElem?_eq_getElem AC⟩
  have ht':l[i]? =some t:=ht
  have hlt2:(i:Int)<(l.length:Int):=AC
  repeat' ((conv=>whnf);first|exact Bi|(refine AE ?_;intros)|(refine Bj ?_ ?_ ?_;rotate_left)|(refine Bb ?_ ?_<;>intro _)|fail)
  refine GJ (QL.of (Af Ac ?_))
  repeat' ((conv=>whnf);first|exact Bi|(refine AE ?_;intros)|(refine Bj ?_ ?_ ?_;rotate_left)|(refine Bb ?_ ?_<;>intro _)|fail)
  refine GJ ?_
  refine TS ?_
  refine GJ (QL.of (Af Ac ?_))
  repeat' ((conv=>whnf);first|exact Bi|(refine AE ?_;intros)|(refine Bj ?_ ?_ ?_;rotate_left)|(refine Bb ?_ ?_<;>intro _)|fail)
  refine GJ (QL.of (Af Ac ?_))
  repeat' ((conv=>whnf);first|exact Bi|(refine AE ?_;intros)|(refine Bj ?_ ?_ ?_;rotate_left)|(refine Bb ?_ ?_<;>intro _)|fail)
  have hy:=hY i st1 hlt hj
  refine GJ (QL.of (Af Ac ?_))
  have ho:=hok.at ht'
  clear hY U hs hm hl hi
  by_cases hz:i=0
  .subst hz
   have hma:F3 l 0=if (bY t 9 [109,111,100,117,108,101]||bY t 15 [123])=true then 17 else 16:=by unfold F3;rw [ht'];rfl
   repeat' ((conv=>whnf);first|exact Bi|(refine AE ?_;intros)|(refine Bj ?_ ?_ ?_;rotate_left)|(refine Bb ?_ ?_<;>intro _)|refine wa ?_|fail)
   all_goals refine GJ (dQ Ac 3 rfl rfl rfl rfl rfl ?_)
   all_goals (repeat' ((conv=>whnf);first|exact Bi|(refine AE ?_;intros)|(refine Bj ?_ ?_ ?_;rotate_left)|(refine Bb ?_ ?_<;>intro _)|refine ⟨rfl,?_⟩|refine wQ hy (by rw [hma]<;>simp [*]) (λst2 hj2=>?_)|fail))
   all_goals refine QL.of (Af Ac ?_)
   all_goals (repeat' ((conv=>whnf);first|exact Bi|(refine AE ?_;intros)|(refine Bj ?_ ?_ ?_;rotate_left)|(refine Bb ?_ ?_<;>intro _)|fail))
   all_goals refine QL.of (Af Ac ?_)
   all_goals (repeat' ((conv=>whnf);first|exact Bi|(refine AE ?_;intros)|(refine Bj ?_ ?_ ?_;rotate_left)|(refine Bb ?_ ?_<;>intro _)|fail))
   all_goals conv=>whnf
   all_goals exact ⟨(0+1,st2),⟨hlt,hj2⟩,RL,Yl,St.le_refl _⟩
  .obtain ⟨p,hp⟩:∃p,l[((i:Int) - 1).toNat]? =some p:=⟨_,List.getElem?_eq_getElem AC⟩
   have hp':l[i - 1]? =some p:=by rw [<-hp];congr 1;omega
   have hop:=hok.at hp'
   have hma:F3 l i=KW (some p) t:=by unfold F3 ahead;rw [ht',if_neg hz,hp']
   unfold KW at hma
   have hz2:¬(i:Int)=0:=AC
   repeat' ((conv=>whnf);first|exact Bi|(refine AE ?_;intros)|(refine Bj ?_ ?_ ?_;rotate_left)|(refine Bb ?_ ?_<;>intro _)|refine Am hb1 ?_|refine wa ?_|refine Sl ?_|refine xw hop.1 hop.2.1 hop.2.2 ?_|refine zqq 21 [17] [] ?_|fail)
   all_goals refine GJ (dQ Ac 3 rfl rfl rfl rfl rfl ?_)
   all_goals (repeat' ((conv=>whnf);first|exact Bi|(refine AE ?_;intros)|(refine Bj ?_ ?_ ?_;rotate_left)|(refine Bb ?_ ?_<;>intro _)|refine ⟨rfl,?_⟩|refine wQ hy (by rw [hma]<;>simp [*]) (λst2 hj2=>?_)|fail))
   all_goals refine QL.of (Af Ac ?_)
   all_goals (repeat' ((conv=>whnf);first|exact Bi|(refine AE ?_;intros)|(refine Bj ?_ ?_ ?_;rotate_left)|(refine Bb ?_ ?_<;>intro _)|fail))
   all_goals refine QL.of (Af Ac ?_)
   all_goals (repeat' ((conv=>whnf);first|exact Bi|(refine AE ?_;intros)|(refine Bj ?_ ?_ ?_;rotate_left)|(refine Bb ?_ ?_<;>intro _)|fail))
   all_goals conv=>whnf
   all_goals exact ⟨(i+1,st2),⟨hlt,hj2⟩,RL,Yl,St.le_refl _⟩
 .have hlt2:¬(i:Int)<(l.length:Int):=AC
  obtain rfl:i=l.length:=AC
  repeat' ((conv=>whnf);first|exact Bi|(refine AE ?_;intros)|(refine Bj ?_ ?_ ?_;rotate_left)|(refine Bb ?_ ?_<;>intro _)|fail)
  refine GJ (QL.of (Af Ac ?_))
  repeat' ((conv=>whnf);first|exact Bi|(refine AE ?_;intros)|(refine Bj ?_ ?_ ?_;rotate_left)|(refine Bb ?_ ?_<;>intro _)|fail)
  all_goals conv=>whnf
  all_goals exact ⟨.inl rfl,hj⟩
end
end Go.Proofs.Z
namespace Go.Aw
theorem AH.OV {own:AH} {n:Nat}:(own.st S n).box=S.box:=by cases own<;>rfl
theorem AH.Xo {own:AH} {n:Nat}:(own.st S n).Aa b C=own.st (S.Aa b C) n:=by cases own<;>rfl
theorem ZY {own:AH} {n:Nat}:(own.st (S.Aa b C) n).box b=some C:=by rw [AH.OV];simp [St.Aa]
theorem AH.Jm {own:AH} (h:own.BM S) (hb:S.box b≠none):own.BM (S.Aa b C):=by
 cases own with
 |any=>exact h
 |full=>exact trivial
 |tok t=>
  have h:S.fresh t:=h
  refine (show (S.Aa b C).fresh t from ⟨?_,h.2⟩)
  have:t≠b:=by rintro rfl;exact hb h.1
  simp only [St.Aa]
  rw [if_neg this];exact h.1
theorem AH.RP {own:AH} {D:List V} (h:own.BM (S.Aa b C)):own.BM (S.Aa b D):=by
 cases own with
 |any=>exact h
 |full=>exact trivial
 |tok t=>
  have h:(S.Aa b C).fresh t:=h
  refine (show (S.Aa b D).fresh t from ⟨?_,h.2⟩)
  have h1:=h.1
  simp only [St.Aa] at h1 |-
  split at h1
  .cases h1
  .rename_i e;rw [if_neg e];exact h1
end Go.Aw
namespace Go.Proofs.Z
open Go Go.Aw
theorem GO (l:List Tk):(AU l).length=l.length:=by unfold AU;rw [List.length_map]
theorem MU {x:Tk} {own:AH} {st:St} (h:own.BM st) (hb:l.length+1<=1000000000)
 (k:∀U:AH,U.BM st->K (.slice 4 (AU (l++[x])) U) (U.st st ((l++[x]).length*4))):Aj 4 40 (AU l) own [x.cells] (own.st st (l.length*4)) K:=by
 have:=EI (sz:=4) (bytes:=40) (es:=AU l) (new:=[x.cells]) (K:=K) h (by rw [GO];show (l.length+1)*40<=_;omega) (by rw [GO];show l.length+1<DR;simp only [DR];omega) rfl (λU ho=>by
  have:=k U ho
  rw [GO]
  have e:AU l++[x.cells].map (·.map V.JK)=AU (l++[x]):=by unfold AU;rw [List.map_append];rfl
  rw [e]
  rw [List.length_append] at this
  exact this)
 rw [GO] at this
 exact this
abbrev zh (m:Int) (t:Tk):Tk:=⟨m,[],t.line,t.BT⟩
theorem iu {st:St} {K:As->St->Prop} {c:Bool} (hf:∀(st:St) (K:As->St->Prop),K (.ret (.bool c)) st->PC f args st K) (e:c=true) (k:K (.ret (.bool true)) st):PC f args st K:=hf st K (by rw [e];exact k)
theorem l9 {st:St} {K:As->St->Prop} {c:Bool} (hf:∀(st:St) (K:As->St->Prop),K (.ret (.bool c)) st->PC f args st K) (e:c=false) (k:K (.ret (.bool false)) st):PC f args st K:=hf st K (by rw [e];exact k)
theorem Jc {st:St} {c:Nat} {cs:List V} (h:b≠c):(st.Aa b cs).box c=st.box c:=by simp [St.Aa,Ne.symm h]
theorem rM {x:Tk} {own:AH} (h:own.BM (S.Aa b C)) (hb:l.length+1<=1000000000)
 (k:∀U:AH,U.BM (S.Aa b C)->K (.slice 4 (AU (l++[x])) U) (U.st (S.Aa b C) ((l++[x]).length*4))):Aj 4 40 (AU l) own [x.cells] ((own.st S (l.length*4)).Aa b C) K:=by
 rw [AH.Xo];exact MU h hb k
theorem Sj:∀(a:List Tk) (p:Option Tk) (t:Tk),Dh p (a++[t])=Dh p a++markT (KW (a.getLast?.or p) t) t
 |[],p,t=>by simp [Dh]
 |x::r,p,t=>by
  rw [List.cons_append,Dh,Sj r (some x) t,Dh,List.append_assoc]
  congr 3
  cases r with
  |nil=>rfl
  |cons y r=>rw [List.getLast?_cons_cons];cases h:(y::r).getLast? with
   |none=>simp at h
   |some z=>rfl
theorem Lv:∀(a:List Tk) (p:Option Tk),(Dh p a).length<=2*a.length
 |[],p=>Nat.le_refl _
 |x::r,p=>by
  have:=Lv r (some x)
  rw [Dh,List.length_append,List.length_cons]
  unfold markT
  split<;>simp only [List.length_cons,List.length_nil]<;>omega
theorem cB {t:Tk} (h:l[i]? =some t):Dh none (l.take (i+1))=Dh none (l.take i)++markT (F3 l i) t:=by
 have U:=(List.getElem?_eq_some_iff.1 h).1
 have e:l.take (i+1)=l.take i++[t]:=by rw [List.take_add_one,h];rfl
 rw [e,Sj]
 congr 3
 unfold F3 ahead
 rw [h]
 dsimp only
 congr 1
 cases i with
 |zero=>rfl
 |succ i=>
  rw [if_neg AC,List.getLast?_take,if_neg AC]
  have:l[i+1 - 1]? =some l[i]:=by rw [Nat.add_sub_cancel];exact List.getElem?_eq_getElem AC
  rw [this];rfl
section
variable {st:St} {l:List Tk} {own:AH} {K:As->St->Prop}
attribute [local irreducible] Go.Aw.Aj
theorem uf (hok:lJ l) (hn:l.length<=100000000) (h:K (.ret (.slice 4 (AU (CA l)) .any)) st):PC 41 [.slice 4 (AU l) own] st K:=by
 refine Bo.ends (WZ Ac [] Tryz.func41 rfl Do rfl ?_)
 refine Af Ac ?_
 repeat' ((conv=>whnf);first|exact Bi|(refine AE ?_;intros)|(refine Bj ?_ ?_ ?_;rotate_left)|fail)
 refine Af Ac ?_
 repeat' ((conv=>whnf);first|exact Bi|(refine AE ?_;intros)|(refine Bj ?_ ?_ ?_;rotate_left)|refine ⟨⟨AC,AC,AC,(by unfold DR<;>omega)⟩,.inl ⟨rfl,λb0 f0=>?_⟩⟩|fail)
 refine Af Ac ?_
 repeat' ((conv=>whnf);first|exact Bi|(refine AE ?_;intros)|(refine Bj ?_ ?_ ?_;rotate_left)|refine u9 (λc fc=>?_)|fail)
 conv=>whnf
 refine rI.pub 1 0 rfl rfl rfl (λb1 f1=>?_)
 refine rI.pub 3 1 rfl rfl rfl (λb3 f3=>?_)
 refine rI.here ?_
 obtain ⟨S,hS⟩:∃S,S=(st.Aa c [.slice 4 (AU l) own]).Aa b1 [.slice 4 (AU l) own]:=⟨_,rfl⟩
 have n0c:c≠b0:=by
  rintro rfl
  have:=fc.2
  simp [St.B0] at this
 have n01:b1≠b0:=by
  rintro rfl
  have:=f1.2
  simp [St.B0,St.Aa] at this
 have n03:b3≠b0:=by
  rintro rfl
  have:=f3.2
  simp [St.B0,St.Aa] at this
 have nc1:b1≠c:=by
  rintro rfl
  have:=f1.1
  rw [St.Ai] at this;cases this
 have n31:b3≠b1:=by
  rintro rfl
  have:=f3.1
  rw [St.Ai] at this;cases this
 have n3c:b3≠c:=by
  rintro rfl
  have:=f3.1
  rw [Jc (Ne.symm n31),St.Ai] at this;cases this
 have fc0:st.box c=none:=fc.1
 have f10:st.box b1=none:=by have:=f1.1;rw [Jc (Ne.symm nc1)] at this;exact this
 have f30:st.box b3=none:=by have:=f3.1;rw [Jc (Ne.symm n31),Jc (Ne.symm n3c)] at this;exact this
 have hSc:S.box c=some [.slice 4 (AU l) own]:=by rw [hS,Jc nc1,St.Ai]
 have hS1:S.box b1=some [.slice 4 (AU l) own]:=by rw [hS,St.Ai]
 have hle:∀X,st.le (S.Aa b3 X):=λX=>by
  rw [hS];exact St.Ag (St.Ag (St.Ag (St.le_refl _) fc0 _) f10 _) f30 _
 have hgo:AH.BM (S.Aa b3 [.slice 4 [] (.tok b0)]) (.tok b0):=by
  refine (show (S.Aa b3 _).fresh b0 from ⟨?_,by rw [hS];exact f0.2⟩)
  rw [Jc n03,hS,Jc n01,Jc n0c];exact f0.1
 obtain ⟨J,hJ⟩:∃J:Nat->St->Prop,J=λi st'=>∃o:AH,o.BM (S.Aa b3 [.slice 4 (AU (Dh none (l.take i))) o])/\st'=o.st (S.Aa b3 [.slice 4 (AU (Dh none (l.take i))) o]) ((Dh none (l.take i)).length*4):=⟨_,rfl⟩
 refine ⟨⟨rfl,rfl⟩,114,[.ptr c 0],J l.length,⟨rfl,⟨_,Tryz.func114,Do,Do⟩⟩,?_,?_⟩
 .intro D B Im β a wm L df fi hF I w cargs hm hs hargs hl hi
  refine xP (own:=own) hok hn (J:=J) (λi st1 hj=>?_) (λi st1 hlt hj=>?_) ?_ hm hs hargs hl hi
  .rw [hJ] at hj
   obtain ⟨o,_,rfl⟩:=hj
   rw [AH.OV,Jc n3c,hSc]
  .refine rp Ac hF rfl rfl rfl Do rfl rfl ?_
   rw [hJ] at hj
   obtain ⟨o,hgo,rfl⟩:=hj
   obtain ⟨t,ht⟩:∃t,l[(i:Int).toNat]? =some t:=⟨_,List.getElem?_eq_getElem AC⟩
   have htk:=cB (l:=l) (i:=i) (t:=t) ht
   have hlen2:=Lv (l.take i) none
   have hti:(l.take i).length<=l.length:=Nm
   generalize hout:Dh none (l.take i)=out at *
   have hb3:(o.st (S.Aa b3 [.slice 4 (AU out) o]) (out.length*4)).box b3=some [.slice 4 (AU out) o]:=by rw [AH.OV,St.Ai]
   have hb1:(o.st (S.Aa b3 [.slice 4 (AU out) o]) (out.length*4)).box b1=some [.slice 4 (AU l) own]:=by rw [AH.OV,Jc n31,hS1]
   have hlo:out.length+1<=1000000000:=AC
   unfold gb
   by_cases hz:F3 l i=0
   .have hfin:∀o2:AH,o2.BM (S.Aa b3 [.slice 4 (AU out) o])->J (i+1) ((o2.st (S.Aa b3 [.slice 4 (AU out) o]) ((out++[t]).length*4)).Aa b3 [.slice 4 (AU (out++[t])) o2]):=λo2 h2=>by
     rw [hJ]
     refine ⟨o2,?_,?_⟩
     .rw [htk];unfold markT;rw [if_pos hz];exact AH.RP h2
     .rw [htk];unfold markT;rw [if_pos hz,AH.Xo,St.set_set]
    repeat' ((conv=>whnf);first|exact Bi|(refine AE ?_;intros)|(refine Bj ?_ ?_ ?_;rotate_left)|refine ⟨⟨rfl,rfl⟩,?_⟩|refine Am hb3 ?_|refine Am hb1 ?_|refine MU (x:=t) hgo hlo (λo2 h2=>?_)|refine Am ZY ?_|exact hfin o2 h2|refine zqq 16 [14,15] [1] ?_|refine zqq 8 [6,7] [1] ?_|fail)
   .have hlo2:(out++[zh (F3 l i) t]).length+1<=1000000000:=by rw [List.length_append,List.length_singleton];omega
    have hfin:∀o2 o3:AH,o2.BM (S.Aa b3 [.slice 4 (AU out) o])->o3.BM ((S.Aa b3 [.slice 4 (AU out) o]).Aa b3 [.slice 4 (AU (out++[zh (F3 l i) t])) o2])->
     J (i+1) ((o3.st ((S.Aa b3 [.slice 4 (AU out) o]).Aa b3 [.slice 4 (AU (out++[zh (F3 l i) t])) o2]) ((out++[zh (F3 l i) t]++[t]).length*4)).Aa b3 [.slice 4 (AU (out++[zh (F3 l i) t]++[t])) o3]):=λo2 o3 h2 h3=>by
     rw [hJ]
     refine ⟨o3,?_,?_⟩
     .rw [htk];unfold markT;rw [if_neg hz,St.set_set] at *;exact AH.RP h3
     .rw [htk];unfold markT;rw [if_neg hz,AH.Xo,St.set_set,St.set_set,List.append_assoc];rfl
    have hb1':∀(o2:AH) n C,((o2.st (S.Aa b3 [.slice 4 (AU out) o]) n).Aa b3 C).box b1=some [.slice 4 (AU l) own]:=λo2 n C=>by rw [Jc n31,AH.OV,Jc n31,hS1]
    repeat' ((conv=>whnf);first|exact Bi|(refine AE ?_;intros)|(refine Bj ?_ ?_ ?_;rotate_left)|refine ⟨⟨rfl,rfl⟩,?_⟩|refine Am hb3 ?_|refine Am hb1 ?_|refine Am (hb1' _ _ _) ?_|refine Am (St.Ai ..) ?_|refine MU (x:=zh (F3 l i) t) hgo hlo (λo2 h2=>?_)|refine rM (x:=t) (AH.Jm h2 (by rw [St.Ai]<;>simp)) hlo2 (λo3 h3=>?_)|refine Am ZY ?_|exact hfin o2 o3 h2 h3|refine zqq 16 [14,15] [1] ?_|refine zqq 8 [6,7] [1] ?_|fail)
  .rw [hJ]
   exact ⟨.tok b0,hgo,by rw [hS];rfl⟩
 .intro st' hk
  rw [hJ,List.take_length] at hk
  obtain ⟨o,hgo,rfl⟩:=hk
  have hb3:(o.st (S.Aa b3 [.slice 4 (AU (Dh none l)) o]) ((Dh none l).length*4)).box b3=some [.slice 4 (AU (Dh none l)) o]:=ZY
  have hb1:(o.st (S.Aa b3 [.slice 4 (AU (Dh none l)) o]) ((Dh none l).length*4)).box b1=some [.slice 4 (AU l) own]:=by rw [AH.OV,Jc n31,hS1]
  have hlen2:=Lv l none
  have hlo:(Dh none l).length+1<=1000000000:=AC
  refine Af Ac ?_
  have hle1:st.le (o.st (S.Aa b3 [.slice 4 (AU (Dh none l)) o]) ((Dh none l).length*4)):=St.le_trans (hle _) (AH.Bz hgo)
  have hle2:∀(o2:AH) (n:Nat) (C D:List V),o2.BM (S.Aa b3 C)->st.le ((o2.st (S.Aa b3 C) n).Aa b3 D):=λo2 n C D h2=>by
   rw [AH.Xo,St.set_set];exact St.le_trans (hle _) (AH.Bz (AH.RP h2))
  have U:∀x:List Tk,KV l=x->K (.ret (.slice 4 (AU (Dh none l++x)) .any)) st:=λx e=>by
   have:=h;unfold CA at this;rw [e] at this;exact this
  cases hlast:l.getLast? with
  |none=>
   obtain rfl:l=[]:=List.getLast?_eq_none_iff.1 hlast
   have U:=U [⟨16,[],0,0⟩] rfl
   have hz0:(([]:List Tk).length:Int)=0:=rfl
   repeat' ((conv=>whnf);first|exact Bi|(refine AE ?_;intros)|(refine Bj ?_ ?_ ?_;rotate_left)|refine Am hb1 ?_|refine Am hb3 ?_|refine MU (x:=⟨16,[],0,0⟩) hgo hlo (λo2 h2=>?_)|refine Am ZY ?_|refine Am (St.Ai ..) ?_|fail)
   all_goals conv=>whnf
   all_goals refine ⟨.inr rfl,?_⟩
   all_goals conv=>whnf
   all_goals exact ⟨_,_,.inr rfl,hle2 o2 _ _ _ h2,U⟩
  |some t=>
   have hpos:0<l.length:=List.length_pos_iff.2 (λe=>by rw [e] at hlast;cases hlast)
   have ht:l[((l.length:Nat) - 1:Int).toNat]? =some t:=by
    rw [List.getLast?_eq_getElem?] at hlast
    rw [<-hlast];congr 1;omega
   have hne:¬(l.length:Int)=0:=AC
   cases ho:Sk t with
   |true=>
    have U:=U [⟨16,[],0,0⟩] (by unfold KV;rw [hlast];simp [ho])
    repeat' ((conv=>whnf);first|exact Bi|(refine AE ?_;intros)|(refine Bj ?_ ?_ ?_;rotate_left)|refine Am hb1 ?_|refine Am hb3 ?_|refine iu (λst K h=>Sl h) ho ?_|refine MU (x:=⟨16,[],0,0⟩) hgo hlo (λo2 h2=>?_)|refine Am ZY ?_|refine Am (St.Ai ..) ?_|fail)
    all_goals conv=>whnf
    all_goals refine ⟨.inr rfl,?_⟩
    all_goals conv=>whnf
    all_goals exact ⟨_,_,.inr rfl,hle2 o2 _ _ _ h2,U⟩
   |false=>
    have U:=U [] (by unfold KV;rw [hlast];simp [ho])
    rw [List.append_nil] at U
    repeat' ((conv=>whnf);first|exact Bi|(refine AE ?_;intros)|(refine Bj ?_ ?_ ?_;rotate_left)|refine Am hb1 ?_|refine Am hb3 ?_|refine l9 (λst K h=>Sl h) ho ?_|fail)
    all_goals conv=>whnf
    all_goals refine ⟨.inr rfl,?_⟩
    all_goals conv=>whnf
    all_goals exact ⟨_,_,.inr rfl,hle1,U⟩
end
end Go.Proofs.Z
namespace Go.Aw
open Go
theorem qM (l:List UInt8):∀q,EE l=.inl q->q.1<=l.length:=by
 fun_induction EE l with
 |case1 l h=>intro q U;cases U
 |case2 l h e he=>intro q U;cases U;exact Nat.zero_le _
 |case3 l h p hp q' hq ih=>
  intro q U
  cases U
  have:=J5 hp
  have:=ih _ hq
  rw [List.length_drop] at this
  dsimp only
  omega
 |case4 l h p hp n hn ih=>intro q U;cases U
theorem ml {l:List UInt8} {q:Nat×Int} (h:L7 l=.inl q):q.1<=l.length:=by
 unfold L7 at h
 split at h
 .cases h;exact Nat.zero_le _
 .split at h
  .cases h;exact Nat.zero_le _
  .rename_i p U
   have:=J5 U
   split at h
   .cases h
   .cases h;exact this.2
theorem yy (h:(Cm s p).2.2≠0):0<=(Cm s p).2.1/\(Cm s p).2.1<=s.length:=by
 have key:∀c:Int,0<=c->AV (s.drop p)=c->p<s.length:=λc hc e=>B4 (k:=p) AC
 unfold Cm at h |-
 split
 .rename_i h1
  have hp:=key 34 Do h1
  rw [if_pos h1] at h
  split
  .rename_i q U
   have:=qM _ _ U
   rw [List.length_drop] at this
   dsimp only;omega
  .rename_i n hn;rw [hn] at h;exact absurd rfl h
 .rename_i h1
  rw [if_neg h1] at h
  split
  .rename_i h2
   have hp:=key 39 Do h2
   rw [if_pos h2] at h
   split
   .rename_i q U
    have:=ml U
    rw [List.length_drop] at this
    dsimp only;omega
   .rename_i n hn;rw [hn] at h;exact absurd rfl h
  .rename_i h2;rw [if_neg h2] at h;exact absurd rfl h
theorem tQ (U:p<=s.length) (h:(Ck s p).2.2≠0):0<=(Ck s p).2.1/\(Ck s p).2.1<=s.length:=by
 unfold Ck at h |-
 split
 .rename_i h1;rw [if_pos h1] at h;exact absurd rfl h
 .rename_i h1
  rw [if_neg h1] at h
  split
  .rename_i h2
   rw [if_pos h2] at h
   split
   .dsimp only;omega
   .rename_i h3;rw [if_neg h3] at h;exact absurd rfl h
  .rename_i h2;rw [if_neg h2] at h;exact yy h
end Go.Aw
namespace Go.Proofs.Z
open Go Go.Aw
theorem tM {x:Lx} {i:Int} (h:Ge s p x=.inl (i,e)):0<=i/\i<=s.length:=by
 fun_induction Ge s p x with
 |case1 p x U h1=>cases h;omega
 |case2 p x U h1 h2 h3 ih=>exact ih h
 |case3 p x U h1 h2 h3=>cases h
 |case4 p x U h1 h2 h3=>cases h;exact tQ (Nat.le_of_lt U) h3
 |case5 p x U h1 h2 h3 h4 ih=>exact ih h
 |case6 p x U h1 h2 h3 h4=>cases h
 |case7 p x U=>cases h
theorem tJ {i:Int} (h:F2 s=.inl (i,e)):0<=i/\i<=s.length:=by
 unfold F2 at h
 split at h
 .cases h;omega
 .split at h
  .injection h with h
   have:=N2 Fc s
   unfold M8 at h
   split at h<;>(cases h;omega)
  .split at h
   .rename_i h3
    cases h
    refine ⟨h3,?_⟩
    unfold Yp
    split<;>omega
   .exact tM h
theorem tP {x y:Lx} (h:∀t ∈ x.AL,t.text.length<=s.length/\1<=t.line/\t.line<=1+s.length) (e:Ge s p x=.inr y):∀t ∈ y.AL,t.text.length<=s.length/\1<=t.line/\t.line<=1+s.length:=by
 fun_induction Ge s p x with
 |case1 p x U h1=>cases e
 |case2 p x U h1 h2 h3 ih=>exact ih h e
 |case3 p x U h1 h2 h3=>injection e with e;subst e;exact h
 |case4 p x U h1 h2 h3=>cases e
 |case5 p x U h1 h2 h3 h4 ih=>
  refine ih (λt ht=>?_) e
  rcases List.mem_append.1 ht with ht|ht
  .exact h t ht
  .rw [List.mem_singleton.1 ht]
   have:=Tm s.length s p (1,1) (Nat.le_refl _) Do
   refine ⟨?_,this.1,this.2.1⟩
   show (Br s p _).length<=_
   unfold Br
   rw [List.length_drop,List.length_take]
   omega
 |case6 p x U h1 h2 h3 h4=>injection e with e;subst e;exact h
 |case7 p x U=>injection e with e;subst e;exact h
theorem nY {y:Lx} (e:F2 s=.inr y):∀t ∈ y.AL,t.text.length<=s.length/\1<=t.line/\t.line<=1+s.length:=by
 unfold F2 at e
 split at e
 .cases e
 .split at e
  .cases e
  .split at e
   .cases e
   .exact tP (λt U=>by cases U) e
theorem nZ {y:Lx} (hl:s.length<=90000000) (e:F2 s=.inr y):lJ y.AL:=λt U=>by have:=nY e t U;omega
theorem Ur (l:List Tk):(CA l).length<=2*l.length+1:=by
 have h:=Lv l none
 have h2:(KV l).length<=1:=by
  unfold KV
  split
  .exact Nat.le_refl _
  .split<;>simp
 unfold CA
 rw [List.length_append]
 omega
def PI (s:An):Int×Int:=if s.pos<s.AL.length then (match s.AL[s.pos.toNat]? with|some t=>(t.line,t.BT)|none=>(0,0)) else (0,0)
end Go.Proofs.Z
namespace Go.Aw
open Go
section
variable {P:Program} {T:List (Nat×Ty)}
theorem Vn (hP:TU P T) {g:FuncId} {fn:Func} (gl:List Nat) {st:St} {R:St->Prop} (hf:P.funcs[g]? =some fn) {c:Code} (hb:fn.body=some c) (hle:Nat.ble args.length fn.ntmps=true)
 (h:AW P c (zD T fn R) {tmps:=Ja 0 args,boxes:=[],BU:=0,sz:=fn.ntmps,gl} st):HM P g args none st R:=by
 intro I w cargs u hs hargs hx
 have hx:u=.returning:=hx
 subst hx
 refine callsD_of_wpS hf hb (λc0 cs hu=>?_)
 refine wpS_of_wp (wp_mono (h [] I st w I _ _ w (Gz (fn:=fn) gl hs hargs hle)) ?_)
 rintro e a5 w5 ⟨I5,β5,U,st5,ae,r5,x5,k5⟩
 have last:Xc T fn (λ_ st=>R st) U st5->a5.defers=[]/\∃u',c0::cs={c0 with mode:=u'}::cs/\∃v,(results fn a5.tmps).run P w5=.ok v w5/\((∃v',Ending.returned v=.returned v')/\settle u'=.returning/\∃I' st',Fr I st w I' st' w5/\CL I' st' w5/\R st'):=λq=>by
  obtain ⟨v,c,g1,g2,g3⟩:=CK (P:=P) (R:=λ_ st=>R st) hP.t r5 (show E9 T U st5 fn.results.toList _ from q)
  exact ⟨r5.f.defers,.returning,by rw [<-hu],c,g1,⟨_,rfl⟩,rfl,I5,st5,r5.fr,r5.s,g3⟩
 cases ae with
 |normal=>
  cases e with
  |normal=>exact last k5
  |_=>exact x5.elim
 |ret=>
  cases e with
  |ret=>exact last k5
  |_=>exact x5.elim
 |B7 v=>exact k5.elim
 |exit _=>exact k5.elim
 |goto _=>exact k5.elim
end
end Go.Aw
namespace Go.Proofs.Z
open Go Go.Aw
structure JL (P:An->Prop):Prop where
 nx:∀{s:An},P s->(Ae s).2.2=0->P (Ae s).2.1
 cl:∀{s:An},P s->(DX s).2=true->P (DX s).1
section
variable {α β σ:Type} {P:An->Prop} {A B C D E F:Rd Nd}
def Cg (P:An->Prop) (A:Rd α):Prop:=∀s,P s->Rd.wp A s (λ_=>P) (λ_=>P)
theorem Cg.ret {v:α}:Cg P (.ret v):=λs h=>h
theorem Cg.fail {e:Er}:Cg P (.fail e:Rd α):=λs h=>h
theorem Cg.Ha {t:An} {e:Er} (h:P t):Cg P (.Ha t e:Rd α):=λs _=>h
theorem Cg.bad:Cg P (Q2:Rd α):=λs h=>h
theorem Cg.take (N:JL P):Cg P A4:=λs h=>by
 unfold Rd.wp
 by_cases e:(Ae s).2.2=0
 .rw [Fl e];exact N.nx h e
 .rw [N8 e];exact h
theorem Cg.close (N:JL P):Cg P On:=λs h=>by
 unfold Rd.wp On
 dsimp only
 by_cases e:(DX s).2=true
 .rw [if_pos e];exact N.cl h e
 .rw [if_neg e];exact h
theorem Cg.seq {m:Rd β} {k:β->Rd α} (h:Cg P m) (g:∀v,Cg P (k v)):Cg P (.seq m k):=λs U=>by
 rw [Rd.wp_seq]
 exact Rd.wp_mono (h s U) (λv s' _ h=>g v s' h) (λ_ _ _ h=>h)
theorem Cg.look {f:An->Rd α} (h:∀s,P s->Cg P (f s)):Cg P (.look f):=λs U=>h s U s U
theorem Cg.ite {c:Prop} [Decidable c] {a b:Rd α} (h:Cg P a) (g:Cg P b):Cg P (if c then a else b):=by split<;>assumption
theorem Cg.inl {A:Rd α} (h:Cg P A) {s s':An} {e:Er} (hs:P s) (U:A.run s=.inl (e,s')):P s':=by
 have:=h s hs
 unfold Rd.wp at this
 rw [U] at this;exact this
theorem Cg.inr {A:Rd α} (h:Cg P A) {s s':An} {v:α} (hs:P s) (U:A.run s=.inr (v,s')):P s':=by
 have:=h s hs
 unfold Rd.wp at this
 rw [U] at this;exact this
theorem eW {body:σ->Rd (Sum σ β)} (h:∀x,Cg P (body x)) (x:σ) (s:An):P s->(∀e s',Rd.iter body x s=.inl (e,s')->P s')/\∀v s',Rd.iter body x s=.inr (v,s')->P s':=by
 fun_induction Rd.iter body x s with
 |case1 x s e h1=>intro U;exact ⟨λe' s' e=>by cases e;exact (h x).inl U h1,λv s' e=>by cases e⟩
 |case2 x s y s1 h1=>intro U;exact ⟨λe' s' e=>(by cases e),λv s' e=>by cases e;exact (h x).inr U h1⟩
 |case3 x s x' s1 h1 hlt ih=>intro U;exact ih ((h x).inr U h1)
 |case4 x s x' s1 h1 hlt=>intro U;exact ⟨λe' s' e=>by cases e;exact U,λv s' e=>by cases e⟩
theorem Cg.loop {body:σ->Rd (Sum σ β)} (h:∀x,Cg P (body x)) {x:σ}:Cg P (.loop body x):=λs U=>
 Rd.aE (λv s' e=>(eW h x s U).2 v s' e) (λe s' he=>(eW h x s U).1 e s' he)
structure MR (P:An->Prop) (L:FC):Prop where
 atom:Cg P L.atom
 exp:Cg P L.exp
 ops:Cg P L.ops
 decls:Cg P L.decls
 stmts:Cg P L.stmts
 alts:Cg P L.alts
 HP:∀n,Cg P (L.HP n)
 list:∀n,Cg P (L.list n)
end
section
attribute [local irreducible] Cg Rd.ret Rd.seq Rd.look Rd.loop Rd.fail Rd.Ha
theorem xS {α β:Type} {P:An->Prop} {it:β->Rd α} (h:∀l,Cg P (it l)) {l:β}:Cg P (it l):=h l
theorem kp {p:Prop} (h:p:=by repeat' (first|assumption|(with_reducible first|exact Cg.ret|exact Cg.fail|exact Cg.bad|exact Cg.take ‹_›|exact Cg.close ‹_›|exact Cg.Ha ‹_›|exact MR.HP ‹_› _|exact MR.list ‹_› _|exact xS ‹_›)|refine Cg.look ?_|refine Cg.ite ?_ ?_|refine Cg.seq ?_ ?_|refine Cg.loop ?_|intro _)):p:=h
section
variable {α:Type} {P:An->Prop} {A B C D E F:Rd Nd} {L:FC}
theorem My (N:JL P) (U:MR P L) (hA:Cg P A):Cg P (Jv L A):=by
 obtain ⟨h1,h2,h3,h4,h5,h6,h7,h8⟩:=id U;exact kp
theorem KQ (N:JL P) (U:MR P L):Cg P (MV L):=by
 obtain ⟨h1,h2,h3,h4,h5,h6,h7,h8⟩:=id U;exact kp
theorem cd (N:JL P) (U:Cg P A):Cg P (cU A):=kp
theorem xT (N:JL P) (U:Cg P A) (hB:Cg P B):Cg P (iT A B):=kp
theorem VS (N:JL P) (U:Cg P A) (hB:Cg P B) (hC:Cg P C):Cg P (Fw A B C n):=kp
theorem tz (N:JL P) (U:Cg P A) (hB:Cg P B):Cg P (Sg A B n):=kp
theorem tB (N:JL P) (U:MR P L) (hA:Cg P A):Cg P (UL L A):=by
 obtain ⟨h1,h2,h3,h4,h5,h6,h7,h8⟩:=id U;exact kp
theorem nQ (N:JL P) (U:MR P L) (hA:Cg P A) (hB:Cg P B) {m:List UInt8}:Cg P (dg L A B m):=by
 obtain ⟨h1,h2,h3,h4,h5,h6,h7,h8⟩:=id U;exact kp
theorem xR (N:JL P) (hL:MR P L) (hA:Cg P A) (U:Cg P B) (hC:Cg P C):Cg P (gY L A B C):=by
 have:=nQ N hL U hC (m:=[45,62])
 exact kp
theorem tw (N:JL P) (hL:MR P L) (hA:Cg P A) (hB:Cg P B) (U:Cg P C) (hD:Cg P D) (hE:Cg P E):Cg P (Ua L A B C D E):=by
 have:=nQ N hL U hD (m:=[61])
 exact kp
theorem jc (N:JL P) {p:Tk->Bool} {it:List Nd->Rd Nd} (U:∀l,Cg P (it l)):Cg P (JN p it):=kp
theorem NA (N:JL P) {p:Tk->Bool} (U:Cg P A):Cg P (FT p A):=kp
theorem tC (N:JL P) (U:Cg P A) (hB:Cg P B) (hC:Cg P C) (hD:Cg P D) (hE:Cg P E) (hF:Cg P F):Cg P (XA A B C D E F):=kp
end
section
attribute [local semireducible] Cg
variable {α:Type} {P:An->Prop} {A B C D E F:Rd Nd} {L:FC}
def KpO {β:Type} (P:An->Prop) (q:Sum (Int×An) (β×An)):Prop:=match q with| .inl p=>P p.2| .inr p=>P p.2
def Tw (P:An->Prop) (A:An->Rs):Prop:=∀s,P s->KpO P (A s)
def KpL (P:An->Prop) (q:Ls):Prop:=KpO P q
variable {X Y:An->Rs}
theorem Pq (N:JL P) {s:An} (hs:P s) (h:BB s k x=true) (U:k≠0):P (Ae s).2.1:=N.nx hs (HX h U)
theorem NF (N:JL P):Tw P Dp:=λs U=>by
 unfold Dp
 split
 .exact N.nx U ‹_›
 .exact U
theorem Cg.of {hle:∀s v s',X s=.inr (v,s')->mu s'<=mu s} (h:Tw P X):Cg P (H0 X hle):=λs U=>by
 have h1:=h s U
 unfold Rd.wp H0
 dsimp only
 cases e:X s with
 |inl p=>
  rw [e] at h1
  have h1:P p.2:=h1
  dsimp only
  by_cases h:p.1=0
  .rw [dif_pos h];exact h1
  .rw [dif_neg h];exact h1
 |inr p=>rw [e] at h1;exact h1
theorem tA (hX:Tw P X) (l:List Nd) (s:An) (U:P s):KpL P (Hf X l s):=by
 fun_induction Hf X l s with
 |case1 l s h1 e1 h2=>have:=hX s U;rw [h2] at this;exact this
 |case2 l s h1 p h2 h3 ih=>have:=hX s U;rw [h2] at this;exact ih this
 |case3 l s h1 p h2 h3=>exact U
 |case4 l s h1=>exact U
theorem ND (hX:Tw P X):Tw P (Hg X):=λs hs=>by
 have h1:=hX s hs
 unfold Hg
 cases e:X s with
 |inl p=>rw [e] at h1;exact h1
 |inr p=>
  rw [e] at h1
  have h2:=tA hX [p.1] p.2 h1
  dsimp only
  cases U:Hf X [p.1] p.2 with
  |inl q=>rw [U] at h2;exact h2
  |inr q=>rw [U] at h2;dsimp only;split<;>exact h2
theorem tv (N:JL P) (hX:Tw P X) (l:List Nd) (s:An) (U:P s):KpL P (HO X l s):=by
 fun_induction HO X l s with
 |case1 l s h1 e1 h2=>have:=ND hX _ (Pq N U h1 Do);rw [h2] at this;exact this
 |case2 l s h1 p h2 h3 ih=>have:=ND hX _ (Pq N U h1 Do);rw [h2] at this;exact ih this
 |case3 l s h1 p h2 h3=>exact U
 |case4 l s h1=>exact U
theorem R3 (N:JL P) (U:Tw P X):Tw P (Em X n):=λs hs=>by
 have h1:=tv N U [n] s hs
 unfold Em
 cases e:HO X [n] s with
 |inl q=>rw [e] at h1;exact h1
 |inr q=>rw [e] at h1;dsimp only;split<;>exact h1
theorem OC (N:JL P) (U:Tw P X):Tw P (EF X):=λs hs=>by
 have h1:=ND U s hs
 unfold EF
 cases e:Hg X s with
 |inl p=>rw [e] at h1;exact h1
 |inr p=>rw [e] at h1;exact R3 N U _ h1
theorem nR (N:JL P) (U:Tw P X):Tw P (Hj X):=λs hs=>by
 have h1:=ND U s hs
 unfold Hj
 cases e:Hg X s with
 |inl p=>rw [e] at h1;exact h1
 |inr p=>
  rw [e] at h1
  dsimp only
  by_cases h2:BB p.2 10 [61,62]=true
  .have h3:=OC N U _ (Pq N h1 h2 Do)
   rw [if_pos h2]
   cases e2:EF X (Ae p.2).2.1 with
   |inl q=>rw [e2] at h3;exact h3
   |inr q=>rw [e2] at h3;exact h3
  .rw [if_neg h2];exact R3 N U _ h1
theorem jh (N:JL P) (hY:Tw P Y) (l:List Nd) (s:An) (U:P s):KpL P (C6 Y l s):=by
 fun_induction C6 Y l s with
 |case1 l s h1 e1 h2=>have:=hY _ (Pq N U h1 Do);rw [h2] at this;exact this
 |case2 l s h1 p h2 h3 ih=>have:=hY _ (Pq N U h1 Do);rw [h2] at this;exact ih this
 |case3 l s h1 p h2 h3=>exact U
 |case4 l s h1=>exact U
theorem jd (N:JL P) (l:List Nd) (s:An) (U:P s):P (DY l s).2:=by
 fun_induction DY l s with
 |case1 l s h1 h2 ih=>exact ih (Pq N U h1 Do)
 |case2 l s h1 h2=>exact U
 |case3 l s h1=>exact U
theorem NC (N:JL P) {l:List Nd}:Tw P (λs=>Jh k l s x):=λs U=>by
 have h1:=NF N s U
 dsimp only
 unfold Jh Mf ie
 by_cases h:BB s 15 x=true
 .rw [if_pos h]
  cases e:Dp s with
  |inl q=>rw [e] at h1;exact h1
  |inr q=>rw [e] at h1;exact h1
 .rw [if_neg h];exact U
theorem ji (N:JL P) (hY:Tw P Y):Tw P (He Y):=λs hs=>by
 have h1:=NF N s hs
 unfold He
 cases e:Dp s with
 |inl p=>rw [e] at h1;exact h1
 |inr p=>
  rw [e] at h1
  dsimp only
  split
  .exact NC N _ (Pq N h1 ‹_› Do)
  .split
   .exact NC N _ h1
   .split
    .exact NC N _ (jd N _ _ h1)
    .have h2:=hY p.2 h1
     cases U:Y p.2 with
     |inl q=>rw [U] at h2;exact h2
     |inr q=>
      rw [U] at h2
      dsimp only
      have h3:=jh N hY [p.1,q.1] q.2 h2
      cases e3:C6 Y [p.1,q.1] q.2 with
      |inl r=>rw [e3] at h3;exact h3
      |inr r=>rw [e3] at h3;exact NC N _ h3
theorem cg (N:JL P) (hY:Tw P Y):Tw P (Fu Y):=λs hs=>by
 have h1:=NF N s hs
 unfold Fu
 cases e:Dp s with
 |inl p=>rw [e] at h1;exact h1
 |inr p=>
  rw [e] at h1
  dsimp only
  split
  .exact Pq N h1 ‹_› Do
  .have h2:=hY p.2 h1
   cases U:Y p.2 with
   |inl q=>rw [U] at h2;exact h2
   |inr q=>rw [U] at h2;exact NC N _ h2
theorem R4 (N:JL P) (hY:Tw P Y):Tw P (DS Y):=λs U=>by
 have h1:=NF N s U
 have h2:=ji N hY s U
 have h3:=cg N hY s U
 unfold DS ie
 split
 .split
  .split<;>assumption
  .exact h1
 .exact U
theorem R5 (N:JL P):∀d,Tw P (DV d)
 |0=>λs U=>U
 |d+1=>OC N (R4 N (R5 N d))
theorem R1 (N:JL P) (d:Nat):Cg P (KO d):=.of (nR N (R4 N (R5 N _)))
theorem Lr (N:JL P) (hF:Cg P A) (U:MR P L):Cg P (Rt A L):=xT N (My N U (KQ N U)) hF
theorem NB (N:JL P) (hF:Cg P A) (U:MR P L):Cg P (N7 A L):=tB N U (Lr N hF U)
theorem Yt (N:JL P) (hF:Cg P A) (U:MR P L):Cg P (T9 A L):=tw N U (KQ N U) (cd N (My N U (KQ N U))) (Lr N hF U) (NB N hF U) hF
theorem zL (N:JL P) (hF:Cg P A) (U:MR P L):MR P (upL A L):=
 have ho:=My N U (KQ N U)
 ⟨KQ N U,Lr N hF U,cd N ho,NA N (Yt N hF U),NA N (NB N hF U),NA N (xR N U (cd N ho) (Lr N hF U) (NB N hF U)),λn=>VS N ho hF (Lr N hF U),λn=>tz N (Lr N hF U) (NB N hF U)⟩
theorem nP (N:JL P):∀d,MR P (jB d)
 |0=>⟨Cg.fail,Cg.fail,Cg.fail,Cg.fail,Cg.fail,Cg.fail,λ_=>Cg.fail,λ_=>Cg.fail⟩
 |d+1=>zL N (R1 N _) (nP N d)
theorem Ys (N:JL P) (d:Nat):Cg P (T8 d):=Yt N (R1 N _) (nP N _)
theorem je (N:JL P):∀d,Cg P (Ou d)
 |0=>Cg.fail
 |d+1=>NA N (Ys N _)
theorem cf (N:JL P) (d:Nat):Cg P (IA d):=by
 have U:=R4 N (R5 N (d - 1))
 have ht:=tC N (Cg.of (hle:=λs v s' h=>Nat.le_of_lt (BQ (BJ _) _ _ _ h)) U) (Cg.of (hle:=λs v s' h=>Nat.le_of_lt (FH (BQ (BJ _)) _ _ _ h)) (ND U)) (Cg.of (hle:=λs v s' h=>Nat.le_of_lt (GZ (BQ (BJ _)) _ _ _ h)) (OC N U)) (R1 N d) (Ys N d) (je N (d - 1))
 refine jc N λl=>?_
 have ht:Cg P (lh d):=ht
 exact kp
end
end
theorem eV (l:List Tk):JL (λs=>s.AL=l/\0<=s.pos) where
 nx:=@λs U h=>by
  have hg:∀n (s:An),s.AL=l/\0<=s.pos->(Di n s).2.1.AL=l/\0<=(Di n s).2.1.pos:=by
   intro n
   induction n with
   |zero=>intro s U;rw [Di];unfold EX;split;exact U;split<;>exact U
   |succ n ih=>
    intro s U
    have h0:=U.2
    have h1:0<=s.pos+1:=AC
    rw [Di]
    split
    .unfold EX;split;exact U;split<;>exact U
    .split
     .unfold FR;split;exact U;split;exact ⟨U.1,h1⟩;exact U
     .split
      .split
       .rename_i hz;rw [D3 hz];exact ih _ ⟨U.1,h1⟩
       .unfold DU;split;exact U;split;exact ⟨U.1,h1⟩;exact ⟨U.1,h1⟩
      .unfold Fv;split;exact ⟨U.1,h1⟩;split;split;exact U;exact ⟨U.1,h1⟩;exact ⟨U.1,h1⟩
  unfold Ae at h |-
  split
  .exact hg _ s U
  .rename_i hm;rw [if_neg hm] at h;cases h
 cl:=@λs U h=>by
  unfold DX at h |-
  split
  .exact U
  .rename_i hc;rw [if_neg hc] at h;cases h
theorem cK {A:Rd Nd} {s s':An} (h:(NJ A).run s=.inr (n,s')):∃l b s1,F0.run s=.inr (l,s1)/\A.run s1=.inr (b,s')/\(Ae s').1.kind=21/\n=At 53 (l++[b]):=by
 obtain ⟨l,s1,h1,h⟩:=Bm h
 obtain ⟨b,s2,h2,h⟩:=Bm h
 replace h:(if ((Ae s2).1.kind==21)=true then .ret (At 53 (l++[b])) else Q2:Rd Nd).run s2=.inr (n,s'):=h
 split at h
 .rename_i U;cases h;exact ⟨l,b,s1,h1,h2,beq_iff_eq.1 U,rfl⟩
 .cases h
def oK (s:List UInt8) (notes:List Nt) (q:Nd×An×Int):Nd×List Nt×Int×Int×Int:=
 if q.2.2=0 then (q.1,notes,0,0,0) else if (PI q.2.1).1=0 then (q.1,[],(C7 s s.length).1,(C7 s s.length).2,q.2.2) else (q.1,[],(PI q.2.1).1,(PI q.2.1).2,q.2.2)
def DE (s:List UInt8):Nd×List Nt×Int×Int×Int:=match F2 s with
 | .inl q=>(Hv,[],(C7 s q.1.toNat).1,(C7 s q.1.toNat).2,q.2)
 | .inr x=>oK s x.notes (B9 ⟨CA x.AL,0,[],0⟩ 100 (Dc (CQ 100) ⟨CA x.AL,0,[],0⟩))
section
attribute [local irreducible] Cg Rd.ret Rd.seq Rd.look Rd.loop Rd.fail Rd.Ha
theorem jf {P:An->Prop} (N:JL P):Cg P F0:=kp
theorem R2 {P:An->Prop} (N:JL P) (d:Nat):Cg P (CQ d):=by
 have h1:=jf N
 have h2:=cf N d
 unfold CQ
 exact kp
end
theorem uh {t:An} (h:B9 ⟨l,0,[],0⟩ 100 (Dc (CQ 100) ⟨l,0,[],0⟩)=(n,t,e)):t.AL=l/\0<=t.pos:=by
 unfold B9 at h
 rw [if_neg Do] at h
 unfold Dc at h
 cases U:(CQ 100).run ⟨l,0,[],0⟩ with
 |inl p=>
  rw [U] at h
  cases h
  exact (R2 (eV l) 100).inl ⟨rfl,Int.le_refl _⟩ U
 |inr p=>
  rw [U] at h
  cases h
  exact (R2 (eV l) 100).inr ⟨rfl,Int.le_refl _⟩ U
section
variable {st:St} {R:As->St->Prop}
attribute [local irreducible] Go.Aw.Aj
theorem SE {b1 b3 b4 b5 b6 b7 n:Nat} {l c:Int} {es:List (List V)} {U:St->Prop} (hl:s.length<=16000) (hn:n<=s.length) (k6:st.box b6=some [.int .i64 e]) (k4:st.box b4=some [.int .i64 l]) (k1:st.box b1=some [.str s]) (k7:st.box b7=some [.int .i64 (n:Int)]) (k5:st.box b5=some [.int .i64 c]) (k3:st.box b3=some [.slice 5 es w])
 (n45:b4≠b5) (n43:b4≠b3) (n53:b5≠b3) (h0:e=0\/l≠0->U st) (h1:e≠0->l=0->U (((st.Aa b4 [.int .i64 (C7 s n).1]).Aa b5 [.int .i64 (C7 s n).2]).Aa b3 [.slice 5 [] .full])):
 HM Tryz.prog 38 [.ptr b6 0,.ptr b4 0,.ptr b1 0,.ptr b7 0,.ptr b5 0,.ptr b3 0] none st U:=by
 refine Vn Ac [] Tryz.func38 rfl rfl ?_
 have hof:∀{st:St} {R:As->St->Prop},R (.ret (.Bc [.int .i64 (C7 s n).1,.int .i64 (C7 s n).2,.int .i64 0])) st->PC 39 [.str s,.int .i64 (n:Int)] st R:=λh=>zY AC hn h
 have k5':∀D,(st.Aa b4 D).box b5=some [.int .i64 c]:=λD=>by rw [St.Ak n45];exact k5
 have k3':∀D E,((st.Aa b4 D).Aa b5 E).box b3=some [.slice 5 es w]:=λD E=>by rw [St.Ak n53,St.Ak n43];exact k3
 refine Af Ac ?_
 repeat' ((conv=>whnf);first|  (refine Bb ?_ ?_<;>intro _)|refine hof ?_|refine Am k6 ?_|refine Am k4 ?_|refine Am k1 ?_|refine Am k7 ?_|refine Am (k5' _) ?_|refine Am (k3' _ _) ?_)
 all_goals conv=>whnf
 all_goals first|exact h1 ‹_› ‹_›|exact h1 AC (by omega)|exact h0 AC
theorem ug {l:List Nt} {t:An}:oK s l (n,t,0)=(n,l,0,0,0):=if_pos rfl
structure PN (b1 b3 b4 b5 b6 b7:Nat):Prop where
 n13:b1≠b3
 n14:b1≠b4
 n15:b1≠b5
 n16:b1≠b6
 n17:b1≠b7
 n34:b3≠b4
 n35:b3≠b5
 n36:b3≠b6
 n37:b3≠b7
 n45:b4≠b5
 n46:b4≠b6
 yf:b4≠b7
 zi:b5≠b6
 yg:b5≠b7
 yh:b6≠b7
structure PB (st0 st:St) (b1 b3 b4 b5 b6 b7:Nat) (s:List UInt8) (es:List (List V)) (w:AH) (l c e n:Int):Prop where
 k1:st.box b1=some [.str s]
 k3:st.box b3=some [.slice 5 es w]
 k4:st.box b4=some [.int .i64 l]
 k5:st.box b5=some [.int .i64 c]
 k6:st.box b6=some [.int .i64 e]
 k7:st.box b7=some [.int .i64 n]
 le:st0.le st
 f3:st0.box b3=none
 f4:st0.box b4=none
 f5:st0.box b5=none
 f6:st0.box b6=none
 f7:st0.box b7=none
section
variable {st0 st st':St} {b1 b3 b4 b5 b6 b7:Nat} {s:List UInt8} {es:List (List V)} {w:AH} {l c e n:Int}
theorem PB.mono (h:PB st0 st b1 b3 b4 b5 b6 b7 s es w l c e n) (k:st.le st'):PB st0 st' b1 b3 b4 b5 b6 b7 s es w l c e n:=⟨k.1 _ _ h.k1,k.1 _ _ h.k3,k.1 _ _ h.k4,k.1 _ _ h.k5,k.1 _ _ h.k6,k.1 _ _ h.k7,St.le_trans h.le k,h.f3,h.f4,h.f5,h.f6,h.f7⟩
theorem PB.s3 (h:PB st0 st b1 b3 b4 b5 b6 b7 s es w l c e n) (N:PN b1 b3 b4 b5 b6 b7) {es2:List (List V)} {w2:AH}:PB st0 (st.Aa b3 [.slice 5 es2 w2]) b1 b3 b4 b5 b6 b7 s es2 w2 l c e n:=⟨by rw [St.Ak N.n13.symm];exact h.k1,St.Ai ..,by rw [St.Ak N.n34];exact h.k4,by rw [St.Ak N.n35];exact h.k5,by rw [St.Ak N.n36];exact h.k6,by rw [St.Ak N.n37];exact h.k7,St.Ag h.le h.f3 _,h.f3,h.f4,h.f5,h.f6,h.f7⟩
theorem PB.s4 (h:PB st0 st b1 b3 b4 b5 b6 b7 s es w l c e n) (N:PN b1 b3 b4 b5 b6 b7) {x:Int}:PB st0 (st.Aa b4 [.int .i64 x]) b1 b3 b4 b5 b6 b7 s es w x c e n:=⟨by rw [St.Ak N.n14.symm];exact h.k1,by rw [St.Ak N.n34.symm];exact h.k3,St.Ai ..,by rw [St.Ak N.n45];exact h.k5,by rw [St.Ak N.n46];exact h.k6,by rw [St.Ak N.yf];exact h.k7,St.Ag h.le h.f4 _,h.f3,h.f4,h.f5,h.f6,h.f7⟩
theorem PB.s5 (h:PB st0 st b1 b3 b4 b5 b6 b7 s es w l c e n) (N:PN b1 b3 b4 b5 b6 b7) {x:Int}:PB st0 (st.Aa b5 [.int .i64 x]) b1 b3 b4 b5 b6 b7 s es w l x e n:=⟨by rw [St.Ak N.n15.symm];exact h.k1,by rw [St.Ak N.n35.symm];exact h.k3,by rw [St.Ak N.n45.symm];exact h.k4,St.Ai ..,by rw [St.Ak N.zi];exact h.k6,by rw [St.Ak N.yg];exact h.k7,St.Ag h.le h.f5 _,h.f3,h.f4,h.f5,h.f6,h.f7⟩
theorem PB.s6 (h:PB st0 st b1 b3 b4 b5 b6 b7 s es w l c e n) (N:PN b1 b3 b4 b5 b6 b7) {x:Int}:PB st0 (st.Aa b6 [.int .i64 x]) b1 b3 b4 b5 b6 b7 s es w l c x n:=⟨by rw [St.Ak N.n16.symm];exact h.k1,by rw [St.Ak N.n36.symm];exact h.k3,by rw [St.Ak N.n46.symm];exact h.k4,by rw [St.Ak N.zi.symm];exact h.k5,St.Ai ..,by rw [St.Ak N.yh];exact h.k7,St.Ag h.le h.f6 _,h.f3,h.f4,h.f5,h.f6,h.f7⟩
theorem PB.s7 (h:PB st0 st b1 b3 b4 b5 b6 b7 s es w l c e n) (N:PN b1 b3 b4 b5 b6 b7) {x:Int}:PB st0 (st.Aa b7 [.int .i64 x]) b1 b3 b4 b5 b6 b7 s es w l c e x:=⟨by rw [St.Ak N.n17.symm];exact h.k1,by rw [St.Ak N.n37.symm];exact h.k3,by rw [St.Ak N.yf.symm];exact h.k4,by rw [St.Ak N.yg.symm];exact h.k5,by rw [St.Ak N.yh.symm];exact h.k6,St.Ai ..,St.Ag h.le h.f7 _,h.f3,h.f4,h.f5,h.f6,h.f7⟩
end
noncomputable def uE:List Oper:=match Tryz.f16.body with|some (.seq _ (.seq _ (.seq _ (.seq _ (.seq (.seq _ (.cond _ (.seq _ (.seq (.region _ ops _) _)) _)) _)))))=>ops.toList|_=>[]
noncomputable def uF:List Oper:=match Tryz.f16.body with|some (.seq _ (.seq _ (.seq _ (.seq _ (.seq _ (.seq _ (.seq (.seq _ (.cond _ (.seq (.region _ ops _) _) _)) _)))))))=>ops.toList|_=>[]
noncomputable def pw:List Oper:=match Tryz.f16.body with|some (.seq _ (.seq _ (.seq _ (.seq _ (.seq _ (.seq _ (.seq _ (.seq _ (.seq (.region _ ops _) _)))))))))=>ops.toList|_=>[]
noncomputable def yu (nx:Nat) (ops:List Oper) (vs:List V) (b3 b4 b5 b6:Nat) (U:List V) (bs:List Bool):Env:=
 {tmps:=jY [(2,.Ch 0 0),(3,.ptr b3 0),(4,.ptr b4 0),(5,.ptr b5 0),(6,.ptr b6 0)] ops vs bs,boxes:=[(0,U)],BU:=nx,sz:=63,gl:=[1,3,4,5,6,7]}
def pz:List (List Bool×Nat):=yq 7 [0,1,33,34,64,98,161,163,227,417,420,484,929,933,997,1953,2022]
def pA:List (List Bool×Nat):=yq 8 [0,1,2,33,34,35,64,66,128,129,98,99,161,163,289,290,192,227,354,356,417,484,866,869,997,1890,1894,2022,3938,4071]
def fM:List (List Bool×Nat):=yq 9 [0,1,2,3,33,34,35,36,64,66,67,128,129,131,256,257,258,98,99,100,161,163,164,289,290,292,545,546,547,549,192,195,320,322,384,385,227,228,354,356,610,611,613,417,420,673,675,677,801,802,805,1569,1570,1571,448,484,739,741,866,869,1634,1635,1638,929,933,1697,1699,1825,1826,997,1763,1766,1890,1894,3682,3683,1953,2022,3811,3815,3938,4071,7907,8168]
def yv (st:St) (b3:Nat) (bs:List Bool):St:=match bs[5]? with
 |some true=>st.Aa b3 [.slice 5 [] .full]
 |_=>st
theorem uC (hl:s.length<=16000) (h:∀w st',st.le st'->R (.ret (.Bc [enc (DE s).1,.slice 5 (HU (DE s).2.1) w,.int .i64 (DE s).2.2.1,.int .i64 (DE s).2.2.2.1,.int .i64 (DE s).2.2.2.2])) st'):PC 16 [.str s] st R:=by
 refine Bo.ends (J7 Ac [1,3,4,5,6,7] Tryz.func16 rfl Do rfl rfl rfl rfl rfl rfl ⟨_,Tryz.func38,rfl,Do⟩ rfl ?_)
 repeat' ((conv=>whnf);first|exact Bi|(refine AE ?_;intros)|(refine Bj ?_ ?_ ?_;rotate_left)|refine D5 (λb6 f6=>?_)|fail)
 rename_i b1 f1 b3 f3 b4 f4 b5 f5
 obtain ⟨n13,f3a⟩:=A5 f3
 obtain ⟨n34,f4a⟩:=A5 f4
 obtain ⟨n14,f4b⟩:=A5 f4a
 obtain ⟨n45,f5a⟩:=A5 f5
 obtain ⟨n35,f5b⟩:=A5 f5a
 obtain ⟨n15,f5c⟩:=A5 f5b
 obtain ⟨zi,f6a⟩:=A5 f6
 obtain ⟨n46,f6b⟩:=A5 f6a
 obtain ⟨n36,f6c⟩:=A5 f6b
 obtain ⟨n16,f6d⟩:=A5 f6c
 have g1:(((((st.Aa b1 [.str s]).Aa b3 [.slice 5 [] .full]).Aa b4 [.int .i64 0]).Aa b5 [.int .i64 0]).Aa b6 [.int .i64 0]).box b1=some [.str s]:=by rw [St.Ak n16.symm,St.Ak n15.symm,St.Ak n14.symm,St.Ak n13.symm,St.Ai]
 repeat' ((conv=>whnf);first|exact Bi|(refine AE ?_;intros)|(refine Bj ?_ ?_ ?_;rotate_left)|refine Am g1 ?_|refine WJ (λ_=>?_)|refine D5 (λb7 f7=>?_)|refine Am (St.Ai ..) ?_|fail)
 obtain ⟨yh,f7a⟩:=A5 f7
 obtain ⟨yg,f7b⟩:=A5 f7a
 obtain ⟨yf,f7c⟩:=A5 f7b
 obtain ⟨n37,f7d⟩:=A5 f7c
 obtain ⟨n17,f7e⟩:=A5 f7d
 have N:PN b1 b3 b4 b5 b6 b7:=⟨n13,n14,n15,n16,n17,n34,n35,n36,n37,n45,n46,yf,zi,yg,yh⟩
 conv=>whnf
 refine ⟨rfl,AY rfl ?_⟩
 generalize hst7:St.Aa _ b7 [V.int .i64 (s.length:Int)]=st7
 have H:PB st st7 b1 b3 b4 b5 b6 b7 s [] .full 0 0 0 s.length:=by
  subst hst7
  refine ⟨?_,?_,?_,?_,?_,St.Ai ..,?_,f3a.1,f4b.1,f5c.1,f6d.1,f7e.1⟩
  .rw [St.Ak n17.symm,St.Ak n17.symm];exact g1
  .rw [St.Ak n37.symm,St.Ak n37.symm,St.Ak n36.symm,St.Ak n35.symm,St.Ak n34.symm,St.Ai]
  .rw [St.Ak yf.symm,St.Ak yf.symm,St.Ak n46.symm,St.Ak n45.symm,St.Ai]
  .rw [St.Ak yg.symm,St.Ak yg.symm,St.Ak zi.symm,St.Ai]
  .rw [St.Ak yh.symm,St.Ak yh.symm,St.Ai]
  .exact St.Ag (St.Ag (St.Ag (St.Ag (St.Ag (St.Ag (St.Ag (St.le_refl _) f1.1 _) f3a.1 _) f4b.1 _) f5c.1 _) f6d.1 _) f7e.1 _) f7e.1 _
 clear hst7 f1 f3 f3a f4 f4a f4b f5 f5a f5b f5c f6 f6a f6b f6c f6d f7 f7a f7b f7c f7d f7e g1 n13 n14 n15 n16 n17 n34 n35 n36 n37 n45 n46 yf zi yg yh
 cases hx:F2 s with
 |inl q=>
  obtain ⟨i,e⟩:=q
  have he:=YG hx
  obtain ⟨hi0,hi1⟩:=tJ hx
  obtain ⟨m,rfl⟩:∃m:Nat,i=m:=⟨i.toNat,AC⟩
  have hp:DE s=(Hv,[],(C7 s m).1,(C7 s m).2,e):=by unfold DE;rw [hx];rfl
  rw [hp] at h
  refine Ad (Af Ac ?_)
  repeat' ((conv=>whnf);first|exact Bi|(refine AE ?_;intros)|(refine Bj ?_ ?_ ?_;rotate_left)|refine Am H.k1 ?_|refine zQ hx (λst1 hle1=>?_)|refine Am (H.mono hle1).k3 ?_|refine Am ((H.mono hle1).s3 N).k6 ?_|fail)
  have H8:=((H.mono hle1).s3 N (es2:=[]) (w2:=.full)).s6 N (x:=e)
  have U:=H8.s7 N (x:=(m:Int))
  refine Ad (Ad (Af Ac ?_))
  repeat' ((conv=>whnf);first|exact Bi|(refine AE ?_;intros)|(refine Bj ?_ ?_ ?_;rotate_left)|refine Am H8.k6 ?_|fail)
  refine P6 true rfl ?_
  rw [if_pos rfl]
  refine Ad (Af Ac ?_)
  repeat' ((conv=>whnf);first|exact Bi|(refine AE ?_;intros)|(refine Bj ?_ ?_ ?_;rotate_left)|refine Am H8.k7 ?_|fail)
  refine Ad (Mn Ac (Bq _) (yu 1 uE [.agg CX,.int .i64 e,.BR,.BR,.BR,.BR,.BR] b3 b4 b5 b6 CX) (λ_=>_) pz GE Yl (St.le_refl _) ?_ ?_)
  .unfold pz
   repeat' (first|refine List.forall_mem_cons.2 ⟨?_,?_⟩|exact λ_ h=>nomatch h)
   repeat' ((conv=>whnf);first|exact Bi|(refine AE ?_;intros)|(refine Bj ?_ ?_ ?_;rotate_left)|refine Am U.k6 ?_|refine Am U.k3 ?_|refine Am U.k4 ?_|refine Am U.k5 ?_|fail)
   all_goals conv=>whnf
   all_goals (refine ⟨Yl,?_⟩)
   all_goals first|exact St.le_refl _|exact EO U.k3|exact EO U.k4|exact EO U.k5|exact EO U.k6
  .have H10:=((U.s4 N (x:=(C7 s m).1)).s5 N (x:=(C7 s m).2)).s3 N (es2:=[]) (w2:=.full)
   refine Af Ac (SE hl AC U.k6 U.k4 U.k1 U.k7 U.k5 U.k3 N.n45 N.n34.symm N.n35.symm (λh=>h.elim (λh=>absurd h he) (λh=>absurd rfl h)) (λ_ _=>?_))
   repeat' ((conv=>whnf);first|exact Bi|(refine AE ?_;intros)|(refine Bj ?_ ?_ ?_;rotate_left)|refine Am H10.k3 ?_|refine Am H10.k4 ?_|refine Am H10.k5 ?_|refine Am H10.k6 ?_|fail)
   all_goals exact AF rfl (h .any _ H10.le)
 |inr x=>
  have hlen:=(YH hx).1
  have hmk:=Ur x.AL
  obtain ⟨n,t,e,hc⟩:∃n t e,B9 ⟨CA x.AL,0,[],0⟩ 100 (Dc (CQ 100) ⟨CA x.AL,0,[],0⟩)=(n,t,e):=⟨_,_,_,rfl⟩
  have hp:DE s=oK s x.notes (n,t,e):=by unfold DE;rw [hx];dsimp only;rw [hc]
  obtain ⟨htk,hpos⟩:=uh hc
  have hmu:mu ⟨CA x.AL,0,[],0⟩<=100000000:=by unfold mu;simp only [List.length_nil];omega
  have hmod:∀{st:St} {R:As->St->Prop},R (.ret (Rl n t e)) st->PC 40 [.agg [.slice 4 (AU (CA x.AL)) .any,.int .i64 0,.slice 1 [] .full,.int .i64 0],.int .i64 100] st R:=λh=>DQ (args':=[D9 ⟨CA x.AL,0,[],0⟩,.int .i64 100]) rfl (lz hmu (by rw [show DZ 100=100 from rfl,hc];exact h))
  have hok:=nZ AC hx
  refine Ad (Af Ac ?_)
  repeat' ((conv=>whnf);first|exact Bi|(refine AE ?_;intros)|(refine Bj ?_ ?_ ?_;rotate_left)|refine Am H.k1 ?_|refine zR hx (λw1 w2 st1 hle1=>?_)|refine Am (H.mono hle1).k3 ?_|refine Am ((H.mono hle1).s3 N).k6 ?_|fail)
  have H8:=((H.mono hle1).s3 N (es2:=HU x.notes) (w2:=w2)).s6 N (x:=0)
  refine Ad (Af Ac ?_)
  repeat' ((conv=>whnf);first|exact Bi|(refine AE ?_;intros)|(refine Bj ?_ ?_ ?_;rotate_left)|refine Am H8.k6 ?_|fail)
  refine Ad (Af Ac ?_)
  repeat' ((conv=>whnf);first|exact Bi|(refine AE ?_;intros)|(refine Bj ?_ ?_ ?_;rotate_left)|refine uf hok AC ?_|refine hmod ?_|refine Am H8.k6 ?_|fail)
  have U:=H8.s6 N (x:=e)
  by_cases he:e=0
  .subst he
   have hp2:DE s=(n,x.notes,0,0,0):=hp.trans ug
   rw [hp2] at h
   refine Ad (Ad (Af Ac ?_))
   repeat' ((conv=>whnf);first|exact Bi|(refine AE ?_;intros)|(refine Bj ?_ ?_ ?_;rotate_left)|refine Am U.k6 ?_|fail)
   refine P6 true rfl ?_
   rw [if_pos rfl]
   refine Ad (Mn Ac (Bq _) (yu 2 uF [.agg (AK n),.slice 5 (HU x.notes) w2,.int .i64 0,.BR,.BR,.BR,.BR,.BR] b3 b4 b5 b6 (AK n)) (λ_=>_) pA GE Yl (St.le_refl _) ?_ ?_)
   .unfold pA
    repeat' (first|refine List.forall_mem_cons.2 ⟨?_,?_⟩|exact λ_ h=>nomatch h)
    repeat' ((conv=>whnf);first|exact Bi|(refine AE ?_;intros)|(refine Bj ?_ ?_ ?_;rotate_left)|refine Am U.k6 ?_|refine Am U.k3 ?_|refine Am U.k4 ?_|refine Am U.k5 ?_|fail)
    all_goals conv=>whnf
    all_goals (refine ⟨Yl,?_⟩)
    all_goals first|exact St.le_refl _|exact EO U.k3|exact EO U.k4|exact EO U.k5|exact EO U.k6
   .refine Af Ac (SE hl (Nat.le_refl _) U.k6 U.k4 U.k1 U.k7 U.k5 U.k3 N.n45 N.n34.symm N.n35.symm (λ_=>?_) (λh=>absurd rfl h))
    repeat' ((conv=>whnf);first|exact Bi|(refine AE ?_;intros)|(refine Bj ?_ ?_ ?_;rotate_left)|refine Am U.k3 ?_|refine Am U.k4 ?_|refine Am U.k5 ?_|refine Am U.k6 ?_|fail)
    all_goals exact AF rfl (h .any _ U.le)
  .refine Ad (Af Ac ?_)
   repeat' ((conv=>whnf);first|exact Bi|(refine AE ?_;intros)|(refine Bj ?_ ?_ ?_;rotate_left)|refine Am U.k6 ?_|fail)
   refine DL (α:=Int×Int×St) (λ_=>[]) (λ_=>[]) [2,3,4,5,6] [0] (λp=>p.2.2) (λp=>PB st p.2.2 b1 b3 b4 b5 b6 b7 s (HU x.notes) w2 p.1 p.2.1 e s.length/\PI t=(p.1,p.2.1)) (Af Ac ?_) ?_
   .by_cases hlt:t.pos<(t.AL.length:Int)
    .obtain ⟨u,hu⟩:∃u,t.AL[t.pos.toNat]? =some u:=⟨_,List.getElem?_eq_getElem AC⟩
     have hs:PI t=(u.line,u.BT):=by unfold PI;rw [if_pos hlt,hu]
     have H11:=(U.s4 N (x:=u.line)).s5 N (x:=u.BT)
     repeat' ((conv=>whnf);first|exact Bi|(refine AE ?_;intros)|(refine Bj ?_ ?_ ?_;rotate_left)|refine Wz (λ_=>?_)|refine WB hu AC ?_|refine Am U.k4 ?_|refine Am (U.s4 N).k5 ?_|refine zqq 16 [14,15] [] ?_|fail)
     all_goals exact ⟨(u.line,u.BT,_),⟨H11,hs⟩,Yl,St.le_refl _⟩
    .have hs:PI t=(0,0):=by unfold PI;rw [if_neg hlt]
     repeat' ((conv=>whnf);first|exact Bi|(refine AE ?_;intros)|(refine Bj ?_ ?_ ?_;rotate_left)|refine Wz (λ_=>?_)|fail)
     all_goals exact ⟨(0,0,_),⟨U,hs⟩,Yl,St.le_refl _⟩
   .rintro ⟨l,c,m⟩ ⟨Hm,hs⟩
    dsimp only at Hm hs
    have hp2:DE s=if l=0 then (n,[],(C7 s s.length).1,(C7 s s.length).2,e) else (n,[],l,c,e):=by
     rw [hp]
     unfold oK
     rw [if_neg he,hs]
    rw [hp2] at h
    have Hn:=Hm.s3 N (es2:=[]) (w2:=.full)
    refine Ad (Mn Ac (Bq _) (yu 2 pw [.agg (AK n),.int .i64 l,.int .i64 c,.int .i64 e,.BR,.BR,.BR,.BR,.BR] b3 b4 b5 b6 (AK n)) (yv m b3) fM GE Yl (St.le_refl _) ?_ ?_)
    .unfold fM
     repeat' (first|refine List.forall_mem_cons.2 ⟨?_,?_⟩|exact λ_ h=>nomatch h)
     repeat' ((conv=>whnf);first|exact Bi|(refine AE ?_;intros)|(refine Bj ?_ ?_ ?_;rotate_left)|refine Am Hm.k6 ?_|refine Am Hm.k3 ?_|refine Am Hm.k4 ?_|refine Am Hm.k5 ?_|refine Am Hn.k6 ?_|refine Am Hn.k4 ?_|refine Am Hn.k5 ?_|fail)
     all_goals conv=>whnf
     all_goals (refine ⟨Yl,?_⟩)
     all_goals first|exact St.le_refl _|exact EO Hn.k4|exact EO Hn.k5|exact EO Hn.k6
    .refine Af Ac (SE hl (Nat.le_refl _) Hn.k6 Hn.k4 Hn.k1 Hn.k7 Hn.k5 Hn.k3 N.n45 N.n34.symm N.n35.symm (λhz=>?_) (λ_ hz=>?_))
     .rw [if_neg (hz.elim (λh=>absurd h he) id)] at h
      repeat' ((conv=>whnf);first|exact Bi|(refine AE ?_;intros)|(refine Bj ?_ ?_ ?_;rotate_left)|refine Am Hn.k3 ?_|refine Am Hn.k4 ?_|refine Am Hn.k5 ?_|refine Am Hn.k6 ?_|fail)
      all_goals exact AF rfl (h .any _ Hn.le)
     .rw [if_pos hz] at h
      have Ho:=((Hn.s4 N (x:=(C7 s s.length).1)).s5 N (x:=(C7 s s.length).2)).s3 N (es2:=[]) (w2:=.full)
      repeat' ((conv=>whnf);first|exact Bi|(refine AE ?_;intros)|(refine Bj ?_ ?_ ?_;rotate_left)|refine Am Ho.k3 ?_|refine Am Ho.k4 ?_|refine Am Ho.k5 ?_|refine Am Ho.k6 ?_|fail)
      all_goals exact AF rfl (h .any _ Ho.le)
end
section
variable {st:St} {R:As->St->Prop}
attribute [local irreducible] Go.Aw.Aj
theorem ix {s s':An} {deep:Int} {A:Rd Nd} (h:B9 s deep (Dc A s)=(n,s',0)):A.run s=.inr (n,s'):=by
 unfold B9 at h
 split at h
 .cases h
 .unfold Dc at h
  cases U:A.run s with
  |inl p=>rw [U] at h;obtain ⟨⟨x,hx⟩,t⟩:=p;cases h;exact absurd rfl hx
  |inr p=>rw [U] at h;obtain ⟨a,b⟩:=p;cases h;rfl
end
def bg (l:List Tk):List Tk:=l.filter λt=>Zp t.kind t.text
theorem T5 (h:∀t ∈ l,t.kind≠16/\t.kind≠17):bg l=BH l:=by
 unfold bg BH
 refine List.filter_congr λt U=>?_
 obtain ⟨h1,h2⟩:=h t U
 unfold gP
 rw [show (t.kind==16)=false from beq_eq_false_iff_ne.2 h1,show (t.kind==17)=false from beq_eq_false_iff_ne.2 h2];rfl
theorem oE (p:Option Tk) (t:Tk):KW p t=0\/KW p t=16\/KW p t=17:=by
 unfold KW
 split
 .split<;>simp
 .split
  .simp
  .split<;>simp
theorem oF {m:Int} {t:Tk} (hm:m=0\/m=16\/m=17):BH (markT m t)=BH [t]/\(t.kind<16->∀u ∈ markT m t,u.kind<18):=by
 unfold markT
 split
 .exact ⟨rfl,λh u U=>by rw [List.mem_singleton.1 U];omega⟩
 .rename_i h0
  refine ⟨?_,λh u U=>?_⟩
  .show BH ([⟨m,[],t.line,t.BT⟩]++[t])=_
   have:=LP (t:=⟨m,[],t.line,t.BT⟩) RL
   unfold BH at *
   rw [List.filter_append,this];rfl
  .rcases List.mem_cons.1 U with rfl|U
   .dsimp only;omega
   .rw [List.mem_singleton.1 U];omega
theorem YW:∀{l:List Tk} {p:Option Tk},(∀t ∈ l,t.kind<16)->BH (Dh p l)=BH l/\∀u ∈ Dh p l,u.kind<18
 |[],_,_=>⟨rfl,λu U=>by cases U⟩
 |t::r,p,h=>by
  obtain ⟨h1,h2⟩:=oF (t:=t) (oE p t)
  obtain ⟨k1,k2⟩:=YW (l:=r) (p:=some t) λu U=>h u (List.mem_cons_of_mem _ U)
  rw [Dh]
  refine ⟨?_,λu U=>(List.mem_append.1 U).elim (h2 (h t List.mem_cons_self) u) (k2 u)⟩
  have e:BH (markT (KW p t) t++Dh (some t) r)=BH (markT (KW p t) t)++BH (Dh (some t) r):=by unfold BH;rw [List.filter_append]
  rw [e,h1,k1]
  unfold BH
  rw [<-List.filter_append];rfl
theorem oD (h:∀t ∈ l,t.kind<16):BH (CA l)=BH l/\∀u ∈ CA l,u.kind<18:=by
 obtain ⟨h1,h2⟩:=YW (p:=none) h
 have hE:BH (KV l)=[]/\∀u ∈ KV l,u.kind<18:=by
  unfold KV
  split
  .exact ⟨rfl,λu U=>by rw [List.mem_singleton.1 U];decide⟩
  .split
   .exact ⟨rfl,λu U=>by rw [List.mem_singleton.1 U];decide⟩
   .exact ⟨rfl,λu U=>by cases U⟩
 unfold CA
 refine ⟨?_,λu U=>(List.mem_append.1 U).elim (h2 u) (hE.2 u)⟩
 have e:BH (Dh none l++KV l)=BH (Dh none l)++BH (KV l):=by unfold BH;rw [List.filter_append]
 rw [e,h1,hE.1,List.append_nil]
theorem Uw:∀(n:Nat) (s:An),(∀t ∈ s.AL,t.kind<18)->0<=s.pos->s.pos<=s.AL.length->n=s.AL.length - s.pos.toNat->(Di n s).1.kind=21->(Di n s).2.2=0/\(Di n s).2.1.pos=s.AL.length
 |n,s,hN,h0,h1,hn,h=>by
  have U:∀{x:Tk×An×Int},x=EX s->s.AL.length<=s.pos.toNat->x.1.kind=21->x.2.2=0/\x.2.1.pos=s.AL.length:=λ{x} e hl hx=>by
   subst e
   unfold EX at hx |-
   split
   .exact ⟨rfl,by show s.pos=_;omega⟩
   .rename_i e1
    rw [if_neg e1] at hx
    split at hx<;>exact absurd hx (by dsimp only [TR];decide)
  cases n with
  |zero=>exact U rfl AC h
  |succ n=>
   cases ht:s.AL[s.pos.toNat]? with
   |none=>exact U (by rw [Di,ht]) (List.getElem?_eq_none_iff.1 ht) h
   |some t=>
    have hk:=hN t (List.mem_of_getElem? ht)
    have hl:=(List.getElem?_eq_some_iff.1 ht).1
    rw [Di,ht] at h |-
    dsimp only at h |-
    split
    .rename_i e1;rw [if_pos e1] at h;unfold FR Tj at h;split at h;exact absurd h (by dsimp only [TR];decide);split at h<;>exact absurd h (by dsimp only [TR];decide)
    .rename_i e1
     rw [if_neg e1] at h
     split
     .rename_i e2
      rw [if_pos e2] at h
      split
      .rename_i hz
       rw [if_pos hz,D3 hz] at h
       rw [D3 hz]
       exact Uw n {s with pos:=s.pos+1,wait:=0} hN (by show 0<=s.pos+1;omega) (by show s.pos+1<=(s.AL.length:Int);omega) (by show n=s.AL.length - (s.pos+1).toNat;omega) h
      .rename_i hz
       rw [if_neg hz] at h
       unfold DU Tj at h
       split at h
       .exact absurd h (by dsimp only [TR];decide)
       .split at h<;>exact absurd h (by dsimp only [TR];decide)
     .rename_i e2
      rw [if_neg e2] at h
      unfold Fv at h
      exfalso
      split at h
      .dsimp only at h;omega
      .split at h
       .split at h
        .exact absurd h (by dsimp only [TR];decide)
        .dsimp only at h;omega
       .dsimp only at h;omega
theorem jK {s:An} (hN:∀t ∈ s.AL,t.kind<18) (h:(Ae s).1.kind=21):(Ae s).2.2=0/\(Ae s).2.1.pos=s.AL.length:=by
 unfold Ae at h |-
 split
 .rename_i U
  rw [if_pos U] at h
  obtain ⟨h0,h1⟩:=V2 U
  exact Uw _ s hN h0 h1 rfl h
 .rename_i U;rw [if_neg U] at h;exact absurd h (by dsimp only [TR];decide)
section
variable {s:An} {Q:List Nd->An->Prop}
theorem js (k:∀l s1,Lf l s s1->Q l s1):Rd.wp F0 s Q Cu:=by
 have hi:=YN (o:=false)
 simp only [F0,Rd.Ah,Rd.Aq,Rd.wp_seq,Rd.wp_ret]
 repeat' (first
  |exact trivial
  |assumption
  |refine AQ (λe=>?_) (λe=>?_)
  |refine Ff (Au ‹_› Do Do) (λhn=>?_)
  |refine Ff (A1 ‹_› Do Do) (λhn=>?_)
  |refine Ff ‹_› (λhn=>?_)
  |refine TI Do Do (λn s1 hn=>?_)
  |refine Sc Do (λn s1 hn=>?_)
  |refine GR ?_
  |refine OD ‹_› (λn s1 hn=>?_)
  |exact k _ _ (.nil _)
  |refine k _ _ ?_
  |refine Lf.node Do ?_
  |apply Lf.app
  |apply Lf.CI)
theorem Sf (d:Nat):Ga (CQ d):=λs=>by
 simp only [CQ,NJ,Rd.wp_seq,Rd.Ah,Rd.Aq,Rd.wp_ret]
 exact js λl s1 U=>OD (cv d) λb s2 h1=>AQ (λ_=>Lf.node Do (.app U h1)) λ_=>trivial
end
theorem TJ {d:Nat} {s':An} (hl:∀t ∈ l,0<t.kind/\t.kind<16) (h:(CQ d).run ⟨CA l,0,[],0⟩=.inr (n,s')) (hk:(Ae s').1.kind=21):bg (A0 n)=bg l:=by
 obtain ⟨m1,m2⟩:=oD λt ht=>(hl t ht).2
 have U:=Sf d ⟨CA l,0,[],0⟩
 unfold Rd.wp at U
 rw [h] at U
 replace U:Lf [n] ⟨CA l,0,[],0⟩ s':=U
 have hp:=U.Ie.2.1 m2
 rw [BC] at hp
 have hN:∀t ∈ s'.AL,t.kind<18:=by rw [hp.tk];exact m2
 obtain ⟨e1,e2⟩:=jK hN hk
 have hq:=hp.trans (Qp hN e1)
 rw [show ry (Ae s').1=[] by unfold ry;rw [hk];rfl,List.append_nil] at hq
 have he:=hq.eq
 have hpos:(Ae s').2.1.pos=(CA l).length:=by rw [e2,hp.tk]
 rw [hpos] at he
 have hc:PY (CA l) 0 ((CA l).length:Nat)=CA l:=by unfold PY;rw [Int.toNat_natCast,List.take_length];rfl
 replace he:BH (A0 n)=BH (PY (CA l) 0 ((CA l).length:Nat)):=he
 rw [hc,m1] at he
 have hn:=U.Ie.2.2
 rw [BC] at hn
 rw [T5 hn,he,T5]
 intro t ht
 have:=hl t ht
 omega
theorem jR {c:List Nt} {l:Int} (h:DE s=(n,c,l,k,0)):∃x s',F2 s=.inr x/\(CQ 100).run ⟨CA x.AL,0,[],0⟩=.inr (n,s')/\c=x.notes:=by
 unfold DE at h
 split at h
 .rename_i q hq
  simp only [Prod.mk.injEq] at h
  exact absurd h.2.2.2.2 (YG (i:=q.1) (e:=q.2) hq)
 .rename_i x hx
  obtain ⟨m,t,e,hc⟩:∃m t e,B9 ⟨CA x.AL,0,[],0⟩ 100 (Dc (CQ 100) ⟨CA x.AL,0,[],0⟩)=(m,t,e):=⟨_,_,_,rfl⟩
  rw [hc] at h
  unfold oK at h
  by_cases U:e=0
  .subst U
   rw [if_pos rfl] at h
   simp only [Prod.mk.injEq] at h
   obtain ⟨rfl,rfl,_⟩:=h
   exact ⟨x,t,hx,ix hc,rfl⟩
  .rw [if_neg U] at h
   split at h<;>(simp only [Prod.mk.injEq] at h;exact absurd h.2.2.2.2 U)
section
variable {st:St} {R:As->St->Prop}
attribute [local irreducible] Go.Aw.Aj
theorem Qu {c:List Nt} {l:Int} (U:s.length<=16000) (hp:DE s=(n,c,l,k,e)) (h:∀w st',st.le st'->R (.ret (.Bc [enc n,.slice 5 (HU c) w,.int .i64 l,.int .i64 k,.int .i64 e])) st'):PC 16 [.str s] st R:=uC U λw st' hle=>by
 rw [hp];exact h w st' hle
end
theorem LM {U:Nat}:∀{l:List Nd} {env:List Fx} {f:Ft},DH U l env=.inl f->f.1≠0
 |[],env,f,h=>by cases h
 |n::r,env,f,h=>by
  rw [DH] at h
  split at h
  .split at h
   .rename_i e he
    cases h
    rw [WV he];exact (by decide:(120:Int)≠0)
   .split at h
    .cases h;exact (by decide:(161:Int)≠0)
    .exact LM h
  .exact LM h
def yU:List UInt8:=[102,32,61,32,97,32,43,32,98,32,42,32,99,10,103,32,61,32,108,101,116,32,123,32,105,110,102,105,120,108,32,49,32,43,59,32,120,32,43,32,121,32,61,32,120,32,125,32,105,110,32,97,32,43,32,98,32,61,61,32,99,10,105,110,102,105,120,32,52,32,43,43,43]
def yV:List UInt8:=[105,110,102,105,120,108,32,54,32,43,10,102,32,61,32,97,10,105,110,102,105,120,114,32,53,32,43]
theorem Xac:(match DE yU with|(n,_,_,_,e)=>e==0&&(decide (n.size<=1000)&&(decide (BX n<=1000)&&(match E1 n with|(t,f,l,c)=>f==0&&(l==0&&(c==0&&(decide (n.size<t.size)&&decide (t.size<=1000))))))))=true:=EQ
theorem Xad:(match DE yV with|(n,_,_,_,e)=>e==0&&(decide (n.size<=1000)&&(decide (BX n<=1000)&&(match E1 n with|(t,f,l,c)=>f==161&&(l==3&&c==1)))))=true:=EQ
theorem Xaa:∃n d l k t,DE yU=(n,d,l,k,0)/\n.size<=1000/\BX n<=1000/\E1 n=(t,0,0,0)/\n.size<t.size/\t.size<=1000:=by
 have h:=Xac
 obtain ⟨n,c,l,k,e,U⟩:∃n c l k e,DE yU=(n,c,l,k,e):=⟨_,_,_,_,_,rfl⟩
 rw [U] at h
 obtain ⟨t,a,b,d,hs⟩:∃t a b d,E1 n=(t,a,b,d):=⟨_,_,_,_,rfl⟩
 simp only [hs,Bool.and_eq_true,beq_iff_eq,decide_eq_true_eq] at h
 obtain ⟨rfl,h1,h2,rfl,rfl,rfl,h3,h4⟩:=h
 exact ⟨n,c,l,k,t,U,h1,h2,hs,h3,h4⟩
theorem Xab:∃n d l k t,DE yV=(n,d,l,k,0)/\n.size<=1000/\BX n<=1000/\E1 n=(t,161,3,1):=by
 have h:=Xad
 obtain ⟨n,c,l,k,e,U⟩:∃n c l k e,DE yV=(n,c,l,k,e):=⟨_,_,_,_,_,rfl⟩
 rw [U] at h
 obtain ⟨t,a,b,d,hs⟩:∃t a b d,E1 n=(t,a,b,d):=⟨_,_,_,_,rfl⟩
 simp only [hs,Bool.and_eq_true,beq_iff_eq,decide_eq_true_eq] at h
 obtain ⟨rfl,h1,h2,rfl,rfl,rfl⟩:=h
 exact ⟨n,c,l,k,t,U,h1,h2,hs⟩
section
variable {st:St} {R:As->St->Prop}
attribute [local irreducible] Go.Aw.Aj
theorem QD {t:Nd} {l c:Int} (U:E1 n=(t,e,l,c)) (hz:n.size<=100000000) (ht:BX n<=100000000) (h:∀st',st.le st'->R (.ret (.Bc [enc t,.int .i64 l,.int .i64 c,.int .i64 e])) st'):PC 33 [enc n] st R:=
 uS hz ht (by rw [U];exact h)
theorem K3 (h:∀st',st.le st'->R (.ret (.bool true)) st'):PC 32 [] st R:=by
 refine pB Tryz.func32 ?_
 obtain ⟨n,d,l,k,t,p1,a1,a2,a3,a4,a5⟩:=Xaa
 obtain ⟨n',d',l',k',t',p2,b1,b2,b3⟩:=Xab
 have hlt:(n.size:Int)<(t.size:Int):=AC
 repeat' ((conv=>whnf);first|refine Wv hlt ?_|exact Bi|(refine AE ?_;intros)|(refine Bj ?_ ?_ ?_;rotate_left)|refine Qu (Nat.le_of_ble_eq_true rfl) p1 (λw1 st1 U=>?_)|refine Qu (Nat.le_of_ble_eq_true rfl) p2 (λw2 st3 hle3=>?_)|refine QD a3 AC AC (λst2 hle2=>?_)|refine QD b3 AC AC (λst4 hle4=>?_)|refine qo (n:=t) AC (λst5 hle5=>?_)|refine qo (n:=n) AC (λst6 hle6=>?_)|refine zqs [1,3,5,7,9,11,13,15,17,19,21,23,25,27,29,31,35,32,36,39,41,43,45,47,49,51,53,55,57,59,61,63,65,67,69,71,73,75] [] ?_|fail)
 all_goals exact fin (h _ (St.le_trans U (St.le_trans hle2 (St.le_trans hle3 (St.le_trans hle4 (St.le_trans hle5 hle6)))))) rfl
end
theorem Yu (n:Nd):(Jr n).size<=n.size/\BX (Jr n)<=BX n:=by
 unfold Jr
 cases h:n.kids.getLast? with
 |none=>exact ⟨by cases n;rw [Nd.size];show Nd.size Hv<=_;unfold Hv;rw [Nd.size,AD];omega,by show BX Hv<=_;unfold Hv;rw [BX,Bf];exact Nat.zero_le _⟩
 |some b=>
  have U:=List.mem_of_getLast? h
  have h1:=CC U
  have h2:=Cp U
  have h3:=Ce n
  exact ⟨by show b.size<=_;omega,by show BX b<=_;omega⟩
structure OtK (st:St) (R:As->St->Prop) (z:Sum Ft (List Fx)):Prop where
 ok:∀env,z=.inr env->∀m,st.le m->R (.ret (.Bc [.slice 3 (Az env) .any,.agg (iE TR 0)])) m
 no:∀f,z=.inl f->f.1≠0->∀t:Tk,f.2=(t.line,t.BT)->∀m,st.le m->R (.ret (.Bc [.slice 3 [] .any,.agg (iE t f.1)])) m
abbrev sy:List V:=[.int .i64 0,.int .i64 0,.str [],.int .i64 0,.int .i64 0,.slice 6 [] .full,.int .i64 0,.str [],.int .i64 0,.int .i64 0,.int .i64 0]
def TdJ (st:St) (U:Nat) (z:Sum Ft (List Fx)) (c:List Fx->Sum Ft (List Fx)) (bd:Nat) (v:V) (d:List V) (m:St):Prop:=
 (∃env o,v=.slice 3 (Az env) o/\d=sy/\PU st m o env/\z=c env/\U<=env.length/\env.length+bd<=900000000)\/∃f t,v=.slice 3 [] .any/\d=iE t f.1/\z=.inl f/\f.1≠0/\f.2=(t.line,t.BT)/\st.le m
def CpJ (st:St) (z:Sum Ft (List Fx)) (c:List Fx->Sum Ft (List Fx)) (bd:Nat) (v:V) (d:List V) (m:St):Prop:=
 (∃env o,v=.slice 3 (Az env) o/\d=sy/\St.le st m/\z=c env/\env.length+bd<=900000000)\/∃f t,v=.slice 3 [] .any/\d=iE t f.1/\z=.inl f/\f.1≠0/\f.2=(t.line,t.BT)/\st.le m
section
variable {st:St} {R:As->St->Prop}
attribute [local irreducible] Go.Aw.Aj
theorem N0 {st0:St} {o:AH} {l:List Nd} (hx:PU st0 st o env) (hn:env.length+AD l<=900000000) (hs:AD l<=100000000) (ht:Bf l<=100000000)
 (h1:∀env',DH env.length l env=.inr env'->∀U m,PU st0 m U env'->R (.ret (.Bc [.slice 3 (Az env') U,.agg sy])) m) (h2:∀f,DH env.length l env=.inl f->f.1≠0->∀t:Tk,f.2=(t.line,t.BT)->∀m,st0.le m->R (.ret (.Bc [.slice 3 [] .any,.agg (iE t f.1)])) m):PC 99 [.slice 3 (Az env) o,.int .i64 (env.length:Nat),.slice 6 (Bg l) .any] st R:=
 qW hx (Nat.le_refl _) hn hs ht ⟨h1,λf e=>h2 f e (LM e)⟩
theorem Zw (hn:env.length+2*n.size<=900000000) (hs:n.size<=100000000) (ht:BX n<=100000000) (h:OtK st R (HC env n)):PC 97 [.slice 3 (Az env) w,enc n] st R:=by
 have hl:=KR n
 have hi:=EM n 1
 have hw:=HB n
 have hks:=FL n
 have htk:=Ce n
 unfold HC at h
 refine pB Tryz.func97 ?_
 by_cases h1:n.kind=53
 .rw [if_pos h1] at h
  have hz:∀{z:Sum Ft (List Fx)},(match DH env.length (CP n) env with| .inl e=>.inl e| .inr out=>Ex env.length (CP n) out)=z->OtK st R z:=λe=>e ▸ h
  repeat' ((conv=>whnf);first|exact Bi|(refine AE ?_;intros)|(refine Bj ?_ ?_ ?_;rotate_left)|(refine Bb ?_ ?_<;>intro _)|refine SG rfl ?_|refine Wq (a:=(n.kids.length:Int) - 1) AC AC ?_|refine K2 AC (λo1 m1 hx1=>?_)|refine BK (λ_=>?_)|refine N0 ‹_› AC AC AC (λU he o2 m2 hx2=>?_) (λf he hf t ht2 m2 hle=>?_)|fail)
  all_goals rw [he] at hz
  .have hlen:=EW he
   have hz1:OtK st R (Ex env.length (CP n) U):=hz rfl
   refine B5 (α:=Nat×V×List V×St) (λy=>[(7,y.2.1),(9,.int .i64 (y.1:Nat))]) [0,3,5,6,8] (λy=>[(2,y.2.2.1)]) [0,1] (λy=>y.2.2.2) (λy=>y.1<=(CP n).length/\TdJ st env.length (Ex env.length (CP n) U) (Ex env.length ((CP n).drop y.1)) (AD ((CP n).drop y.1)) y.2.1 y.2.2.1 y.2.2.2) (λy=>(CP n).length - y.1) (0,.slice 3 (Az U) o2,sy,m2) ⟨Nat.zero_le _,.inl ⟨U,o2,rfl,rfl,hx2,rfl,hlen.1,by dsimp only;rw [List.drop_zero];omega⟩⟩ Yl (St.le_refl _) ?_
   clear he hx2
   rintro ⟨i,v,d,m⟩ ⟨j0,⟨e1,o3,rfl,rfl,j1,j2,j3,j4⟩|⟨f,t,rfl,rfl,j1,j2,j3,j4⟩⟩
   .dsimp only at j0 j1 j2 j3 j4
    by_cases hlt:i<(CP n).length
    .obtain ⟨x,hx⟩:∃x,(CP n)[(i:Int).toNat]? =some x:=⟨_,List.getElem?_eq_getElem hlt⟩
     have hx':(CP n)[i]? =some x:=hx
     rw [Gx hx'] at j4
     rw [drop_at hx',Ex] at j2
     have hxt:=Cp (List.mem_of_getElem? hx)
     have hxs:=G5 (List.mem_of_getElem? hx)
     have hxw:=HB x
     have hli:(i:Int)<((CP n).length:Int):=AC
     rw [To] at j2 hxw
     by_cases hc:x.kind=44/\(Jr x).kind=31
     .obtain ⟨c1,c2⟩:=hc
      rw [if_pos c1,if_pos c2] at j2
      rw [if_pos c2] at hxw
      repeat' ((conv=>whnf);first|refine Wv hli ?_|exact Bi|(refine AE ?_;intros)|(refine Bj ?_ ?_ ?_;rotate_left)|(refine Bb ?_ ?_<;>intro _)|refine Wm hx AC ?_|refine Qy ?_|refine BK (λ_=>?_)|refine SG rfl ?_|refine Wq (a:=((Jr x).kids.length:Int) - 1) AC AC ?_|refine qW j1 j3 AC AC AC ⟨λe2 he o4 m4 hx4=>?_,λf he t ht2 m4 hle=>?_⟩|refine Wq (a:=(i:Int)+1) AC AC ?_|fail)
      all_goals conv=>whnf
      .have h3:=EW he
       rw [he] at j2
       exact ⟨(i+1,.slice 3 (Az e2) o4,sy,m4),⟨hlt,.inl ⟨e2,o4,rfl,rfl,hx4,j2,AC,RL⟩⟩,Nat.sub_lt_sub_left hlt (Nat.lt_succ_self i),Yl,St.le_refl _⟩
      .rw [he] at j2
       exact ⟨(i+1,.slice 3 [] .any,iE t f.1,m4),⟨hlt,.inr ⟨f,t,rfl,rfl,j2,LM he,ht2,hle⟩⟩,Nat.sub_lt_sub_left hlt (Nat.lt_succ_self i),Yl,St.le_refl _⟩
     .have j2':Ex env.length (CP n) U=Ex env.length ((CP n).drop (i+1)) e1:=by
       by_cases c1:x.kind=44
       .rw [if_pos c1,if_neg (λc2=>hc ⟨c1,c2⟩),DH] at j2
        exact j2
       .rw [if_neg c1] at j2
        exact j2
      repeat' ((conv=>whnf);first|refine Wv hli ?_|exact Bi|(refine AE ?_;intros)|(refine Bj ?_ ?_ ?_;rotate_left)|(refine Bb ?_ ?_<;>intro _)|refine Wm hx AC ?_|refine Qy ?_|refine Wq (a:=(i:Int)+1) AC AC ?_|fail)
      all_goals conv=>whnf
      all_goals first
       |exact ⟨(i+1,.slice 3 (Az e1) o3,sy,m),⟨hlt,.inl ⟨e1,o3,rfl,rfl,j1,j2',j3,RL⟩⟩,Nat.sub_lt_sub_left hlt (Nat.lt_succ_self i),Yl,St.le_refl _⟩
       |exact absurd ⟨FS,FS⟩ hc
    .rw [List.drop_of_length_le AC,Ex] at j2
     rw [j2] at hz1
     have hli:¬(i:Int)<((CP n).length:Int):=AC
     repeat' ((conv=>whnf);first|refine Ww hli ?_|exact Bi|(refine AE ?_;intros)|(refine Bj ?_ ?_ ?_;rotate_left)|(refine Bb ?_ ?_<;>intro _)|refine zqq 4 [3] [1] ?_|refine zqs [1,5,7,9,2,10,12,15,17,19,20] [1] ?_|refine zqs [1,5,7,9,11,13,15,17,2,18,20,23,25,27,28] [1] ?_|refine zqs [1,5,7,9,11,13,15,17,2,18,20,23,25,27,29,30] [5] ?_|refine zqq 4 [3] [1] ?_|fail)
     all_goals exact AF rfl (hz1.ok _ rfl _ j1.le)
   .dsimp only at j0 j1 j2 j3 j4
    rw [j1] at hz1
    repeat' ((conv=>whnf);first|exact Bi|(refine AE ?_;intros)|(refine Bj ?_ ?_ ?_;rotate_left)|(refine Bb ?_ ?_<;>intro _)|refine zqq 4 [3] [1] ?_|refine zqs [1,5,7,9,2,10,12,15,17,19,20] [1] ?_|refine zqs [1,5,7,9,11,13,15,17,2,18,20,23,25,27,28] [1] ?_|refine zqs [1,5,7,9,11,13,15,17,2,18,20,23,25,27,29,30] [5] ?_|refine zqq 4 [3] [1] ?_|fail)
    all_goals exact AF rfl (hz1.no _ rfl j2 _ j3 _ j4)
  .refine B5 (α:=Unit) (λy=>[]) [0,3,5,6,7,8,9] (λy=>[]) [0,1,2] (λy=>m2) (λy=>True) (λy=>0) () trivial Yl (St.le_refl _) ?_
   rintro _ _
   repeat' ((conv=>whnf);first|exact Bi|(refine AE ?_;intros)|(refine Bj ?_ ?_ ?_;rotate_left)|(refine Bb ?_ ?_<;>intro _)|refine zqq 4 [3] [1] ?_|refine zqs [1,5,7,9,2,10,12,15,17,19,20] [1] ?_|refine zqs [1,5,7,9,11,13,15,17,2,18,20,23,25,27,28] [1] ?_|refine zqs [1,5,7,9,11,13,15,17,2,18,20,23,25,27,29,30] [5] ?_|refine zqq 4 [3] [1] ?_|fail)
   all_goals exact AF rfl ((hz rfl).no _ rfl hf _ ht2 _ hle)
 rw [if_neg h1] at h
 by_cases h2:n.kind=24
 .rw [if_pos h2] at h
  have hit:∀{st:St} {R:As->St->Prop},R (.ret (.slice 6 (Bg (DN n 1)) .any)) st->PC 101 [enc n,.int .i64 1] st R:=λh=>NU (i:=1) h
  repeat' ((conv=>whnf);first|exact Bi|(refine AE ?_;intros)|(refine Bj ?_ ?_ ?_;rotate_left)|(refine Bb ?_ ?_<;>intro _)|refine K2 AC (λo1 m1 hx1=>?_)|refine BK (λ_=>?_)|refine hit ?_|refine N0 ‹_› AC AC AC (λU he o2 m2 hx2=>?_) (λf he hf t ht2 m2 hle=>?_)|refine zqq 4 [3] [1] ?_|refine zqs [1,5,7,9,2,10,12,15,17,19,20] [1] ?_|refine zqs [1,5,7,9,11,13,15,17,2,18,20,23,25,27,28] [1] ?_|refine zqs [1,5,7,9,11,13,15,17,2,18,20,23,25,27,29,30] [5] ?_|refine zqq 4 [3] [1] ?_|fail)
  .exact AF rfl (h.ok _ he _ hx2.le)
  .exact AF rfl (h.no _ he hf _ ht2 _ hle)
 rw [if_neg h2] at h
 by_cases h3:n.kind=29
 .rw [if_pos h3] at h
  rw [To] at h hw
  have hlz:=Yu n
  by_cases h31:(Jr n).kind=31
  .rw [if_pos h31] at h hw
   have hlk:=Gw (Jr n)
   repeat' ((conv=>whnf);first|exact Bi|(refine AE ?_;intros)|(refine Bj ?_ ?_ ?_;rotate_left)|(refine Bb ?_ ?_<;>intro _)|refine Qy ?_|refine K2 AC (λo1 m1 hx1=>?_)|refine BK (λ_=>?_)|refine SG rfl ?_|refine Wq (a:=((Jr n).kids.length:Int) - 1) AC AC ?_|refine N0 ‹_› AC AC AC (λU he o2 m2 hx2=>?_) (λf he hf t ht2 m2 hle=>?_)|refine zqq 4 [3] [1] ?_|refine zqs [1,5,7,9,2,10,12,15,17,19,20] [1] ?_|refine zqs [1,5,7,9,11,13,15,17,2,18,20,23,25,27,28] [1] ?_|refine zqs [1,5,7,9,11,13,15,17,2,18,20,23,25,27,29,30] [5] ?_|refine zqq 4 [3] [1] ?_|fail)
   .exact AF rfl (h.ok _ he _ hx2.le)
   .exact AF rfl (h.no _ he hf _ ht2 _ hle)
  .rw [if_neg h31,DH] at h
   repeat' ((conv=>whnf);first|exact Bi|(refine AE ?_;intros)|(refine Bj ?_ ?_ ?_;rotate_left)|(refine Bb ?_ ?_<;>intro _)|refine Qy ?_|fail)
   all_goals exact AF rfl (h.ok _ rfl _ (St.le_refl _))
 rw [if_neg h3] at h
 by_cases h4:n.kind=8
 .rw [if_pos h4] at h
  repeat' ((conv=>whnf);first|exact Bi|(refine AE ?_;intros)|(refine Bj ?_ ?_ ?_;rotate_left)|(refine Bb ?_ ?_<;>intro _)|fail)
  refine B5 (α:=Nat×V×List V×St) (λy=>[(0,y.2.1),(13,.int .i64 (y.1:Nat))]) [3,5,12] (λy=>[(2,y.2.2.1)]) [0,1] (λy=>y.2.2.2) (λy=>CpJ st (Kl (n.kids.drop 2) env) (Kl (n.kids.drop y.1)) (AD (n.kids.drop y.1)) y.2.1 y.2.2.1 y.2.2.2) (λy=>n.kids.length - y.1) (2,.slice 3 (Az env) w,sy,st) (.inl ⟨env,w,rfl,rfl,St.le_refl _,rfl,by have:=K6 n.kids 2;dsimp only;omega⟩) Yl (St.le_refl _) ?_
  rintro ⟨i,v,d,m⟩ (⟨e1,o3,rfl,rfl,j1,j2,j4⟩|⟨f,t,rfl,rfl,j1,j2,j3,j4⟩)
  .dsimp only at j1 j2 j4
   by_cases hlt:i<n.kids.length
   .obtain ⟨x,hx⟩:∃x,n.kids[(i:Int).toNat]? =some x:=⟨_,List.getElem?_eq_getElem hlt⟩
    have hx':n.kids[i]? =some x:=hx
    have hxt:=Cp (List.mem_of_getElem? hx)
    have hxi:=EM x 1
    have hxs:=G5 (List.mem_of_getElem? hx)
    rw [Gx hx'] at j4
    rw [drop_at hx',Kl] at j2
    have hli:(i:Int)<(n.kids.length:Int):=AC
    have hit:∀{st:St} {R:As->St->Prop},R (.ret (.slice 6 (Bg (DN x 1)) .any)) st->PC 101 [enc x,.int .i64 1] st R:=λh=>NU (i:=1) h
    by_cases hk:x.kind=33
    .rw [if_pos hk] at j2
     repeat' ((conv=>whnf);first|refine Wv hli ?_|refine Wm hx AC ?_|exact Bi|(refine AE ?_;intros)|(refine Bj ?_ ?_ ?_;rotate_left)|(refine Bb ?_ ?_<;>intro _)|refine BK (l:=e1) (λ_=>?_)|refine hit ?_|refine K2 (l:=e1) AC (λo1 m1 hx1=>?_)|refine N0 (env:=e1) ‹_› AC AC AC (λU he o2 m2 hx2=>?_) (λf he hf t ht2 m2 hle=>?_)|refine Wq (a:=(i:Int)+1) AC AC ?_|refine Ab [(0,true),(2,true),(3,true),(4,true),(5,true),(6,true),(7,true),(8,true),(1,false),(9,false),(10,false),(11,true),(12,true),(13,true),(14,true),(15,false)] [2] EQ ?_|fail)
     all_goals rw [he] at j2
     all_goals conv=>whnf
     .have h3:=EW he
      exact ⟨(i+1,.slice 3 (Az U) o2,sy,m2),.inl ⟨U,o2,rfl,rfl,St.le_trans j1 hx2.le,j2,RL⟩,Nat.sub_lt_sub_left hlt (Nat.lt_succ_self i),Yl,St.le_refl _⟩
     .exact ⟨(i+1,.slice 3 [] .any,iE t f.1,m2),.inr ⟨f,t,rfl,rfl,j2,hf,ht2,St.le_trans j1 hle⟩,Nat.sub_lt_sub_left hlt (Nat.lt_succ_self i),Yl,St.le_refl _⟩
    .rw [if_neg hk] at j2
     repeat' ((conv=>whnf);first|refine Wv hli ?_|refine Wm hx AC ?_|exact Bi|(refine AE ?_;intros)|(refine Bj ?_ ?_ ?_;rotate_left)|(refine Bb ?_ ?_<;>intro _)|refine Wq (a:=(i:Int)+1) AC AC ?_|fail)
     all_goals conv=>whnf
     all_goals exact ⟨(i+1,.slice 3 (Az e1) o3,sy,m),.inl ⟨e1,o3,rfl,rfl,j1,j2,RL⟩,Nat.sub_lt_sub_left hlt (Nat.lt_succ_self i),Yl,St.le_refl _⟩
   .have e:n.kids.drop i=[]:=List.drop_of_length_le AC
    rw [e,Kl] at j2
    have h9:=h.ok _ j2 _ j1
    have hli:¬(i:Int)<(n.kids.length:Int):=AC
    repeat' ((conv=>whnf);first|refine Ww hli ?_|exact Bi|(refine AE ?_;intros)|(refine Bj ?_ ?_ ?_;rotate_left)|(refine Bb ?_ ?_<;>intro _)|refine zqq 4 [3] [1] ?_|refine zqs [1,5,7,9,2,10,12,15,17,19,20] [1] ?_|refine zqs [1,5,7,9,11,13,15,17,2,18,20,23,25,27,28] [1] ?_|refine zqs [1,5,7,9,11,13,15,17,2,18,20,23,25,27,29,30] [5] ?_|refine zqq 4 [3] [1] ?_|fail)
    all_goals exact AF rfl h9
  .dsimp only at j1 j2 j3 j4
   have h9:=h.no _ j1 j2 _ j3 _ j4
   repeat' ((conv=>whnf);first|exact Bi|(refine AE ?_;intros)|(refine Bj ?_ ?_ ?_;rotate_left)|(refine Bb ?_ ?_<;>intro _)|refine zqq 4 [3] [1] ?_|refine zqs [1,5,7,9,2,10,12,15,17,19,20] [1] ?_|refine zqs [1,5,7,9,11,13,15,17,2,18,20,23,25,27,28] [1] ?_|refine zqs [1,5,7,9,11,13,15,17,2,18,20,23,25,27,29,30] [5] ?_|refine zqq 4 [3] [1] ?_|fail)
   all_goals exact AF rfl h9
 rw [if_neg h4] at h
 repeat' ((conv=>whnf);first|exact Bi|(refine AE ?_;intros)|(refine Bj ?_ ?_ ?_;rotate_left)|(refine Bb ?_ ?_<;>intro _)|fail)
 all_goals exact AF rfl (h.ok _ rfl _ (St.le_refl _))
end
def uG:Option (Nd×List Nd)->List V
 |some q=>[.int .i64 q.1.kind,.int .i64 q.1.form,.str q.1.text,.int .i64 q.1.line,.int .i64 q.1.BT,.slice 6 (Bg q.1.kids) .any,.slice 6 (Bg q.2) .any,.bool true]
 |none=>[.int .i64 0,.int .i64 0,.str [],.int .i64 0,.int .i64 0,.slice 6 [] .any,.slice 6 [] .any,.bool false]
def Oe (env:List Fx) (k:Nat):Prop:=∀{op:List UInt8} {o:Fx} {l:List Nd} {w:AH} {st:St} {R:As->St->Prop},l.length<k->CB true l=true->Bf l<=100000000->(∀st',st.le st'->R (.ret (.agg (uG (Df env k o l)))) st')->PC 147 [.slice 3 (Az env) w,.agg [.str op,.int .i64 o.side,.int .i64 o.prec],.slice 6 (Bg l) .any] st R
def dS (env:List Fx) (k:Nat):Prop:=∀{op:List UInt8} {o:Fx} {n:Nd} {l:List Nd} {w:AH} {st:St} {R:As->St->Prop},l.length<k->CB false l=true->Bf l<=100000000->(∀st',st.le st'->R (.ret (.agg (uG (Eg env k o n l)))) st')->PC 184 [.slice 3 (Az env) w,.agg [.str op,.int .i64 o.side,.int .i64 o.prec],enc n,.slice 6 (Bg l) .any] st R
section
variable {st:St} {R:As->St->Prop}
theorem sU {k:Nat} (hB:Oe env k) (hG:dS env k):Oe env (k+1):=by
 intro op o l w st R hl hr ht h
 cases l with
 |nil=>cases hr
 |cons n r=>
  rw [Df] at h
  rw [CB] at hr
  rw [Bf] at ht
  rw [List.length_cons] at hl
  refine pB Tryz.func147 ?_
  by_cases h1:n.kind=19
  .rw [if_pos h1] at h hr
   by_cases h2:6<=o.prec
   .rw [if_pos h2] at h
    repeat' ((conv=>whnf);first|refine Wm (ks:=n::r) rfl Do ?_|exact Bi|(refine AE ?_;intros)|(refine Bj ?_ ?_ ?_;rotate_left)|fail)
    all_goals exact AF rfl (h _ (St.le_refl _))
   .rw [if_neg h2] at h
    have hb:∀{U:St} {R:As->St->Prop},(∀st',U.le st'->R (.ret (.agg (uG (Df env k ⟨[],1,6⟩ r)))) st')->PC 147 [.slice 3 (Az env) w,.agg [.str [45],.int .i64 1,.int .i64 6],.slice 6 (Bg r) .any] U R:=λh=>hB (o:=⟨[],1,6⟩) AC hr AC h
    cases hz:Df env k ⟨[],1,6⟩ r with
    |none=>
     rw [hz] at h hb
     repeat' ((conv=>whnf);first|refine Wm (ks:=n::r) rfl Do ?_|refine tail_cons ?_|exact Bi|(refine AE ?_;intros)|(refine Bj ?_ ?_ ?_;rotate_left)|refine hb (λst2 hl2=>?_)|fail)
     all_goals exact AF rfl (h _ hl2)
    |some q=>
     rw [hz] at h hb
     obtain ⟨ok1,ok2,ok3⟩:=Ji k hz hr
     have hg:∀{U:St} {R:As->St->Prop},(∀st',U.le st'->R (.ret (.agg (uG (Eg env k o (At 21 [n,q.1]) q.2)))) st')->PC 184 [.slice 3 (Az env) w,.agg [.str op,.int .i64 o.side,.int .i64 o.prec],.agg [.int .i64 21,.int .i64 0,.str [],.int .i64 0,.int .i64 0,.slice 6 [AK n,AK q.1] .full],.slice 6 (Bg q.2) .any] U R:=λh=>DQ (args':=[.slice 3 (Az env) .any,.agg [.str op,.int .i64 o.side,.int .i64 o.prec],.agg [.int .i64 21,.int .i64 0,.str [],.int .i64 0,.int .i64 0,.slice 6 [AK n,AK q.1] .any],.slice 6 (Bg q.2) .any]) rfl (by
      rw [<-xj]
      exact hG (n:=At 21 [n,q.1]) AC ok1 AC h)
     replace h:∀st',st.le st'->R (.ret (.agg (uG (Eg env k o (At 21 [n,q.1]) q.2)))) st':=h
     rcases hz2:Eg env k o (At 21 [n,q.1]) q.2 with _|q2
     all_goals rw [hz2] at h hg
     all_goals (repeat' ((conv=>whnf);first|refine Wm (ks:=n::r) rfl Do ?_|refine tail_cons ?_|exact Bi|(refine AE ?_;intros)|(refine Bj ?_ ?_ ?_;rotate_left)|refine hb (λst2 hl2=>?_)|refine hg (λst3 hl3=>?_)|refine zqq 9 [7,8] [1] ?_|refine zqq 13 [11,12] [1] ?_|fail))
     all_goals exact AF rfl (h _ (St.le_trans hl2 hl3))
  .rw [if_neg h1] at h hr
   have h2:¬n.kind=18:=λe=>by rw [if_pos e] at hr;cases hr
   rw [if_neg h2] at hr
   have hg:∀{U:St} {R:As->St->Prop},(∀st',U.le st'->R (.ret (.agg (uG (Eg env k o n r)))) st')->PC 184 [.slice 3 (Az env) w,.agg [.str op,.int .i64 o.side,.int .i64 o.prec],enc n,.slice 6 (Bg r) .any] U R:=λh=>hG AC hr AC h
   rcases hz2:Eg env k o n r with _|q2
   all_goals rw [hz2] at h hg
   all_goals (repeat' ((conv=>whnf);first|refine Wm (ks:=n::r) rfl Do ?_|refine tail_cons ?_|exact Bi|(refine AE ?_;intros)|(refine Bj ?_ ?_ ?_;rotate_left)|refine hg (λst3 hl3=>?_)|refine zqq 9 [7,8] [1] ?_|refine zqq 13 [11,12] [1] ?_|fail))
   all_goals exact AF rfl (h _ hl3)
def ThJ (env:List Fx) (o:Fx) (k:Nat) (z:Option (Nd×List Nd)) (n:Nd) (l:List Nd) (U:Nat):Prop:=U<=k+1/\z=Eg env U o n l/\l.length<U/\CB false l=true/\Bf l<=100000000
theorem y8 {k:Nat} (hn:env.length<=1000000000) (hB:∀j,j<=k->Oe env j):dS env (k+1):=by
 intro op o n l w st R hl hr ht h
 generalize hz:Eg env (k+1) o n l=z at h
 refine AM Ac [] Tryz.func184 rfl Do rfl ?_
 refine Ad (Af Ac ?_)
 repeat' ((conv=>whnf);first|exact Bi|(refine AE ?_;intros)|(refine Bj ?_ ?_ ?_;rotate_left)|(refine Bb ?_ ?_<;>intro _)|fail)
 have e0:AK n=sk n .any:=rfl
 refine Ad (FP (Kx (α:=Nat×Nd×AH×List Nd×St) (λy=>[(3,.slice 6 (Bg y.2.2.2.1) .any)]) (λy=>[(1,sk y.2.1 y.2.2.1)]) [0,5,6,8] [0,2] (λy=>y.2.2.2.2) (λy=>st.le y.2.2.2.2/\ThJ env o k z y.2.1 y.2.2.2.1 y.1) (λy=>y.2.2.2.1.length) (k+1,n,.any,l,st) ⟨St.le_refl _,Nat.le_refl _,hz.symm,hl,hr,ht⟩ Yl (St.le_refl _) ?_))
 rintro ⟨k',n,wn,l,m⟩ ⟨hle,g1,g2,g3,g4,g5⟩
 clear hz hr hl ht
 dsimp only at hle g1 g2 g3 g4 g5 |-
 obtain ⟨k3,rfl⟩:∃k3,k'=k3+1:=⟨k' - 1,AC⟩
 cases l with
 |nil=>
  rw [Eg] at g2
  subst g2
  refine Ad (Af Ac ?_)
  repeat' ((conv=>whnf);first|refine IU (n:=0) rfl ?_|exact Bi|(refine AE ?_;intros)|(refine Bj ?_ ?_ ?_;rotate_left)|(refine Bb ?_ ?_<;>intro _)|fail)
  all_goals refine Af Ac ?_
  all_goals (repeat' ((conv=>whnf);first|exact Bi|(refine AE ?_;intros)|(refine Bj ?_ ?_ ?_;rotate_left)|(refine Bb ?_ ?_<;>intro _)|fail))
  all_goals exact AF rfl (h _ hle)
 |cons p r=>
  rw [List.length_cons] at g3
  rw [Bf] at g5
  rw [Eg] at g2
  rw [CB] at g4
  have hpos:(0:Int)<((r.length+1:Nat):Int):=AC
  cases hnp:Hp p with
  |none=>rw [hnp] at g4;cases g4
  |some t=>
   rw [hnp] at g4
   have hrw:CB true r=true:=g4
   have hfx:RJ env p=Hi env t:=by unfold RJ;rw [hnp];rfl
   rw [hfx] at g2
   have hnm:∀{st:St} {R:As->St->Prop},R (.ret (.Bc [.str t,.bool true])) st->PC 183 [enc p] st R:=λh=>NX AC (λt' e=>by rw [hnp] at e;cases e;exact h) (λe=>by rw [hnp] at e;cases e)
   refine Ad (Af Ac ?_)
   repeat' ((conv=>whnf);first|refine IU (n:=r.length+1) (List.length_map ..) ?_|refine Wv hpos ?_|exact Bi|(refine AE ?_;intros)|(refine Bj ?_ ?_ ?_;rotate_left)|(refine Bb ?_ ?_<;>intro _)|fail)
   refine FP (Ad (Af Ac ?_))
   repeat' ((conv=>whnf);first|refine Wm (ks:=p::r) rfl Do ?_|exact Bi|(refine AE ?_;intros)|(refine Bj ?_ ?_ ?_;rotate_left)|(refine Bb ?_ ?_<;>intro _)|refine hnm ?_|fail)
   refine Ad (Af Ac ?_)
   generalize hF:Hi env t=f at g2
   have hfi:∀{st:St} {R:As->St->Prop},(∀st',st.le st'->R (.ret (.agg f.cells)) st')->PC 219 [.slice 3 (Az env) w,.str t] st R:=λh=>uK hn (by rw [hF];exact h)
   repeat' ((conv=>whnf);first|exact Bi|(refine AE ?_;intros)|(refine Bj ?_ ?_ ?_;rotate_left)|(refine Bb ?_ ?_<;>intro _)|refine hfi (λst1 U=>?_)|fail)
   clear hfi hnm hF
   by_cases c1:o.prec=f.prec/\(o.side≠f.side\/o.side=3)
   .rw [if_pos c1] at g2
    subst g2
    refine Ad (Af Ac ?_)
    repeat' ((conv=>whnf);first|exact Bi|(refine AE ?_;intros)|(refine Bj ?_ ?_ ?_;rotate_left)|(refine Bb ?_ ?_<;>intro _)|fail)
    all_goals try (exfalso;omega)
    all_goals exact AF rfl (h _ (St.le_trans hle U))
   .rw [if_neg c1] at g2
    refine Ad (Af Ac ?_)
    repeat' ((conv=>whnf);first|exact Bi|(refine AE ?_;intros)|(refine Bj ?_ ?_ ?_;rotate_left)|(refine Bb ?_ ?_<;>intro _)|fail)
    all_goals try (exfalso;omega)
    all_goals by_cases c2:f.prec<o.prec\/o.prec=f.prec/\o.side=1
    all_goals refine Ad (Af Ac ?_)
    all_goals (repeat' ((conv=>whnf);first|exact Bi|(refine AE ?_;intros)|(refine Bj ?_ ?_ ?_;rotate_left)|(refine Bb ?_ ?_<;>intro _)|fail))
    all_goals try (exfalso;omega)
    all_goals first
     |(rw [if_pos AC] at g2
       subst g2
       refine Af Ac ?_
       repeat' ((conv=>whnf);first|exact Bi|(refine AE ?_;intros)|(refine Bj ?_ ?_ ?_;rotate_left)|(refine Bb ?_ ?_<;>intro _)|fail)
       all_goals exact AF rfl (h _ (St.le_trans hle U)))
     |(rw [if_neg AC] at g2
       cases hq:Df env k3 f r with
       |none=>
        rw [hq] at g2
        subst g2
        have hb2:∀{st1:St} {R:As->St->Prop},(∀st',st1.le st'->R (.ret (.agg (uG none))) st')->PC 147 [.slice 3 (Az env) w,.agg f.cells,.slice 6 (Bg r) .any] st1 R:=λh=>hB k3 AC AC hrw AC (by rw [hq];exact h)
        refine Ad (HF Ac (Bq _) (λ_ _ _ _ _ h k=>k.mono h) 5 12 [(0,true),(1,true),(2,true),(3,true),(4,false)] [] rfl rfl rfl EQ EQ rfl rfl rfl (Nat.le_of_ble_eq_true rfl) rfl ?_)
        repeat' ((conv=>whnf);first|refine tail_cons ?_|exact Bi|(refine AE ?_;intros)|(refine Bj ?_ ?_ ?_;rotate_left)|(refine Bb ?_ ?_<;>intro _)|refine hb2 (λst2 hl2=>?_)|fail)
        refine Ad (Af Ac ?_)
        repeat' ((conv=>whnf);first|exact Bi|(refine AE ?_;intros)|(refine Bj ?_ ?_ ?_;rotate_left)|(refine Bb ?_ ?_<;>intro _)|fail)
        all_goals exact AF rfl (h _ (St.le_trans hle (St.le_trans U hl2)))
       |some q=>
        rw [hq] at g2
        obtain ⟨ok1,ok2,ok3⟩:=Ji k3 hq hrw
        have hb2:∀{st1:St} {R:As->St->Prop},(∀st',st1.le st'->R (.ret (.agg (uG (some q)))) st')->PC 147 [.slice 3 (Az env) w,.agg f.cells,.slice 6 (Bg r) .any] st1 R:=λh=>hB k3 AC AC hrw AC (by rw [hq];exact h)
        refine Ad (HF Ac (Bq _) (λ_ _ _ _ _ h k=>k.mono h) 5 12 [(0,true),(1,true),(2,true),(3,true),(4,false)] [] rfl rfl rfl EQ EQ rfl rfl rfl (Nat.le_of_ble_eq_true rfl) rfl ?_)
        repeat' ((conv=>whnf);first|refine tail_cons ?_|exact Bi|(refine AE ?_;intros)|(refine Bj ?_ ?_ ?_;rotate_left)|(refine Bb ?_ ?_<;>intro _)|refine hb2 (λst2 hl2=>?_)|fail)
        refine Ad (Af Ac ?_)
        repeat' ((conv=>whnf);first|exact Bi|(refine AE ?_;intros)|(refine Bj ?_ ?_ ?_;rotate_left)|(refine Bb ?_ ?_<;>intro _)|fail)
        refine Af Ac ?_
        repeat' ((conv=>whnf);first|refine Wm (ks:=p::r) rfl Do ?_|exact Bi|(refine AE ?_;intros)|(refine Bj ?_ ?_ ?_;rotate_left)|(refine Bb ?_ ?_<;>intro _)|refine zqq 7 [4,5,6] [4] ?_|refine zqq 9 [8] [1] ?_|fail)
        all_goals conv=>whnf
        all_goals exact ⟨(k3,At 20 [n,p,q.1],.full,q.2,st2),⟨St.le_trans hle (St.le_trans U hl2),RL,g2,RL,ok1,RL⟩,by show q.2.length<(p::r).length;rw [List.length_cons];omega,by dsimp only;rw [xk];exact Yl,St.le_refl _⟩)
theorem sR (env:List Fx):Oe env 0:=λh=>absurd h (Nat.not_lt_zero _)
theorem y7 (env:List Fx):dS env 0:=λh=>absurd h (Nat.not_lt_zero _)
theorem fP {env:List Fx} (hn:env.length<=1000000000):∀k,(∀j,j<=k->Oe env j)/\dS env k
 |0=>⟨λj U=>by
   obtain rfl:j=0:=AC
   exact sR env,y7 env⟩
 |k+1=>by
  obtain ⟨h1,h2⟩:=fP hn k
  have h3:Oe env (k+1):=sU (h1 k (Nat.le_refl _)) h2
  exact ⟨λj U=>by
   rcases Nat.lt_or_ge j (k+1) with h|h
   .exact h1 j AC
   .obtain rfl:j=k+1:=AC
    exact h3,y8 hn h1⟩
theorem qq (hn:env.length<=1000000000) (ht:BX n<=100000000) (h1:∀t,OL env n=.inr t->∀m,st.le m->R (.ret (.Bc [enc t,.int .i64 0])) m) (h2:∀e,OL env n=.inl e->∀m,st.le m->R (.ret (.Bc [enc Hv,.int .i64 e])) m):PC 102 [.slice 3 (Az env) w,enc n] st R:=by
 have htk:=Ce n
 refine pB Tryz.func102 ?_
 unfold OL at h1 h2
 by_cases hk:n.kind=17
 .rw [if_pos hk] at h1 h2
  cases hr:CB true n.kids with
  |false=>
   rw [hr,if_neg Do] at h2
   have U:∀{st:St} {R:As->St->Prop},R (.ret (.bool false)) st->PC 146 [.slice 6 (Bg n.kids) .any] st R:=λh=>qv AC (by rw [hr];exact h)
   repeat' ((conv=>whnf);first|(refine AE ?_;intros)|refine U ?_)
   all_goals exact AF rfl (h2 _ rfl _ (St.le_refl _))
  |true=>
   rw [hr,if_pos rfl] at h1 h2
   have U:∀{st:St} {R:As->St->Prop},R (.ret (.bool true)) st->PC 146 [.slice 6 (Bg n.kids) .any] st R:=λh=>qv AC (by rw [hr];exact h)
   have hb:∀{st1:St} {R:As->St->Prop},(∀st',st1.le st'->R (.ret (.agg (uG (Df env (2*n.kids.length+2) ⟨[],3, -1⟩ n.kids)))) st')->PC 147 [.slice 3 (Az env) w,.agg [.str [],.int .i64 3,.int .i64 (-1)],.slice 6 (Bg n.kids) .any] st1 R:=λh=>(fP hn (2*n.kids.length+2)).1 _ (Nat.le_refl _) (o:=⟨[],3, -1⟩) AC hr AC h
   cases hz:Df env (2*n.kids.length+2) ⟨[],3, -1⟩ n.kids with
   |none=>
    rw [hz] at h2 hb
    repeat' ((conv=>whnf);first|(refine AE ?_;intros)|refine U ?_|refine hb (λst2 hl2=>?_))
    all_goals exact AF rfl (h2 _ rfl _ hl2)
   |some q=>
    rw [hz] at h1 hb
    repeat' ((conv=>whnf);first|(refine AE ?_;intros)|refine U ?_|refine hb (λst2 hl2=>?_))
    all_goals exact AF rfl (h1 _ rfl _ hl2)
 .rw [if_neg hk] at h1 h2
  repeat' ((conv=>whnf);first|(refine AE ?_;intros)|fail)
  all_goals exact AF rfl (h1 _ rfl _ (St.le_refl _))
end
theorem Ts.nd1 {st m:St} {o:AH} {l:List Nd} {x:Nd} (h:Ts 6 st m o l.length) (hb:l.length+1<=100000000) (k:∀o' U,Ts 6 st U o' (l++[x]).length->K (.slice 6 (Bg (l++[x])) o') U):Aj 6 72 (Bg l) o [AK x] m K:=by
 have:=Ts.nds (l':=[x]) h hb k
 rw [BF [x]] at this
 exact this
def dnW (n:Nd) (w:AH):List V:=[.int .i64 n.kind,.int .i64 n.form,.str n.text,.int .i64 n.line,.int .i64 n.BT,.slice 6 (Bg n.kids) w,.int .i64 0,.str [],.int .i64 0,.int .i64 0,.int .i64 0]
structure RrK (st:St) (R:As->St->Prop) (z:Sum Ft Nd):Prop where
 ok:∀t,z=.inr t->∀m,st.le m->R (.ret (.agg (dnT t))) m
 no:∀f,z=.inl f->f.1≠0->∀t:Tk,f.2=(t.line,t.BT)->∀m,st.le m->R (.ret (.agg (iE t f.1))) m
def zp (k:Nat):Prop:=∀{env:List Fx} {p:Int} {n:Nd} {w:AH} {st:St} {R:As->St->Prop},n.size<=k->n.size<=100000000->env.length+uX n<=500000000->BX n<=100000000->RrK st R (Ig env p n)->PC 62 [.slice 3 (Az env) w,enc n,.int .i64 p] st R
section
variable {st:St} {R:As->St->Prop}
theorem ZA {p:Int} (h:R (.ret (.bool (MJ n.kind p))) st):PC 98 [enc n,.int .i64 p] st R:=by
 refine pB Tryz.func98 ?_
 unfold MJ at h
 repeat' ((conv=>whnf);first|  (refine Bb ?_ ?_<;>intro _)|fail)
 all_goals conv=>whnf
 all_goals (refine AB h ?_;clear h;simp_all)
section
attribute [local irreducible] Go.Aw.Aj
theorem yK {k:Nat} (ih:zp k):zp (k+1):=by
 intro env p n w st R hz hz2 he ht h
 have htk:=Ce n
 have hsk:=FL n
 have hks:=Gw n
 have htu:=qG n
 have htx:tX n=gd 3 n+2*gd 4 n+gd 6 n:=rfl
 have hg4:(n.kids.map (gd 3)).sum=gd 4 n:=by rw [gd]
 refine AM Ac [] Tryz.func62 rfl Do rfl ?_
 refine Ad (Af Ac ?_)
 repeat' ((conv=>whnf);first|exact Bi|(refine AE ?_;intros)|(refine Bj ?_ ?_ ?_;rotate_left)|(refine Bb ?_ ?_<;>intro _)|fail)
 cases hw:HC env n with
 |inl f=>
  have hr:Ig env p n=.inl f:=by cases n;rw [Ig,hw]
  have hwf:∀{st:St} {R:As->St->Prop},(f.1≠0->∀t:Tk,f.2=(t.line,t.BT)->∀m,st.le m->R (.ret (.Bc [.slice 3 [] .any,.agg (iE t f.1)])) m)->PC 97 [.slice 3 (Az env) w,enc n] st R:=λh=>Zw AC AC ht ⟨λe he=>(by rw [hw] at he;cases he),λf' he=>(by rw [hw] at he;cases he;exact h)⟩
  refine Af Ac ?_
  repeat' ((conv=>whnf);first|exact Bi|(refine AE ?_;intros)|(refine Bj ?_ ?_ ?_;rotate_left)|(refine Bb ?_ ?_<;>intro _)|refine hwf (λhf t ht2 m hle=>?_)|fail)
  all_goals exact AF rfl (h.no _ hr hf _ ht2 _ hle)
 |inr all=>
  have hwl:=Oc hw
  have hwf:∀{st:St} {R:As->St->Prop},(∀m,st.le m->R (.ret (.Bc [.slice 3 (Az all) .any,.agg (iE TR 0)])) m)->PC 97 [.slice 3 (Az env) w,enc n] st R:=λh=>Zw AC AC ht ⟨λe he=>(by rw [hw] at he;cases he;exact h),λf' he=>(by rw [hw] at he;cases he)⟩
  refine Ad (Af Ac ?_)
  repeat' ((conv=>whnf);first|exact Bi|(refine AE ?_;intros)|(refine Bj ?_ ?_ ?_;rotate_left)|(refine Bb ?_ ?_<;>intro _)|refine hwf (λm0 hle0=>?_)|fail)
  refine Ad (Af Ac ?_)
  repeat' ((conv=>whnf);first|exact Bi|(refine AE ?_;intros)|(refine Bj ?_ ?_ ?_;rotate_left)|(refine Bb ?_ ?_<;>intro _)|fail)
  refine Ad (Af Ac ?_)
  repeat' ((conv=>whnf);first|exact Bi|(refine AE ?_;intros)|(refine Bj ?_ ?_ ?_;rotate_left)|(refine Bb ?_ ?_<;>intro _)|fail)
  refine Ad (Af Ac ?_)
  repeat' ((conv=>whnf);first|exact Bi|(refine AE ?_;intros)|(refine Bj ?_ ?_ ?_;rotate_left)|(refine Bb ?_ ?_<;>intro _)|fail)
  have h0:∃here:List Fx,(if n.kind=8 then env else all)=here/\here.length<=env.length+gd 3 n+gd 4 n+gd 6 n:=⟨_,rfl,by split<;>omega⟩
  obtain ⟨here,hh,hhl⟩:=h0
  have hX:Ig env p n=match Gh all n.kind p 0 here n.kids with| .inl e=>.inl e| .inr ks=>X9 all (.mk n.kind n.form n.text n.line n.BT ks):=by
   rw [<-hh]
   cases n;rw [Ig,hw];rfl
  obtain ⟨Z,hZ⟩:∃Z,Gh all n.kind p 0 here n.kids=Z:=⟨_,rfl⟩
  rw [hZ] at hX
  rw [hX] at h
  refine DL (α:=AH) (λo=>[(10,.slice 3 (Az here) o)]) (λ_=>[]) [2,4,6,7,8,9] [0,1,2] (λ_=>m0) (λ_=>True) (Af Ac ?_) ?_
  .by_cases h8:n.kind=8
   .rw [if_pos h8] at hh
    subst hh
    repeat' ((conv=>whnf);first|exact Bi|(refine AE ?_;intros)|(refine Bj ?_ ?_ ?_;rotate_left)|(refine Bb ?_ ?_<;>intro _)|fail)
    all_goals exact ⟨w,trivial,Yl,St.le_refl _⟩
   .rw [if_neg h8] at hh
    subst hh
    repeat' ((conv=>whnf);first|exact Bi|(refine AE ?_;intros)|(refine Bj ?_ ?_ ?_;rotate_left)|(refine Bb ?_ ?_<;>intro _)|fail)
    all_goals exact ⟨.any,trivial,Yl,St.le_refl _⟩
  rintro oh0 _
  clear hh hX
  refine DL (α:=St×List Nd×AH) (λm=>[(9,.slice 6 (Bg m.2.1) m.2.2)]) (λ_=>[]) [4,6,7] [0,1] (λm=>m.1) (λm=>st.le m.1/\Z=.inr m.2.1) ?_ ?_
  .refine Ad (Af Ac ?_)
   repeat' ((conv=>whnf);first|exact Bi|(refine AE ?_;intros)|(refine Bj ?_ ?_ ?_;rotate_left)|(refine Bb ?_ ?_<;>intro _)|fail)
   refine FP (Kx (α:=Nat×List Fx×AH×List Nd×AH×Nd×AH×St) (λy=>[(9,.slice 6 (Bg y.2.2.2.1) y.2.2.2.2.1),(10,.slice 3 (Az y.2.1) y.2.2.1),(11,.int .i64 (y.1:Nat))]) (λy=>[(2,dnW y.2.2.2.2.2.1 y.2.2.2.2.2.2.1)]) [2,4,6,7,8] [0,1] (λy=>y.2.2.2.2.2.2.2) (λy=>y.1<=n.kids.length/\y.2.2.2.1.length=y.1/\Ts 6 st y.2.2.2.2.2.2.2 y.2.2.2.2.1 y.2.2.2.1.length/\Z=jW y.2.2.2.1 (Gh all n.kind p y.1 y.2.1 (n.kids.drop y.1))/\y.2.1.length+((n.kids.drop y.1).map (gd 3)).sum<=env.length+tX n) (λy=>n.kids.length - y.1) (0,here,oh0,[],.full,Hv,.any,m0) ⟨Nat.zero_le _,rfl,⟨hle0,trivial⟩,?_,?_⟩ Yl (St.le_refl _) ?_)
   .rw [List.drop_zero,<-hZ]
    cases Gh all n.kind p 0 here n.kids<;>rfl
   .dsimp only;rw [List.drop_zero];omega
   .rintro ⟨i,e1,oh,acc,ow,dn,wd,m⟩ ⟨j1,j2,j3,U,j6⟩
    dsimp only at j1 j2 j3 U j6 |-
    clear hZ
    by_cases hlt:i<n.kids.length
    .obtain ⟨x,hx⟩:∃x,n.kids[(i:Int).toNat]? =some x:=⟨_,List.getElem?_eq_getElem hlt⟩
     have hx':n.kids[i]? =some x:=hx
     have hmem:=List.mem_of_getElem? hx
     have hxt:=Cp hmem
     have hsz:=CC hmem
     rw [eN hx'] at j6
     have hux:=re hmem
     rw [drop_at hx',Gh] at U
     have hli:(i:Int)<(n.kids.length:Int):=AC
     have hxi:=EM x 1
     refine Ad (Af Ac ?_)
     repeat' ((conv=>whnf);first|refine Wv hli ?_|exact Bi|(refine AE ?_;intros)|(refine Bj ?_ ?_ ?_;rotate_left)|(refine Bb ?_ ?_<;>intro _)|fail)
     refine Ad (FP (Ad (Af Ac ?_)))
     repeat' ((conv=>whnf);first|refine Wm hx AC ?_|exact Bi|(refine AE ?_;intros)|(refine Bj ?_ ?_ ?_;rotate_left)|(refine Bb ?_ ?_<;>intro _)|fail)
     refine DL (α:=List Fx×AH×Nd×AH×St) (λy=>[(10,.slice 3 (Az y.1) y.2.1)]) (λy=>[(2,dnW y.2.2.1 y.2.2.2.1)]) [2,4,6,7,8,9,11,12] [0,1,3] (λy=>y.2.2.2.2) (λy=>RT n.kind p i x e1=.inr y.1/\m.le y.2.2.2.2) (Af Ac ?_) ?_
     .unfold RT at U |-
      have hit:∀{st:St} {R:As->St->Prop},R (.ret (.slice 6 (Bg (DN x 1)) .any)) st->PC 101 [enc x,.int .i64 1] st R:=λh=>NU (i:=1) h
      by_cases hc:MJ n.kind p=true/\x.kind=33/\(n.kind≠8\/2<=i)
      .rw [if_pos hc] at U |-
       obtain ⟨c1,c2,c3⟩:=hc
       repeat' ((conv=>whnf);first|refine M0 c1 ?_|exact Bi|(refine AE ?_;intros)|(refine Bj ?_ ?_ ?_;rotate_left)|(refine Bb ?_ ?_<;>intro _)|refine ZA ?_|refine hit ?_|refine BK (l:=e1) (λ_=>?_)|refine K2 (l:=e1) AC (λo1 m1 hx1=>?_)|refine N0 (env:=e1) ‹_› AC AC AC (λenv1 he o2 m2 hx2=>?_) (λf he hf t ht2 m2 hle=>?_)|refine zqs [1,5,7,9,2,10,12,15,17,19,21,22] [2] ?_|fail)
       all_goals try (exfalso;omega)
       all_goals conv=>whnf
       all_goals first
        |exact ⟨(env1,o2,Hv,.full,m2),⟨he,hx2.le⟩,Yl,St.le_refl _⟩
        |(rw [he] at U
          rw [U] at h
          exact AF rfl (h.no _ rfl hf _ ht2 _ (St.le_trans j3.le hle)))
      .rw [if_neg hc] at U |-
       repeat' ((conv=>whnf);first|exact Bi|(refine AE ?_;intros)|(refine Bj ?_ ?_ ?_;rotate_left)|(refine Bb ?_ ?_<;>intro _)|refine ZA ?_|fail)
       all_goals conv=>whnf
       all_goals first|exact ⟨(e1,oh,dn,wd,m),⟨rfl,St.le_refl _⟩,Yl,St.le_refl _⟩|exact absurd ⟨FS,FS,AC⟩ hc
     .rintro ⟨e2,oh2,dn2,wd2,m2⟩ ⟨i1,i2⟩
      dsimp only at i1 i2 |-
      rw [i1] at U
      dsimp only at U
      have hhl2:=RU i1
      have j7:=j3.grow i2
      refine Ad (Af Ac ?_)
      repeat' ((conv=>whnf);first|exact Bi|(refine AE ?_;intros)|(refine Bj ?_ ?_ ?_;rotate_left)|(refine Bb ?_ ?_<;>intro _)|fail)
      have hw:∃wt:List Fx,(if n.kind=8/\i<2 then all else e2)=wt/\wt.length<=env.length+tX n:=⟨_,rfl,by split<;>omega⟩
      obtain ⟨wt,hwt,hwl⟩:=hw
      rw [hwt] at U
      refine DL (α:=AH) (λo=>[(13,.slice 3 (Az wt) o)]) (λ_=>[(2,dnW dn2 wd2)]) [2,4,6,7,8,9,10,11,12] [0,1,3] (λ_=>m2) (λ_=>True) (Af Ac ?_) ?_
      .by_cases h8:n.kind=8/\i<2
       .rw [if_pos h8] at hwt
        subst hwt
        repeat' ((conv=>whnf);first|exact Bi|(refine AE ?_;intros)|(refine Bj ?_ ?_ ?_;rotate_left)|(refine Bb ?_ ?_<;>intro _)|fail)
        all_goals first|exact ⟨.any,trivial,Yl,St.le_refl _⟩|(exfalso;omega)
       .rw [if_neg h8] at hwt
        subst hwt
        repeat' ((conv=>whnf);first|exact Bi|(refine AE ?_;intros)|(refine Bj ?_ ?_ ?_;rotate_left)|(refine Bb ?_ ?_<;>intro _)|fail)
        all_goals first|exact ⟨oh2,trivial,Yl,St.le_refl _⟩|(exfalso;omega)
      .rintro o5 _
       clear hwt
       have hrec:∀{st:St} {R:As->St->Prop},RrK st R (Ig wt n.kind x)->PC 62 [.slice 3 (Az wt) o5,enc x,.int .i64 n.kind] st R:=λh=>ih AC AC AC AC h
       refine Af Ac ?_
       cases hr:Ig wt n.kind x with
       |inl f=>
        rw [hr] at U
        rw [U] at h
        have hrec2:∀{st:St} {R:As->St->Prop},(f.1≠0->∀t:Tk,f.2=(t.line,t.BT)->∀m,st.le m->R (.ret (.agg (iE t f.1))) m)->PC 62 [.slice 3 (Az wt) o5,enc x,.int .i64 n.kind] st R:=λh=>hrec ⟨λt e=>(by rw [hr] at e;cases e),λf' e=>(by rw [hr] at e;cases e;exact h)⟩
        repeat' ((conv=>whnf);first|exact Bi|(refine AE ?_;intros)|(refine Bj ?_ ?_ ?_;rotate_left)|(refine Bb ?_ ?_<;>intro _)|refine hrec2 (λhf t ht2 m3 hle3=>?_)|fail)
        all_goals exact AF rfl (h.no _ rfl hf _ ht2 _ (St.le_trans j7.le hle3))
       |inr t=>
        rw [hr] at U
        have hrec2:∀{st:St} {R:As->St->Prop},(∀m,st.le m->R (.ret (.agg (dnT t))) m)->PC 62 [.slice 3 (Az wt) o5,enc x,.int .i64 n.kind] st R:=λh=>hrec ⟨λt e=>(by rw [hr] at e;cases e;exact h),λf' e=>(by rw [hr] at e;cases e)⟩
        repeat' ((conv=>whnf);first|exact Bi|(refine AE ?_;intros)|(refine Bj ?_ ?_ ?_;rotate_left)|(refine Bb ?_ ?_<;>intro _)|refine hrec2 (λm3 hle3=>?_)|refine Ts.nd1 (o:=ow) (l:=acc) (x:=t) (j7.grow ‹_›) AC (λo6 m4 hx6=>?_)|fail)
        refine Af Ac ?_
        repeat' ((conv=>whnf);first|exact Bi|(refine AE ?_;intros)|(refine Bj ?_ ?_ ?_;rotate_left)|(refine Bb ?_ ?_<;>intro _)|refine Wq (a:=(i:Int)+1) AC AC ?_|fail)
        all_goals conv=>whnf
        all_goals refine ⟨(i+1,e2,oh2,acc++[t],o6,t,.any,m4),⟨hlt,by dsimp only;rw [List.length_append,List.length_singleton,j2],hx6,?_,RL⟩,Nat.sub_lt_sub_left hlt (Nat.lt_succ_self i),Yl,St.le_refl _⟩
        all_goals dsimp only at U |-
        all_goals rw [U]
        all_goals cases Gh all n.kind p (i+1) e2 (n.kids.drop (i+1)) with
        |inl f=>rfl
        |inr ms=>dsimp only [jW];rw [List.append_assoc];rfl
    .have e:n.kids.drop i=[]:=List.drop_of_length_le AC
     rw [e,Gh,jW,List.append_nil] at U
     have hli:¬(i:Int)<(n.kids.length:Int):=AC
     refine Ad (Af Ac ?_)
     repeat' ((conv=>whnf);first|refine Ww hli ?_|exact Bi|(refine AE ?_;intros)|(refine Bj ?_ ?_ ?_;rotate_left)|(refine Bb ?_ ?_<;>intro _)|fail)
     all_goals conv=>whnf
     all_goals exact ⟨(m,acc,ow),⟨j3.le,U⟩,Yl,St.le_refl _⟩
  .rintro ⟨m,ks,ow⟩ ⟨hle,hr⟩
   dsimp only at hle hr |-
   subst hr
   replace h:RrK st R (X9 all (.mk n.kind n.form n.text n.line n.BT ks)):=h
   have hkp:=JW n.kids hZ
   have htn:BX (.mk n.kind n.form n.text n.line n.BT ks)<=100000000:=by
    have:=hkp.2
    cases n
    rw [BX] at ht |-
    simp only [Nd.text,Nd.kids] at this htk ht |-
    omega
   have hln:(A0 (.mk n.kind n.form n.text n.line n.BT ks)).length<=100000000:=by
    have h1:=F1 n
    have h2:A0 (.mk n.kind n.form n.text n.line n.BT ks)=A0 n:=by
     cases n
     rw [A0,A0,hkp.1];rfl
    rw [h2];omega
   unfold X9 at h
   cases ho:OL all (.mk n.kind n.form n.text n.line n.BT ks) with
   |inl e=>
    rw [ho] at h
    have he0:e≠0:=by
     unfold OL at ho
     (repeat' split at ho)<;>first|(cases ho;decide)|cases ho
    have hof:∀{st:St} {R:As->St->Prop},(∀m,st.le m->R (.ret (.Bc [enc Hv,.int .i64 e])) m)->PC 102 [.slice 3 (Az all) .any,.agg [.int .i64 n.kind,.int .i64 n.form,.str n.text,.int .i64 n.line,.int .i64 n.BT,.slice 6 (Bg ks) ow]] st R:=λh=>DQ (args':=[.slice 3 (Az all) .any,enc (.mk n.kind n.form n.text n.line n.BT ks)]) rfl (qq AC htn (λt h=>by rw [ho] at h;cases h) (λe h'=>by rw [ho] at h';cases h';exact h))
    have hsp:∀{st:St} {R:As->St->Prop},(∀m',st.le m'->R (.ret (.agg (N5 (.mk n.kind n.form n.text n.line n.BT ks)).cells)) m')->PC 103 [.agg [.int .i64 n.kind,.int .i64 n.form,.str n.text,.int .i64 n.line,.int .i64 n.BT,.slice 6 (Bg ks) ow]] st R:=λh=>DQ (args':=[enc (.mk n.kind n.form n.text n.line n.BT ks)]) rfl (Xf hln h)
    refine Af Ac ?_
    repeat' ((conv=>whnf);first|exact Bi|(refine AE ?_;intros)|(refine Bj ?_ ?_ ?_;rotate_left)|(refine Bb ?_ ?_<;>intro _)|refine hof (λm2 hle2=>?_)|refine hsp (λm3 hle3=>?_)|fail)
    all_goals exact AF rfl (h.no _ rfl he0 (N5 (.mk n.kind n.form n.text n.line n.BT ks)) (by unfold vM;rw [S3]) _ (St.le_trans hle (St.le_trans hle2 hle3)))
   |inr t=>
    rw [ho] at h
    have hof:∀{st:St} {R:As->St->Prop},(∀m,st.le m->R (.ret (.Bc [enc t,.int .i64 0])) m)->PC 102 [.slice 3 (Az all) .any,.agg [.int .i64 n.kind,.int .i64 n.form,.str n.text,.int .i64 n.line,.int .i64 n.BT,.slice 6 (Bg ks) ow]] st R:=λh=>DQ (args':=[.slice 3 (Az all) .any,enc (.mk n.kind n.form n.text n.line n.BT ks)]) rfl (qq AC htn (λt h'=>by rw [ho] at h';cases h';exact h) (λe h'=>by rw [ho] at h';cases h'))
    refine Af Ac ?_
    repeat' ((conv=>whnf);first|exact Bi|(refine AE ?_;intros)|(refine Bj ?_ ?_ ?_;rotate_left)|(refine Bb ?_ ?_<;>intro _)|refine hof (λm2 hle2=>?_)|fail)
    all_goals exact AF rfl (h.ok _ rfl _ (St.le_trans hle hle2))
end
end
theorem uQ:zp 0:=by
 unfold zp
 intro env p n w st R U
 cases n
 rw [Nd.size] at U;omega
theorem qa:∀k,zp k
 |0=>uQ
 |k+1=>yK (qa k)
section
variable {st:St} {R:As->St->Prop}
theorem Zy {t:Nd} {l c:Int} (hs:E1 n=(t,e,l,c)) (hz:n.size<=100000000) (ht:BX n<=100000000) (h:∀k x m,st.le m->R (.ret (.agg [.int .i64 t.kind,.int .i64 t.form,.str t.text,.int .i64 t.line,.int .i64 t.BT,.slice 6 (Bg t.kids) .any,.int .i64 k,.str x,.int .i64 l,.int .i64 c,.int .i64 e])) m):PC 34 [enc n] st R:=by
 refine pB Tryz.func34 ?_
 unfold E1 at hs
 cases hr:Ig [] 0 n with
 |inr t'=>
  rw [hr] at hs
  cases hs
  have U:∀{st:St} {R:As->St->Prop},(∀m,st.le m->R (.ret (.agg (dnT t))) m)->PC 62 [.slice 3 [] .full,enc n,.int .i64 0] st R:=λh=>DQ (args':=[.slice 3 (Az []) .any,enc n,.int .i64 0]) rfl (qa n.size (Nat.le_refl _) hz (by have:=gL n;show 0+uX n<=_;omega) ht ⟨λt e=>(by rw [hr] at e;cases e;exact h),λf e=>(by rw [hr] at e;cases e)⟩)
  repeat' ((conv=>whnf);first|  refine U (λm hle=>?_))
  all_goals exact AF rfl (h _ _ _ hle)
 |inl f=>
  rw [hr] at hs
  cases hs
  have U:∀{st:St} {R:As->St->Prop},(∀t:Tk,(l,c)=(t.line,t.BT)->∀m,st.le m->R (.ret (.agg (iE t e))) m)->PC 62 [.slice 3 [] .full,enc n,.int .i64 0] st R:=λh=>DQ (args':=[.slice 3 (Az []) .any,enc n,.int .i64 0]) rfl (qa n.size (Nat.le_refl _) hz (by have:=gL n;show 0+uX n<=_;omega) ht ⟨λt e=>(by rw [hr] at e;cases e),λf e _=>(by rw [hr] at e;cases e;exact h)⟩)
  repeat' ((conv=>whnf);first|  refine U (λt ht2 m hle=>?_))
  all_goals (
   obtain ⟨rfl,rfl⟩:=Prod.mk.inj ht2
   exact AF rfl (h _ _ _ hle))
theorem P0 (hz:n.size<=1000000000) (ht:BX n<=100000000) (h:∀st',R (.ret (.bool true)) st'):PC 10 [enc n] st R:=by
 refine pB Tryz.func10 ?_
 by_cases h1:(n.size:Int)>3000
 .skip
  repeat' ((conv=>whnf);first|(refine AE ?_;intros)|refine K3 (λst1 U=>?_)|refine gi n.size (Nat.le_refl _) hz ?_)
  all_goals exact fin (h _) rfl
 obtain ⟨t,e,l,c,hs⟩:∃t e l c,E1 n=(t,e,l,c):=⟨_,_,_,_,rfl⟩
 repeat' ((conv=>whnf);first|(refine AE ?_;intros)|refine K3 (λst1 U=>?_)|refine gi n.size (Nat.le_refl _) hz ?_|refine QD hs AC ht (λst2 hle2=>?_)|refine Zy hs AC ht (λk x st2 hle2=>?_)|refine UH t.size (Nat.le_refl _) ?_)
 all_goals first|exact fin (h _) rfl|(exfalso;simp_all)
end
section
variable {H:Type} {P:Program}
theorem aY:Tryz.prog.cellsOf 25=6:=EQ
end
section
variable {H:Type}
theorem X0:∀l:List Nd,(l.map λn=>n.size+BX n).sum=AD l+Bf l
 |[]=>rfl
 |n::r=>by rw [List.map_cons,List.sum_cons,X0 r,AD,Bf];omega
theorem iC:∀(n:Nat) (d:DataW H) (vs:List V),dec Tryz.prog n 25 d=some vs->∃nd:Nd,vs=AK nd/\nd.size+BX nd<=Rows.uptoBulk d:=by
 intro n
 induction n using Nat.strongRecOn with
 |_ n ih=>
  intro d vs h
  obtain ⟨m,ds,us,rfl,hl,hm,rfl,hb⟩:=bm Tryz.underlying25 h
  match ds,hl with
  |[d0,d1,d2,d3,d4,d5],_=>
   simp only [List.zip_cons_cons,List.zip_nil_right] at hm
   obtain ⟨u0,r0,h0,hm0,rfl⟩:=Dg hm
   obtain ⟨u1,r1,h1,hm1,rfl⟩:=Dg hm0
   obtain ⟨u2,r2,h2,hm2,rfl⟩:=Dg hm1
   obtain ⟨u3,r3,h3,hm3,rfl⟩:=Dg hm2
   obtain ⟨u4,r4,h4,hm4,rfl⟩:=Dg hm3
   obtain ⟨u5,r5,h5,hm5,rfl⟩:=Dg hm4
   cases hm5
   obtain ⟨k,rfl⟩:=Qf Tryz.underlying3 h0
   obtain ⟨f,rfl⟩:=Qf Tryz.underlying3 h1
   obtain ⟨t,rfl,ht⟩:=er Tryz.underlying9 h2
   obtain ⟨l,rfl⟩:=Qf Tryz.underlying3 h3
   obtain ⟨c,rfl⟩:=Qf Tryz.underlying3 h4
   obtain ⟨m',es,U,rfl,rfl,hes,hb'⟩:=iD Tryz.underlying23 h5
   obtain ⟨ks,rfl,hks⟩:=X2 (f:=AK) (w:=λn=>n.size+BX n) (λd vs=>ih m' AC d vs) hes
   refine ⟨.mk k f t l c ks,?_,?_⟩
   .simp only [AK,Nd.kind,Nd.form,Nd.text,Nd.line,Nd.BT,Nd.kids,BF,aY];rfl
   .rw [X0] at hks
    rw [Nd.size,BX]
    simp only [Rows.uptoBulkAll] at hb
    have ht2:t.length+1=Rows.uptoBulk d2:=ht
    have hb5:Rows.uptoBulkAll U+1<=Rows.uptoBulk d5:=hb'
    omega
end
end Go.Proofs.Z
