/-
  Parts of a proof: lemmas that the last text uses.
-/
import Derived.Test.YtpaiiicnhgoijaaGreatDoorS1
import Derived.IntWalk
import Derived.Shelf.Strings.Trim
import Derived.Shelf.Small.Utf8
import Derived.Shelf.Small.Strs
import Derived.Shelf.Strings.Search1
import Derived.Shelf.Strings.Search2
import Derived.Shelf.Strings.Search3
import Derived.Shelf.LaysM
import Derived.Shelf.Strings.Shaped
import Derived.Shelf.GgClosure.StringsIndexFunc
import Derived.Ground.GgwProg
import Derived.Shelf.GgClosure.StringsIndexFuncTop
import Derived.Shelf.GgClosure.StringsRunes
import Derived.Shelf.Strings.Prefix
import Derived.Shelf.Strings.Fields
import Derived.Shelf.Strings.SplitShaped
import Derived.Shelf.Unicode.Latin
import Derived.Shelf.Unicode.Decode
import Derived.Shelf.Strings.Runes
import Derived.Shelf.Strings.AsciiSet
import Derived.Shelf.Unicode.DecodeSlow
import Derived.Shelf.Unicode.DecodeAny
import Derived.Shelf.Unicode.Is16White
import Derived.Shelf.Unicode.IsSpaceAny
import Derived.Shelf.Unicode.DecodeLast
import Derived.Shelf.Unicode.Is16Any
import Derived.Shelf.Unicode.Is32Any
import Derived.Shelf.Unicode.ExclAny
import Derived.Shelf.Strings.FuncGrows
import Derived.Shelf.Slices.Turned
import Derived.Ground.Names2Prog
import Derived.Shelf.Slices.Clone
import Derived.Ground.SlgnProg
import Derived.Shelf.SlicesE.Clone
import Derived.Test.YtpaiiicnhgoijaaGreatDoorProg
import Derived.Below
set_option linter.unusedVariables false
set_option linter.unusedSimpArgs false
set_option maxHeartbeats 16000000
variable {k c i base:Int} {x s t o w r:List UInt8} {l:List Go.Aw.Nd} {A Y:Go.Proofs.Z.Ag->Go.Proofs.Z.Rs} {n:Go.Aw.Nd} {s':Go.Proofs.Z.Ag} {m b d pos j:Nat} {K:Go.Aw.V->Go.Aw.St->Prop} {R:Go.Aw.Ay->Go.Aw.St->Prop} {f:Go.FuncId} {p:Go.Aw.Nd->Bool} {kinds:List Int} {I:Go.Aw.Mem} {P:Prop} {ih:(Go.Aw.AG->Go.Aw.Env->Go.Aw.St->Prop)->Go.Aw.Env->Go.Aw.St->Prop} {Q:Go.Aw.AG->Go.Aw.Env->Go.Aw.St->Prop} {env:Go.Aw.Env} {α β:Type}
namespace Go.Proofs.Z
open Go Go.Aw
abbrev Ls:=Sum (Int×Ag) (List Nd×Ag)
def DF (s:Ag):Rs:=if (Ab s).2.2=0 then .inr (Bv (Ab s).1,(Ab s).2.1) else .inl ((Ab s).2.2,s)
def jV (s:Ag):Rs:=.inl (Se s,s)
def MA (s:Ag) (k:Int) (x:List UInt8):Rs:=if Bn s k x then DF s else jV s
def DL (t:Tk):Bool:=t.kind==2||t.kind==4||t.kind==1||(t.kind==15&&(t.text==[40]||t.text==[91]))
def Au (k:Int) (l:List Nd):Nd:=.mk k 0 [] 0 0 l
def FB (A:Ag->Rs) (l:List Nd) (s:Ag):Ls:=
 if DL (Ab s).1 then match A s with
  | .inl e=>.inl e
  | .inr p=>if mu p.2<mu s then FB A (l++[p.1]) p.2 else .inl (2,s)
 else .inr (l,s)
termination_by mu s
def FZ (A:Ag->Rs) (s:Ag):Rs:=
 match A s with
 | .inl e=>.inl e
 | .inr p=>match FB A [p.1] p.2 with
   | .inl e=>.inl e
   | .inr q=>if q.1.length=1 then .inr (p.1,q.2) else .inr (Au 39 q.1,q.2)
def F3 (A:Ag->Rs) (l:List Nd) (s:Ag):Ls:=
 if Bn s 10 [45,62] then match FZ A (Ab s).2.1 with
  | .inl e=>.inl e
  | .inr p=>if mu p.2<mu s then F3 A (l++[Bv (Ab s).1,p.1]) p.2 else .inl (2,s)
 else .inr (l,s)
termination_by mu s
def Du (A:Ag->Rs) (n:Nd) (s:Ag):Rs:=
 match F3 A [n] s with
 | .inl e=>.inl e
 | .inr q=>if q.1.length=1 then .inr (n,q.2) else .inr (Au 37 q.1,q.2)
def D1 (A:Ag->Rs) (s:Ag):Rs:=
 match FZ A s with
 | .inl e=>.inl e
 | .inr p=>Du A p.1 p.2
def FV (A:Ag->Rs) (s:Ag):Rs:=
 match FZ A s with
 | .inl e=>.inl e
 | .inr p=>if Bn p.2 10 [61,62] then match D1 A (Ab p.2).2.1 with
    | .inl e=>.inl e
    | .inr q=>.inr (Au 38 [p.1,Bv (Ab p.2).1,q.1],q.2)
   else Du A p.1 p.2
def Cn (Y:Ag->Rs) (l:List Nd) (s:Ag):Ls:=
 if Bn s 15 [44] then match Y (Ab s).2.1 with
  | .inl e=>.inl e
  | .inr p=>if mu p.2<mu s then Cn Y (l++[Bv (Ab s).1,p.1]) p.2 else .inl (2,s)
 else .inr (l,s)
termination_by mu s
def DQ (l:List Nd) (s:Ag):List Nd×Ag:=
 if Bn s 15 [44] then if mu (Ab s).2.1<mu s then DQ (l++[Bv (Ab s).1]) (Ab s).2.1 else (l,s) else (l,s)
termination_by mu s
def Jm (k:Int) (l:List Nd) (s:Ag) (x:List UInt8):Rs:=match MA s 15 x with
 | .inl e=>.inl e
 | .inr p=>.inr (Au k (l++[p.1]),p.2)
def FA (Y:Ag->Rs) (s:Ag):Rs:=
 match DF s with
 | .inl e=>.inl e
 | .inr p=>
   if Bn p.2 10 [45,62] then Jm 3 [p.1,Bv (Ab p.2).1] (Ab p.2).2.1 [41]
   else if Bn p.2 15 [41] then Jm 3 [p.1] p.2 [41]
   else if Bn p.2 15 [44] then Jm 3 (DQ [p.1] p.2).1 (DQ [p.1] p.2).2 [41]
   else match Y p.2 with
    | .inl e=>.inl e
    | .inr q=>match Cn Y [p.1,q.1] q.2 with
      | .inl e=>.inl e
      | .inr r=>Jm (if 2<r.1.length then 5 else 4) r.1 r.2 [41]
def Ec (Y:Ag->Rs) (s:Ag):Rs:=
 match DF s with
 | .inl e=>.inl e
 | .inr p=>
   if Bn p.2 15 [93] then .inr (Au 3 [p.1,Bv (Ab p.2).1],(Ab p.2).2.1)
   else match Y p.2 with
    | .inl e=>.inl e
    | .inr q=>Jm 6 [p.1,q.1] q.2 [93]
def Dj (Y:Ag->Rs) (s:Ag):Rs:=
 if DL (Ab s).1 then if (Ab s).1.kind=15 then if (Ab s).1.text=[40] then FA Y s else Ec Y s else DF s else jV s
def Dn:Nat->Ag->Rs
 |0,s=>.inl (2,s)
 |d+1,s=>D1 (Dj (Dn d)) s
def El (A:Ag->Rs):Prop:=∀s e s',A s=.inl (e,s')->e≠0
def AZ (A:Ag->Rs):Prop:=∀s n s',A s=.inr (n,s')->mu s'<mu s
theorem Sf (s:Ag):Se s≠0:=by
 unfold Se
 omega
theorem HI:El DF:=λs e s' h=>by
 unfold DF at h
 grind
theorem TZ:El jV:=λs e s' h=>by unfold jV at h;cases h;exact Sf s
theorem aM:El (λs=>MA s k x):=λs e s' h=>by
 unfold MA at h
 dsimp only at h
 split at h
 .exact HI _ _ _ h
 .exact TZ _ _ _ h
theorem Jt:El (λs=>Jm k l s x):=λs e s' h=>by
 unfold Jm at h
 dsimp only at h
 split at h
 .rename_i U hw
  cases h
  exact aM _ _ _ hw
 grind
theorem iy (hA:El A) (l:List Nd) (s:Ag):∀e s',FB A l s=.inl (e,s')->e≠0:=by
 fun_induction FB A l s with
 |case1 l s U e1 h2=>intro e s' h;cases h;exact hA _ _ _ h2
 |case2 l s U p h2 h3 ih=>exact ih
 |case3 l s U p h2 h3=>simp_all
 |case4 l s U=>simp_all
theorem HH (hA:El A):El (FZ A):=λs e s' h=>by
 unfold FZ at h
 split at h
 .rename_i U;cases h;exact hA _ _ _ U
 .split at h
  .rename_i U;cases h;exact iy hA _ _ _ _ U
  grind
theorem dW (hA:El A) (l:List Nd) (s:Ag):∀e s',F3 A l s=.inl (e,s')->e≠0:=by
 fun_induction F3 A l s with
 |case1 l s U e1 h2=>intro e s' h;cases h;exact HH hA _ _ _ h2
 |case2 l s U p h2 h3 ih=>exact ih
 |case3 l s U p h2 h3=>simp_all
 |case4 l s U=>simp_all
theorem Nv (hA:El A):El (Du A n):=λs e s' h=>by
 unfold Du at h
 split at h
 .rename_i U;cases h;exact dW hA _ _ _ _ U
 grind
theorem Gw (U:El A):El (D1 A):=λs e s' h=>by
 unfold D1 at h
 split at h
 .rename_i h1;cases h;exact HH U _ _ _ h1
 .exact Nv U _ _ _ h
theorem J3 (hA:El A):El (FV A):=λs e s' h=>by
 unfold FV at h
 split at h
 .rename_i U;cases h;exact HH hA _ _ _ U
 .split at h
  .split at h
   .rename_i U;cases h;exact Gw hA _ _ _ U
   grind
  .exact Nv hA _ _ _ h
theorem YM (hY:El Y) (l:List Nd) (s:Ag):∀e s',Cn Y l s=.inl (e,s')->e≠0:=by
 fun_induction Cn Y l s with
 |case1 l s U e1 h2=>intro e s' h;cases h;exact hY _ _ _ h2
 |case2 l s U p h2 h3 ih=>exact ih
 |case3 l s U p h2 h3=>simp_all
 |case4 l s U=>simp_all
theorem W7 (hY:El Y):El (FA Y):=λs e s' h=>by
 unfold FA at h
 split at h
 .rename_i U;cases h;exact HI _ _ _ U
 .split at h
  .exact Jt _ _ _ h
  .split at h
   .exact Jt _ _ _ h
   .split at h
    .exact Jt _ _ _ h
    .split at h
     .rename_i U;cases h;exact hY _ _ _ U
     .split at h
      .rename_i U;cases h;exact YM hY _ _ _ _ U
      .exact Jt _ _ _ h
theorem T0 (hY:El Y):El (Ec Y):=λs e s' h=>by
 unfold Ec at h
 split at h
 .rename_i U;cases h;exact HI _ _ _ U
 .split at h
  .cases h
  .split at h
   .rename_i U;cases h;exact hY _ _ _ U
   .exact Jt _ _ _ h
theorem Cq (U:El Y):El (Dj Y):=λs e s' h=>by
 unfold Dj at h
 split at h
 .split at h
  .split at h
   .exact W7 U _ _ _ h
   .exact T0 U _ _ _ h
  .exact HI _ _ _ h
 .exact TZ _ _ _ h
theorem B9:∀d,El (Dn d)
 |0=>λs e s' h=>by cases h;decide
 |d+1=>Gw (Cq (B9 d))
theorem OS {s:Ag} (h:DF s=.inr (n,s')):mu s'<=mu s/\((Ab s).1.kind≠21->mu s'<mu s):=by
 unfold DF at h
 split at h
 .rename_i e;cases h;exact EF e
 grind
theorem mY {s:Ag} (hk:k≠0) (U:k≠21) (h:MA s k x=.inr (n,s')):mu s'<mu s:=by
 unfold MA at h
 split at h
 .rename_i e
  unfold DF at h
  rw [if_pos (GQ e hk)] at h
  cases h
  exact DU e hk U
 .cases h
theorem PJ {s:Ag} (h:Jm k l s x=.inr (n,s')):mu s'<mu s:=by
 unfold Jm at h
 split at h
 .cases h
 .rename_i U;cases h;exact mY Do Do U
theorem Nh {s:Ag} (U:DL (Ab s).1=true) (h:DF s=.inr (n,s')):mu s'<mu s:=by
 refine (OS h).2 λe=>?_
 unfold DL at U
 simp_all
theorem mf (l:List Nd) (s:Ag):∀q s',FB A l s=.inr (q,s')->mu s'<=mu s:=by
 fun_induction FB A l s with
 |case1 l s U e1 h2=>simp_all
 |case2 l s U p h2 h3 ih=>grind
 |case3 l s U p h2 h3=>simp_all
 |case4 l s U=>simp_all
theorem Ft (hA:AZ A):AZ (FZ A):=λs n s' h=>by
 unfold FZ at h
 split at h
 .cases h
 .rename_i U
  have:=hA _ _ _ U
  split at h
  .cases h
  .rename_i h2
   have:=mf _ _ _ _ h2
   grind
theorem jR (l:List Nd) (s:Ag):∀q s',F3 A l s=.inr (q,s')->mu s'<=mu s:=by
 fun_induction F3 A l s with
 |case1 l s U e1 h2=>simp_all
 |case2 l s U p h2 h3 ih=>grind
 |case3 l s U p h2 h3=>simp_all
 |case4 l s U=>simp_all
theorem Ra {m:Nd} {s:Ag} (h:Du A n s=.inr (m,s')):mu s'<=mu s:=by
 unfold Du at h
 split at h
 .cases h
 .rename_i U
  have:=jR _ _ _ _ U
  grind
theorem Hd (hA:AZ A):AZ (D1 A):=λs n s' h=>by
 unfold D1 at h
 split at h
 .cases h
 .rename_i U
  have:=Ft hA _ _ _ U
  have:=Ra h
  omega
theorem R3 (l:List Nd) (s:Ag):∀q s',Cn Y l s=.inr (q,s')->mu s'<=mu s:=by
 fun_induction Cn Y l s with
 |case1 l s U e1 h2=>simp_all
 |case2 l s U p h2 h3 ih=>grind
 |case3 l s U p h2 h3=>simp_all
 |case4 l s U=>simp_all
theorem aZ (l:List Nd) (s:Ag):mu (DQ l s).2<=mu s:=by
 fun_induction DQ l s with
 |case1 l s U h2 ih=>omega
 |case2 l s U h2=>simp_all
 |case3 l s U=>simp_all
theorem iv (hY:AZ Y) {s:Ag} (hs:DL (Ab s).1=true) (h:FA Y s=.inr (n,s')):mu s'<mu s:=by
 unfold FA at h
 split at h
 .cases h
 .rename_i h1
  have:=Nh hs h1
  split at h
  .rename_i U
   have:=DU U Do Do
   have:=PJ h
   omega
  .split at h
   .have:=PJ h;omega
   .split at h
    .have:=PJ h
     have:=aZ [‹Nd×Ag›.1] ‹Nd×Ag›.2
     omega
    .split at h
     .cases h
     .rename_i U
      have:=hY _ _ _ U
      split at h
      .cases h
      .rename_i h3
       have:=R3 _ _ _ _ h3
       have:=PJ h
       omega
theorem cQ (hY:AZ Y) {s:Ag} (hs:DL (Ab s).1=true) (h:Ec Y s=.inr (n,s')):mu s'<mu s:=by
 unfold Ec at h
 split at h
 .cases h
 .rename_i h1
  have:=Nh hs h1
  split at h
  .rename_i U
   have:=DU U Do Do
   grind
  .split at h
   .cases h
   .rename_i U
    have:=hY _ _ _ U
    have:=PJ h
    omega
theorem BV (hY:AZ Y):AZ (Dj Y):=λs n s' h=>by
 unfold Dj at h
 split at h
 .rename_i U
  split at h
  .split at h
   .exact iv hY U h
   .exact cQ hY U h
  .exact Nh U h
 .cases h
theorem BF:∀d,AZ (Dn d)
 |0=>λs n s' h=>by cases h
 |d+1=>Hd (BV (BF d))
theorem DG {st:St} {K:Ay->St->Prop} {q:Rs} (h:∀n s',q=.inr (n,s')->∀st',G5 st st' b s'->K (.ret (enc n)) st') (k:∀e s',q=.inl (e,s')->∀st',G5 st st' b s'->K (.BX (fault e)) st'):Et st b K q:=by
 match q with
 | .inr (n,s')=>exact h n s' rfl
 | .inl (e,s')=>exact k e s' rfl
theorem Has.hw {st:St} {s:Ag} (h:Has st b s) (own:AB) (n:Nat):Has (own.st st n) b s:=by
 cases own with
 |any=>exact h
 |full=>exact h
 |tok t=>exact h
theorem aq {own:AB} {st st':St} {n:Nat} {s:Ag} (hg:own.Bx st) (hh:Has st b s) (hu:G5 (own.st st n) st' b s'):∃U,st'=own.st U n/\G5 st U b s'/\own.Bx U:=by
 obtain ⟨h1,cs,e⟩:=hu
 cases own with
 |any=>exact hg.elim
 |full=>exact ⟨st',rfl,⟨h1,cs,e⟩,trivial⟩
 |tok t=>
  refine ⟨st.Aa b cs,e,⟨?_,cs,rfl⟩,?_,?_⟩
  .rw [e] at h1;exact h1
  .have:b≠t:=by
    rintro rfl
    have h2:st.box b=none:=hg.1
    rcases hh with k|⟨_,_,_,_,_,k⟩<;>(rw [h2] at k;cases k)
   rw [St.Ar this];exact hg.1
  .exact hg.2
def dH (own:AB) (n:Nat) (st:St) (b:Nat) (R:Ay->St->Prop):Rs->Prop
 | .inr (x,s')=>∀st',G5 st st' b s'->own.Bx st'->R (.ret (enc x)) (own.st st' n)
 | .inl (e,s')=>∀st',G5 st st' b s'->own.Bx st'->R (.BX (fault e)) (own.st st' n)
theorem EP {own:AB} {n:Nat} {st:St} {s:Ag} {q:Rs} (hg:own.Bx st) (hh:Has st b s) (h:dH own n st b R q):Et (own.st st n) b R q:=by
 refine DG (λx s' e st' hu=>?_) (λx s' e st' hu=>?_)
 .obtain ⟨U,rfl,h2,h3⟩:=aq hg hh hu
  subst e
  exact h U h2 h3
 .obtain ⟨U,rfl,h2,h3⟩:=aq hg hh hu
  subst e
  exact h U h2 h3
section
variable {st:St} {R:Ay->St->Prop}
attribute [local irreducible] Go.Aw.Ah
theorem VK {t:Tk} (h:R (.ret (.bool (DL t))) st):PC 363 [EZ t] st R:=by
 refine pB Tryz.func363 ?_
 repeat' ((conv=>whnf);first|(refine Bp ?_;intros)|(refine Bq ?_ ?_<;>intro _)|fail)
 all_goals conv=>whnf
 all_goals (refine Aq h ?_;clear h;simp_all [DL])
def C9 (f:FuncId) (d:Int) (A:Ag->Rs):Prop:=∀s,mu s<=100000000->Reads f s d (A s)
theorem EH {s:Ag} (h:mu s<=100000000):s.Dg.length<=500000000:=by have:=pE s;omega
theorem Fi {s:Ag} (U:Has st b s) (hb:s.Dg.length<=500000000) (h:Et st b R (DF s)):PC 121 [.ptr b 0] st R:=by
 unfold DF at h
 refine Lk U hb (λe=>?_) (λe=>?_)
 .rw [if_pos e] at h;exact h
 .rw [if_neg e] at h;exact h _ AX
theorem qm {s:Ag} (U:Has st b s) (hb:s.Dg.length<=500000000) (h:∀st',G5 st st' b s->R (.BX (fault (Se s))) st'):PC 171 [.ptr b 0] st R:=ec U hb (h _ AX)
theorem QH {s:Ag} (hs:Has st b s) (hb:s.Dg.length<=500000000) (h:Et st b R (MA s k x)):PC 118 [.ptr b 0,.int .i64 k,.str x] st R:=by
 unfold MA DF at h
 refine jv hs hb (λU e2=>?_) (λU e2=>?_) (λU=>?_)
 .rw [if_pos U,if_pos e2] at h;exact h
 .rw [if_pos U,if_neg e2] at h;exact h _ AX
 .rw [if_neg (by rw [U];decide)] at h;exact h _ AX
theorem oA {d:Int} (hr:C9 404 d (FA Y)) (hsq:C9 405 d (Ec Y)):C9 362 d (Dj Y):=by
 intro s hm b st R hs h
 refine pB Tryz.func362 ?_
 have hb:=EH hm
 have hl:Has (st.Aa b (CD s)) b s:=.inl (St.Ai ..)
 unfold Dj at h
 repeat' ((conv=>whnf);first|(refine Bp ?_;intros)|(refine Bq ?_ ?_<;>intro _)|refine F7 hs hb ?_|refine VK ?_|refine Fi hl hb (DG (λn s' hq st' U=>?_) (λe s' hq st' U=>?_))|refine qm hl hb (λst' U=>?_)|refine hr s hm b _ _ hl (DG (λn s' hq st' U=>?_) (λe s' hq st' U=>?_))|refine hsq s hm b _ _ hl (DG (λn s' hq st' U=>?_) (λe s' hq st' U=>?_)))
 all_goals repeat (first|rw [if_pos ‹_›] at h|rw [if_neg ‹_›] at h|rw [if_neg (Bool.eq_false_iff.1 ‹_›)] at h)
 all_goals first
  |exact fin (h st' (AX.trans U)) rfl
  |(rw [hq] at h;exact BH rfl (h st' (AX.trans U)))
  |(rw [hq] at h;exact fin (h st' (AX.trans U)) rfl)
 all_goals trace_state
end
theorem Q9 {new:List Nd} {own:AB} {st:St} (h:own.Bx st) (hb:l.length+new.length<=1000000000)
 (k:∀U:AB,U.Bx st->K (.slice 6 (Cv (l++new)) U) (U.st st ((l++new).length*6))):Ah 6 72 (Cv l) own (Cv new) (own.st st (l.length*6)) K:=by
 have hw:(Cv new).map (·.map V.Jq)=Cv new:=by
  rw [BN,List.map_map]
  refine List.map_congr_left λx _=>?_
  rfl
 have hsc:((Cv new).all λv=>v.all V.sc)=true:=by
  rw [BN,List.all_map,List.all_eq_true]
  intro x _
  rfl
 have:=EU (sz:=6) (bytes:=72) (es:=Cv l) (new:=Cv new) (K:=K) h (by rw [CC,CC];omega) (by rw [CC,CC];simp only [En];omega) hsc (λU ho=>by
  have:=k U ho
  rw [CC,CC,hw,<-Uh,<-List.length_append]
  omega)
 rw [CC] at this
 omega
theorem ME {x:Nd} {own:AB} {st:St} (h:own.Bx st) (hb:l.length+1<=1000000000)
 (k:∀U:AB,U.Bx st->K (.slice 6 (Cv (l++[x])) U) (U.st st ((l++[x]).length*6))):Ah 6 72 (Cv l) own [AM x] (own.st st (l.length*6)) K:=by
 have:=Q9 (l:=l) (new:=[x]) h hb k
 rw [BN [x]] at this
 grind
theorem Y1 {x:Nd} {own:AB} {st:St} (h:own.Bx st) (hb:l.length+1<=1000000000)
 (k:∀U:AB,U.Bx st->K (.slice 6 (Cv (l++[x])) U) (U.st st ((l++[x]).length*6))):Ah 6 72 (l.map AM) own [AM x] (own.st st (l.length*6)) K:=by
 rw [<-BN]
 exact ME h hb k
theorem RN {K:Int->Prop} (h:d<=1000000) (k:K (d:Int)):∃r,r=IntKind.i64.wrap (((d+1:Nat):Int) - 1)/\K r:=by
 refine ⟨d,?_,k⟩
 rw [show ((d+1:Nat):Int) - 1=(d:Int) by omega,Kr AC AC]
section
variable {st:St} {R:Ay->St->Prop}
attribute [local irreducible] Go.Aw.Ah
theorem TH {K:Ay->St->Prop} {q:Rs} {x:Int} (e:q=.inl (x,s')) (h:∀st',G5 st st' b s'->K (.BX (fault x)) st'):Et st b K q:=by subst e;exact h
theorem FE {own:AB} {st:St} {K:Ay->St->Prop} {q:Rs} (h:∀n s',q=.inr (n,s')->∀st',G5 st st' b s'->own.Bx st'->K (.ret (enc n)) (own.st st' m)) (k:∀e s',q=.inl (e,s')->∀st',G5 st st' b s'->own.Bx st'->K (.BX (fault e)) (own.st st' m)):dH own m st b K q:=by
 match q with
 | .inr (n,s')=>exact h n s' rfl
 | .inl (e,s')=>exact k e s' rfl
theorem Gm {K:Ay->St->Prop} {q:Rs} {x:Nd} (e:q=.inr (x,s')) (h:∀st',G5 st st' b s'->K (.ret (enc x)) st'):Et st b K q:=by subst e;exact h
def C8 (f:FuncId) (d:Int) (A:Ag->Rs):Prop:=∀s,mu s<=100000000->∀(st:St) (R:Ay->St->Prop),R (.ret (NA (BJ s d (A s)))) st->PC f [CV s,.int .i64 d] st R
theorem oY (hf:C8 f d A) (h0:d=0->∀s,A s=.inl (2,s)) (hA:El A) {s:Ag} (hm:mu s<=100000000) (hs:Has st b s) (h:Et st b R (A s)):
 PC 84 [.ptr b 0,.func f [] [],.int .i64 d] st R:=by
 by_cases hd:(d:Int)<1
 .have hz:d=0:=AC
  rw [h0 hz s] at h
  refine XG (n:=HX) (s':=s) (e:=2) (λst R k=>hf s hm st R ?_) hs (λe=>by cases e) (λ_=>h)
  unfold BJ;rw [if_pos hd];exact k
 .cases U:A s with
  |inr p=>
   rw [U] at h
   refine XG (n:=p.1) (s':=p.2) (e:=0) (λst R k=>hf s hm st R ?_) hs (λ_=>h) (λe=>absurd rfl e)
   unfold BJ;rw [if_neg hd,U];exact k
  |inl p=>
   rw [U] at h
   have hne:=hA s p.1 p.2 U
   refine XG (n:=HX) (s':=p.2) (e:=p.1) (λst R k=>hf s hm st R ?_) hs (λe=>absurd e hne) (λ_=>h)
   unfold BJ;rw [if_neg hd,U];exact k
theorem PT {x:Int} (hx:x=(d:Int)) (hf:C8 f d A) (U:d=0->∀s,A s=.inl (2,s)) (hA:El A) {s:Ag} (hm:mu s<=100000000) (hs:Has st b s) (h:Et st b R (A s)):
 PC 84 [.ptr b 0,.func f [] [],.int .i64 x] st R:=by subst hx;exact oY hf U hA hm hs h
theorem iR (hd:d<=1000000) (hY:C8 220 d Y) (h0:d=0->∀s,Y s=.inl (2,s)) (hB:El Y) (hF:AZ Y):C9 405 ((d+1:Nat):Int) (Ec Y):=by
 intro s hm b st R hs h
 refine pB Tryz.func405 ?_
 have hb:=EH hm
 unfold Ec at h
 cases U:DF s with
 |inl q=>
  rw [U] at h
  obtain ⟨e,s'⟩:=q
  repeat' ((conv=>whnf);first|(refine Bp ?_;intros)|(refine Bq ?_ ?_<;>intro _)|refine Fi hs hb (TH U (λst1 h1=>?_)))
  all_goals exact fin (h st1 h1) rfl
 |inr q=>
  obtain ⟨n1,s1⟩:=q
  rw [U] at h
  have hm1:mu s1<=100000000:=by have:=(OS U).1;omega
  have hb1:=EH hm1
  repeat' ((conv=>whnf);first|(refine Bp ?_;intros)|(refine Bq ?_ ?_<;>intro _)|refine Fi hs hb (Gm U (λst1 h1=>?_))|refine XJ h1.1 hb1 ?_)
  .have hp:Bn s1 15 [93]=true:=FS
   have hl1:Has (st1.Aa b (CD s1)) b s1:=.inl (St.Ai ..)
   have hq2:DF s1=.inr (Bv (Ab s1).1,(Ab s1).2.1):=by unfold DF;rw [if_pos (GQ hp Do)]
   dsimp only at h
   rw [if_pos hp] at h
   have hn1:[n1].length+1<=1000000000:=by show 1+1<=1000000000;decide
   repeat' ((conv=>whnf);first|(refine Bp ?_;intros)|(refine Bq ?_ ?_<;>intro _)|refine Fi hl1 hb1 (Gm hq2 (λst2 h2=>?_))|refine Y1 (l:=[n1]) (x:=Bv (Ab s1).1) (own:=.full) trivial hn1 (λown1 ho1=>?_))
   all_goals exact DS (AB.Bz ho1) rfl (h st2 (h1.trans (AX.trans h2)))
  .have hp:Bn s1 15 [93]=false:=FS
   have hl1:Has (st1.Aa b (CD s1)) b s1:=.inl (St.Ai ..)
   dsimp only at h
   rw [if_neg ke] at h
   have hn1:[n1].length+1<=1000000000:=by show 1+1<=1000000000;decide
   have hn2:∀n2:Nd,([n1]++[n2]).length+1<=1000000000:=λ_=>by simp_all
   repeat' ((conv=>whnf);first|(refine Bp ?_;intros)|(refine Bq ?_ ?_<;>intro _)|refine PT AC hY h0 hB hm1 hl1 (DG (λn2 s2 hq2 st2 h2=>?_) (λe2 s2 hq2 st2 h2=>?_))|refine Y1 (l:=[n1]) (x:=n2) (own:=.full) trivial hn1 (λown1 ho1=>?_)|refine QH (h2.1.hw own1 _) (EH (Nat.le_trans (Nat.le_of_lt (hF _ _ _ hq2)) hm1)) (EP ho1 h2.1 (FE (λn3 s3 hq3 st3 h3 hg3=>?_) (λe3 s3 hq3 st3 h3 hg3=>?_)))|refine ME (l:=[n1]++[n2]) (x:=n3) hg3 (hn2 n2) (λown2 ho2=>?_))
   all_goals rw [hq2] at h
   .unfold Jm at h
    dsimp only at h
    rw [hq3] at h
    exact DS (AB.Bz ho2) rfl (h st3 (((h1.trans AX).trans h2).trans h3))
   .unfold Jm at h
    dsimp only at h
    rw [hq3] at h
    exact DS (AB.Bz hg3) rfl (h st3 (((h1.trans AX).trans h2).trans h3))
   .exact fin (h st2 ((h1.trans AX).trans h2)) rfl
end
theorem Nu {x:Nd} {own:AB} {st:St} (h:own.Bx st) (hb:l.length+1<=1000000000)
 (k:∀U:AB,U.Bx st->K (.slice 6 ((l++[x]).map AM) U) (U.st st ((l++[x]).length*6))):Ah 6 72 (l.map AM) own [AM x] (own.st st (l.length*6)) K:=by
 rw [<-BN]
 exact ME h hb (by simpa only [BN] using k)
theorem B6 {own:AB}:Ay.ret (enc (Au k l))=(Ay.ret (.agg [.int .i64 k,.int .i64 0,.str [],.int .i64 0,.int .i64 0,.slice 6 (l.map AM) own])).wk:=by
 rw [<-BN];rfl
theorem Z5 {s:Ag} (h:DL (Ab s).1=true) (U:A s=.inr (n,s')) (hm:mu s'<mu s):FB A l s=FB A (l++[n]) s':=by
 rw [FB,if_pos h,U]
 dsimp only
 rw [if_pos hm]
section
variable {st:St} {R:Ay->St->Prop}
attribute [local irreducible] Go.Aw.Ah
theorem BR {K:Nat->Prop} (k:l.length<4611686018427387904->K l.length):∀m,m=(l.map AM).length->m<En->K m:=λm U h=>by
 rw [List.length_map] at U;subst U;exact k h
theorem Tj {own:AB} {st:St} {n:Nat} {cs:List V}:(own.st st n).Aa b cs=own.st (st.Aa b cs) n:=by cases own<;>rfl
theorem pF {own:AB} {n:Nat} {s:Ag} (hg:own.Bx st) (U:Has st b s) (hb:s.Dg.length<=500000000) (h:R (.ret (EZ (Ab s).1)) (own.st (st.Aa b (CD s)) n)):PC 83 [.ptr b 0] (own.st st n) R:=
 F7 (U.hw own n) hb (by rw [Tj];exact h)
theorem HR {own:AB} {s:Ag} {cs:List V} (U:own.Bx st) (hs:Has st b s):own.Bx (st.Aa b cs):=by
 cases own with
 |any=>exact U
 |full=>trivial
 |tok t=>
  have:b≠t:=by
   rintro rfl
   have h2:st.box b=none:=U.1
   rcases hs with k|⟨_,_,_,_,_,k⟩<;>(rw [h2] at k;cases k)
  exact ⟨by rw [St.Ar this];exact U.1,U.2⟩
theorem pD {n1:Nd} {K:List V->Prop} (h:l.length=Int.toNat 1) (j:l.length=1->l=[n1]) (k:K (AM n1)):(0:Int)<=0/\∃e,(l.map AM)[Int.toNat 0]? =some e/\K e:=
 ⟨Int.le_refl _,AM n1,by rw [j h];rfl,k⟩
theorem pO {d:Int} (ha:C9 362 d A) (hF:AZ A):C9 296 d (FZ A):=by
 intro s hm b st R hs h
 refine pB Tryz.func296 ?_
 unfold FZ at h
 cases U:A s with
 |inl q=>
  obtain ⟨e,s1⟩:=q
  rw [U] at h
  repeat' ((conv=>whnf);first|(refine Bp ?_;intros)|(refine Bq ?_ ?_<;>intro _)|refine ha s hm b _ _ hs (TH U (λst1 h1=>?_)))
  all_goals exact fin (h st1 h1) rfl
 |inr q=>
  obtain ⟨n1,s1⟩:=q
  rw [U] at h
  have hf1:=hF _ _ _ U
  dsimp only at h
  repeat' ((conv=>whnf);first|(refine Bp ?_;intros)|(refine Bq ?_ ?_<;>intro _)|refine ha s hm b _ _ hs (Gm U (λst1 h1=>?_)))
  refine JI (α:=List Nd×Ag×St×AB) (λx=>[(5,.slice 6 (x.1.map AM) x.2.2.2)]) [0,1,4] (λx=>[]) [0] (λx=>x.2.2.2.st x.2.2.1 (x.1.length*6))
   (λx=>x.2.2.2.Bx x.2.2.1/\G5 st x.2.2.1 b x.2.1/\x.1≠[]/\x.1.length+mu x.2.1<=200000000/\mu x.2.1<=mu s1/\FB A x.1 x.2.1=FB A [n1] s1/\(x.1.length=1->x.1=[n1])) (λx=>mu x.2.1) ([n1],s1,st1,.full)
   ⟨trivial,h1,GT,by show 1+mu s1<=_;omega,Nat.le_refl _,rfl,λ_=>rfl⟩ Yl (St.le_refl _) ?_
  rintro ⟨l,s2,st2,own⟩ ⟨j1,j2,j3,j4,j5,j6,j7⟩
  dsimp only at j1 j2 j3 j4 j5 j6 j7
  have hm2:mu s2<=100000000:=AC
  have hb2:=EH hm2
  have hl3:Has (st2.Aa b (CD s2)) b s2:=.inl (St.Ai ..)
  have g3:own.Bx (st2.Aa b (CD s2)):=HR j1 j2.1
  have u3:G5 st (st2.Aa b (CD s2)) b s2:=j2.trans AX
  have hn:l.length+1<=1000000000:=AC
  repeat' ((conv=>whnf);first|(refine Bp ?_;intros)|(refine Bq ?_ ?_<;>intro _)|refine pF j1 j2.1 hb2 ?_|refine VK ?_|refine ha s2 hm2 b _ _ (hl3.hw own _) (EP g3 hl3 (FE (λn2 s4 hq2 st4 h4 g4=>?_) (λe2 s4 hq2 st4 h4 g4=>?_)))|refine Nu (l:=l) g4 hn (λown' ho'=>?_)|refine BR (λ_=>?_)|refine pD ‹_› j7 ?_)
  .have hd:=hF _ _ _ hq2
   refine ⟨(l++[n2],s4,st4,own'),⟨ho',u3.trans h4,GT,by show (l++[n2]).length+mu s4<=_;rw [List.length_append,List.length_singleton];omega,by show mu s4<=_;omega,?_,?_⟩,hd,Yl,St.le_refl _⟩
   .show FB A (l++[n2]) s4=_
    rw [<-j6,Z5 (l:=l) ‹_› hq2 hd]
   .intro e
    have:=List.length_pos_iff.2 j3
    have e:(l++[n2]).length=1:=e
    rw [List.length_append,List.length_singleton] at e
    omega
  .have hr:FB A l s2=.inl (e2,s4):=by rw [FB,if_pos ‹_›,hq2]
   rw [<-j6,hr] at h
   exact DS (AB.Bz g4) rfl (h st4 (u3.trans h4))
  .have hr:FB A l s2=.inr (l,s2):=by rw [FB,if_neg (Bool.eq_false_iff.1 ‹_›)]
   rw [<-j6,hr] at h
   dsimp only at h
   rw [if_pos ‹_›] at h
   exact DS (AB.Bz g3) rfl (h _ u3)
  .have hr:FB A l s2=.inr (l,s2):=by rw [FB,if_neg (Bool.eq_false_iff.1 ‹_›)]
   rw [<-j6,hr] at h
   dsimp only at h
   rw [if_neg ‹_›] at h
   exact DS (AB.Bz g3) B6 (h _ u3)
end
theorem dS {x y:Nd} {own:AB} {st:St} (h:own.Bx st) (hb:l.length+2<=1000000000)
 (k:∀U:AB,U.Bx st->K (.slice 6 ((l++[x,y]).map AM) U) (U.st st ((l++[x,y]).length*6))):Ah 6 72 (l.map AM) own [AM x,AM y] (own.st st (l.length*6)) K:=by
 rw [<-BN]
 have:=Q9 (l:=l) (new:=[x,y]) h hb (by simpa only [BN] using k)
 rw [BN [x,y]] at this
 grind
theorem Y2 {s:Ag} (h:Bn s 10 [45,62]=true) (U:FZ A (Ab s).2.1=.inr (n,s')) (hm:mu s'<mu s):F3 A l s=F3 A (l++[Bv (Ab s).1,n]) s':=by
 rw [F3,if_pos h,U]
 simp_all
theorem IW {s:Ag} (h:Bn s k x=true) (U:k≠0):DF s=.inr (Bv (Ab s).1,(Ab s).2.1):=by unfold DF;rw [if_pos (GQ h U)]
section
variable {st:St} {R:Ay->St->Prop}
attribute [local irreducible] Go.Aw.Ah
theorem oZ {own:AB} {n:Nat} {s:Ag} (U:Has st b s) (hb:s.Dg.length<=500000000) (h:R (.ret (.bool (Bn s k x))) (own.st (st.Aa b (CD s)) n)):PC 156 [.ptr b 0,.int .i64 k,.str x] (own.st st n) R:=
 XJ (U.hw own n) hb (by rw [Tj];exact h)
theorem Qz {own:AB} {n:Nat} {st:St} {s:Ag} {q:Rs} {x:Nd} (U:own.Bx st) (hh:Has st b s) (e:q=.inr (x,s')) (h:∀st',G5 st st' b s'->own.Bx st'->R (.ret (enc x)) (own.st st' n)):Et (own.st st n) b R q:=
 EP U hh (by subst e;exact h)
def WQ (f:FuncId) (d:Int) (A:Nd->Ag->Rs):Prop:=∀n s,mu s<=100000000->∀(b:Nat) (st:St) (R:Ay->St->Prop),Has st b s->Et st b R (A n s)->PC f [.ptr b 0,enc n,.int .i64 d] st R
theorem TW {d:Int} (hr:C9 296 d (FZ A)) (hF:AZ A):WQ 364 d (Du A):=by
 intro n1 s1 hm b st R hs h
 refine pB Tryz.func364 ?_
 unfold Du at h
 repeat' ((conv=>whnf);first|(refine Bp ?_;intros)|(refine Bq ?_ ?_<;>intro _)|fail)
 refine JI (α:=List Nd×Ag×St×AB) (λx=>[(7,.slice 6 (x.1.map AM) x.2.2.2)]) [0,2,4,6] (λx=>[]) [0,1] (λx=>x.2.2.2.st x.2.2.1 (x.1.length*6))
  (λx=>x.2.2.2.Bx x.2.2.1/\Has x.2.2.1 b x.2.1/\(∃s0,G5 st x.2.2.1 b s0\/x.2.2.1=st)/\x.1≠[]/\x.1.length+2*mu x.2.1<=400000000/\mu x.2.1<=mu s1/\F3 A x.1 x.2.1=F3 A [n1] s1) (λx=>mu x.2.1) ([n1],s1,st,.full)
  ⟨trivial,hs,⟨s1,.inr rfl⟩,GT,by grind,Nat.le_refl _,rfl⟩ Yl (St.le_refl _) ?_
 rintro ⟨l,s2,U,own⟩ ⟨j1,j2,j3,j4,j5,j6,j7⟩
 dsimp only at j1 j2 j3 j4 j5 j6 j7
 have hm2:mu s2<=100000000:=AC
 have hb2:=EH hm2
 have hl3:Has (U.Aa b (CD s2)) b s2:=.inl (St.Ai ..)
 have g3:own.Bx (U.Aa b (CD s2)):=HR j1 j2
 have up:∀{st4 s4},G5 U st4 b s4->G5 st st4 b s4:=λ{st4 s4} hu=>by
  obtain ⟨s0,h3|h3⟩:=j3
  .exact h3.trans hu
  simp_all
 have hn:l.length+2<=1000000000:=AC
 have hm4:Bn s2 10 [45,62]=true->mu (Ab s2).2.1<=100000000:=λe=>by have:=DU e Do Do;omega
 repeat' ((conv=>whnf);first|(refine Bp ?_;intros)|(refine Bq ?_ ?_<;>intro _)|refine oZ j2 hb2 ?_|refine Fi (hl3.hw own _) hb2 (Qz g3 hl3 (IW ‹_› Do) (λst4 h4 g4=>?_))|refine hr _ (hm4 ‹_›) b _ _ (h4.1.hw own _) (EP g4 h4.1 (FE (λn2 s5 hq2 st5 h5 g5=>?_) (λe2 s5 hq2 st5 h5 g5=>?_)))|refine dS (l:=l) (x:=Bv (Ab s2).1) (y:=n2) g5 hn (λown' ho'=>?_)|refine BR (λ_=>?_))
 .have hp:Bn s2 10 [45,62]=true:=FS
  have hd:=Ft hF _ _ _ hq2
  have hd2:=DU hp Do Do
  have hd3:mu s5<mu s2:=AC
  have hu:=(AX (st:=U) (b:=b) (s:=s2)).trans (h4.trans h5)
  refine ⟨(l++[Bv (Ab s2).1,n2],s5,st5,own'),⟨ho',h5.1,⟨s5,.inl (up hu)⟩,GT,?_,by grind,?_⟩,hd3,Yl,St.le_refl _⟩
  .grind
  .show F3 A (l++[Bv (Ab s2).1,n2]) s5=_
   rw [<-j7,Y2 (l:=l) hp hq2 hd3]
 .have hp:Bn s2 10 [45,62]=true:=FS
  have hu:=(AX (st:=U) (b:=b) (s:=s2)).trans (h4.trans h5)
  have hr:F3 A l s2=.inl (e2,s5):=by rw [F3,if_pos hp,hq2]
  rw [<-j7,hr] at h
  exact DS (AB.Bz g5) rfl (h st5 (up hu))
 .have hr:F3 A l s2=.inr (l,s2):=by rw [F3,if_neg (Bool.eq_false_iff.1 AC)]
  rw [<-j7,hr] at h
  dsimp only at h
  rw [if_pos (by grind)] at h
  exact DS (AB.Bz g3) rfl (h _ (up AX))
 .have hr:F3 A l s2=.inr (l,s2):=by rw [F3,if_neg (Bool.eq_false_iff.1 AC)]
  rw [<-j7,hr] at h
  dsimp only at h
  rw [if_neg (by grind)] at h
  exact DS (AB.Bz g3) B6 (h _ (up AX))
theorem mZ {d:Int} (hr:C9 296 d (FZ A)) (ha:WQ 364 d (Du A)) (hF:AZ A):C9 297 d (D1 A):=by
 intro s hm b st R hs h
 refine pB Tryz.func297 ?_
 unfold D1 at h
 have hm1:∀{n1 s1},FZ A s=.inr (n1,s1)->mu s1<=100000000:=λe=>by have:=Ft hF _ _ _ e;omega
 repeat' ((conv=>whnf);first|(refine Bp ?_;intros)|(refine Bq ?_ ?_<;>intro _)|refine hr s hm b _ _ hs (DG (λn1 s1 U st1 h1=>?_) (λe1 s1 U st1 h1=>?_))|refine ha n1 s1 (hm1 U) b _ _ h1.1 (DG (λn2 s2 hq2 st2 h2=>?_) (λe2 s2 hq2 st2 h2=>?_)))
 all_goals rw [U] at h
 all_goals dsimp only at h
 .rw [hq2] at h;exact BH rfl (h st2 (h1.trans h2))
 .rw [hq2] at h;exact fin (h st2 (h1.trans h2)) rfl
 .exact fin (h st1 h1) rfl
end
abbrev Er:={e:Int // e≠0}
abbrev Rv (α:Type):=Sum (Er×Ag) (α×Ag)
structure Rd (α:Type) where
 run:Ag->Rv α
 le:∀s v s',run s=.inr (v,s')->mu s'<=mu s
namespace Rd
variable {α β γ σ:Type}
theorem ext' {a b:Rd α} (h:∀s,a.run s=b.run s):a=b:=by
 obtain ⟨U,l1⟩:=a
 obtain ⟨r2,l2⟩:=b
 obtain rfl:U=r2:=funext h
 rfl
def ret (v:α):Rd α:=⟨λs=>.inr (v,s),λs U s' h=>by simp_all⟩
def seq (m:Rd α) (k:α->Rd β):Rd β:=⟨λs=>match m.run s with
 | .inl e=>.inl e
 | .inr p=>(k p.1).run p.2,λs v s' h=>by
 cases U:m.run s with
 |inl e=>simp_all
 |inr p=>rw [U] at h;exact Nat.le_trans ((k p.1).le _ _ _ h) (m.le _ _ _ U)⟩
def fail (e:Er):Rd α:=⟨λs=>.inl (e,s),λs v s' h=>by cases h⟩
def GH (t:Ag) (e:Er):Rd α:=⟨λ_=>.inl (e,t),λs v s' h=>by cases h⟩
def look (f:Ag->Rd α):Rd α:=⟨λs=>(f s).run s,λs v s' h=>(f s).le _ _ _ h⟩
def iter (body:σ->Rd (Sum σ β)) (x:σ) (s:Ag):Rv β:=
 match (body x).run s with
 | .inl e=>.inl e
 | .inr (.inr y,s')=>.inr (y,s')
 | .inr (.inl U,s')=>if mu s'<mu s then iter body U s' else .inl (⟨2,Do⟩,s)
termination_by mu s
theorem lB (body:σ->Rd (Sum σ β)) (x:σ) (s:Ag):∀v s',iter body x s=.inr (v,s')->mu s'<=mu s:=by
 fun_induction iter body x s with
 |case1 x s e h=>simp_all
 |case2 x s y s1 h=>intro v s' h';cases h';exact (body x).le _ _ _ h
 |case3 x s x' s1 h U ih=>grind
 |case4 x s x' s1 h U=>simp_all
def loop (body:σ->Rd (Sum σ β)) (x:σ):Rd β:=⟨iter body x,lB body x⟩
theorem gy {body:σ->Rd (Sum σ β)} {w:σ->Nat} {w':β->Nat} {c:Nat} (h1:∀x s U s',(body x).run s=.inr (.inl U,s')->w U<=w x+4) (h2:∀x s y s',(body x).run s=.inr (.inr y,s')->w' y<=w x+c) (x:σ) (s:Ag):
 ∀y s',(loop body x).run s=.inr (y,s')->w' y+4*mu s'<=w x+c+4*mu s:=by
 show ∀y s',iter body x s=.inr (y,s')->_
 fun_induction iter body x s with
 |case1 x s e h=>simp_all
 |case2 x s y s1 h=>intro y s' h';cases h';have:=h2 _ _ _ _ h;have:=(body x).le _ _ _ h;omega
 |case3 x s U s1 h hlt ih=>grind
 |case4 x s U s1 h hlt=>simp_all
def wp (m:Rd α) (s:Ag) (Q:α->Ag->Prop) (E:Er->Ag->Prop):Prop:=match m.run s with
 | .inl p=>E p.1 p.2
 | .inr p=>Q p.1 p.2
theorem wp_ret {v:α} {s:Ag} {Q:α->Ag->Prop} {E:Er->Ag->Prop}:wp (ret v) s Q E=Q v s:=rfl
theorem wp_seq {m:Rd α} {k:α->Rd β} {s:Ag} {Q:β->Ag->Prop} {E:Er->Ag->Prop}:wp (seq m k) s Q E=wp m s (λv s'=>wp (k v) s' Q E) E:=by
 unfold wp seq
 grind
theorem DM {e:Er} {s:Ag} {Q:α->Ag->Prop} {E:Er->Ag->Prop}:wp (fail e) s Q E=E e s:=rfl
theorem Eg {e:Er} {s t:Ag} {Q:α->Ag->Prop} {E:Er->Ag->Prop}:wp (GH t e) s Q E=E e t:=rfl
theorem Af {f:Ag->Rd α} {s:Ag} {Q:α->Ag->Prop} {E:Er->Ag->Prop}:wp (look f) s Q E=wp (f s) s Q E:=rfl
theorem As {c:Prop} [Decidable c] {a b:Rd α} {s:Ag} {Q:α->Ag->Prop} {E:Er->Ag->Prop}:wp (if c then a else b) s Q E=if c then wp a s Q E else wp b s Q E:=by grind
def again (body:σ->Rd (Sum σ β)) (s:Ag) (Q:β->Ag->Prop) (E:Er->Ag->Prop):Sum σ β->Ag->Prop
 | .inr y,s'=>Q y s'
 | .inl x,s'=>if mu s'<mu s then wp (loop body x) s' Q E else E ⟨2,Do⟩ s
theorem wp_loop {body:σ->Rd (Sum σ β)} {x:σ} {s:Ag} {Q:β->Ag->Prop} {E:Er->Ag->Prop}:wp (loop body x) s Q E=wp (body x) s (again body s Q E) E:=by
 have e:(loop body x).run s=match (body x).run s with
  | .inl e=>.inl e
  | .inr (.inr y,s')=>.inr (y,s')
  | .inr (.inl x',s')=>if mu s'<mu s then (loop body x').run s' else .inl (⟨2,Do⟩,s):=by
  show iter body x s=_
  rw [iter]
  rfl
 unfold wp
 rw [e]
 cases hb:(body x).run s with
 |inl p=>rfl
 |inr p=>
  obtain ⟨r,s'⟩:=p
  cases r with
  |inr y=>rfl
  |inl x'=>
   dsimp only [again]
   by_cases U:mu s'<mu s
   .rw [if_pos U,if_pos U];rfl
   grind
theorem Br {body:σ->Rd (Sum σ β)} {s:Ag} {Q:β->Ag->Prop} {E:Er->Ag->Prop} {y:β}:again body s Q E (.inr y) s'=Q y s':=rfl
theorem Eu {body:σ->Rd (Sum σ β)} {s:Ag} {Q:β->Ag->Prop} {E:Er->Ag->Prop} {x:σ} (h:again body s Q E (.inl x) s') (U:mu s'<mu s):wp (loop body x) s' Q E:=by
 have h:if mu s'<mu s then wp (loop body x) s' Q E else E ⟨2,Do⟩ s:=h
 simp_all
theorem wp_mono {m:Rd α} {s:Ag} {Q Q':α->Ag->Prop} {E E':Er->Ag->Prop} (h:wp m s Q E) (hq:∀v s',m.run s=.inr (v,s')->Q v s'->Q' v s') (U:∀e s',m.run s=.inl (e,s')->E e s'->E' e s'):wp m s Q' E':=by
 unfold wp at h |-
 grind
theorem ar {m:Rd α} {s:Ag} {Q:α->Ag->Prop} {E:Er->Ag->Prop} (hq:∀v s',m.run s=.inr (v,s')->Q v s') (U:∀e s',m.run s=.inl (e,s')->E e s'):wp m s Q E:=by
 unfold wp
 grind
def AZ (m:Rd α):Prop:=∀s v s',m.run s=.inr (v,s')->mu s'<mu s
theorem AZ.seq {m:Rd α} {k:α->Rd β} (h:AZ m):AZ (seq m k):=λs v s' e=>by
 unfold Rd.seq at e
 dsimp only at e
 split at e
 .cases e
 .exact Nat.lt_of_le_of_lt ((k _).le _ _ _ e) (h _ _ _ ‹_›)
theorem AZ.at {m:Rd α} {k:α->Rd β} {s s':Ag} {v:β} (h:∀v s',m.run s=.inr (v,s')->mu s'<mu s) (e:(Rd.seq m k).run s=.inr (v,s')):mu s'<mu s:=by
 unfold Rd.seq at e
 dsimp only at e
 split at e
 .cases e
 .exact Nat.lt_of_le_of_lt ((k _).le _ _ _ e) (h _ _ ‹_›)
theorem AZ.fail {e:Er}:AZ (fail e:Rd α):=λs v s' h=>by cases h
theorem AZ.GH {t:Ag} {e:Er}:AZ (GH t e:Rd α):=λs v s' h=>by cases h
theorem AZ.look {f:Ag->Rd α} (h:∀s v s',(f s).run s=.inr (v,s')->mu s'<mu s):AZ (look f):=λs v s' e=>h s v s' e
theorem AZ.ite {c:Prop} [Decidable c] {a b:Rd α} (U:AZ a) (h2:AZ b):AZ (if c then a else b):=by grind
end Rd
def HB (A:Ag->Rs) (hle:∀s v s',A s=.inr (v,s')->mu s'<=mu s):Rd Nd:=⟨λs=>match A s with
 | .inl p=>if h:p.1=0 then .inl (⟨2,Do⟩,p.2) else .inl (⟨p.1,h⟩,p.2)
 | .inr p=>.inr p,λs v s' h=>by
 grind⟩
theorem JN {hle:∀s v s',A s=.inr (v,s')->mu s'<=mu s} (U:El A) {s:Ag} {e:Int} (h:A s=.inl (e,s')):(HB A hle).run s=.inl (⟨e,U _ _ _ h⟩,s'):=by
 unfold HB
 grind
theorem Md {hle:∀s v s',A s=.inr (v,s')->mu s'<=mu s} {s:Ag} {p:Nd×Ag} (h:A s=.inr p):(HB A hle).run s=.inr p:=by
 unfold HB
 simp_all
def AO:Rd Nd:=HB DF λs v s' h=>(OS h).1
def Sg {α:Type}:Rd α:=⟨λs=>.inl (⟨Se s,Sf s⟩,s),λs v s' h=>by cases h⟩
def BA (k:Int) (x:List UInt8):Rd Nd:=.look λs=>if Bn s k x=true then AO else Sg
def Dm (ks:List Int):Rd Nd:=.look λs=>if ks.contains (Ab s).1.kind=true then AO else Sg
def Ji:Rd Unit:=.seq AO λ_=>.ret ()
theorem iW {s:Ag} (h:Bn s k x=true) (U:k≠0):AO.run s=.inr (Bv (Ab s).1,(Ab s).2.1):=Md (IW h U)
theorem Fh {s:Ag} (h:(Ab s).2.2=0):AO.run s=.inr (Bv (Ab s).1,(Ab s).2.1):=Md (by unfold DF;simp_all)
theorem Qy {s:Ag} (h:¬(Ab s).2.2=0):AO.run s=.inl (⟨(Ab s).2.2,h⟩,s):=by
 have e:DF s=.inl ((Ab s).2.2,s):=by unfold DF;rw [if_neg h]
 exact JN HI e
theorem GY {s:Ag} {v:Nd} (h:AO.run s=.inr (v,s')) (U:(Ab s).1.kind≠21):mu s'<mu s:=by
 by_cases e:(Ab s).2.2=0
 .rw [Fh e] at h;cases h;exact (EF e).2 U
 .rw [Qy e] at h;cases h
theorem FO {s:Ag} (h:(Ab s).1.kind≠0):(Ab s).2.2=0:=by
 apply Classical.byContradiction
 intro e
 rw [U6 e] at h
 exact h rfl
theorem K0 (U:k≠21):Rd.AZ (BA k x):=Rd.AZ.look λs v s' h=>by
 split at h
 .rename_i hi
  refine GY h λe=>U ?_
  unfold Bn at hi
  simp_all
 .cases h
theorem Xr {ks:List Int} (U:ks.contains 21=false):Rd.AZ (Dm ks):=Rd.AZ.look λs v s' h=>by
 split at h
 .rename_i hi
  exact GY h λe=>by simp_all
 .cases h
abbrev Lp (f:FuncId) (args:List V) (st:St) (R:Ay->St->Prop):Prop:=A5 Tryz.prog f args st R
def Iw (x:Int):List Int->Int->Int
 |[],_=> -1
 |y::r,i=>if x=y then i else Iw x r (i+1)
theorem PR {x:Int}:∀{l:List Int} {i:Int},0<=i->(0<=Iw x l i↔l.contains x=true)
 |[],i,h=>by simp [Iw]
 |y::r,i,h=>by
  simp only [Iw]
  split
  .simp_all
  .rename_i e
   rw [PR AC]
   simp [e]
theorem fP {x:Int} {st:St} {own:AB} (h:R (.ret (.int .i64 (Iw x kinds 0))) st):Lp 303 [.slice 1 (ints kinds) own,.int .i64 x] st R:=by
 refine pB Tryz.func303 ?_
 have hlen:(ints kinds).length=kinds.length:=by simp [ints]
 intro m hm hl
 rw [hlen] at hm
 subst hm
 conv=>whnf
 refine ⟨Nat,λk=>{tmps:=[(8,.int .i64 k),(7,.int .i64 kinds.length),(0,.slice 1 (ints kinds) own),(1,.int .i64 x)],boxes:=[],Bj:=0,sz:=19,gl:=[]},λ_=>st,
  λk=>k<=kinds.length/\Iw x kinds 0=Iw x (kinds.drop k) k,λk=>kinds.length - k,0,⟨Nat.zero_le _,rfl⟩,⟨rfl,⟨rfl,rfl,rfl,rfl,rfl,rfl,rfl,rfl,trivial⟩,trivial,rfl⟩,St.le_refl _,?_⟩
 rintro k ⟨hk,hi⟩
 refine Wh (λh1=>?_) (λh1=>?_)
 .have U:k<kinds.length:=AC
  have he:(ints kinds)[(k:Int).toNat]? =some [.int .i64 kinds[k]]:=by simp [ints,U]
  refine ⟨AC,_,he,?_⟩
  have hd:Iw x (kinds.drop k) k=if x=kinds[k] then (k:Int) else Iw x (kinds.drop (k+1)) (k+1):=by
   rw [List.drop_eq_getElem_cons U];rfl
  refine Wg (λh2=>?_) (λh2=>?_)
  .exact fin h ke
  .refine ⟨((k+1:Nat):Int),?_,?_⟩
   .simp only [En] at hl
    rw [Kr AC AC];rfl
   .refine ⟨k+1,⟨U,?_⟩,by grind,⟨rfl,⟨rfl,rfl,rfl,rfl,rfl,rfl,rfl,rfl,trivial⟩,trivial,rfl⟩,St.le_refl _⟩
    simp_all
 .refine fin h ?_
  have:k=kinds.length:=AC
  rw [hi,this,List.drop_length];rfl
section
variable {st:St} {R:Ay->St->Prop}
theorem Ny {x:Int} {own:AB} (h:R (.ret (.bool (kinds.contains x))) st):Lp 227 [.slice 1 (ints kinds) own,.int .i64 x] st R:=by
 refine pB Tryz.func227 ?_
 refine fP ?_
 have key:=PR (x:=x) (l:=kinds) (i:=0) AC
 refine Wh (λU=>?_) (λU=>?_)
 .exact Aq h (key.1 U)
 .refine Aq h ?_
  simp_all
def DD (n:Nd) (kinds:List Int):Bool:=n.kind==1&&kinds.contains n.form
theorem HV {own:AB} (h:R (.ret (.bool (DD n kinds))) st):Lp 352 [enc n,.slice 1 (ints kinds) own] st R:=by
 refine pB Tryz.func352 ?_
 unfold DD at h
 repeat' ((conv=>whnf);first|(refine Ky ?_;intros)|(refine Kz ?_ ?_<;>intro _)|refine Ny ?_)
 all_goals exact Aq h ke
def H8 (n:Nd) (k:Int) (t:List UInt8):Bool:=DD n [k]&&n.text==t
theorem IP (h:R (.ret (.bool (H8 n k t))) st):Lp 353 [enc n,.int .i64 k,.str t] st R:=by
 refine pB Tryz.func353 ?_
 unfold H8 at h
 repeat' ((conv=>whnf);first|(refine Ky ?_;intros)|(refine Kz ?_ ?_<;>intro _)|refine HV (kinds:=[k]) ?_)
 all_goals exact Aq h ke
def CP (n:Nd) (o s:List UInt8):Option (List Nd):=
 if 2<=n.kids.length/\n.kids[0]?.any (H8 · 15 o)=true/\n.kids[n.kids.length - 1]?.any (H8 · 15 s)=true then some ((n.kids.take (n.kids.length - 1)).drop 1) else none
theorem HP (U:∀l,CP n o s=some l->R (.ret (.Bu [.slice 6 (Cv l) .any,.bool true])) st)
 (hn:CP n o s=none->R (.ret (.Bu [.slice 6 [] .any,.bool false])) st):Lp 348 [enc n,.str o,.str s] st R:=by
 refine pB Tryz.func348 ?_
 repeat' ((conv=>whnf);first|(refine Ky ?_;intros)|(refine Kz ?_ ?_<;>intro _)|refine IP ?_)
 .exact SI (hn (by simp [CP];omega)) rfl
 all_goals
  have e:((n.kids.length:Int) - 1).toNat=n.kids.length - 1:=AC
  simp only [e,Int.toNat_zero,Int.reduceToNat] at *
  first
   |exact SI (U _ (by simp_all [CP];omega)) rfl
   |exact SI (hn (by simp_all [CP])) rfl
theorem XC (h:CP n o s=some l):l.length+2=n.kids.length:=by
 simp only [CP] at h
 grind
theorem SM (U:∀l,CP n o s=some l->l.length+2=n.kids.length->R (.ret (.Bu [.slice 6 (Cv l) .any,.bool true])) st)
 (hn:CP n o s=none->R (.ret (.Bu [.slice 6 [] .any,.bool false])) st):Lp 348 [enc n,.str o,.str s] st R:=
 HP (λl h=>U l h (XC h)) hn
def Nr:Nd:=.mk 0 0 [] 0 0 []
def OC (n:Nd):Bool:=DD n [6,8]||H8 n 10 [58]
theorem UW (h:R (.ret (.bool (OC n))) st):Lp 401 [enc n] st R:=by
 refine pB Tryz.func401 ?_
 repeat' ((conv=>whnf);first|(refine Ky ?_;intros)|(refine Kz ?_ ?_<;>intro _)|refine HV (kinds:=[6,8]) ?_|refine IP ?_)
 all_goals conv=>whnf
 all_goals (refine Aq h ?_;clear h;simp_all [OC])
def M3 (n:Nd):Option Nd:=if n.kind=3 then (match CP n [40] [41] with|some l=>if l.length=1 then l[0]? else none|none=>none) else none
theorem U2 (U:∀x,M3 n=some x->R (.ret (.Bu [enc x,.bool true])) st) (hn:M3 n=none->R (.ret (.Bu [enc Nr,.bool false])) st):Lp 396 [enc n] st R:=by
 refine pB Tryz.func396 ?_
 repeat' ((conv=>whnf);first|(refine Ky ?_;intros)|(refine Kz ?_ ?_<;>intro _)|refine HP (λl hl=>?_) (λhl=>?_))
 all_goals conv=>whnf
 all_goals first
  |exact BH rfl (U _ (by clear U hn;simp_all [M3]))
  |exact BH rfl (hn (by clear U hn;simp_all [M3]))
def FF (n:Nd):Option (List UInt8):=
 if DD n [1] then some n.text else match M3 n with|some x=>if DD x [5] then some x.text else none|none=>none
theorem Lm (U:∀t,FF n=some t->R (.ret (.Bu [.str t,.bool true])) st) (hn:FF n=none->R (.ret (.Bu [.str [],.bool false])) st):Lp 349 [enc n] st R:=by
 refine pB Tryz.func349 ?_
 repeat' ((conv=>whnf);first|(refine Ky ?_;intros)|(refine Kz ?_ ?_<;>intro _)|refine U2 (λl hl=>?_) (λhl=>?_)|refine HV (kinds:=[1]) ?_|refine HV (kinds:=[5]) ?_)
 all_goals conv=>whnf
 all_goals first
  |exact BH rfl (U _ (by clear U hn;simp_all [FF]))
  |exact BH rfl (hn (by clear U hn;simp_all [FF]))
def P0 (n:Nd):Bool:=DD n [2,4]||(match M3 n with|some x=>OC x|none=>false)
theorem S2 (h:R (.ret (.bool (P0 n))) st):Lp 357 [enc n] st R:=by
 refine pB Tryz.func357 ?_
 repeat' ((conv=>whnf);first|(refine Ky ?_;intros)|(refine Kz ?_ ?_<;>intro _)|refine U2 (λl U=>?_) (λU=>?_)|refine HV (kinds:=[2,4]) ?_|refine UW ?_)
 all_goals conv=>whnf
 all_goals (refine Aq h ?_;clear h;simp_all [P0])
def DJ (n:Nd):Nd×Bool:=
 if n.kind=18 then (if n.kids.length=1 then ((n.kids[0]?.getD Nr),false) else if n.kids.length=3 then (match CP n [96] [96] with|some l=>((l[0]?.getD Nr),true)|none=>(Nr,false)) else (Nr,false)) else (Nr,false)
theorem NL (h:R (.ret (.Bu [enc (DJ n).1,.bool (DJ n).2])) st):Lp 397 [enc n] st R:=by
 refine pB Tryz.func397 ?_
 repeat' ((conv=>whnf);first|(refine Ky ?_;intros)|(refine Kz ?_ ?_<;>intro _)|refine SM (λl U hk=>?_) (λU=>?_))
 all_goals conv=>whnf
 all_goals refine BH ?_ h
 all_goals clear h
 all_goals simp_all [DJ]
 all_goals rfl
def S3 (n:Nd):Bool:=if (DJ n).2 then DD (DJ n).1 [2,4] else OC (DJ n).1
theorem ZG (h:R (.ret (.bool (S3 n))) st):Lp 402 [enc n] st R:=by
 refine pB Tryz.func402 ?_
 repeat' ((conv=>whnf);first|(refine Ky ?_;intros)|(refine Kz ?_ ?_<;>intro _)|refine NL ?_|refine HV (kinds:=[2,4]) ?_|refine UW ?_)
 all_goals conv=>whnf
 all_goals (refine Aq h ?_;clear h;simp_all [S3])
def Pc (n:Nd):Option (List UInt8):=
 if (if (DJ n).2 then DD (DJ n).1 [1] else DD (DJ n).1 [5]) then some (DJ n).1.text else none
theorem kr (U:∀t,Pc n=some t->R (.ret (.Bu [.str t,.bool true])) st) (hn:Pc n=none->R (.ret (.Bu [.str [],.bool false])) st):Lp 350 [enc n] st R:=by
 refine pB Tryz.func350 ?_
 repeat' ((conv=>whnf);first|(refine Ky ?_;intros)|(refine Kz ?_ ?_<;>intro _)|refine NL ?_|refine HV (kinds:=[1]) ?_|refine HV (kinds:=[5]) ?_)
 all_goals conv=>whnf
 all_goals first
  |exact BH rfl (U _ (by clear U hn;simp_all [Pc]))
  |exact BH rfl (hn (by clear U hn;simp_all [Pc]))
def CJ (f:FuncId) (p:Nd->Bool) (x:Nd):Prop:=∀(st:St) (R:Ay->St->Prop),R (.ret (.bool (p x))) st->Lp f [enc x] st R
def IG (p:Nd->Bool):Bool->List Nd->Bool
 |_,[]=>true
 |b,x::r=>(if b then H8 x 15 [44] else p x)&&IG p (!b) r
def Mi (p:Nd->Bool) (l:List Nd):Bool:=l.length % 2==1&&IG p false l
theorem Yi {k:Nat} {x:Nd} (h:l[k]? =some x):
 IG p (k % 2==1) (l.drop k)=((if k % 2=1 then H8 x 15 [44] else p x)&&IG p ((k+1) % 2==1) (l.drop (k+1))):=by
 rw [drop_at h,IG]
 have:(!(k % 2==1))=((k+1) % 2==1):=by
  rcases Nat.mod_two_eq_zero_or_one k with e|e
  .grind
  .grind
 grind
theorem Ve (U:∀x ∈ l,CJ f p x) (h:R (.ret (.bool (Mi p l))) st):Lp 399 [.slice 6 (Cv l) .any,.func f [] []] st R:=by
 refine pB Tryz.func399 ?_
 repeat' ((conv=>whnf);first|(refine Ky ?_;intros)|(refine Kz ?_ ?_<;>intro _)|refine IP ?_)
 .conv=>whnf
  refine Aq h ?_
  have:=QC.1 ‹_›
  simp [Mi,this]
 .refine K6 13 [11,12,1] l.length (λk=>k<=l.length/\(IG p false l=IG p (k % 2==1) (l.drop k))) ⟨Nat.zero_le _,rfl⟩ Yl ?_
  rintro k ⟨hk,hi⟩
  repeat' ((conv=>whnf);first|(refine Ky ?_;intros)|(refine Kz ?_ ?_<;>intro _)|refine IP ?_|refine U _ ‹_› _ _ ?_)
  all_goals conv=>whnf
  all_goals simp only [QC,de,Int.toNat_natCast] at *
  all_goals try (have e:=Yi (p:=p) ‹l[k]? =some _›;rw [e] at hi;clear e)
  all_goals try omega
  all_goals first
   |(refine ⟨k+1,⟨AC,?_⟩,AC,Yl,St.le_refl _⟩;clear h;simp_all)
   |(refine Aq h ?_;clear h;simp_all [Mi])
  rw [List.drop_eq_nil_of_le AC];rfl
def Cw (p:Nd->Bool):List Nd->Int->Int
 |[],_=> -1
 |y::r,i=>if p y then i else Cw p r (i+1)
theorem GP {p:Nd->Bool}:∀{l:List Nd} {i:Int},0<=i->(0<=Cw p l i↔l.any p=true)
 |[],i,h=>by simp [Cw]
 |y::r,i,h=>by
  simp only [Cw,List.any_cons]
  split
  .simp_all
  .rename_i e
   rw [GP AC]
   simp [e]
theorem SQ {st:St}
 (U:∀x ∈ l,CJ f p x) (h:R (.ret (.int .i64 (Cw p l 0))) st):Lp 304 [.slice 6 (Cv l) .any,.func f [] []] st R:=by
 refine pB Tryz.func304 ?_
 repeat' ((conv=>whnf);first|(refine Ky ?_;intros)|(refine Kz ?_ ?_<;>intro _)|refine IP ?_)
 refine K6 8 [6,7,0,1] l.length (λk=>k<=l.length/\(Cw p l 0=Cw p (l.drop k) k)) ⟨Nat.zero_le _,rfl⟩ Yl ?_
 rintro k ⟨hk,hi⟩
 repeat' ((conv=>whnf);first|(refine Ky ?_;intros)|(refine Kz ?_ ?_<;>intro _)|refine U _ ‹_› _ _ ?_)
 all_goals conv=>whnf
 all_goals try (have e:=drop_at ‹l[Int.toNat k]? =some _›;rw [Int.toNat_natCast] at e;rw [e,Cw] at hi;clear e)
 all_goals first
  |(refine ⟨k+1,⟨AC,?_⟩,AC,Yl,St.le_refl _⟩;clear h;simp_all)
  |(refine fin h ?_;clear h;simp_all;done)
  |(refine fin h ?_;rw [hi,List.drop_eq_nil_of_le AC];rfl)
theorem Jc (hf:∀x ∈ l,CJ f p x) (h:R (.ret (.bool (l.any p))) st):Lp 229 [.slice 6 (Cv l) .any,.func f [] []] st R:=by
 refine pB Tryz.func229 ?_
 refine SQ hf ?_
 have key:=GP (p:=p) (l:=l) (i:=0) AC
 refine Wh (λU=>?_) (λU=>?_)
 .exact Aq h (key.1 U)
 .refine Aq h ?_
  simp_all
theorem lr {x:Nd}:CJ 398 (λx=> !H8 x 15 [44]) x:=by
 intro st R h
 refine pB Tryz.func398 ?_
 repeat' ((conv=>whnf);first|(refine Ky ?_;intros)|(refine Kz ?_ ?_<;>intro _)|refine IP ?_)
 all_goals conv=>whnf
 all_goals (refine Aq h ?_;clear h;simp_all)
def fN (n:Nd):Bool:=
 (FF n).isSome||P0 n||(match CP n [91] [93] with|some l=>l.isEmpty|none=>match CP n [40] [41] with|some l=> !l.any λx=> !H8 x 15 [44]|none=>false)
theorem oW (h:R (.ret (.bool (fN n))) st):Lp 354 [enc n] st R:=by
 refine pB Tryz.func354 ?_
 repeat' ((conv=>whnf);first|(refine Ky ?_;intros)|(refine Kz ?_ ?_<;>intro _)|refine Lm (λl U=>?_) (λU=>?_)|refine S2 ?_|refine HP (λl U=>?_) (λU=>?_)|refine Jc (λx _=>lr) ?_)
 all_goals conv=>whnf
 all_goals (refine Aq h ?_;clear h;simp_all [fN])
end
section
variable {st:St} {R:Ay->St->Prop}
theorem K4 (h:CP n o s=some l):∀x ∈ l,x ∈ n.kids:=by
 simp only [CP] at h
 grind
def Gy (p:Nd->Bool) (n:Nd) (o s:List UInt8) (least:Int) (one:Bool):Bool:=
 match CP n o s with
 |some l=>decide (2*least - 1<=(l.length:Int))&&(!one||l.length==1)&&Mi p l
 |none=>false
theorem T4 {least:Int} {one:Bool} (h0:0<=least) (h1:least<=10) (hp:∀x ∈ n.kids,CJ 291 p x)
 (h:R (.ret (.bool (Gy p n o s least one))) st):Lp 355 [enc n,.str o,.str s,.int .i64 least,.bool one] st R:=by
 cases one
 all_goals refine pB Tryz.func355 ?_
 repeat' ((conv=>whnf);first|(refine Ky ?_;intros)|(refine Kz ?_ ?_<;>intro _)|refine HP (λl U=>?_) (λU=>?_)|refine Ve (λx hx=>hp x (K4 ‹_› x hx)) ?_)
 all_goals conv=>whnf
 all_goals (refine Aq h ?_;clear h;simp_all [Gy])
 all_goals (intros;omega)
def aB (q:Nd->Bool):List Nd->Bool
 |[]=>true
 |x::r=>q x&&aB q r
def Lz (p:Nd->Bool) (x:Nd):Bool:= !(x.kind==11)&& !(x.kind==17)&&p x
def Ly (p:Nd->Bool) (l:List Nd):Bool:=aB (Lz p) l&&decide (0<l.length)
theorem T3 (U:∀x ∈ l,CJ 291 p x) (h:R (.ret (.bool (Ly p l))) st):Lp 347 [.slice 6 (Cv l) .any] st R:=by
 refine pB Tryz.func347 ?_
 repeat' ((conv=>whnf);first|(refine Ky ?_;intros)|(refine Kz ?_ ?_<;>intro _)|refine IP ?_)
 refine K6 7 [5,6,0] l.length (λk=>k<=l.length/\aB (Lz p) l=aB (Lz p) (l.drop k)) ⟨Nat.zero_le _,rfl⟩ Yl ?_
 rintro k ⟨hk,hi⟩
 repeat' ((conv=>whnf);first|(refine Ky ?_;intros)|(refine Kz ?_ ?_<;>intro _)|refine U _ ‹_› _ _ ?_)
 all_goals conv=>whnf
 all_goals try (have e:=drop_at ‹l[Int.toNat k]? =some _›;rw [Int.toNat_natCast] at e;rw [e,aB] at hi;clear e)
 all_goals first
  |(refine ⟨k+1,⟨AC,?_⟩,AC,Yl,St.le_refl _⟩;clear h;simp_all [Lz];done)
  |(refine Aq h ?_;clear h;simp_all [Ly,Lz];done)
  |(refine Aq h ?_;clear h;rw [List.drop_eq_nil_of_le AC] at hi;simp_all [Ly,aB];done)
  |skip
def Xz (p:Nd->Bool) (n:Nd):Bool:=
 n.kind==13&&n.kids.length==3&&n.kids[0]?.any (DD · [1,3])&&n.kids[1]?.any (H8 · 10 [61])&&n.kids[2]?.any p
theorem kY (U:∀x ∈ n.kids,CJ 291 p x):CJ 400 (Xz p) n:=by
 intro st R h
 refine pB Tryz.func400 ?_
 repeat' ((conv=>whnf);first|(refine Ky ?_;intros)|(refine Kz ?_ ?_<;>intro _)|refine HV (kinds:=[1,3]) ?_|refine IP ?_|refine U _ ‹_› _ _ ?_)
 all_goals conv=>whnf
 all_goals (refine Aq h ?_;clear h;simp_all [Xz])
def OL (p:Nd->Bool) (n:Nd):Bool:=
 decide (3<=n.kids.length)&&n.kids[0]?.any P0&&(match CP (.mk 0 0 [] 0 0 (n.kids.drop 1)) [123] [125] with|some l=>l.isEmpty||Mi (Xz p) l|none=>false)
theorem ik (hp:∀x ∈ n.kids,∀y ∈ x.kids,CJ 291 p y) (h:R (.ret (.bool (OL p n))) st):Lp 356 [enc n] st R:=by
 refine pB Tryz.func356 ?_
 repeat' ((conv=>whnf);first|(refine Ky ?_;intros)|(refine Kz ?_ ?_<;>intro _)|refine S2 ?_|refine HP (n:=.mk 0 0 [] 0 0 _) (λl U=>?_) (λU=>?_)|refine Ve (λx hx=>kY (hp x (List.mem_of_mem_drop (i:=1) (l:=n.kids) (K4 (n:=.mk 0 0 [] 0 0 (n.kids.drop 1)) ‹_› x hx)))) ?_)
 all_goals conv=>whnf
 all_goals (refine Aq h ?_;clear h;try simp only [Int.toNat_zero,Int.toNat_one] at *;simp_all [OL])
 all_goals first
  |omega
  |(have:¬3<=n.kids.length:=by omega
    simp [OL,this])
def IM (p:Nd->Bool):Nat->List Nd->Bool
 |2,[]=>true
 |_,[]=>false
 |0,x::r=>if x.kind=19 then IM p 1 r else (!(x.kind==17)&&p x)&&IM p 2 r
 |1,x::r=>DD x [11,12]&&IM p 2 r
 |_,x::r=>S3 x&&IM p 0 r
theorem nQ {k:Nat} {x:Nd} (h:l[k]? =some x):IM p 0 (l.drop k)=if x.kind=19 then IM p 1 (l.drop (k+1)) else (!(x.kind==17)&&p x)&&IM p 2 (l.drop (k+1)):=by
 rw [drop_at h];rfl
theorem nR {k:Nat} {x:Nd} (h:l[k]? =some x):IM p 1 (l.drop k)=(DD x [11,12]&&IM p 2 (l.drop (k+1))):=by
 rw [drop_at h];rfl
theorem Z6 {k:Nat} {x:Nd} (h:l[k]? =some x):IM p 2 (l.drop k)=(S3 x&&IM p 0 (l.drop (k+1))):=by
 rw [drop_at h];rfl
theorem NO {k s:Nat} (h:l.length<=k):IM p s (l.drop k)=(s==2):=by
 rw [List.drop_eq_nil_of_le h]
 match s with
 |0=>rfl
 |1=>rfl
 |2=>rfl
 |s+3=>rfl
theorem rT:(0:Int).toNat=0:=rfl
theorem rU:((0:Int)+1).toNat=1:=rfl
theorem rV:((0:Int)+1+1).toNat=2:=rfl
theorem rW {k:Nat}:((k:Int)+1).toNat=k+1:=AC
theorem rX {k:Nat}:((k:Int)+1+1).toNat=k+2:=AC
theorem iA (U:∀x ∈ l,CJ 291 p x) (h:R (.ret (.bool (IM p 0 l))) st):Lp 358 [.slice 6 (Cv l) .any] st R:=by
 refine pB Tryz.func358 ?_
 conv=>whnf
 refine ⟨Nat,λ_=>0,λk=>{tmps:=[(3,.int .i64 k),(0,.slice 6 (Cv l) .any)],boxes:=[],Bj:=0,sz:=57,gl:=[]},λ_=>st,
  λk=>k<=l.length/\IM p 0 l=IM p 0 (l.drop k),λk=>l.length - k,?_,?_⟩
 .have hi:IM p 0 l=IM p 0 (l.drop 0):=rfl
  repeat' ((conv=>whnf);first|(refine Ky ?_;intros)|(refine Kz ?_ ?_<;>intro _)|refine HV (kinds:=[11,12]) ?_|refine ZG ?_|refine U _ ‹_› _ _ ?_)
  all_goals conv=>whnf
  all_goals try simp only [rT,rU,rV,rW,rX,Int.toNat_natCast,Nat.zero_add,Nat.reduceAdd] at *
  all_goals try (have e:=nQ (p:=p) ‹l[0]? =some _›;rw [e] at hi;clear e)
  all_goals (try have e1:=nR (p:=p) ‹l[1]? =some _›)
  all_goals (try have e2:=Z6 (p:=p) ‹l[1]? =some _›)
  all_goals (try have e3:=Z6 (p:=p) ‹l[2]? =some _›)
  all_goals (try have f0:=NO (p:=p) (s:=0) (l:=l) (k:=0) AC)
  all_goals (try have f1:=NO (p:=p) (s:=1) (l:=l) (k:=1) AC)
  all_goals (try have f2:=NO (p:=p) (s:=2) (l:=l) (k:=1) AC)
  all_goals (try have f3:=NO (p:=p) (s:=2) (l:=l) (k:=2) AC)
  all_goals try simp only [Nat.zero_add,Nat.reduceAdd] at *
  all_goals first
   |(refine Aq h ?_;clear h;clear U;simp_all;done)
   |(refine ⟨3,(by first|trivial|rfl),⟨AC,?_⟩,Yl,St.le_refl _⟩;clear h;clear U;simp_all;done)
   |(refine ⟨2,(by first|trivial|rfl),⟨AC,?_⟩,Yl,St.le_refl _⟩;clear h;clear U;simp_all;done)
 .rintro k ⟨hk,hi⟩
  refine ⟨_,rfl,?_⟩
  repeat' ((conv=>whnf);first|(refine Ky ?_;intros)|(refine Kz ?_ ?_<;>intro _)|refine HV (kinds:=[11,12]) ?_|refine ZG ?_|refine U _ ‹_› _ _ ?_)
  all_goals conv=>whnf
  all_goals try simp only [rT,rU,rV,rW,rX,Int.toNat_natCast,Nat.zero_add,Nat.reduceAdd] at *
  all_goals try (have e:=nQ (p:=p) ‹l[k]? =some _›;rw [e] at hi;clear e)
  all_goals (try have e1:=nR (p:=p) ‹l[k+1]? =some _›)
  all_goals (try have e2:=Z6 (p:=p) ‹l[k+1]? =some _›)
  all_goals (try have e3:=Z6 (p:=p) ‹l[k+2]? =some _›)
  all_goals (try have f0:=NO (p:=p) (s:=0) (l:=l) (k:=k) AC)
  all_goals (try have f1:=NO (p:=p) (s:=1) (l:=l) (k:=k+1) AC)
  all_goals (try have f2:=NO (p:=p) (s:=2) (l:=l) (k:=k+1) AC)
  all_goals (try have f3:=NO (p:=p) (s:=2) (l:=l) (k:=k+2) AC)
  all_goals try simp only [Nat.zero_add,Nat.reduceAdd] at *
  all_goals first
   |(refine Aq h ?_;clear h;clear U;simp_all;done)
   |(refine ⟨k+3,(by first|trivial|rfl),⟨AC,?_⟩,AC,Yl,St.le_refl _⟩;clear h;clear U;simp_all;done)
   |(refine ⟨k+2,(by first|trivial|rfl),⟨AC,?_⟩,AC,Yl,St.le_refl _⟩;clear h;clear U;simp_all;done)
end
section
variable {st:St} {R:Ay->St->Prop}
def L6 (p:Nd->Bool) (n:Nd):Bool:=
 if n.kind=1 then DD n [1,2,4,11,12,13,14]
 else if n.kind=14 then n.kids.length==1&&n.kids[0]?.any (H8 · 9 [95])
 else if n.kind=3 then fN n
 else if n.kind=15 then n.kids.length==3&&n.kids[0]?.any (DD · [1])&&n.kids[1]?.any (H8 · 10 [64])&&n.kids[2]?.any p
 else if n.kind=16 then n.kids.length==2&&n.kids[0]?.any (H8 · 10 [126])&&n.kids[1]?.any p
 else if n.kind=4 then Gy p n [40] [41] 1 true
 else if n.kind=5 then Gy p n [40] [41] 2 false
 else if n.kind=6 then Gy p n [91] [93] 1 false
 else if n.kind=12 then OL p n
 else if n.kind=11 then decide (0<n.kids.length)&&n.kids[0]?.any P0&&Ly p (n.kids.drop 1)
 else if n.kind=17 then decide (1<n.kids.length)&&IM p 0 n.kids
 else false
theorem gC (hp:∀x,x.size<n.size->CJ 291 p x):CJ 291 (L6 p) n:=by
 intro st R h
 have U:∀x ∈ n.kids,CJ 291 p x:=λx hx=>hp x (Fa hx)
 have hkk:∀x ∈ n.kids,∀y ∈ x.kids,CJ 291 p y:=λx hx y hy=>hp y (Nat.lt_trans (Fa hy) (Fa hx))
 have hd:∀x ∈ n.kids.drop 1,CJ 291 p x:=λx hx=>U x (List.mem_of_mem_drop hx)
 refine pB Tryz.func291 ?_
 repeat' ((conv=>whnf);first|(refine Ky ?_;intros)|(refine Kz ?_ ?_<;>intro _)|refine HV (kinds:=[1,2,4,11,12,13,14]) ?_|refine IP ?_|refine oW ?_|refine HV (kinds:=[1]) ?_|refine U _ ‹_› _ _ ?_|refine T4 (p:=p) Do Do U ?_|refine ik hkk ?_|refine S2 ?_|refine T3 hd ?_|refine iA U ?_)
 all_goals conv=>whnf
 all_goals (refine Aq h ?_;clear h hp U hkk hd;try simp only [Int.toNat_zero,Int.toNat_one,Int.reduceToNat] at *)
 all_goals first
  |(simp_all [L6];done)
  |(have:1<n.kids.length:=by omega
    simp_all [L6];done)
  |(have:¬1<n.kids.length:=by omega
    simp_all [L6];intros;omega)
def lQ:Nat->Nd->Bool
 |0,_=>false
 |k+1,n=>L6 (lQ k) n
theorem size_pos (n:Nd):0<n.size:=by cases n;rw [Nd.size];omega
theorem X2:∀(k:Nat) (n:Nd),n.size<=k->CJ 291 (lQ k) n
 |0,n,h=>by have:=size_pos n;omega
 |k+1,n,h=>gC λx U=>X2 k x AC
def Z8 (p:Nd->Bool) (l:List Nd):Bool:=if l.length=1 then l[0]?.any (λx=> !(x.kind==17)&&p x) else IM p 0 l
theorem iM (U:∀x ∈ l,CJ 291 p x) (h:R (.ret (.bool (Z8 p l))) st):Lp 351 [.slice 6 (Cv l) .any] st R:=by
 refine pB Tryz.func351 ?_
 repeat' ((conv=>whnf);first|(refine Ky ?_;intros)|(refine Kz ?_ ?_<;>intro _)|refine U _ ‹_› _ _ ?_|refine iA U ?_)
 all_goals conv=>whnf
 all_goals (refine Aq h ?_;clear h U;try simp only [Int.toNat_zero,Int.toNat_one,Int.reduceToNat] at *)
 all_goals first
  |(simp_all [Z8];done)
  |skip
def Gt (p:Nd->Bool) (l:List Nd):Nat->List Nd->List UInt8×Bool
 |_,[]=>([],false)
 |i,x::r=>match Pc x with
  |some t=>(t,Z8 p (l.take i)&&Z8 p (l.drop (i+1)))
  |none=>Gt p l (i+1) r
def C4 (p:Nd->Bool) (q:Nd->List UInt8×Bool) (n:Nd):List UInt8×Bool:=
 if n.kind=11 then
  if 2<=n.kids.length then (if Ly p (n.kids.drop 1) then (match n.kids[0]? with
   |none=>([],false)
   |some f=>if f.kind=4 then (match CP f [40] [41] with|some l=>if l.length=1 then (match l[0]? with|some x=>q x|none=>([],false)) else ([],false)|none=>([],false))
    else match FF f with|some t=>(t,true)|none=>([],false)) else ([],false)) else ([],false)
 else if n.kind=17 then Gt p n.kids 0 n.kids
 else ([],false)
theorem fG {f:List UInt8×Bool} {b:Bool} (h:f=(t,b)):Ay.ret (.Bu [.str f.1,.bool f.2])=(Ay.ret (.Bu [.str t,.bool b])).wk:=by subst h;rfl
def WR (q:Nd->List UInt8×Bool) (x:Nd):Prop:=∀(st:St) (R:Ay->St->Prop),R (.ret (.Bu [.str (q x).1,.bool (q x).2])) st->Lp 290 [enc x] st R
theorem QS {q:Nd->List UInt8×Bool} (hp:∀x,x.size<n.size->CJ 291 p x) (hq:∀x,x.size<n.size->WR q x):WR (C4 p q) n:=by
 intro st R h
 have hk:∀x ∈ n.kids,CJ 291 p x:=λx U=>hp x (Fa U)
 have hd:∀x ∈ n.kids.drop 1,CJ 291 p x:=λx U=>hk x (List.mem_of_mem_drop U)
 refine pB Tryz.func290 ?_
 repeat' ((conv=>whnf);first|(refine Ky ?_;intros)|(refine Kz ?_ ?_<;>intro _)|refine T3 hd ?_|refine HP (λl hl=>?_) (λhl=>?_)|refine Lm (λl hl=>?_) (λhl=>?_)|refine hq _ (Nat.lt_trans (Fa (K4 ‹_› _ ‹_›)) (Fa ‹_›)) _ _ ?_)
 all_goals try (refine L5 63 [1,61,62] [0] n.kids.length (λk=>k<=n.kids.length/\Gt p n.kids 0 n.kids=Gt p n.kids k (n.kids.drop k)) ⟨Nat.zero_le _,rfl⟩ Yl ?_;rintro k ⟨hkl,hi⟩)
 repeat' ((conv=>whnf);first|(refine Ky ?_;intros)|(refine Kz ?_ ?_<;>intro _)|refine kr (λl hl=>?_) (λhl=>?_)|refine iM (λx U=>hk x (List.mem_of_mem_take (List.mem_of_mem_drop U))) ?_|refine iM (λx U=>hk x (List.mem_of_mem_drop U)) ?_)
 all_goals conv=>whnf
 all_goals first
  |refine BH ?_ h
  |(refine ⟨k+1,⟨AC,?_⟩,AC,Yl,St.le_refl _⟩)
  |skip
 all_goals clear h hp hq hk hd
 all_goals try (have e:=drop_at ‹n.kids[Int.toNat k]? =some _›;rw [Int.toNat_natCast] at e;rw [e,Gt] at hi;clear e)
 all_goals try simp only [Int.toNat_zero,Int.toNat_one,Int.reduceToNat,Int.toNat_natCast] at *
 all_goals first
  |(simp_all;done)
  |refine fG ?_
 .have:¬2<=n.kids.length:=AC
  simp [C4, *]
 all_goals try have g:2<=n.kids.length:=AC
 .rename_i x _ _ y _ _ _
  have e:C4 p q n=q y:=by simp_all [C4]
  rw [e];exact Prod.ext rfl ‹_›
 .rename_i x _ _ y _ _ _
  have e:C4 p q n=q y:=by simp_all [C4]
  rw [e];exact Prod.ext rfl ‹_›
 all_goals try (rw [List.drop_eq_nil_of_le AC,Gt] at hi)
 all_goals simp_all [C4]
def lf:Nat->Nd->List UInt8×Bool
 |0,_=>([],false)
 |k+1,n=>C4 (lQ k) (lf k) n
theorem PN:∀(k:Nat) (n:Nd),n.size<=k->WR (lf k) n
 |0,n,h=>by have:=size_pos n;omega
 |k+1,n,h=>QS (λx U=>X2 k x AC) λx U=>PN k x AC
end
section
variable {st:St} {R:Ay->St->Prop}
def KK (n:Nd):Bool:=lQ n.size n
theorem X1:CJ 291 KK n:=λst R h=>X2 n.size n (Nat.le_refl _) st R h
def Xd (n:Nd):Int:=if KK n then 0 else 120
theorem eG (h:R (.ret (.int .i64 (Xd n))) st):Lp 422 [enc n] st R:=by
 refine pB Tryz.func422 ?_
 repeat' ((conv=>whnf);first|(refine Ky ?_;intros)|(refine Kz ?_ ?_<;>intro _)|refine X1 _ _ ?_)
 all_goals conv=>whnf
 all_goals (refine fin h ?_;clear h;simp_all [Xd])
def gu (n:Nd):Int×List UInt8×Int:=
 if (lf n.size n).2 then (1,(lf n.size n).1,0) else if KK n then (2,[],0) else (0,[],120)
theorem fI {f:Int×List UInt8×Int} {b:Int} (h:f=(b,t,c)):Ay.ret (.Bu [.int .i64 f.1,.str f.2.1,.int .i64 f.2.2])=(Ay.ret (.Bu [.int .i64 b,.str t,.int .i64 c])).wk:=by subst h;rfl
theorem qH (h:R (.ret (.Bu [.int .i64 (gu n).1,.str (gu n).2.1,.int .i64 (gu n).2.2])) st):Lp 215 [enc n] st R:=by
 refine pB Tryz.func215 ?_
 repeat' ((conv=>whnf);first|(refine Ky ?_;intros)|(refine Kz ?_ ?_<;>intro _)|refine PN _ n (Nat.le_refl _) _ _ ?_|refine X1 _ _ ?_)
 all_goals conv=>whnf
 all_goals (refine BH ?_ h;clear h;refine fI ?_;simp_all [gu])
def Fx (q:Nd->List (List UInt8)) (field:Bool):Nat->List Nd->List (List UInt8)
 |_,[]=>[]
 |i,x::r=>(if 0<i\/field=false then q x else [])++Fx q field (i+1) r
def CH (q:Nd->List (List UInt8)) (n:Nd):List (List UInt8):=
 match FF n with
 |some s=>[s]
 |none=>if n.kind=18\/n.kind=19 then [] else Fx q (n.kind==13) 0 n.kids
def WS (q:Nd->List (List UInt8)) (x:Nd):Prop:=∀(l:List (List UInt8)) (own:AB) (st:St) (R:Ay->St->Prop),l.length+(q x).length<=1000000000->own.Bx st->
 (∀U:AB,U.Bx st->R (.ret (.slice 1 (strs (l++q x)) U)) (U.st st (l++q x).length))->Lp 393 [.slice 1 (strs l) own,enc x] (own.st st l.length) R
attribute [local irreducible] Go.Aw.Ah
theorem X7 {q:Nd->List (List UInt8)} (hq:∀x,x.size<n.size->WS q x):WS (CH q) n:=by
 intro l own st R hb ho h
 refine pB Tryz.func393 ?_
 repeat' ((conv=>whnf);first|(refine Ky ?_;intros)|(refine Kz ?_ ?_<;>intro _)|refine Lm (λt ht=>?_) (λht=>?_)|refine NW (new:=[_]) ho ?_ (λown' ho'=>?_))
 .have e:CH q n=[t]:=by simp [CH,ht]
  rw [e] at hb;exact hb
 .conv=>whnf
  have e:CH q n=[t]:=by simp [CH,ht]
  rw [e] at h
  exact fin (h own' ho') rfl
 .conv=>whnf
  have e:CH q n=[]:=by simp [CH, *]
  rw [e,List.append_nil] at h
  exact fin (h own ho) rfl
 .conv=>whnf
  have e:CH q n=[]:=by simp [CH, *]
  rw [e,List.append_nil] at h
  exact fin (h own ho) rfl
 .have e:CH q n=Fx q (n.kind==13) 0 n.kids:=by simp [CH, *]
  rw [e] at h hb
  conv=>whnf
  refine S0 (α:=Nat×AB×List (List UInt8)) (λx=>[(31,.int .i64 (x.1:Int)),(0,.slice 1 (strs x.2.2) x.2.1)]) [3,29,30] [0] (λx=>AB.st st x.2.2.length x.2.1)
   (λx=>x.1<=n.kids.length/\AB.Bx st x.2.1/\l++Fx q (n.kind==13) 0 n.kids=x.2.2++Fx q (n.kind==13) x.1 (n.kids.drop x.1)) (λx=>n.kids.length - x.1) (0,own,l) ⟨Nat.zero_le _,ho,rfl⟩ Yl (St.le_refl _) ?_
  rintro ⟨k,own1,U⟩ ⟨hk,ho1,hi⟩
  simp only at hk ho1 hi
  have hlen:=congrArg List.length hi
  simp only [List.length_append] at hlen
  repeat' ((conv=>whnf);first|(refine Ky ?_;intros)|(refine Kz ?_ ?_<;>intro _)|refine hq _ (Fa ‹_›) U own1 st _ ?_ ho1 (λown2 ho2=>?_))
  all_goals try conv=>whnf
  all_goals try (have e:=drop_at ‹n.kids[_]? =some _›;simp only [Int.toNat_natCast] at e;rw [e,Fx] at hi hlen;clear e)
  all_goals simp only [Int.toNat_natCast] at *
  .rw [if_pos (.inl AC)] at hlen
   rw [List.length_append] at hlen
   show U.length+_<=1000000000
   omega
  .refine ⟨(k+1,own2,U++_),⟨by show k+1<=_;omega,ho2,?_⟩,by show _ - (k+1)<_ - k;omega,Yl,St.le_refl _⟩
   rw [if_pos (.inl AC)] at hi
   rw [hi,List.append_assoc]
  .refine ⟨(k+1,own1,U),⟨by show k+1<=_;omega,ho1,?_⟩,by show _ - (k+1)<_ - k;omega,Yl,St.le_refl _⟩
   rw [if_neg (by rintro (g|g)<;>first|omega|simp_all)] at hi
   rw [hi];rfl
  .have g:(n.kind==13)=false:=ke
   rw [if_pos (.inr g),List.length_append] at hlen
   show U.length+_<=1000000000
   omega
  .refine ⟨(k+1,own2,U++_),⟨by show k+1<=_;omega,ho2,?_⟩,by show _ - (k+1)<_ - k;omega,Yl,St.le_refl _⟩
   have g:(n.kind==13)=false:=ke
   rw [if_pos (.inr g)] at hi
   rw [hi,List.append_assoc]
  .rw [List.drop_eq_nil_of_le AC,Fx,List.append_nil] at hi
   rw [hi] at h
   exact fin (h own1 ho1) rfl
def Hz:Nat->Nd->List (List UInt8)
 |0,_=>[]
 |k+1,n=>CH (Hz k) n
theorem U3:∀(k:Nat) (n:Nd),n.size<=k->WS (Hz k) n
 |0,n,h=>by have:=size_pos n;omega
 |k+1,n,h=>X7 λx U=>U3 k x AC
def F6 (n:Nd):List (List UInt8)×Int:=if KK n then (Hz n.size n,0) else ([],120)
theorem cn (hb:(Hz n.size n).length<=1000000000) (h:R (.ret (.Bu [.slice 1 (strs (F6 n).1) .any,.int .i64 (F6 n).2])) st):Lp 344 [enc n] st R:=by
 refine pB Tryz.func344 ?_
 repeat' ((conv=>whnf);first|(refine Ky ?_;intros)|(refine Kz ?_ ?_<;>intro _)|refine X1 _ _ ?_|refine U3 _ n (Nat.le_refl _) [] .full st _ ?_ trivial (λown2 U=>?_))
 all_goals try conv=>whnf
 .show 0+_<=_
  omega
 .have e:F6 n=(Hz n.size n,0):=by simp_all [F6]
  rw [e] at h
  exact ⟨_,st,.inr rfl,AB.Bz U,h⟩
 .have e:F6 n=([],120):=by simp_all [F6]
  rw [e] at h
  exact BH rfl h
end
theorem P4 {q:Nd->List (List UInt8)} {b:Bool}:∀{l:List Nd} {i:Nat},(∀x ∈ l,(q x).length<=x.size)->(Fx q b i l).length<=De l
 |[],_,_=>by simp [Fx,De]
 |x::r,i,h=>by
  have:=P4 (b:=b) (l:=r) (i:=i+1) λy hy=>h y (List.mem_cons_of_mem _ hy)
  have:=h x List.mem_cons_self
  rw [Fx,List.length_append,De]
  grind
theorem P5:∀{k:Nat} {n:Nd},(Hz k n).length<=n.size
 |0,n=>Nat.zero_le _
 |k+1,n=>by
  rw [Hz,CH]
  have:=size_pos n
  split
  .grind
  .split
   .simp
   .have:=P4 (b:=n.kind==13) (l:=n.kids) (i:=0) (q:=Hz k) λx _=>P5
    cases n with
    |mk a b c d e ks=>rw [Nd.size];show (Fx _ _ 0 ks).length<=_;have:(Fx (Hz k) (a==13) 0 ks).length<=De ks:=this;show (Fx (Hz k) (a==13) 0 ks).length<=_;omega
section
variable {st:St} {R:Ay->St->Prop}
theorem gF (U:n.size<=1000000000) (h:R (.ret (.Bu [.slice 1 (strs (F6 n).1) .any,.int .i64 (F6 n).2])) st):Lp 344 [enc n] st R:=
 cn (Nat.le_trans P5 U) h
theorem fk {f:Int} {l:Int} {ks:List Nd}:enc (.mk k f t l c ks)=.agg [.int .i64 k,.int .i64 f,.str t,.int .i64 l,.int .i64 c,.slice 6 (ks.map AM) .any]:=by
 rw [enc,AM,BN];rfl
end
end Go.Proofs.Z
namespace Go.Proofs
open Go.Shelf
def Tryz.UJ:Go.Shelf.Ren:=⟨λ|160=>198|232=>261|231=>260|227=>262|234=>264|233=>263|236=>266|235=>265|228=>322|271=>324|151=>323|197=>125|120=>373|152=>372|260=>196|137=>407|119=>408|224=>384|225=>383|217=>382|266=>412|n=>n,λ|9=>9|4=>4|3=>3|5=>5|117=>198|116=>197|0=>0|124=>201|21=>21|105=>130|46=>191|119=>190|139=>194|138=>193|n=>n,λ|3=>0|4=>1|n=>n⟩
theorem Tryz.lF:Go.Proofs.Lays.n160 Tryz.prog Tryz.UJ:={
 mixed:=EQ
 f119:=Tryz.func408.trans (congrArg some EQ)
 f120:=Tryz.func373.trans (congrArg some EQ)
 f137:=Tryz.func407.trans (congrArg some EQ)
 f151:=Tryz.func323.trans (congrArg some EQ)
 f152:=Tryz.func372.trans (congrArg some EQ)
 f160:=Tryz.func198.trans (congrArg some EQ)
 f197:=Tryz.func125.trans (congrArg some EQ)
 f217:=Tryz.func382.trans (congrArg some EQ)
 f224:=Tryz.func384.trans (congrArg some EQ)
 f225:=Tryz.func383.trans (congrArg some EQ)
 f227:=Tryz.func262.trans (congrArg some EQ)
 f228:=Tryz.func322.trans (congrArg some EQ)
 f231:=Tryz.func260.trans (congrArg some EQ)
 f232:=Tryz.func261.trans (congrArg some EQ)
 f233:=Tryz.func263.trans (congrArg some EQ)
 f234:=Tryz.func264.trans (congrArg some EQ)
 f235:=Tryz.func265.trans (congrArg some EQ)
 f236:=Tryz.func266.trans (congrArg some EQ)
 f260:=Tryz.func196.trans (congrArg some EQ)
 f266:=Tryz.func412.trans (congrArg some EQ)
 f271:=Tryz.func324.trans (congrArg some EQ)
 t0:=Tryz.underlying0
 a0:=Tryz.isAgg0
 z0:=Tryz.sizeOf0
 v0:=Tryz.zeroValue0
 t3:=Tryz.underlying3
 a3:=Tryz.isAgg3
 z3:=Tryz.sizeOf3
 v3:=Tryz.zeroValue3
 t4:=Tryz.underlying4
 a4:=Tryz.isAgg4
 z4:=Tryz.sizeOf4
 v4:=Tryz.zeroValue4
 t5:=Tryz.underlying5
 a5:=Tryz.isAgg5
 z5:=Tryz.sizeOf5
 v5:=Tryz.zeroValue5
 t9:=Tryz.underlying9
 a9:=Tryz.isAgg9
 z9:=Tryz.sizeOf9
 v9:=Tryz.zeroValue9
 t21:=Tryz.underlying21
 a21:=Tryz.isAgg21
 z21:=Tryz.sizeOf21
 v21:=Tryz.zeroValue21
 t46:=Tryz.underlying191
 a46:=Tryz.isAgg191
 z46:=Tryz.sizeOf191
 v46:=Tryz.zeroValue191
 t105:=Tryz.underlying130
 a105:=Tryz.isAgg130
 z105:=Tryz.sizeOf130
 v105:=Tryz.zeroValue130
 t116:=Tryz.underlying197
 a116:=Tryz.isAgg197
 z116:=Tryz.sizeOf197
 t117:=Tryz.underlying198
 a117:=Tryz.isAgg198
 z117:=Tryz.sizeOf198
 v117:=Tryz.zeroValue198
 t119:=Tryz.underlying190
 a119:=Tryz.isAgg190
 z119:=Tryz.sizeOf190
 t124:=Tryz.underlying201
 a124:=Tryz.isAgg201
 z124:=Tryz.sizeOf201
 v124:=Tryz.zeroValue201
 t138:=Tryz.underlying193
 a138:=Tryz.isAgg193
 z138:=Tryz.sizeOf193
 v138:=Tryz.zeroValue193
 t139:=Tryz.underlying194
 a139:=Tryz.isAgg194
 z139:=Tryz.sizeOf194
 v139:=Tryz.zeroValue194
 g3:=EQ
 g4:=by kernel_rfl}
open Go.RowKit in
theorem Tryz.strings_Trim_one (s:ByteArray) (c:UInt8) (U:c.toNat<128) (w:World) (hs:s.size<=9223372036854775807):
 Calls Tryz.prog 198 #[.string s,.string ⟨#[c]⟩] w λe w'=>e=.returned (.string ⟨(Lib.trimB s.data.toList c).toArray⟩)/\(w'=w\/w'=w.drew):=Any.strings_Trim_one Tryz.lF s c U w hs
def Tryz.UG:Go.Shelf.Ren:=⟨λ|137=>407|217=>382|266=>412|n=>n,λ|9=>9|5=>5|3=>3|n=>n,λ|n=>n⟩
theorem Tryz.lC:Go.Proofs.Lays.n137 Tryz.prog Tryz.UG:={
 mixed:=EQ
 f137:=Tryz.func407.trans (congrArg some EQ)
 f217:=Tryz.func382.trans (congrArg some EQ)
 f266:=Tryz.func412.trans (congrArg some EQ)
 t3:=Tryz.underlying3
 a3:=Tryz.isAgg3
 z3:=Tryz.sizeOf3
 v3:=Tryz.zeroValue3
 t5:=Tryz.underlying5
 a5:=Tryz.isAgg5
 z5:=Tryz.sizeOf5
 v5:=Tryz.zeroValue5
 t9:=Tryz.underlying9
 a9:=Tryz.isAgg9
 z9:=Tryz.sizeOf9
 v9:=Tryz.zeroValue9}
open Go.RowKit in
theorem Tryz.strings_IndexByte (s:ByteArray) (c:Int) (w:World):
 Calls Tryz.prog 407 #[.string s,.int .u8 c] w λe w'=>e=.returned (.int .i64 (Lib.indexByte s.data.toList c.toNat.toUInt8))/\w'=w:=Any.strings_IndexByte Tryz.lC s c w
def Tryz.UH:Go.Shelf.Ren:=⟨λ|144=>205|143=>272|219=>334|217=>382|225=>383|224=>384|267=>385|266=>412|314=>413|n=>n,λ|9=>9|4=>4|3=>3|5=>5|46=>191|146=>256|51=>255|n=>n,λ|1=>2|n=>n⟩
theorem Tryz.lD:Go.Proofs.Lays.n144 Tryz.prog Tryz.UH:={
 mixed:=EQ
 f143:=Tryz.func272.trans (congrArg some EQ)
 f144:=Tryz.func205.trans (congrArg some EQ)
 f217:=Tryz.func382.trans (congrArg some EQ)
 f219:=Tryz.func334.trans (congrArg some EQ)
 f224:=Tryz.func384.trans (congrArg some EQ)
 f225:=Tryz.func383.trans (congrArg some EQ)
 f266:=Tryz.func412.trans (congrArg some EQ)
 f267:=Tryz.func385.trans (congrArg some EQ)
 f314:=Tryz.func413.trans (congrArg some EQ)
 t3:=Tryz.underlying3
 a3:=Tryz.isAgg3
 z3:=Tryz.sizeOf3
 v3:=Tryz.zeroValue3
 t4:=Tryz.underlying4
 a4:=Tryz.isAgg4
 z4:=Tryz.sizeOf4
 v4:=Tryz.zeroValue4
 t5:=Tryz.underlying5
 a5:=Tryz.isAgg5
 z5:=Tryz.sizeOf5
 v5:=Tryz.zeroValue5
 t9:=Tryz.underlying9
 a9:=Tryz.isAgg9
 z9:=Tryz.sizeOf9
 v9:=Tryz.zeroValue9
 t46:=Tryz.underlying191
 a46:=Tryz.isAgg191
 z46:=Tryz.sizeOf191
 v46:=Tryz.zeroValue191
 t51:=Tryz.underlying255
 a51:=Tryz.isAgg255
 z51:=Tryz.sizeOf255
 v51:=Tryz.zeroValue255
 t146:=Tryz.underlying256
 a146:=Tryz.isAgg256
 z146:=Tryz.sizeOf256
 v146:=Tryz.zeroValue256
 g1:=by kernel_rfl}
open Go.RowKit Go.Lib in
theorem Tryz.strings_Contains (s sub:ByteArray) (m:Int) (w:World) (hs:s.size<4294967281) (U:w.cell? ⟨2,0,none⟩=some (.int .i64 m)):
 Calls Tryz.prog 205 #[.string s,.string sub] w λe w'=>e=.returned (.bool (Lib.contains s.data.toList sub.data.toList))/\w'=w:=Any.strings_Contains Tryz.lD s sub m w hs U
def Tryz.SU:Go.Shelf.Ren:=⟨λ|15=>56|20=>126|n=>n,λ|9=>9|23=>84|3=>3|4=>4|0=>0|21=>21|n=>n,λ|n=>n⟩
theorem Tryz.fV:Go.Proofs.LaysGw.n15 Tryz.prog Tryz.SU:={
 mixed:=EQ
 f15:=Tryz.func56.trans (congrArg some EQ)
 f20:=Tryz.func126.trans (congrArg some EQ)
 t0:=Tryz.underlying0
 a0:=Tryz.isAgg0
 z0:=Tryz.sizeOf0
 v0:=Tryz.zeroValue0
 i0:=EQ
 t3:=Tryz.underlying3
 a3:=Tryz.isAgg3
 z3:=Tryz.sizeOf3
 v3:=Tryz.zeroValue3
 i3:=EQ
 t4:=Tryz.underlying4
 a4:=Tryz.isAgg4
 z4:=Tryz.sizeOf4
 v4:=Tryz.zeroValue4
 i4:=EQ
 t9:=Tryz.underlying9
 a9:=Tryz.isAgg9
 z9:=Tryz.sizeOf9
 v9:=Tryz.zeroValue9
 i9:=EQ
 t21:=Tryz.underlying21
 a21:=Tryz.isAgg21
 z21:=Tryz.sizeOf21
 v21:=Tryz.zeroValue21
 i21:=EQ
 t23:=Tryz.underlying84
 a23:=Tryz.isAgg84
 z23:=Tryz.sizeOf84
 v23:=Tryz.zeroValue84
 i23:=by kernel_rfl}
def Tryz.XL:Go.Shelf.Ren:=⟨λ|99=>130|206=>197|n=>n,λ|9=>9|4=>4|3=>3|n=>n,λ|n=>n⟩
theorem Tryz.o8:Go.Proofs.Lays.n99 Tryz.prog Tryz.XL:={
 mixed:=EQ
 f99:=Tryz.func130.trans (congrArg some EQ)
 f206:=Tryz.func197.trans (congrArg some EQ)
 t3:=Tryz.underlying3
 a3:=Tryz.isAgg3
 z3:=Tryz.sizeOf3
 v3:=Tryz.zeroValue3
 t4:=Tryz.underlying4
 a4:=Tryz.isAgg4
 z4:=Tryz.sizeOf4
 v4:=Tryz.zeroValue4
 t9:=Tryz.underlying9
 a9:=Tryz.isAgg9
 z9:=Tryz.sizeOf9
 v9:=Tryz.zeroValue9}
open Go.RowKit Go.Lib in
theorem Tryz.strings_HasPrefix (s p:ByteArray) (w:World):
 Calls Tryz.prog 130 #[.string s,.string p] w λe w'=>e=.returned (.bool (Lib.hasPrefix s.data.toList p.data.toList))/\w'=w:=Any.strings_HasPrefix Tryz.o8 s p w
def Tryz.UI:Go.Shelf.Ren:=⟨λ|157=>428|229=>429|199=>430|261=>431|311=>432|312=>433|n=>n,λ|9=>9|31=>172|3=>3|5=>5|4=>4|119=>190|0=>0|40=>84|152=>267|21=>21|154=>269|51=>255|141=>271|196=>275|193=>272|198=>278|49=>276|194=>273|201=>281|226=>283|46=>191|227=>284|n=>n,λ|0=>3|6=>4|n=>n⟩
theorem Tryz.lE:Go.Proofs.Lays.n157 Tryz.prog Tryz.UI:={
 mixed:=EQ
 f157:=Tryz.func428.trans (congrArg some EQ)
 f199:=Tryz.func430.trans (congrArg some EQ)
 f229:=Tryz.func429.trans (congrArg some EQ)
 f261:=Tryz.func431.trans (congrArg some EQ)
 f311:=Tryz.func432.trans (congrArg some EQ)
 f312:=Tryz.func433.trans (congrArg some EQ)
 t0:=Tryz.underlying0
 a0:=Tryz.isAgg0
 z0:=Tryz.sizeOf0
 v0:=Tryz.zeroValue0
 t3:=Tryz.underlying3
 a3:=Tryz.isAgg3
 z3:=Tryz.sizeOf3
 v3:=Tryz.zeroValue3
 t4:=Tryz.underlying4
 a4:=Tryz.isAgg4
 z4:=Tryz.sizeOf4
 v4:=Tryz.zeroValue4
 t5:=Tryz.underlying5
 a5:=Tryz.isAgg5
 z5:=Tryz.sizeOf5
 v5:=Tryz.zeroValue5
 t9:=Tryz.underlying9
 a9:=Tryz.isAgg9
 z9:=Tryz.sizeOf9
 v9:=Tryz.zeroValue9
 t21:=Tryz.underlying21
 a21:=Tryz.isAgg21
 z21:=Tryz.sizeOf21
 v21:=Tryz.zeroValue21
 t31:=Tryz.underlying172
 a31:=Tryz.isAgg172
 z31:=Tryz.sizeOf172
 v31:=Tryz.zeroValue172
 t40:=Tryz.underlying84
 a40:=Tryz.isAgg84
 z40:=Tryz.sizeOf84
 v40:=Tryz.zeroValue84
 t46:=Tryz.underlying191
 a46:=Tryz.isAgg191
 z46:=Tryz.sizeOf191
 v46:=Tryz.zeroValue191
 t49:=Tryz.underlying276
 a49:=Tryz.isAgg276
 z49:=Tryz.sizeOf276
 v49:=Tryz.zeroValue276
 t51:=Tryz.underlying255
 a51:=Tryz.isAgg255
 z51:=Tryz.sizeOf255
 v51:=Tryz.zeroValue255
 t119:=Tryz.underlying190
 a119:=Tryz.isAgg190
 z119:=Tryz.sizeOf190
 t141:=Tryz.underlying271
 a141:=Tryz.isAgg271
 z141:=Tryz.sizeOf271
 v141:=Tryz.zeroValue271
 t152:=Tryz.underlying267
 a152:=Tryz.isAgg267
 z152:=Tryz.sizeOf267
 v152:=Tryz.zeroValue267
 t154:=Tryz.underlying269
 a154:=Tryz.isAgg269
 z154:=Tryz.sizeOf269
 v154:=Tryz.zeroValue269
 t193:=Tryz.underlying272
 a193:=Tryz.isAgg272
 z193:=Tryz.sizeOf272
 v193:=Tryz.zeroValue272
 t194:=Tryz.underlying273
 a194:=Tryz.isAgg273
 z194:=Tryz.sizeOf273
 v194:=Tryz.zeroValue273
 t196:=Tryz.underlying275
 a196:=Tryz.isAgg275
 z196:=Tryz.sizeOf275
 v196:=Tryz.zeroValue275
 t198:=Tryz.underlying278
 a198:=Tryz.isAgg278
 z198:=Tryz.sizeOf278
 v198:=Tryz.zeroValue278
 t201:=Tryz.underlying281
 a201:=Tryz.isAgg281
 z201:=Tryz.sizeOf281
 v201:=Tryz.zeroValue281
 t226:=Tryz.underlying283
 a226:=Tryz.isAgg283
 z226:=Tryz.sizeOf283
 v226:=Tryz.zeroValue283
 t227:=Tryz.underlying284
 a227:=Tryz.isAgg284
 z227:=Tryz.sizeOf284
 v227:=Tryz.zeroValue284
 g0:=EQ
 g6:=by kernel_rfl}
open Go.RowKit Go.Lib in
theorem Tryz.strings_Fields (s : ByteArray) (w : World) (hs : s.size < 4294967281) (U : ∀ (j : Nat) b, s.data.toList[j]? = some b -> b.toNat < 128) (htab : Lib.TabIs Tryz.prog w "strings.asciiSpace" .u8 Lib.asciiSpaceTab) :
 Calls Tryz.prog 428 #[.string s] w λe w'=>
  e=.returned (.slice (some ⟨w.heap.size,0,none⟩) (Lib.fields s.data.toList).length (Lib.fields s.data.toList).length)/\w'=w.alloc (.cells ((Lib.fields s.data.toList).map λl=>Value.string ⟨l.toArray⟩).toArray 9):=Any.strings_Fields Tryz.lE EQ EQ s w hs U htab
def Tryz.UK:Go.Shelf.Ren:=⟨λ|197=>125|260=>196|n=>n,λ|9=>9|21=>21|3=>3|4=>4|5=>5|105=>130|119=>190|0=>0|46=>191|139=>194|138=>193|n=>n,λ|3=>0|4=>1|n=>n⟩
theorem Tryz.lG:Go.Proofs.Lays.n197 Tryz.prog Tryz.UK:={
 mixed:=EQ
 f197:=Tryz.func125.trans (congrArg some EQ)
 f260:=Tryz.func196.trans (congrArg some EQ)
 t0:=Tryz.underlying0
 a0:=Tryz.isAgg0
 z0:=Tryz.sizeOf0
 v0:=Tryz.zeroValue0
 t3:=Tryz.underlying3
 a3:=Tryz.isAgg3
 z3:=Tryz.sizeOf3
 v3:=Tryz.zeroValue3
 t4:=Tryz.underlying4
 a4:=Tryz.isAgg4
 z4:=Tryz.sizeOf4
 v4:=Tryz.zeroValue4
 t5:=Tryz.underlying5
 a5:=Tryz.isAgg5
 z5:=Tryz.sizeOf5
 v5:=Tryz.zeroValue5
 t9:=Tryz.underlying9
 a9:=Tryz.isAgg9
 z9:=Tryz.sizeOf9
 v9:=Tryz.zeroValue9
 t21:=Tryz.underlying21
 a21:=Tryz.isAgg21
 z21:=Tryz.sizeOf21
 v21:=Tryz.zeroValue21
 t46:=Tryz.underlying191
 a46:=Tryz.isAgg191
 z46:=Tryz.sizeOf191
 v46:=Tryz.zeroValue191
 t105:=Tryz.underlying130
 a105:=Tryz.isAgg130
 z105:=Tryz.sizeOf130
 v105:=Tryz.zeroValue130
 t119:=Tryz.underlying190
 a119:=Tryz.isAgg190
 z119:=Tryz.sizeOf190
 t138:=Tryz.underlying193
 a138:=Tryz.isAgg193
 z138:=Tryz.sizeOf193
 v138:=Tryz.zeroValue193
 t139:=Tryz.underlying194
 a139:=Tryz.isAgg194
 z139:=Tryz.sizeOf194
 v139:=Tryz.zeroValue194
 g3:=EQ
 g4:=by kernel_rfl}
open Go.RowKit Go.Lib in
theorem Tryz.utf8_DecodeRuneInString (s:ByteArray) (w:World) (U:Lib.Utf8Tabs 0 1 w):
 Calls Tryz.prog 125 #[.string s] w λe w'=>e=.returned (.tuple #[.int .i32 (Lib.decodeGo s).1,.int .i64 (Lib.decodeGo s).2])/\Below w.heap.size w w':=Any.utf8_DecodeRuneInString Tryz.lG s w U
open Go.RowKit Go.Lib in
theorem Tryz.strings_IndexFunc_grows (g:Nat) (U:Array Value) (eg:∀args w,(callFunc g args).run Tryz.prog w=.ok (.enter g args) w) (p:Nat->Bool) (s:ByteArray) (w:World) (hp:PredGrows Tryz.prog g U p w):
 Calls Tryz.prog 56 #[.string s,.func (.func g) #[] U] w λe w'=>e=.returned (.int .i64 (Lib.idxFunc p true s))/\Below w.heap.size w w':=Any.strings_IndexFunc_grows Tryz.fV g U eg p s w hp
end Go.Proofs
namespace Go.Aw
open Go
theorem Co.below {st:St} {w w':World} (h:Co I st w) (b:RowKit.Below w.heap.size w w'):Fr I st w I st w'/\Co I st w':=by
 refine ⟨⟨b.os,b.tape,b.output,b.size,λx hx _ _=>b.block x hx,Mem.le_refl _,λ_ _ h k=>absurd h k,λ_ h k=>absurd h k,λ_ h=>.inr h⟩,?_,?_,?_,h.Hp,?_,h.RX⟩
 .intro x o v e
  have e:=h.cell x o v e
  rw [Gb (b.block x (K7 e))];exact e
 .intro x n e
  obtain ⟨c,ty,U,h2⟩:=h.shape x n e
  exact ⟨c,ty,by rw [b.block x (GR U)];exact U,h2⟩
 .intro x cs e
  obtain ⟨vs,ty,U,h2⟩:=h.box x cs e
  exact ⟨vs,ty,by rw [b.block x (GR U)];exact U,h2⟩
 .intro x n e
  exact ⟨Nat.lt_of_lt_of_le (h.hw x n e).1 b.size,(h.hw x n e).2⟩
theorem CZ {P:Program} {args:List V} {st:St} (hf:Plain P f) (v:V)
 (h:∀(I:Mem) (w:World) (U:List Value),Co I st w->Aj I args U->Calls P f U.toArray w λe w'=>(∃c,e=.returned c/\AF I v c)/\RowKit.Below w.heap.size w w')
 (k:R (.ret v) st):A5 P f args st R:=
 ⟨λI w U hs ha=>(h I w U hs ha).mono λe w' ⟨⟨c,he,hc⟩,hb⟩=>⟨I,st,.ret v,(hs.below hb).1,(hs.below hb).2,by subst he;exact hc,k⟩,hf⟩
theorem Co.row {st:St} {w:World} (h:Co I st w) (vs:List Value) (ty:TypeId):
 Fr I st w (I.add w.heap.size 0 vs vs.length) st (w.alloc (.cells vs.toArray ty))/\Co (I.add w.heap.size 0 vs vs.length) st (w.alloc (.cells vs.toArray ty))/\I.le (I.add w.heap.size 0 vs vs.length):=by
 have hr:Rel [] I st w I (λ_=>none) {tmps:=[],boxes:=[],Bj:=0,sz:=0,gl:=[]} st {tmps:=#[],defers:=[]} w:=
  Qb h rfl (λt v e=>by cases e) rfl rfl
 have h1:=hr.newRow vs [] ty
 rw [List.append_nil,List.length_nil,Nat.add_zero] at h1
 have U:=h1.G4 (St.HW (St.le_refl st) (Dl h).2 vs.length)
 exact ⟨U.fr,U.s,U.fr.le⟩
theorem im {n:Nat} (l:List (List UInt8)) (hl:∀x ∈ l,x.length<En) (hn:l.length<En)
 (hle:I.le (I.add b 0 (l.map λx=>Value.string ⟨x.toArray⟩) n)):
 AF (I.add b 0 (l.map λx=>Value.string ⟨x.toArray⟩) n) (.slice 1 (l.map λx=>[.str x]) .any) (.slice (some ⟨b,0,none⟩) l.length l.length):=by
 simp only [AF]
 refine ⟨some ⟨b,0,none⟩,l.length,GT,GT,ke,Do,trivial,.inr rfl,?_⟩
 refine Cd.add _ (l.map λx=>Value.string ⟨x.toArray⟩) 0 ?_ hle (λj c U=>Mem.OZ U)
 clear hle hn
 induction l with
 |nil=>rfl
 |cons a r ih=>
  simp only [List.map_cons,BZ]
  refine ⟨[Value.string ⟨a.toArray⟩],r.map λx=>Value.string ⟨x.toArray⟩,rfl,rfl,?_,ih λx hx=>hl x (List.mem_cons_of_mem _ hx)⟩
  simp only [Aj,AF]
  simp_all
end Go.Aw
namespace Go.Proofs.Z
open Go Go.Aw
def T6 (s:List UInt8):Int×Int:=match s with
 |[]=>(65533,0)
 |a::r=>(((AJ (a::r)).1:Nat),((AJ (a::r)).2:Nat))
theorem Nz (s:List UInt8):(((Lib.decodeGo ⟨s.toArray⟩).1:Nat):Int)=(T6 s).1/\(((Lib.decodeGo ⟨s.toArray⟩).2:Nat):Int)=(T6 s).2:=by
 cases s with
 |nil=>exact ⟨rfl,rfl⟩
 |cons a r=>
  have U:¬(⟨(a::r).toArray⟩:ByteArray).size=0:=by show ¬(a::r).toArray.size=0;simp
  unfold Lib.decodeGo
  rw [if_neg U,Sq GT,List.drop_zero]
  exact ⟨rfl,rfl⟩
section
variable {st:St} {R:Ay->St->Prop}
theorem ny (h:R (.ret (.Bu [.int .i32 (T6 s).1,.int .i64 (T6 s).2])) st):PC 125 [.str s] st R:=by
 refine CZ ⟨_,Tryz.func125,Do,Do⟩ _ (λI w cargs U ha=>?_) h
 simp only [Aj,AF] at ha
 obtain ⟨c,r,rfl,⟨rfl,hl⟩,rfl⟩:=ha
 refine (Tryz.utf8_DecodeRuneInString ⟨s.toArray⟩ w ⟨λi hi=>U.cell _ _ _ (U.RX.first i hi),λi hi=>⟨U.cell _ _ _ (U.RX.accept i hi).1,U.cell _ _ _ (U.RX.accept i hi).2⟩⟩).mono λe w' ⟨he,hb⟩=>⟨⟨_,he,?_⟩,hb⟩
 rw [(Nz s).1,(Nz s).2]
 simp only [AF,Aj]
 exact ⟨_,rfl,_,_,rfl,rfl,_,_,rfl,rfl,rfl⟩
theorem H3 {p:List UInt8} (h:R (.ret (.bool (p.isPrefixOf s))) st):PC 130 [.str s,.str p] st R:=by
 refine CZ ⟨_,Tryz.func130,Do,Do⟩ _ (λI w U hs ha=>?_) h
 simp only [Aj,AF] at ha
 obtain ⟨c,r,rfl,⟨rfl,hl⟩,c2,r2,rfl,⟨rfl,hl2⟩,rfl⟩:=ha
 refine (Tryz.strings_HasPrefix ⟨s.toArray⟩ ⟨p.toArray⟩ w).mono λe w' ⟨he,hw⟩=>⟨⟨_,he,?_⟩,hw ▸ RowKit.Below.refl _ _⟩
 simp only [AF]
 rfl
theorem p5 {c:UInt8} (hc:c.toNat<128) (h:R (.ret (.str (Lib.trimB s c))) st):PC 198 [.str s,.str [c]] st R:=by
 refine CZ ⟨_,Tryz.func198,Do,Do⟩ _ (λI w U hs ha=>?_) h
 simp only [Aj,AF] at ha
 obtain ⟨c1,r,rfl,⟨rfl,hl⟩,c2,r2,rfl,⟨rfl,hl2⟩,rfl⟩:=ha
 have hsz:(⟨s.toArray⟩:ByteArray).size<=9223372036854775807:=by show s.toArray.size<=_;unfold En at hl;simp;omega
 refine (Tryz.strings_Trim_one ⟨s.toArray⟩ c hc w hsz).mono λe w' ⟨he,hw⟩=>⟨⟨_,he,?_⟩,?_⟩
 .simp only [AF]
  refine ⟨trivial,?_⟩
  have:(Lib.trimB s c).length<=s.length:=by
   unfold Lib.trimB Lib.trimLeftB Lib.trimRightB
   refine Nat.le_trans (List.dropWhile_sublist _).length_le ?_
   rw [List.length_reverse]
   refine Nat.le_trans (List.dropWhile_sublist _).length_le ?_
   simp
  unfold En at hl |-;omega
 .rcases hw with rfl|rfl
  .exact RowKit.Below.refl _ _
  .exact (RowKit.Below.refl _ _).drew
theorem oF {c:UInt8} (h:R (.ret (.int .i64 (Lib.indexByte s c))) st):PC 407 [.str s,.int .u8 c.toNat] st R:=by
 refine CZ ⟨_,Tryz.func407,Do,Do⟩ _ (λI w U hs ha=>?_) h
 simp only [Aj,AF] at ha
 obtain ⟨c1,r,rfl,⟨rfl,hl⟩,c2,r2,rfl,rfl,rfl⟩:=ha
 refine (Tryz.strings_IndexByte ⟨s.toArray⟩ c.toNat w).mono λe w' ⟨he,hw⟩=>⟨⟨_,he,?_⟩,hw ▸ RowKit.Below.refl _ _⟩
 simp [AF]
theorem Xi (hz:s.length<4294967281) (h:R (.ret (.bool (Lib.contains s t))) st):PC 205 [.str s,.str t] st R:=by
 refine CZ ⟨_,Tryz.func205,Do,Do⟩ _ (λI w U hs ha=>?_) h
 simp only [Aj,AF] at ha
 obtain ⟨c1,r,rfl,⟨rfl,hl⟩,c2,r2,rfl,⟨rfl,hl2⟩,rfl⟩:=ha
 obtain ⟨m,hm⟩:=hs.RX.maxLen
 refine (Tryz.strings_Contains ⟨s.toArray⟩ ⟨t.toArray⟩ m w (by show s.toArray.size<_;simpa using hz) (hs.cell _ _ _ hm)).mono λe w' ⟨he,hw⟩=>⟨⟨_,he,?_⟩,hw ▸ RowKit.Below.refl _ _⟩
 simp [AF]
end
end Go.Proofs.Z
namespace Go.Aw
open Go
noncomputable def Env.Oj (env:Env) (U:List (Nat×V)) (bx:List (Nat×List V)) (keep kb:List Nat):Env:=match env with
 |⟨ts,bs,n,sz,gl⟩=>⟨Env.ts ⟨ts,bs,n,sz,gl⟩ U keep,List.rec (motive:=λ_=>List (Nat×List V)) (Env.bx ⟨ts,bs,n,sz,gl⟩ kb) (λp _ ih=>p::ih) bx,n,sz,gl⟩
theorem PZ {st:St} (f:α->List (Nat×V)) (g:α->List (Nat×List V)) (keep kb:List Nat) (S:α->St) (J:α->Prop) (U:α->Nat) (x0:α) (h0:J x0)
 (he:(env.Oj (f x0) (g x0) keep kb).ES env) (hs:St.le (S x0) st)
 (hb:∀x,J x->ih (B2 (λenv' st'=>∃y,J y/\U y<U x/\(env.Oj (f y) (g y) keep kb).ES env'/\St.le (S y) st') Q) (env.Oj (f x) (g x) keep kb) (S x)):
 ∃(α:Type) (E:α->Env) (S:α->St) (J:α->Prop) (U:α->Nat) (x0:α),J x0/\(E x0).ES env/\St.le (S x0) st/\
  ∀x,J x->ih (B2 (λenv' st'=>∃y,J y/\U y<U x/\(E y).ES env'/\St.le (S y) st') Q) (E x) (S x):=
 ⟨α,λk=>env.Oj (f k) (g k) keep kb,S,J,U,x0,h0,he,hs,hb⟩
theorem XY {st:St} (f:α->β->List (Nat×V)) (g:α->β->List (Nat×List V)) (keep kb:List Nat) (S:α->β->St) (J:α->β->Prop) (U:α->β->Nat) (x0:α) (y0:β) (h0:J x0 y0)
 (he:(env.Oj (f x0 y0) (g x0 y0) keep kb).ES env) (hs:St.le (S x0 y0) st)
 (hb:∀x y,J x y->ih (B2 (λenv' st'=>∃p:α×β,J p.1 p.2/\U p.1 p.2<U x y/\(env.Oj (f p.1 p.2) (g p.1 p.2) keep kb).ES env'/\St.le (S p.1 p.2) st') Q) (env.Oj (f x y) (g x y) keep kb) (S x y)):
 ∃(α:Type) (E:α->Env) (S:α->St) (J:α->Prop) (U:α->Nat) (x0:α),J x0/\(E x0).ES env/\St.le (S x0) st/\
  ∀x,J x->ih (B2 (λenv' st'=>∃y,J y/\U y<U x/\(E y).ES env'/\St.le (S y) st') Q) (E x) (S x):=
 ⟨α×β,λp=>env.Oj (f p.1 p.2) (g p.1 p.2) keep kb,λp=>S p.1 p.2,λp=>J p.1 p.2,λp=>U p.1 p.2,(x0,y0),h0,he,hs,λp h=>hb p.1 p.2 h⟩
theorem SZ {st:St} {γ:Type} (f:α->β->γ->List (Nat×V)) (g:α->β->γ->List (Nat×List V)) (keep kb:List Nat) (S:α->β->γ->St) (J:α->β->γ->Prop) (U:α->β->γ->Nat) (x0:α) (y0:β) (z0:γ) (h0:J x0 y0 z0)
 (he:(env.Oj (f x0 y0 z0) (g x0 y0 z0) keep kb).ES env) (hs:St.le (S x0 y0 z0) st)
 (hb:∀x y z,J x y z->ih (B2 (λenv' st'=>∃p:α×β×γ,J p.1 p.2.1 p.2.2/\U p.1 p.2.1 p.2.2<U x y z/\(env.Oj (f p.1 p.2.1 p.2.2) (g p.1 p.2.1 p.2.2) keep kb).ES env'/\St.le (S p.1 p.2.1 p.2.2) st') Q) (env.Oj (f x y z) (g x y z) keep kb) (S x y z)):
 ∃(α:Type) (E:α->Env) (S:α->St) (J:α->Prop) (U:α->Nat) (x0:α),J x0/\(E x0).ES env/\St.le (S x0) st/\
  ∀x,J x->ih (B2 (λenv' st'=>∃y,J y/\U y<U x/\(E y).ES env'/\St.le (S y) st') Q) (E x) (S x):=
 ⟨α×β×γ,λp=>env.Oj (f p.1 p.2.1 p.2.2) (g p.1 p.2.1 p.2.2) keep kb,λp=>S p.1 p.2.1 p.2.2,λp=>J p.1 p.2.1 p.2.2,λp=>U p.1 p.2.1 p.2.2,(x0,y0,z0),h0,he,hs,λp h=>hb p.1 p.2.1 p.2.2 h⟩
theorem BO {k:IntKind} {a b:Int} (e:a=b):Ay.ret (.int k a)=Ay.ret (.int k b):=by rw [e]
theorem WJ {n:Nat} {p:Prop} (k:n<4611686018427387904->p):n<En->p:=k
theorem WK {l:List UInt8} {K:Nat->Nat->Prop} (k:∀c m,(c,m)=AJ l->K c m):∀c m,(c,m)=AJ l->K c m:=k
theorem WN {a:Int} {K:List UInt8->Prop} (U:0<=a) (h1:a<=s.length) (k:K (s.drop a.toNat)):
 (0<=a/\a<=(s.length:Int)/\(s.length:Int)<=s.length)/\∀s',s'=(s.take (s.length:Int).toNat).drop a.toNat->K s':=
 ⟨⟨U,h1,Int.le_refl _⟩,λs' e=>by
   simp_all⟩
theorem WO {b:Int} {K:List UInt8->Prop} (U:0<=b) (h1:b<=s.length) (k:K (s.take b.toNat)):
 ((0:Int)<=0/\0<=b/\b<=s.length)/\∀s',s'=(s.take b.toNat).drop (0:Int).toNat->K s':=
 ⟨⟨Int.le_refl _,U,h1⟩,λs' e=>by
   simp_all⟩
theorem WP {a b:Int} {K:List UInt8->Prop} (U:0<=a) (h1:a<=b) (h2:b<=s.length) (k:K ((s.take b.toNat).drop a.toNat)):
 (0<=a/\a<=b/\b<=s.length)/\∀s',s'=(s.take b.toNat).drop a.toNat->K s':=⟨⟨U,h1,h2⟩,λs' e=>e ▸ k⟩
theorem WM {K:UInt8->Prop} (U:0<=i) (h1:i<s.length) (k:∀e,s[i.toNat]? =some e->K e):0<=i/\∃e,s[i.toNat]? =some e/\K e:=ke
theorem WL {e:UInt8} {K:UInt8->Prop} (h:s[i.toNat]? =some e) (U:0<=i) (k:K e):0<=i/\∃e,s[i.toNat]? =some e/\K e:=⟨U,e,h,k⟩
theorem Dp (h:P:=by with_reducible first|(show _/\_;first|exact Wa)|(show Bg _ _ _;first|exact Wb|exact Wc)|fail):P:=h
theorem BT {A:Prop} (k:A) (h:A->P:=by intro k;with_reducible first|(show _/\_;first|exact Wd EQ k|exact Wm ‹_› AC k|exact Wn AC AC k|exact Wo AC AC k|exact Wp AC AC AC k|exact Wr Do AC AC k|exact Ws Do k|exact WB ‹_› AC k|exact WC AC AC k|exact WD AC AC k|exact WE AC AC AC k|exact WL ‹_› AC k|exact WM AC AC k|exact WN AC AC k|exact WO AC AC k|exact WP AC AC AC k)|(show Bg _ _ _;first|exact Wt IR k|exact Wu IR k|exact Wv AC k|exact Ww AC k|exact Wi k|exact Wj k)|(intro x y z;exact Wl k x y z)|(intro x y z;exact Wz k x y z)|(intro x y z;exact WA k x y z)|(intro x;exact WJ k x)|(intro x y z;exact WK k x y z)|(show Exists _;first|exact Wq AC AC k)|fail):P:=h k
theorem Dq {B C:V->Prop} (k:V) (l:B k) (m:C k) (h:∀k,B k->C k->P:=by intro k l m;with_reducible first|(show Exists _;first|exact We k l m|exact W8 GE k l m|exact W0 GE k l m|exact W9 k l m)|fail):P:=h k l m
theorem BU {A B:Prop} (k:A) (l:B) (h:A->B->P:=by intro k l;with_reducible first|(show Bg _ _ _;first|exact Wf Do k l|exact Wg k l|exact Wh k l|exact Wk k l)|fail):P:=h k l
theorem rM {A B:Prop} (k:A) (l:B) (h:A->B->P:=by intro k l;with_reducible first|(intro x y;exact Wx k l x y)|(intro x y;exact Wy k l x y)|fail):P:=h k l
def Ej (c:Int):Int:=
 if c=40\/c=41\/c=44\/c=59\/c=91\/c=93\/c=96\/c=123\/c=125 then 6
 else if c=34\/c=39 then 7
 else if 32<c/\c<127 then 5
 else 0
def LA (c:Int):Int:=
 if c=215\/c=247 then 5
 else if 223<=c/\c<=255\/945<=c/\c<=969 then 2
 else if 192<=c/\c<=222\/913<=c/\c<=937/\c≠930 then 3
 else if c<160\/c=173\/55296<=c/\c<=57343\/1114111<c then 0
 else if 160<c/\c<=191\/8592<=c/\c<=8959 then 5
 else 8
def AH (c:Int):Int:=
 if c=32\/9<=c/\c<=13 then 1
 else if 48<=c/\c<=57 then 4
 else if 97<=c/\c<=122\/c=95 then 2
 else if 65<=c/\c<=90 then 3
 else if c<128 then Ej c else LA c
def BE (c base:Int):Int:=
 let v:=if 48<=c/\c<=57 then c - 48 else if 97<=c/\c<=102 then c - 87 else if 65<=c/\c<=70 then c - 55 else 16
 if base<2\/16<base\/base<=v then -1 else v
theorem DR (l:List UInt8):1<=(AJ l).2:=by
 unfold AJ
 grind
theorem Gd {l:List UInt8} (h:l≠[]):(AJ l).2<=l.length:=by
 cases l with
 |nil=>simp_all
 |cons a l=>
  have U:∀k:Nat,(match l[k]? with|some b=>b.toNat / 64==2|none=>false)=true->k+2<=(a::l).length:=λk e=>by grind
  unfold AJ
  grind
def Bs (p:Nat×Nat->Bool) (l:List UInt8):Nat:=
 match l with
 |[]=>0
 |a::r=>if p (AJ (a::r)) then (AJ (a::r)).2+Bs p ((a::r).drop (AJ (a::r)).2) else 0
termination_by l.length
decreasing_by
 have:=DR (a::r)
 grind
theorem Eb (p:Nat×Nat->Bool):Bs p []=0:=by rw [Bs]
theorem Cs {p:Nat×Nat->Bool} {l:List UInt8} (h:l≠[]) (U:p (AJ l)=true):Bs p l=(AJ l).2+Bs p (l.drop (AJ l).2):=by
 cases l with
 |nil=>simp_all
 |cons a r=>rw [Bs,if_pos U]
theorem EC {p:Nat×Nat->Bool} {l:List UInt8} (U:p (AJ l)=false):Bs p l=0:=by
 cases l with
 |nil=>exact Eb p
 |cons a r=>rw [Bs,if_neg ke]
theorem Qq (p:Nat×Nat->Bool) (l:List UInt8):Bs p l<=l.length:=by
 fun_induction Bs p l with
 |case1=>omega
 |case2 a r h U=>
  have:=Gd (l:=a::r) GT
  grind
 |case3 a r h=>omega
theorem YB (p:Nat×Nat->Bool) (l:List UInt8) (h:Bs p l<l.length):p (AJ (l.drop (Bs p l)))=false:=by
 fun_induction Bs p l with
 |case1=>simp at h
 |case2 a r U ih=>
  rw [List.length_drop] at ih
  have:=Gd (l:=a::r) GT
  rw [<-List.drop_drop]
  grind
 |case3 a r U=>simp_all
def BS (p:Int->Bool) (l:List UInt8):Nat:=Bs (λd=>p (d.1:Nat)) l
theorem RW (p:Int->Bool):BS p []=0:=Eb _
theorem cO {p:Int->Bool} {l:List UInt8} (h:l≠[]) (U:p ((AJ l).1:Nat)=true):BS p l=(AJ l).2+BS p (l.drop (AJ l).2):=Cs h U
theorem Qr {p:Int->Bool} {l:List UInt8} (U:p ((AJ l).1:Nat)=false):BS p l=0:=EC U
theorem Fb (p:Int->Bool) (l:List UInt8):BS p l<=l.length:=Qq _ l
theorem Qs (p:Int->Bool) (l:List UInt8) (h:BS p l<l.length):p ((AJ (l.drop (BS p l))).1:Nat)=false:=YB _ l h
theorem rune_le {c:Nat} (h:pos<t.length) (hd:(c,m)=AJ (t.drop pos)):pos+m<=t.length/\1<=m:=by
 have U:=DR (t.drop pos)
 have h2:=Gd (l:=t.drop pos) (λe=>by have:=congrArg List.length e;grind)
 grind
theorem OQ {p:Nat×Nat->Bool} {c n:Nat} (h:pos<t.length) (U:(c,m)=AJ (t.drop pos)) (hp:p (c,m)=true) (hi:n=pos+Bs p (t.drop pos)):n=pos+m+Bs p (t.drop (pos+m)):=by
 rw [hi,Cs (λe=>by have:=congrArg List.length e;grind) ke,<-U,List.drop_drop]
 grind
theorem TC {p:Nat×Nat->Bool} {c n:Nat} (U:(c,m)=AJ (t.drop pos)) (hp:p (c,m)=false) (hi:n=pos+Bs p (t.drop pos)):n=pos:=by
 rw [hi,EC ke];rfl
theorem Qt {p:Nat×Nat->Bool} {n:Nat} (h:¬pos<t.length) (hi:n=pos+Bs p (t.drop pos)):n=pos:=by
 rw [hi,List.drop_eq_nil_iff.2 AC,Eb];rfl
def Dd (d:Nat×Nat):Bool:= !(d.1==65533&&d.2==1)
end Go.Aw
namespace Go.Proofs.Z
open Go Go.Aw
def L9 (s:List UInt8) (i:Int):Int×Int:=if i<0\/s.length<=i then (0,0) else T6 (s.drop i.toNat)
def mh (s:List UInt8) (i U:Int):Int:=if i<0\/s.length<i then 0 else i+BS (λc=>AH c==U) (s.drop i.toNat)
def ML (s:List UInt8):Int×Int:=if Bs Dd s<s.length then (Bs Dd s,10) else (s.length,0)
theorem RF (h:i<0\/s.length<=i):L9 s i=(0,0):=if_pos h
theorem Mb (h:0<=i) (k:i<s.length):L9 s i=T6 (s.drop i.toNat):=if_neg AC
theorem iG (h:i<0\/s.length<i):mh s i k=0:=if_pos h
theorem OM (h:0<=i) (U:i<=s.length):mh s i k=i+BS (λc=>AH c==k) (s.drop i.toNat):=if_neg AC
theorem Zb (h:s≠[]):T6 s=((((AJ s).1:Nat):Int),(((AJ s).2:Nat):Int)):=by
 cases s with
 |nil=>exact absurd rfl h
 |cons a r=>rfl
theorem Oo {c:Nat} (h:pos<s.length) (U:(c,m)=AJ (s.drop pos)):T6 (s.drop (pos:Int).toNat)=((c:Int),(m:Int)):=by
 rw [show (pos:Int).toNat=pos by omega,Zb (λe=>by have:=congrArg List.length e;rw [List.length_drop,List.length_nil] at this;omega),<-U]
theorem eH (h:pos<s.length) (k:Bs Dd s=pos):ML s=(((pos:Nat):Int),10):=by
 unfold ML;rw [k,if_pos h]
theorem kv (h:¬pos<s.length) (k:Bs Dd s=pos):ML s=((s.length:Int),0):=by
 unfold ML;rw [k,if_neg h]
section
variable {st:St} {R:Ay->St->Prop}
theorem pq (h:R (.ret (.int .i64 (Ej c))) st):PC 127 [.int .i32 c] st R:=by
 refine pB Tryz.func127 ?_
 repeat' ((conv=>whnf);first|(refine BT ?_;intros)|(refine BU ?_ ?_<;>intro _)|fail)
 all_goals exact fin h (BO (by unfold Ej;(repeat' split)<;>first|omega|rfl))
theorem eo (h:R (.ret (.int .i64 (LA c))) st):PC 128 [.int .i32 c] st R:=by
 refine pB Tryz.func128 ?_
 repeat' ((conv=>whnf);first|(refine BT ?_;intros)|(refine BU ?_ ?_<;>intro _)|fail)
 all_goals exact fin h (BO (by unfold LA;(repeat' split)<;>first|omega|rfl))
theorem J4 (h:R (.ret (.int .i64 (AH c))) st):PC 58 [.int .i32 c] st R:=by
 refine pB Tryz.func58 ?_
 repeat' ((conv=>whnf);first|(refine BT ?_;intros)|(refine BU ?_ ?_<;>intro _)|refine pq ?_|refine eo ?_)
 all_goals exact fin h (BO (by unfold AH;(repeat' split)<;>first|omega|rfl))
theorem gL (U:s.length<4611686018427387904) (h:R (.ret (.Bu [.int .i32 (L9 s i).1,.int .i64 (L9 s i).2])) st):PC 325 [.str s,.int .i64 i] st R:=by
 refine pB Tryz.func325 ?_
 repeat' ((conv=>whnf);first|(refine BT ?_;intros)|(refine BU ?_ ?_<;>intro _)|refine ny ?_)
 all_goals exact fin h (by first|rw [RF AC]|rw [Mb AC AC])
theorem nU (hl:s.length<4611686018427387904) (h:R (.ret (.int .i64 (mh s i k))) st):PC 129 [.str s,.int .i64 i,.int .i64 k] st R:=by
 refine pB Tryz.func129 ?_
 repeat' ((conv=>whnf);first|(refine BT ?_;intros)|(refine BU ?_ ?_<;>intro _)|refine J4 ?_)
 all_goals try exact fin h (BO (iG AC))
 have hlen:(s.drop i.toNat).length=s.length - i.toNat:=List.length_drop
 generalize ht:s.drop i.toNat=t at hlen
 refine PZ (α:=Nat) (λ_=>[]) (λpos=>[(0,[.N8 t pos])]) [0,1,2,20] [] (λ_=>st) (λpos=>pos<=t.length/\BS (λc=>AH c==k) t=pos+BS (λc=>AH c==k) (t.drop pos)) (λpos=>t.length - pos) 0 ⟨Nat.zero_le _,GT⟩ Yl (St.le_refl _) ?_
 rintro pos ⟨hp,hi⟩
 repeat' ((conv=>whnf);first|(refine BT ?_;intros)|(refine BU ?_ ?_<;>intro _)|refine J4 ?_)
 .rename_i U c m hd hk
  have hr:=rune_le U hd
  conv=>whnf
  exact ⟨pos+m,⟨hr.1,OQ U hd (beq_iff_eq.2 hk) hi⟩,AC,Yl,St.le_refl _⟩
 .rename_i U c m hd hk
  have:=TC (p:=λd=>AH (d.1:Nat)==k) hd (beq_eq_false_iff_ne.2 hk) hi
  exact fin h (BO (by rw [OM AC AC,ht,this]))
 .rename_i U hls
  have:=Qt U hi
  exact fin h (BO (by rw [OM AC AC,ht,this];omega))
theorem Sl (h:R (.ret (.Bu [.int .i64 (ML s).1,.int .i64 (ML s).2])) st):PC 55 [.str s] st R:=by
 refine pB Tryz.func55 ?_
 repeat' ((conv=>whnf);first|(refine BT ?_;intros)|(refine BU ?_ ?_<;>intro _)|fail)
 refine PZ (α:=Nat) (λ_=>[]) (λpos=>[(0,[.N8 s pos])]) [0,9] [] (λ_=>st) (λpos=>pos<=s.length/\Bs Dd s=pos+Bs Dd (s.drop pos)) (λpos=>s.length - pos) 0 ⟨Nat.zero_le _,GT⟩ Yl (St.le_refl _) ?_
 rintro pos ⟨hp,hi⟩
 repeat' ((conv=>whnf);first|(refine BT ?_;intros)|(refine BU ?_ ?_<;>intro _)|refine ny ?_)
 .rename_i U c m hd hc hm
  rw [Oo U hd] at hm
  have hk:=TC hd (by simp only [Dd];have h1:c=65533:=hc;have h2:m=1:=Int.ofNat.inj hm;rw [h1,h2];rfl) hi
  exact fin h (by rw [eH U hk])
 .rename_i U c m hd hc hm
  rw [Oo U hd] at hm
  have hr:=rune_le U hd
  conv=>whnf
  exact ⟨pos+m,⟨hr.1,OQ U hd (by simp only [Dd];have:¬m=1:=λe=>hm (by subst e;rfl);simp [this]) hi⟩,AC,Yl,St.le_refl _⟩
 .rename_i U c m hd hc
  have hr:=rune_le U hd
  conv=>whnf
  exact ⟨pos+m,⟨hr.1,OQ U hd (by simp only [Dd];have:¬c=65533:=hc;simp [this]) hi⟩,AC,Yl,St.le_refl _⟩
 .rename_i U hls
  exact fin h (by rw [kv U (Qt U hi)])
end
end Go.Proofs.Z
namespace Go.Aw
open Go
def AU:List UInt8->Int
 |[]=> -1
 |a::_=>(a.toNat:Nat)
theorem fM (l:List UInt8): -1<=AU l/\AU l<=255:=by
 cases l with
 |nil=>exact ⟨Do,Do⟩
 |cons a r=>have:=a.toNat_lt;simp only [AU];omega
def G2 (l:List UInt8):Nat:=if AU l=13/\AU (l.drop 1)=10 then 2 else if AU l=13\/AU l=10\/AU l=12 then 1 else 0
def VL (Ce:Int):Int:=(Ce - 1) / 8*8+9
def AR (l:List UInt8):Nat:=if 0<G2 l then G2 l else (AJ l).2
def Ek (l:List UInt8) (line:Int):Int:=if 0<G2 l then line+1 else line
def Fc (l:List UInt8) (Ce:Int):Int:=if 0<G2 l then 1 else if AU l=9 then VL Ce else Ce+1
theorem DT {i:Nat} {e:UInt8} (h:s[i]? =some e):AU (s.drop i)=(e.toNat:Nat):=by rw [drop_at h];rfl
theorem GM {i:Nat} (h:s.length<=i):AU (s.drop i)= -1:=by rw [List.drop_eq_nil_iff.2 h];rfl
theorem X9 (l:List UInt8):G2 l<=l.length:=by
 rcases l with _|⟨a,_|⟨b,r⟩⟩
 .decide
 .have e:¬(AU [a]=13/\AU ([a].drop 1)=10):=λh=>absurd (show (-1:Int)=10 from h.2) Do
  unfold G2
  rw [if_neg e,List.length_singleton]
  by_cases h:AU [a]=13\/AU [a]=10\/AU [a]=12
  .rw [if_pos h];omega
  .rw [if_neg h];omega
 .unfold G2
  simp only [List.length_cons]
  by_cases U:AU (a::b::r)=13/\AU ((a::b::r).drop 1)=10
  .rw [if_pos U];omega
  .rw [if_neg U]
   by_cases h:AU (a::b::r)=13\/AU (a::b::r)=10\/AU (a::b::r)=12
   .rw [if_pos h];omega
   .rw [if_neg h];omega
theorem Fe {l:List UInt8} (h:l≠[]):AR l<=l.length/\1<=AR l:=by
 unfold AR
 split
 .exact ⟨X9 l,FS⟩
 .exact ⟨Gd h,DR l⟩
theorem af (s:List UInt8) (pos:Nat):¬pos<s.length\/(pos+AR (s.drop pos)<=s.length/\1<=AR (s.drop pos)):=by
 by_cases h:pos<s.length
 .have:=Fe (l:=s.drop pos) (λe=>by have:=congrArg List.length e;rw [List.length_drop,List.length_nil] at this;omega)
  rw [List.length_drop] at this
  exact .inr ⟨AC,this.2⟩
 .exact .inl h
end Go.Aw
namespace Go.Proofs.Z
open Go Go.Aw
def spot (pos:Nat) (line Ce:Int):V:=.agg [.int .i64 pos,.int .i64 line,.int .i64 Ce]
theorem Qu {p:Nat} {p' l l' U:Int} (e1:(p:Int)=p') (e2:l=l') (e3:c=U):Ay.ret (spot p l c)=Ay.ret (.agg [.int .i64 p',.int .i64 l',.int .i64 U]):=by subst e1;subst e2;subst e3;rfl
section
variable {st:St} {R:Ay->St->Prop}
theorem ZK {c:Nat} (U:s.length<4611686018427387904) (hx:L9 s i=((c:Int),(m:Int))) (h:R (.ret (.Bu [.int .i32 c,.int .i64 m])) st):PC 325 [.str s,.int .i64 i] st R:=gL U (by rw [hx];exact h)
theorem RE (hl:s.length<4611686018427387904) (hp:pos<s.length) (h:R (.ret (.int .i64 (G2 (s.drop pos):Nat))) st):PC 267 [.str s,.int .i64 pos] st R:=by
 obtain ⟨e,U⟩:∃e,s[pos]? =some e:=⟨s[pos],List.getElem?_eq_getElem hp⟩
 have he':s[(pos:Int).toNat]? =some e:=U
 have h0:=DT U
 have h1:AU ((s.drop pos).drop 1)=AU (s.drop (pos+1)):=by rw [List.drop_drop]
 refine pB Tryz.func267 ?_
 repeat' ((conv=>whnf);first|(refine BT ?_;intros)|(refine BU ?_ ?_<;>intro _)|fail)
 all_goals try have h2:=DT (show s[pos+1]? =some _ by assumption)
 all_goals try have h3:=GM (s:=s) (i:=pos+1) AC
 all_goals exact fin h (BO (by unfold G2;rw [h1];(repeat' split)<;>omega))
theorem pW {Ce:Int} (U:1<=Ce) (h1:Ce<=4000000000000000000) (h:R (.ret (.int .i64 (VL Ce))) st):PC 326 [.int .i64 Ce] st R:=by
 refine pB Tryz.func326 ?_
 repeat' ((conv=>whnf);first|(refine BT ?_;intros)|(refine BU ?_ ?_<;>intro _)|fail)
 exact fin h (BO (by unfold VL;omega))
theorem ZW {line Ce:Int} (hl:s.length<4611686018427387904) (hp:pos<s.length) (h0:1<=line) (h1:line<=4000000000000000000) (h2:1<=Ce) (h3:Ce<=4000000000000000000)
 (h:R (.ret (spot (pos+AR (s.drop pos)) (Ek (s.drop pos) line) (Fc (s.drop pos) Ce))) st):PC 268 [.str s,spot pos line Ce] st R:=by
 obtain ⟨e,he⟩:∃e,s[pos]? =some e:=⟨s[pos],List.getElem?_eq_getElem hp⟩
 have he':s[(pos:Int).toNat]? =some e:=he
 have hh:=DT he
 have hn:=X9 (s.drop pos)
 rw [List.length_drop] at hn
 rcases hd:AJ (s.drop pos) with ⟨c,m⟩
 have hr:=rune_le hp hd.symm
 have hx:L9 s pos=((c:Int),(m:Int)):=by rw [Mb AC AC,Oo hp hd.symm]
 refine pB Tryz.func268 ?_
 repeat' ((conv=>whnf);first|(refine BT ?_;intros)|(refine BU ?_ ?_<;>intro _)|refine RE hl hp ?_|refine ZK hl hx ?_|refine pW h2 h3 ?_)
 .have U:0<G2 (s.drop pos):=AC
  exact fin h (Qu (by unfold AR;rw [if_pos U];omega) (by unfold Ek;rw [if_pos U]) (by unfold Fc;rw [if_pos U]))
 .have U:¬0<G2 (s.drop pos):=AC
  exact fin h (Qu (by unfold AR;rw [if_neg U,hd];omega) (by unfold Ek;rw [if_neg U]) (by unfold Fc;rw [if_neg U,if_pos AC]))
 .have U:¬0<G2 (s.drop pos):=AC
  exact fin h (Qu (by unfold AR;rw [if_neg U,hd];omega) (by unfold Ek;rw [if_neg U]) (by unfold Fc;rw [if_neg U,if_neg AC]))
end
end Go.Proofs.Z
namespace Go.Aw
open Go
def BM (l:List UInt8) (k:Nat) (p:Int×Int):Int×Int:=
 match l with
 |[]=>p
 |a::r=>if k<AR (a::r) then p else BM ((a::r).drop (AR (a::r))) (k - AR (a::r)) (Ek (a::r) p.1,Fc (a::r) p.2)
termination_by l.length
decreasing_by
 have:=Fe (l:=a::r) GT
 simp only [List.length_drop,List.length_cons]
 omega
theorem FG (k:Nat) (p:Int×Int):BM [] k p=p:=by rw [BM]
theorem EJ {l:List UInt8} {k:Nat} {p:Int×Int} (h:k<AR l):BM l k p=p:=by
 cases l with
 |nil=>exact FG k p
 |cons a r=>rw [BM,if_pos h]
theorem D0 {l:List UInt8} {k:Nat} {p:Int×Int} (U:l≠[]) (h:¬k<AR l):BM l k p=BM (l.drop (AR l)) (k - AR l) (Ek l p.1,Fc l p.2):=by
 cases l with
 |nil=>exact absurd rfl U
 |cons a r=>rw [BM,if_neg h]
theorem EK {l:List UInt8} {p:Int×Int}:BM l 0 p=p:=by
 cases l with
 |nil=>exact FG 0 p
 |cons a r=>exact EJ (Fe GT).2
theorem SA (h:pos<s.length):s.drop pos≠[]:=λe=>by
 have:=congrArg List.length e;rw [List.length_drop,List.length_nil] at this;omega
theorem QG {k:Nat} {line Ce:Int} (h:pos<s.length) (U:¬pos+k<pos+AR (s.drop pos)):
 BM (s.drop pos) k (line,Ce)=BM (s.drop (pos+AR (s.drop pos))) (k - AR (s.drop pos)) (Ek (s.drop pos) line,Fc (s.drop pos) Ce):=by
 rw [D0 (SA h) AC,List.drop_drop]
theorem TE (l:List UInt8) (line:Int):line<=Ek l line/\Ek l line<=line+1:=by unfold Ek;split<;>omega
theorem OR (l:List UInt8) {Ce:Int} (h:1<=Ce):1<=Fc l Ce/\Fc l Ce<=Ce+8:=by
 unfold Fc VL
 by_cases U:0<G2 l
 .rw [if_pos U];omega
 .rw [if_neg U]
  by_cases h2:AU l=9
  .rw [if_pos h2];omega
  .rw [if_neg h2];omega
end Go.Aw
namespace Go.Proofs.Z
open Go Go.Aw
section
variable {st:St} {R:Ay->St->Prop}
theorem rB {k:Nat} (hl:s.length<=100000000) (hk:k<=s.length) (h:R (.ret (.Bu [.int .i64 (BM s k (1,1)).1,.int .i64 (BM s k (1,1)).2,.int .i64 0])) st):PC 200 [.str s,.int .i64 k] st R:=by
 refine pB Tryz.func200 ?_
 repeat' ((conv=>whnf);first|exact Dp|(refine BT ?_;intros)|(refine Dq ?_ ?_ ?_;rotate_left)|(refine BU ?_ ?_<;>intro _)|with_reducible refine WF ?_)
 refine SZ (α:=Nat) (β:=Int) (γ:=Int) (λ_ _ _=>[]) (λpos line Ce=>[(0,[.int .i64 (pos:Int),.int .i64 line,.int .i64 Ce])]) [0,1,7] [] (λ_ _ _=>st)
  (λpos line Ce=>pos<=k/\1<=line/\line<=1+(pos:Int)/\1<=Ce/\Ce<=1+8*(pos:Int)/\BM s k (1,1)=BM (s.drop pos) (k - pos) (line,Ce)) (λpos _ _=>k - pos) 0 1 1 ⟨AC,AC,AC,AC,AC,rfl⟩ Yl (St.le_refl _) ?_
 rintro pos line Ce ⟨h1,h2,h3,h4,h5,U⟩
 have hr:=af s pos
 have hL:=TE (s.drop pos) line
 have hC:=OR (s.drop pos) h4
 repeat' ((conv=>whnf);first|exact Dp|(refine BT ?_;intros)|(refine Dq ?_ ?_ ?_;rotate_left)|(refine BU ?_ ?_<;>intro _)|refine ZW AC AC AC AC AC AC ?_|with_reducible refine WF ?_)
 .exact fin h (by rw [U,EJ AC])
 .conv=>whnf
  exact ⟨(pos+AR (s.drop pos),Ek (s.drop pos) line,Fc (s.drop pos) Ce),⟨UV,UV,UV,UV,UV,by dsimp only;rw [U,QG AC AC,Nat.sub_sub]⟩,UV,Yl,St.le_refl _⟩
 .have hz:k - pos=0:=AC
  exact fin h (by rw [U,hz,EK])
theorem nf {U:Int} (hl:s.length<=100000000) (h0:1<=U) (h1:U<=2147483648) (h:R (.ret (.Bu [.int .i64 (BM s s.length (1,U)).2,.int .i64 0])) st):PC 201 [.str s,.int .i64 U] st R:=by
 refine pB Tryz.func201 ?_
 repeat' ((conv=>whnf);first|(refine BT ?_;intros)|(refine BU ?_ ?_<;>intro _)|fail)
 refine SZ (α:=Nat) (β:=Int) (γ:=Int) (λ_ _ _=>[]) (λpos line Ce=>[(0,[.int .i64 (pos:Int),.int .i64 line,.int .i64 Ce])]) [0,6] [] (λ_ _ _=>st)
  (λpos line Ce=>pos<=s.length/\1<=line/\line<=1+(pos:Int)/\1<=Ce/\Ce<=U+8*(pos:Int)/\BM s s.length (1,U)=BM (s.drop pos) (s.length - pos) (line,Ce)) (λpos _ _=>s.length - pos) 0 1 U ⟨AC,AC,AC,AC,AC,rfl⟩ Yl (St.le_refl _) ?_
 rintro pos line Ce ⟨h1,h2,h3,h4,h5,h6⟩
 have hr:=af s pos
 have hL:=TE (s.drop pos) line
 have hC:=OR (s.drop pos) h4
 repeat' ((conv=>whnf);first|(refine BT ?_;intros)|(refine BU ?_ ?_<;>intro _)|refine ZW AC AC AC AC AC AC ?_)
 .conv=>whnf
  exact ⟨(pos+AR (s.drop pos),Ek (s.drop pos) line,Fc (s.drop pos) Ce),⟨UV,UV,UV,UV,UV,by dsimp only;rw [h6,QG AC AC,Nat.sub_sub]⟩,UV,Yl,St.le_refl _⟩
 .have hz:s.length - pos=0:=AC
  exact fin h (by rw [h6,hz,EK])
end
end Go.Proofs.Z
namespace Go.Aw
open Go
theorem pk {st:St} {γ δ:Type} (f:α->β->γ->δ->List (Nat×V)) (g:α->β->γ->δ->List (Nat×List V)) (keep kb:List Nat) (S:α->β->γ->δ->St) (J:α->β->γ->δ->Prop) (U:α->β->γ->δ->Nat) (x0:α) (y0:β) (z0:γ) (u0:δ) (h0:J x0 y0 z0 u0)
 (he:(env.Oj (f x0 y0 z0 u0) (g x0 y0 z0 u0) keep kb).ES env) (hs:St.le (S x0 y0 z0 u0) st)
 (hb:∀x y z u,J x y z u->ih (B2 (λenv' st'=>∃p:α×β×γ×δ,J p.1 p.2.1 p.2.2.1 p.2.2.2/\U p.1 p.2.1 p.2.2.1 p.2.2.2<U x y z u/\(env.Oj (f p.1 p.2.1 p.2.2.1 p.2.2.2) (g p.1 p.2.1 p.2.2.1 p.2.2.2) keep kb).ES env'/\St.le (S p.1 p.2.1 p.2.2.1 p.2.2.2) st') Q) (env.Oj (f x y z u) (g x y z u) keep kb) (S x y z u)):
 ∃(α:Type) (E:α->Env) (S:α->St) (J:α->Prop) (U:α->Nat) (x0:α),J x0/\(E x0).ES env/\St.le (S x0) st/\
  ∀x,J x->ih (B2 (λenv' st'=>∃y,J y/\U y<U x/\(E y).ES env'/\St.le (S y) st') Q) (E x) (S x):=
 ⟨α×β×γ×δ,λp=>env.Oj (f p.1 p.2.1 p.2.2.1 p.2.2.2) (g p.1 p.2.1 p.2.2.1 p.2.2.2) keep kb,λp=>S p.1 p.2.1 p.2.2.1 p.2.2.2,λp=>J p.1 p.2.1 p.2.2.1 p.2.2.2,λp=>U p.1 p.2.1 p.2.2.1 p.2.2.2,(x0,y0,z0,u0),h0,he,hs,λp h=>hb p.1 p.2.1 p.2.2.1 p.2.2.2 h⟩
def Dy (s:List UInt8) (U pos:Nat):List (List UInt8):=
 if h:pos<s.length then
  if 0<G2 (s.drop pos) then (s.take pos).drop U::Dy s (pos+G2 (s.drop pos)) (pos+G2 (s.drop pos)) else Dy s U (pos+1)
 else [s.drop U]
termination_by s.length - pos
decreasing_by all_goals omega
theorem qK {a b:Int} {K:Int->Prop} (h:¬a<b) (k:K a):∃r,r=(if a<b then b else a)/\K r:=⟨a,(if_neg h).symm,k⟩
theorem qL {a b:Int} {K:Int->Prop} (h:a<b) (k:K b):∃r,r=(if a<b then b else a)/\K r:=⟨b,(if_pos h).symm,k⟩
theorem dT {l:List (List UInt8)} {own:AB} {st:St} (h:own.Bx st) (hb:l.length<=999999999)
 (k:∀U:AB,U.Bx st->K (.slice 1 (strs (l++[x])) U) (U.st st (l++[x]).length)):Ah 1 16 (strs l) own [[.str x]] (own.st st l.length) K:=
 NW (new:=[x]) h ke k
theorem ca {U:Nat} (h:pos<s.length) (k:0<G2 (s.drop pos)):Dy s U pos=(s.take pos).drop U::Dy s (pos+G2 (s.drop pos)) (pos+G2 (s.drop pos)):=by
 rw [Dy,dif_pos h,if_pos k]
theorem bY {U:Nat} (h:pos<s.length) (k:¬0<G2 (s.drop pos)):Dy s U pos=Dy s U (pos+1):=by
 rw [Dy,dif_pos h,if_neg k]
theorem XW {U:Nat} (h:¬pos<s.length):Dy s U pos=[s.drop U]:=by
 rw [Dy,dif_neg h]
end Go.Aw
namespace Go.Proofs.Z
open Go Go.Aw
section
variable {st:St} {R:Ay->St->Prop}
attribute [local irreducible] Go.Aw.Ah
theorem ZF (hl:s.length<=100000000) (h:∀own:AB,own.Bx st->R (.ret (.slice 1 (strs (Dy s 0 0)) own)) (own.st st (Dy s 0 0).length)):PC 199 [.str s] st R:=by
 refine pB Tryz.func199 ?_
 repeat' ((conv=>whnf);first|(refine BT ?_;intros)|(refine BU ?_ ?_<;>intro _)|refine rM (λ_=>?_) ?_|fail)
 refine pk (α:=Nat) (β:=Nat) (γ:=List (List UInt8)) (δ:=AB) (λpos U l own=>[(5,.int .i64 (pos:Int)),(4,.int .i64 (U:Int)),(3,.slice 1 (strs l) own)]) (λ_ _ _ _=>[]) [0] [] (λ_ _ l own=>own.st st l.length)
  (λpos U l own=>U<=pos/\pos<=s.length/\l.length<=pos/\own.Bx st/\Dy s 0 0=l++Dy s U pos) (λpos _ _ _=>s.length - pos) 0 0 [] .full ⟨AC,AC,GT,trivial,rfl⟩ Yl (St.le_refl _) ?_
 rintro pos U l own ⟨h1,h2,h3,h4,h5⟩
 have hn:=X9 (s.drop pos)
 rw [List.length_drop] at hn
 repeat' ((conv=>whnf);first|(refine BT ?_;intros)|(refine BU ?_ ?_<;>intro _)|refine rM (λ_=>?_) ?_|refine RE AC AC ?_|refine qK AC ?_|refine qL AC ?_|refine dT h4 AC (λown' ho=>?_))
 .conv=>whnf
  exact ⟨(pos+G2 (s.drop pos),pos+G2 (s.drop pos),l++[(s.take pos).drop U],own'),⟨Nat.le_refl _,AC,by grind,ho,by dsimp only;rw [h5,ca AC AC,List.append_assoc];rfl⟩,AC,Yl,St.le_refl _⟩
 .conv=>whnf
  exact ⟨(pos+1,U,l,own),⟨by grind,AC,by grind,h4,by dsimp only;rw [h5,bY AC AC]⟩,AC,Yl,St.le_refl _⟩
 .exact fin (by have:=h own' ho;rw [h5,XW AC] at this;grind) rfl
end
end Go.Proofs.Z
namespace Go.Aw
open Go
def qS:List (List UInt8):=[[95],[99,97,115,101],[99,108,97,115,115],[100,97,116,97],[100,101,102,97,117,108,116],[100,101,114,105,118,105,110,103],[100,111],[101,108,115,101],[102,111,114,101,105,103,110],[105,102],[105,109,112,111,114,116],[105,110],[105,110,102,105,120],[105,110,102,105,120,108],[105,110,102,105,120,114],[105,110,115,116,97,110,99,101],[108,101,116],[109,111,100,117,108,101],[110,101,119,116,121,112,101],[111,102],[116,104,101,110],[116,121,112,101],[119,104,101,114,101]]
def gB:List (List UInt8):=[[46,46],[58],[58,58],[61],[92],[124],[60,45],[45,62],[64],[126],[61,62]]
def pM (w:List UInt8):Bool:=qS.contains w
def mz (w:List UInt8):Int:=if gB.contains w then 10 else if AU w=58 then 6 else 5
def Hw (c:Int):Bool:=AH c==2||AH c==3||AH c==4||c==39
def KL (l:List UInt8):Nat:=BS Hw l
def GK (l:List UInt8):Int:=match l with
 |[]=>0
 |a::r=>AH ((AJ (a::r)).1:Nat)
def BB (l:List UInt8):Int×Nat:=
 if GK l=6 then (15,1)
 else if GK l=5 then (mz (l.take (BS (λc=>AH c==5) l)),BS (λc=>AH c==5) l)
 else if GK l=3 then (2,KL l)
 else if GK l=2 then (if pM (l.take (KL l)) then 9 else 1,KL l)
 else (0,0)
def NN (k:Int):Int:=if k=1 then 3 else if k=2 then 4 else if k=5 then 7 else if k=6 then 8 else 0
theorem CX (c:UInt8) (l:List UInt8):[c].isPrefixOf l=decide (AU l=(c.toNat:Nat)):=by
 cases l with
 |nil=>exact (decide_eq_false (λe=>by have h:(-1:Int)=(c.toNat:Nat):=e;omega)).symm
 |cons a r=>
  show (c==a&&true)=decide (((a.toNat:Nat):Int)=(c.toNat:Nat))
  rw [Bool.and_true,Bool.eq_iff_iff,beq_iff_eq,decide_eq_true_iff]
  exact ⟨λe=>by rw [e],λe=>UInt8.toNat_inj.1 AC⟩
end Go.Aw
namespace Go.Proofs.Z
open Go Go.Aw
section
variable {st:St} {R:Ay->St->Prop}
theorem Yp (h:R (.ret (.bool (pM w))) st):PC 381 [.str w] st R:=by
 refine pB Tryz.func381 ?_
 repeat' ((conv=>whnf);first|(refine BT ?_;intros)|(refine BU ?_ ?_<;>intro _)|fail)
 all_goals exact fin h (congrArg (λb=>Ay.ret (V.bool b)) (by first|(subst_vars;decide)|(simp only [pM,qS];simp_all)))
theorem cV (h:R (.ret (.int .i64 (mz w))) st):PC 379 [.str w] st R:=by
 refine pB Tryz.func379 ?_
 repeat' ((conv=>whnf);first|(refine BT ?_;intros)|(refine BU ?_ ?_<;>intro _)|refine H3 ?_)
 all_goals try rename_i U
 all_goals try rw [CX,decide_eq_true_eq] at U
 all_goals try rw [CX,decide_eq_false_iff_not] at U
 all_goals exact fin h (BO (by first|(subst_vars;decide)|(have U:AU w=58:=U;simp only [mz,gB];simp_all)|(have U:¬AU w=58:=U;simp only [mz,gB];simp_all)))
theorem jw (h:R (.ret (.bool (Hw c))) st):PC 411 [.int .i32 c] st R:=by
 refine pB Tryz.func411 ?_
 repeat' ((conv=>whnf);first|(refine BT ?_;intros)|(refine BU ?_ ?_<;>intro _)|refine J4 ?_)
 all_goals exact fin h (congrArg (λb=>Ay.ret (V.bool b)) (by simp only [Hw];simp_all))
theorem Vh (h:R (.ret (.int .i64 (NN k))) st):PC 333 [.int .i64 k] st R:=by
 refine pB Tryz.func333 ?_
 repeat' ((conv=>whnf);first|(refine BT ?_;intros)|(refine BU ?_ ?_<;>intro _)|fail)
 all_goals exact fin h (BO (by unfold NN;(repeat' split)<;>omega))
end
theorem NC (s:List UInt8):GK s=if (L9 s 0).2=0 then 0 else AH (L9 s 0).1:=by
 cases s with
 |nil=>rw [RF GT];rfl
 |cons a r=>
  have U:=DR (a::r)
  rw [Mb AC GT,show (0:Int).toNat=0 from rfl,List.drop_zero,Zb GT,if_neg UV]
  rfl
section
variable {st:St} {R:Ay->St->Prop}
theorem pw (hl:s.length<4611686018427387904) (h:R (.ret (.str (s.take (KL s)))) st):PC 380 [.str s] st R:=by
 refine pB Tryz.func380 ?_
 repeat' ((conv=>whnf);first|(refine BT ?_;intros)|(refine BU ?_ ?_<;>intro _)|fail)
 refine PZ (α:=Nat) (λ_=>[]) (λpos=>[(0,[.N8 s pos])]) [0,6] [] (λ_=>st) (λpos=>pos<=s.length/\KL s=pos+BS Hw (s.drop pos)) (λpos=>s.length - pos) 0 ⟨Nat.zero_le _,by simp [KL]⟩ Yl (St.le_refl _) ?_
 rintro pos ⟨hp,hi⟩
 repeat' ((conv=>whnf);first|(refine BT ?_;intros)|(refine BU ?_ ?_<;>intro _)|refine jw ?_)
 .rename_i U c m hd hk
  have hr:=rune_le U hd
  conv=>whnf
  exact ⟨pos+m,⟨hr.1,OQ U hd hk hi⟩,AC,Yl,St.le_refl _⟩
 .rename_i U c m hd hk
  have:=TC (p:=λd=>Hw (d.1:Nat)) hd hk hi
  exact fin h (by rw [this];rfl)
 .rename_i U
  have:=Qt U hi
  exact fin h (by rw [this,List.take_of_length_le AC])
theorem k8 (U:s.length<4611686018427387904) (h:R (.ret (.int .i64 (GK s))) st):PC 378 [.str s] st R:=by
 refine pB Tryz.func378 ?_
 repeat' ((conv=>whnf);first|(refine BT ?_;intros)|(refine BU ?_ ?_<;>intro _)|refine gL U ?_|refine J4 ?_)
 .exact fin h (BO (by rw [NC,if_pos ‹_›]))
 .exact fin h (BO (by rw [NC,if_neg ‹_›]))
end
theorem rD:mh s 0 k=(BS (λc=>AH c==k) s:Nat):=by
 rw [OM AC AC];simp
theorem bI (h:¬GK s=0):0<s.length:=by
 cases s with
 |nil=>exact absurd rfl h
 |cons a r=>simp
section
variable {st:St} {R:Ay->St->Prop}
theorem nV (U:s.length<4611686018427387904) (h:R (.ret (.int .i64 (BS (λc=>AH c==k) s:Nat))) st):PC 129 [.str s,.int .i64 0,.int .i64 k] st R:=nU U (by rw [rD];exact h)
theorem ZV (U:s.length<4611686018427387904) (h:R (.ret (.Bu [.int .i64 (BB s).1,.str (s.take (BB s).2)])) st):PC 332 [.str s] st R:=by
 have hr:=Fb (λc=>AH c==5) s
 have hne:GK s=0\/0<s.length:=by
  by_cases h0:GK s=0
  .exact .inl h0
  .exact .inr (bI h0)
 refine pB Tryz.func332 ?_
 repeat' ((conv=>whnf);first|exact Dp|(refine BT ?_;intros)|(refine Dq ?_ ?_ ?_;rotate_left)|(refine BU ?_ ?_<;>intro _)|refine k8 U ?_|refine nV U ?_|refine cV ?_|refine pw U ?_|refine Yp ?_|with_reducible refine WF ?_)
 .exact fin h (by unfold BB;rw [if_pos ‹_›];rfl)
 .exact fin h (by unfold BB;rw [if_neg AC,if_pos AC];rfl)
 .exact fin h (by unfold BB;rw [if_neg AC,if_neg AC,if_pos AC])
 .exact fin h (by unfold BB;rw [if_neg AC,if_neg AC,if_neg AC,if_pos AC,if_pos ‹_›])
 .exact fin h (by unfold BB;rw [if_neg AC,if_neg AC,if_neg AC,if_pos AC,if_neg ke])
 .exact fin h (by unfold BB;rw [if_neg AC,if_neg AC,if_neg AC,if_neg AC];rfl)
end
end Go.Proofs.Z
namespace Go.Aw
open Go
def Hk (s:List UInt8) (n:Nat) (k:Int):Int×Nat:=
 if h:n<s.length then
  if (k=2\/k=4)/\AU (s.drop n)=46/\NN (BB (s.drop (n+1))).1≠0 then Hk s (n+1+(BB (s.drop (n+1))).2) (NN (BB (s.drop (n+1))).1) else (k,n)
 else (k,n)
termination_by s.length - n
decreasing_by omega
def Ga (s:List UInt8):Int×Nat:=Hk s (BB s).2 (BB s).1
theorem Vw {n:Nat} (h:¬(n<s.length/\(k=2\/k=4)/\AU (s.drop n)=46/\NN (BB (s.drop (n+1))).1≠0)):Hk s n k=(k,n):=by
 rw [Hk]
 split
 .rw [if_neg (λe=>h ⟨FS,e⟩)]
 .rfl
theorem iI {n:Nat} (h:n<s.length) (e:(k=2\/k=4)/\AU (s.drop n)=46/\NN (BB (s.drop (n+1))).1≠0):Hk s n k=Hk s (n+1+(BB (s.drop (n+1))).2) (NN (BB (s.drop (n+1))).1):=by
 rw [Hk,dif_pos h,if_pos e]
theorem Kg (s:List UInt8):(BB s).2<=s.length:=by
 have hf:GK s=0\/0<s.length:=by
  cases s with
  |nil=>exact .inl rfl
  |cons a r=>exact .inr GT
 have U:=Fb (λc=>AH c==5) s
 have h2:KL s<=s.length:=Fb _ s
 unfold BB
 (repeat' split)<;>first|omega|(dsimp only;omega)
end Go.Aw
namespace Go.Proofs.Z
open Go Go.Aw
section
variable {st:St} {R:Ay->St->Prop}
theorem qo {n:Nat} (U:w.length=n) (h:R (.ret (.bool (decide (AU (s.drop n)=46)))) st):PC 130 [.str (s.drop ((w.length:Nat):Int).toNat),.str [46]] st R:=by
 refine H3 ?_
 rw [CX,U,show ((n:Nat):Int).toNat=n by omega]
 exact h
theorem ic {n:Nat} (hl:s.length<=100000000) (U:w.length=n) (h:R (.ret (.Bu [.int .i64 (BB (s.drop (n+1))).1,.str ((s.drop (n+1)).take (BB (s.drop (n+1))).2)])) st):PC 332 [.str (s.drop (((w.length:Nat):Int)+1).toNat)] st R:=by
 rw [U,show (((n:Nat):Int)+1).toNat=n+1 by omega]
 exact ZV M2 h
theorem mo {v:List UInt8} {n:Nat} {K:List UInt8->Prop} (U:w.length=n) (h2:v.length=m) (h:n+1+m<=s.length) (k:K (s.take (n+1+m))):
 ((0:Int)<=0/\0<=((w.length:Nat):Int)+1+((v.length:Nat):Int)/\((w.length:Nat):Int)+1+((v.length:Nat):Int)<=s.length)/\∀s',s'=(s.take (((w.length:Nat):Int)+1+((v.length:Nat):Int)).toNat).drop (0:Int).toNat->K s':=by
 subst U;subst h2
 refine WO AC AC ?_
 rw [show (((w.length:Nat):Int)+1+((v.length:Nat):Int)).toNat=w.length+1+v.length by omega]
 exact k
theorem eP (s:List UInt8) (n:Nat):¬AU (s.drop n)=46\/n<s.length:=by
 by_cases h:n<s.length
 .exact .inr h
 .rw [GM AC];exact .inl Do
theorem ni (hl:s.length<=100000000) (h:∀ahead:Int,R (.ret (.Bu [.int .i64 (Ga s).1,.str (s.take (Ga s).2),.int .i64 ahead])) st):PC 271 [.str s] st R:=by
 refine pB Tryz.func271 ?_
 repeat' ((conv=>whnf);first|exact Dp|(refine BT ?_;intros)|(refine Dq ?_ ?_ ?_;rotate_left)|(refine BU ?_ ?_<;>intro _)|refine ZV AC ?_|with_reducible refine WF ?_)
 refine SZ (α:=Nat) (β:=Int) (γ:=Int) (λn k a=>[(2,.int .i64 k),(3,.str (s.take n)),(4,.int .i64 a)]) (λ_ _ _=>[]) [0] [] (λ_ _ _=>st) (λn k _=>n<=s.length/\Ga s=Hk s n k) (λn _ _=>s.length - n) (BB s).2 (BB s).1 0 ⟨Kg s,rfl⟩ Yl (St.le_refl _) ?_
 rintro n k a ⟨h1,h2⟩
 have U:(s.take n).length=n:=NE
 have hp:=Kg (s.drop (n+1))
 rw [List.length_drop] at hp
 have hdl:=eP s n
 have ht2:((s.drop (n+1)).take (BB (s.drop (n+1))).2).length=(BB (s.drop (n+1))).2:=by rw [List.length_take,List.length_drop];omega
 repeat' ((conv=>whnf);first|with_reducible refine mo U ht2 AC ?_|exact Dp|(refine BT ?_;intros)|(refine Dq ?_ ?_ ?_;rotate_left)|(refine BU ?_ ?_<;>intro _)|refine qo U ?_|refine ic hl U ?_|refine Vh ?_|with_reducible refine WF ?_)
 all_goals first
  |exact fin (by have:=h a;rw [h2,Vw AC] at this;exact this) rfl
  |(conv=>whnf
    exact ⟨(n+1+(BB (s.drop (n+1))).2,NN (BB (s.drop (n+1))).1,(((s.take n).length:Nat):Int)+1),⟨UV,by dsimp only;rw [h2,iI AC ⟨AC,AC,AC⟩]⟩,UV,Yl,St.le_refl _⟩)
end
end Go.Proofs.Z
namespace Go.Aw
open Go
def G0 (s:List UInt8) (pos:Nat):Int×Int:=if (Ga (s.drop pos)).1=0 then (0,0) else ((Ga (s.drop pos)).1,(pos+(Ga (s.drop pos)).2:Nat))
theorem iJ {n:Nat} (h:n<=s.length):(Hk s n k).2<=s.length:=by
 fun_induction Hk s n k with
 |case1 n k hn U ih=>
  have:=Kg (s.drop (n+1))
  rw [List.length_drop] at this
  exact ih AC
 |case2 n k hn U=>exact h
 |case3 n k hn=>exact h
theorem V3 (s:List UInt8):(Ga s).2<=s.length:=iJ (Kg s)
end Go.Aw
namespace Go.Proofs.Z
open Go Go.Aw
section
variable {st:St} {R:Ay->St->Prop}
theorem jz (hl:s.length<=100000000) (hp:pos<s.length) (h:R (.ret (.Bu [.int .i64 (G0 s pos).1,.int .i64 (G0 s pos).2])) st):PC 204 [.str s,.int .i64 pos] st R:=by
 have ht:((s.drop pos).take (Ga (s.drop pos)).2).length=(Ga (s.drop pos)).2:=by rw [List.length_take];have:=V3 (s.drop pos);omega
 have hw:=V3 (s.drop pos)
 rw [List.length_drop] at hw
 have U:(s.drop pos).length<=100000000:=M2
 refine pB Tryz.func204 ?_
 repeat' ((conv=>whnf);first|(refine BT ?_;intros)|(refine BU ?_ ?_<;>intro _)|refine ni U (λ_=>?_))
 .exact fin h (by unfold G0;rw [if_pos ‹_›];simp_all)
 .exact fin h (by unfold G0;rw [if_neg ‹_›];simp only [];rw [show (pos:Int).toNat=pos by omega] at *;rw [ht];rfl)
end
end Go.Proofs.Z
namespace Go.Aw
open Go
def BC (base:Int):List UInt8->Nat
 |[]=>0
 |a::r=>if BE ((a.toNat:Nat):Int) base<0 then 0 else BC base r+1
def Eh (l:List UInt8):Int:=if AU (l.drop 1)=111\/AU (l.drop 1)=79 then 8 else if AU (l.drop 1)=120\/AU (l.drop 1)=88 then 16 else 10
def Cr (l:List UInt8):Int×Nat:=if AU l=48/\Eh l≠10/\BC (Eh l) (l.drop 2)≠0 then (Eh l,2) else (10,0)
def KP (l:List UInt8):Nat:=if AU l=43\/AU l=45 then 1 else 0
def LP (l:List UInt8):Nat:=
 if (AU l=101\/AU l=69)/\BC 10 (l.drop (1+KP (l.drop 1)))≠0 then 1+KP (l.drop 1)+BC 10 (l.drop (1+KP (l.drop 1))) else 0
def HO (l:List UInt8):Nat:=if AU l=46/\BC 10 (l.drop 1)≠0 then 1+BC 10 (l.drop 1) else 0
def Eo (l:List UInt8):Int×Nat:=
 if (Cr l).1≠10 then (11,2+BC (Cr l).1 (l.drop 2))
 else if BC 10 l=0 then (0,0)
 else
  (if 0<HO (l.drop (BC 10 l))\/0<LP (l.drop (BC 10 l+HO (l.drop (BC 10 l)))) then 12 else 11,
    BC 10 l+HO (l.drop (BC 10 l))+LP (l.drop (BC 10 l+HO (l.drop (BC 10 l)))))
theorem Cf {l:List UInt8} {k:Nat} (h:0<=AU (l.drop k)):k<l.length:=by
 by_cases U:k<l.length
 .exact U
 .rw [List.drop_eq_nil_iff.2 AC] at h;exact absurd h Do
theorem EY {a:UInt8} (h:a.toNat<128):AJ (a::r)=(a.toNat,1):=by
 unfold AJ;simp_all
theorem Oq {a:UInt8} (h:¬a.toNat<128):128<=(AJ (a::r)).1:=by
 unfold AJ;grind
theorem HM (h:128<=c):BE c base<0:=by
 have U:(if 48<=c/\c<=57 then c - 48 else if 97<=c/\c<=102 then c - 87 else if 65<=c/\c<=70 then c - 55 else 16)=16:=by
  rw [if_neg AC,if_neg AC,if_neg AC]
 unfold BE;grind
theorem D9 (base:Int) (l:List UInt8):BC base l<=l.length:=by
 induction l with
 |nil=>exact Nat.le_refl _
 |cons a r U=>unfold BC;grind
theorem Mp {c:Nat} (h:pos<s.length) (U:(c,m)=AJ (s.drop pos)) (k:¬BE (c:Int) base<0):m=1/\BC base (s.drop pos)=BC base (s.drop (pos+1))+1:=by
 rw [List.drop_eq_getElem_cons h] at U |-
 by_cases hb:s[pos].toNat<128
 .rw [EY hb] at U
  injection U with h1 h2
  subst h1;subst h2
  exact ⟨rfl,by rw [BC,if_neg k]⟩
 .have:=Oq (r:=s.drop (pos+1)) hb
  rw [<-U] at this
  exact absurd (HM (c:=(c:Int)) (base:=base) AC) k
theorem Hj {c:Nat} (h:pos<s.length) (U:(c,m)=AJ (s.drop pos)) (k:BE (c:Int) base<0):BC base (s.drop pos)=0:=by
 rw [List.drop_eq_getElem_cons h] at U |-
 by_cases hb:s[pos].toNat<128
 .rw [EY hb] at U
  injection U with h1 h2
  subst h1
  rw [BC,if_pos k]
 .rw [BC,if_pos (HM AC)]
theorem Kk (h:s.length<=pos):BC base (s.drop pos)=0:=by rw [List.drop_eq_nil_iff.2 h];rfl
theorem Uv (l:List UInt8):HO l<=l.length:=by
 have:=D9 10 (l.drop 1)
 rw [List.length_drop] at this
 unfold HO;grind
theorem Zn (l:List UInt8):LP l<=l.length:=by
 have:=D9 10 (l.drop (1+KP (l.drop 1)))
 rw [List.length_drop] at this
 unfold LP;grind
theorem Td (l:List UInt8):(Eo l).2<=l.length:=by
 have h1:=D9 10 l
 have U:=D9 (Cr l).1 (l.drop 2)
 have h3:=Uv (l.drop (BC 10 l))
 have h4:=Zn (l.drop (BC 10 l+HO (l.drop (BC 10 l))))
 rw [List.length_drop] at U h3 h4
 have h5:(Cr l).1≠10->2<=l.length:=λe=>by
  unfold Cr at e
  split at e
  .rename_i hc
   have:=D9 (Eh l) (l.drop 2)
   grind
  omega
 unfold Eo
 grind
theorem bH {a:Int} {K:Int->Prop} (U: -2147483648<=a) (h2:a<=2147483647) (k:K a):∃r,r=IntKind.i32.wrap a/\K r:=⟨a,(IntWalk.i32_in _ ⟨U,h2⟩).symm,k⟩
end Go.Aw
namespace Go.Proofs.Z
open Go Go.Aw
section
variable {st:St} {R:Ay->St->Prop}
theorem LI {b:Int} (h:R (.ret (.int .i64 (BE c b))) st):PC 374 [.int .i32 c,.int .i64 b] st R:=by
 refine pB Tryz.func374 ?_
 repeat' ((conv=>whnf);first|(refine BT ?_;intros)|(refine BU ?_ ?_<;>intro _)|refine bH AC AC ?_)
 all_goals exact fin h (BO (by unfold BE;dsimp only;(repeat' split)<;>omega))
theorem nS {b:Int} (hl:s.length<4611686018427387904) (h:R (.ret (.int .i64 (BC b s:Nat))) st):PC 328 [.str s,.int .i64 b] st R:=by
 refine pB Tryz.func328 ?_
 repeat' ((conv=>whnf);first|(refine BT ?_;intros)|(refine BU ?_ ?_<;>intro _)|fail)
 refine PZ (α:=Nat) (λ_=>[]) (λpos=>[(0,[.N8 s pos])]) [0,1,8] [] (λ_=>st) (λpos=>pos<=s.length/\BC b s=pos+BC b (s.drop pos)) (λpos=>s.length - pos) 0 ⟨Nat.zero_le _,GT⟩ Yl (St.le_refl _) ?_
 rintro pos ⟨hp,hi⟩
 repeat' ((conv=>whnf);first|(refine BT ?_;intros)|(refine BU ?_ ?_<;>intro _)|refine LI ?_)
 .rename_i U c m hd hk
  have:=Hj U hd hk
  exact fin h (BO AC)
 .rename_i U c m hd hk
  obtain ⟨e1,e2⟩:=Mp U hd hk
  conv=>whnf
  exact ⟨pos+m,⟨AC,by grind⟩,AC,Yl,St.le_refl _⟩
 .rename_i U hls
  have:=Kk (base:=b) (s:=s) (pos:=pos) AC
  exact fin h (BO AC)
end
end Go.Proofs.Z
namespace Go.Aw
open Go
theorem Y5 {l:List UInt8} (h:AU (l.drop 1)=111\/AU (l.drop 1)=79):Eh l=8:=if_pos h
theorem T1 {l:List UInt8} (h:AU (l.drop 1)=120\/AU (l.drop 1)=88):Eh l=16:=by unfold Eh;rw [if_neg AC,if_pos h]
theorem ee {l:List UInt8} (h:AU (l.drop 1)≠111/\AU (l.drop 1)≠79/\AU (l.drop 1)≠120/\AU (l.drop 1)≠88):Eh l=10:=by unfold Eh;rw [if_neg AC,if_neg AC]
theorem ef (l:List UInt8):Eh l=8\/Eh l=16\/Eh l=10:=by
 unfold Eh
 split
 .exact .inl rfl
 .split
  .exact .inr (.inl rfl)
  .exact .inr (.inr rfl)
theorem Kh {l:List UInt8} {b:Int} (h:AU l=48) (hb:Eh l=b) (hn:b≠10) (U:BC b (l.drop 2)≠0):Cr l=(b,2):=by
 subst hb
 exact if_pos ⟨h,hn,U⟩
theorem Mk {l:List UInt8} (h:AU l≠48\/Eh l=10\/BC (Eh l) (l.drop 2)=0):Cr l=(10,0):=if_neg AC
theorem Ml (l:List UInt8):Cr l=(10,0)\/(Cr l=(8,2)/\Eh l=8)\/(Cr l=(16,2)/\Eh l=16):=by
 by_cases h:AU l=48/\Eh l≠10/\BC (Eh l) (l.drop 2)≠0
 .rcases ef l with hb|hb|hb
  .exact .inr (.inl ⟨Kh h.1 hb Do (hb ▸ h.2.2),hb⟩)
  .exact .inr (.inr ⟨Kh h.1 hb Do (hb ▸ h.2.2),hb⟩)
  .exact absurd hb h.2.1
 .exact .inl (if_neg h)
theorem aa {l:List UInt8} (h:AU l=43\/AU l=45):KP l=1:=if_pos h
theorem Z9 {l:List UInt8} (h:¬(AU l=43\/AU l=45)):KP l=0:=if_neg h
theorem kW {l:List UInt8} (h:¬(AU l=101\/AU l=69)):LP l=0:=if_neg λe=>h e.1
theorem fB {l:List UInt8} (h:AU l=101\/AU l=69) (hk:1+KP (l.drop 1)=j) (U:BC 10 (l.drop j)=0):LP l=0:=by
 subst hk
 exact if_neg λe=>e.2 U
theorem fC {l:List UInt8} (h:AU l=101\/AU l=69) (hk:1+KP (l.drop 1)=j) (U:BC 10 (l.drop j)≠0):LP l=j+BC 10 (l.drop j):=by
 subst hk
 exact if_pos ⟨h,U⟩
end Go.Aw
namespace Go.Proofs.Z
open Go Go.Aw
section
variable {st:St} {R:Ay->St->Prop}
theorem iC {n:Nat} {b:Int} (U:s.length<=4611686018427387903) (h:R (.ret (.int .i64 (BC b (s.drop n):Nat))) st):PC 328 [.str (s.drop (n:Int).toNat),.int .i64 b] st R:=
 nS M2 h
theorem Yj (hl:s.length<=4611686018427387903) (h:R (.ret (.Bu [.int .i64 (Cr s).1,.int .i64 (Cr s).2])) st):PC 327 [.str s] st R:=by
 refine pB Tryz.func327 ?_
 repeat' ((conv=>whnf);first|(refine BT ?_;intros)|(refine BU ?_ ?_<;>intro _)|refine iC (n:=2) hl ?_)
 all_goals try have U:=DT (show s[0]? =some _ by assumption)
 all_goals try rw [List.drop_zero] at U
 all_goals try have h1:=DT (show s[1]? =some _ by assumption)
 all_goals try have h1:=GM (s:=s) (i:=1) AC
 all_goals first
  |exact fin h (by rw [Mk (.inl AC)];rfl)
  |exact fin h (by rw [Mk (.inr (.inl (ee AC)))];rfl)
  |exact fin h (by rw [Mk (.inr (.inr (by rw [Y5 AC];assumption)))];rfl)
  |exact fin h (by rw [Mk (.inr (.inr (by rw [T1 AC];assumption)))];rfl)
  |exact fin h (by rw [Kh AC (Y5 AC) Do ‹_›];rfl)
  |exact fin h (by rw [Kh AC (T1 AC) Do ‹_›];rfl)
theorem Xo (hl:s.length<=4611686018427387903) (h:R (.ret (.int .i64 (LP s:Nat))) st):PC 329 [.str s] st R:=by
 refine pB Tryz.func329 ?_
 by_cases U:s=[]
 .subst U
  repeat' ((conv=>whnf);first|(refine BT ?_;intros)|(refine BU ?_ ?_<;>intro _)|fail)
  .exact fin h rfl
  .rename_i hn;exact absurd rfl hn
 have hlen:=List.length_pos_iff.2 U
 have r1:BC 10 (s.drop 1)<=s.length:=Nat.le_trans (D9 10 _) M2
 have r2:BC 10 (s.drop 2)<=s.length:=Nat.le_trans (D9 10 _) M2
 repeat' ((conv=>whnf);first|(refine BT ?_;intros)|(refine BU ?_ ?_<;>intro _)|refine iC (n:=1) hl ?_|refine iC (n:=2) hl ?_)
 all_goals try have h0:=DT (show s[0]? =some _ by assumption)
 all_goals try rw [List.drop_zero] at h0
 all_goals try have h1:=DT (show s[1]? =some _ by assumption)
 all_goals try have h1:=GM (s:=s) (i:=1) AC
 all_goals first
  |(have e:=kW (l:=s) AC;exact fin h (BO AC))
  |(have e:=fB (l:=s) (j:=1) AC (by rw [Z9 AC]) ‹_›;exact fin h (BO AC))
  |(have e:=fC (l:=s) (j:=1) AC (by rw [Z9 AC]) ‹_›;exact fin h (BO AC))
  |(have e:=fB (l:=s) (j:=2) AC (by rw [aa AC]) ‹_›;exact fin h (BO AC))
  |(have e:=fC (l:=s) (j:=2) AC (by rw [aa AC]) ‹_›;exact fin h (BO AC))
end
end Go.Proofs.Z
namespace Go.Proofs.Z
open Go Go.Aw
open Rd (ret seq fail GH look loop)
def J0 (base:Int):List UInt8->Int->Int×Int
 |[],v=>(v,0)
 |a::r,v=>if (4611686018427387904 - BE (a.toNat:Nat) base) / base<v then (0,3) else J0 base r (v*base+BE (a.toNat:Nat) base)
def JZ (s:List UInt8):Int×Int:=if (Eo s).1=11/\(Eo s).2=s.length then J0 (Cr s).1 (s.drop (Cr s).2) 0 else (0,40)
def KO (t:Tk):Bool:=t.kind==19||(t.kind==15&&t.text==[59])
def EV (t:Tk):Bool:=t.kind==1||t.kind==2||t.kind==3||t.kind==4||t.kind==11||t.kind==12||t.kind==13||t.kind==14||
 (t.kind==9&&t.text==[95])||(t.kind==10&&t.text==[126])||(t.kind==15&&(t.text==[40]||t.text==[91]))
abbrev mU:List UInt8:=[108,101,116]
abbrev rI:List UInt8:=[105,102]
abbrev jt:List UInt8:=[99,97,115,101]
abbrev rH:List UInt8:=[100,111]
abbrev rZ:List UInt8:=[105,110]
abbrev sl:List UInt8:=[111,102]
abbrev rb:List UInt8:=[116,104,101,110]
abbrev q7:List UInt8:=[101,108,115,101]
abbrev YQ:List UInt8:=[119,104,101,114,101]
def FJ (t:Tk):Bool:=(t.kind==9&&(t.text==mU||t.text==rI||t.text==jt||t.text==rH))||(t.kind==10&&t.text==[92])||(t.kind==5&&t.text==[45])||EV t
def K3 (t:Tk):Bool:=t.kind==9&&(t.text==[105,110,102,105,120,108]||t.text==[105,110,102,105,120,114]||t.text==[105,110,102,105,120])
def Ni (t:Tk):Bool:=t.kind==5||t.kind==6||t.kind==7||t.kind==8||(t.kind==10&&t.text==[58])
def PS (t:Tk):Bool:=Ni t||(t.kind==15&&t.text==[96])
def Ye (k:Int) (l:List Nd):Nd:=if l.length=1 then l.headD HX else Au k l
def Hb:Er:=⟨2,Do⟩
def Hc:Er:=⟨120,Do⟩
def dq (n:Nd):Bool:=(n.kind==1||n.kind==3)&&((F6 n).2==0&&(F6 n).1.length==1)
def C3 (m:Rd Nd) (U:Nd->Bool):Rd Nd:=.look λs0=>.seq m λn=>if U n=true then .ret n else .GH s0 Hc
def H2:Rd Nd:=.look λs=>if Ni (Ab s).1=true then .seq AO λt=>.ret (Au 18 [t])
 else .seq (BA 15 [96]) λo=>.seq (Dm [1,2,3,4]) λn=>.seq (BA 15 [96]) λc=>.ret (Au 18 [o,n,c])
def X3 (l:List Nd):Rd (Sum (List Nd) (List Nd)):=.look λs=>if Bn s 5 [45]=true then .seq AO λt=>.ret (.inl (l++[Au 19 [t]])) else .ret (.inr l)
def X4 (l:List Nd):Rd (List Nd):=.loop X3 l
def ix (U:Rd Nd) (br:Bool) (l:List Nd):Rd (Sum (List Nd) (List Nd×Bool)):=.seq (X4 l) λl=>.seq U λn=>.look λs=>
 if PS (Ab s).1=true then .seq H2 λo=>
  if br=true then .look λs=>if Bn s 15 [41]=true then .ret (.inr (l++[n]++[o],true)) else .ret (.inl (l++[n]++[o]))
  else .ret (.inl (l++[n]++[o]))
 else .ret (.inr (l++[n],false))
def NB (U:Rd Nd) (br:Bool):Rd (List Nd×Bool):=.loop (ix U br) []
def Vc (U:Rd Nd):Rd Nd:=.seq (NB U false) λp=>.ret (Ye 17 p.1)
def JX (full:Rd Nd) (n:Nd):Rd Nd:=.look λs=>if Bn s 10 [58,58]=true then .seq AO λc=>.seq full λt=>.ret (Au 22 [n,c,t]) else .ret n
def Xn (U full:Rd Nd):Rd Nd:=.seq (Vc U) λn=>JX full n
structure ER where
 atom:Rd Nd
 exp:Rd Nd
 ops:Rd Nd
 decls:Rd Nd
 stmts:Rd Nd
 alts:Rd Nd
 Fo:Nd->Rd Nd
 list:Nd->Rd Nd
def JH (L:ER) (lt block:Nd):Rd Nd:=.seq (BA 9 rZ) λi=>.seq L.exp λe=>.ret (Au 24 [lt,block,i,e])
def bT (L:ER):Rd Nd:=.seq AO λt=>.seq L.decls λb=>JH L t b
def Kc (atom:Rd Nd) (l:List Nd):Rd (Sum (List Nd) (List Nd)):=.seq (C3 atom KK) λn=>.ret (.inl (l++[n]))
def SS (atom:Rd Nd) (l:List Nd):Rd (Sum (List Nd) (List Nd)):=
 if ((l.length:Int)==1)=true then Kc atom l else .look λs=>if EV (Ab s).1=true then Kc atom l else .ret (.inr l)
def Ix (L:ER) (atom:Rd Nd):Rd Nd:=.seq AO λb=>.seq (.loop (SS atom) [b]) λl=>.seq (BA 10 [45,62]) λa=>.seq L.exp λe=>.ret (Au 23 (l++[a]++[e]))
def Z7 (w:List UInt8):Rd Unit:=.look λs=>if KO (Ab s).1=true then (if Bn (Ab s).2.1 9 w=true then Ji else .ret ()) else .ret ()
def KN (L:ER) (l:List Nd) (w:List UInt8):Rd (List Nd):=.seq (Z7 w) λ_=>.seq (BA 9 w) λa=>.seq L.exp λe=>.ret (l++[a]++[e])
def Ik (L:ER):Rd Nd:=.seq AO λi=>.seq L.exp λc=>.seq (KN L [i,c] rb) λl=>.seq (KN L l q7) λl=>.ret (Au 25 l)
def Rf (L:ER):Rd Nd:=.seq AO λc=>.seq L.exp λe=>.seq (BA 9 sl) λo=>.seq L.alts λa=>.ret (Au 26 ([c,e,o]++[a]))
def Iy (b:Nd):Bool:=match b.kids.getLast? with
 |none=>true
 |some x=>x.kind==32||x.kind==33
def Li (L:ER):Rd Nd:=.seq AO λd=>.seq L.stmts λb=>if Iy b=true then .fail Hc else .ret (Au 27 [d,b])
def W5 (atom:Rd Nd) (l:List Nd):Rd (Sum (List Nd) (List Nd)):=.look λs=>if EV (Ab s).1=true then .seq atom λn=>.ret (.inl (l++[n])) else .ret (.inr l)
def Js (atom:Rd Nd):Rd Nd:=.seq atom λn=>.seq (.loop (W5 atom) [n]) λl=>.ret (Ye 11 l)
def GV (L:ER) (atom:Rd Nd):Rd Nd:=.look λs=>
 if ((Ab s).1.kind==10)=true then (if ((Ab s).1.text==[92])=true then Ix L atom else Js atom)
 else if ((Ab s).1.kind==9)=true then
  (if ((Ab s).1.text==mU)=true then bT L
  else if ((Ab s).1.text==rI)=true then Ik L
  else if ((Ab s).1.text==jt)=true then Rf L
  else if ((Ab s).1.text==rH)=true then Li L
  else Js atom)
 else Js atom
def Sp (l:List Nd):Rd (Sum (List Nd) (List Nd)):=.look λs=>if Bn s 15 [44]=true then .seq AO λc=>.ret (.inl (l++[c])) else .ret (.inr l)
def Uy (o:Nd):Rd Nd:=.seq (.loop Sp [o]) λl=>.seq (BA 15 [41]) λc=>.ret (Au 3 (l++[c]))
def Ld (L:ER) (o:Nd):Rd Nd:=.look λs=>if PS (Ab s).1=true then
 (if Bn s 5 [45]=true then L.Fo o else .seq H2 λp=>.seq L.ops λe=>.seq (BA 15 [41]) λc=>.ret (Au 10 [o,p,e,c]))
 else L.Fo o
def M8 (L:ER) (o:Nd):Rd Nd:=.look λs=>if Ni (Ab s).1=true then
 (if Bn (Ab s).2.1 15 [41]=true then .seq AO λp=>.seq AO λc=>.ret (Au 3 [o,p,c]) else Ld L o)
 else Ld L o
def Le (L:ER):Rd Nd:=.seq AO λo=>.look λs=>if Bn s 15 [41]=true then Uy o else if Bn s 15 [44]=true then Uy o else M8 L o
def IU (L:ER):Rd Nd:=.seq AO λo=>.look λs=>if Bn s 15 [93]=true then .seq AO λc=>.ret (Au 3 [o,c]) else L.list o
def Nw (L:ER):Rd Nd:=.look λs=>if EV (Ab s).1=true then
 (if ((Ab s).1.kind==15)=true then (if ((Ab s).1.text==[40])=true then Le L else IU L)
 else if ((Ab s).1.kind==9)=true then .seq AO λw=>.ret (Au 14 [w])
 else if ((Ab s).1.kind==10)=true then .seq AO λw=>.seq L.atom λa=>.ret (Au 16 [w,a])
 else .seq AO λn=>if ((Ab s).1.kind==1)=true then .look λs=>if Bn s 10 [64]=true then .seq AO λw=>.seq L.atom λa=>.ret (Au 15 [n,w,a]) else .ret n
  else .ret n)
 else Sg
def MU (L:ER) (l:List Nd):Rd (Sum (List Nd) (List Nd)):=.seq (Dm [1,3]) λU=>.seq (BA 10 [61]) λq=>.seq L.exp λe=>.look λs=>
 if Bn s 15 [44]=true then .seq AO λc=>.ret (.inl (l++[Au 13 [U,q,e]]++[c])) else .ret (.inr (l++[Au 13 [U,q,e]]))
def Tr (L:ER) (l:List Nd):Rd (Sum (List Nd) (List Nd)):=.look λs=>if Bn s 15 [125]=true then (if 2<(l.length:Int) then MU L l else .ret (.inr l)) else MU L l
def Hi (L:ER) (n:Nd):Rd Nd:=.seq AO λb=>.seq (.loop (Tr L) [n,b]) λl=>.seq (BA 15 [125]) λc=>.ret (Au 12 (l++[c]))
def dY (L:ER) (n:Nd):Rd (Sum Nd Nd):=.look λs=>if Bn s 15 [123]=true then .seq (Hi L n) λn=>.ret (.inl n) else .ret (.inr n)
def KD (L:ER):Rd Nd:=.seq (Nw L) λn=>.loop (dY L) n
def YI (exp:Rd Nd) (p:Int×List Nd):Rd (Sum (Int×List Nd) (Int×List Nd)):=.look λs=>if Bn s 15 [44]=true then .seq AO λc=>.seq exp λe=>.ret (.inl (5,p.2++[c]++[e])) else .ret (.inr p)
def DP (U full exp:Rd Nd) (o:Nd):Rd Nd:=.seq (NB U true) λp=>if p.2=true then
 .seq AO λc=>.ret (Au 9 [o,Ye 17 (p.1.take (p.1.length - 1)),p.1.getLastD HX,c])
 else .seq (JX full (Ye 17 p.1)) λe=>.seq (.loop (YI exp) (4,[o,e])) λq=>.seq (BA 15 [41]) λc=>.ret (Au q.1 (q.2++[c]))
def M6 (stmt:Rd Nd) (l:List Nd):Rd (Sum (List Nd) (List Nd)):=.look λs=>if Bn s 15 [44]=true then .seq AO λc=>.seq stmt λt=>.ret (.inl (l++[c]++[t])) else .ret (.inr l)
def EI (stmt:Rd Nd) (l:List Nd):Rd (List Nd):=.seq (BA 10 [124]) λb=>.seq stmt λt=>.loop (M6 stmt) (l++[b]++[t])
def RB (exp:Rd Nd) (l:List Nd):Rd (Sum (List Nd) (Int×List Nd)):=.look λs=>if Bn s 15 [44]=true then .seq AO λc=>.seq exp λe=>.ret (.inl (l++[c]++[e])) else .ret (.inr (6,l))
def gv (exp:Rd Nd) (l:List Nd):Rd (Sum (List Nd) (Int×List Nd)):=if (l.length:Int)<5 then
 .look λs=>if Bn s 10 [46,46]=true then .seq AO λd=>.look λs=>if Bn s 15 [93]=true then .ret (.inr (7,l++[d])) else .seq exp λe=>.ret (.inr (7,l++[d]++[e]))
  else RB exp l
 else RB exp l
def NJ (exp stmt:Rd Nd) (o:Nd):Rd Nd:=.seq exp λe=>.look λs=>if Bn s 10 [124]=true then
 .seq (EI stmt [o,e]) λl=>.seq (BA 15 [93]) λc=>.ret (Au 8 (l++[c]))
 else .seq (.loop (gv exp) [o,e]) λq=>.seq (BA 15 [93]) λc=>.ret (Au q.1 (q.2++[c]))
def O8 (exp:Rd Nd) (n:Nd):Rd Nd:=.look λs=>if Bn s 10 [60,45]=true then (if KK n=true then .seq AO λa=>.seq exp λe=>.ret (Au 32 [n,a,e]) else .fail Hc) else .ret n
def Qv (L:ER) (exp:Rd Nd):Rd Nd:=.look λs=>if Bn s 9 mU=true then
 .seq AO λt=>.seq L.decls λb=>.look λs=>if Bn s 9 rZ=true then .seq (JH L t b) λn=>O8 exp n else .ret (Au 33 [t,b])
 else .seq exp λn=>O8 exp n
def K5 (exp stmt:Rd Nd) (m:List UInt8) (l:List Nd):Rd (Sum (List Nd) (List Nd)):=.seq (EI stmt []) λg=>.seq (BA 10 m) λq=>.seq exp λe=>.ret (.inl (l++[Au 30 (g++[q]++[e])]))
def SP (exp stmt:Rd Nd) (m:List UInt8) (l:List Nd):Rd (Sum (List Nd) (List Nd)):=if ((l.length:Int)==0)=true then K5 exp stmt m l
 else if ((l.headD HX).kind==30)=true then .look λs=>if Bn s 10 [124]=true then K5 exp stmt m l else .ret (.inr l)
 else .ret (.inr l)
def Yq (L:ER) (exp stmt:Rd Nd) (m:List UInt8) (l:List Nd):Rd Nd:=.seq (.loop (SP exp stmt m) l) λl=>.look λs=>if Bn s 9 YQ=true then
 .seq AO λw=>.seq L.decls λb=>.ret (Au 29 (l++[Au 31 [w,b]]))
 else .ret (Au 29 l)
def Vo (L:ER) (exp stmt:Rd Nd) (m:List UInt8):Rd Nd:=.look λs=>if Bn s 10 m=true then .seq AO λa=>.seq exp λe=>Yq L exp stmt m ([]++[a,e])
 else if Bn s 10 [124]=true then Yq L exp stmt m [] else Sg
def WU (L:ER) (ops exp stmt:Rd Nd):Rd Nd:=.seq ops λn=>if KK n=true then .seq (Vo L exp stmt [45,62]) λr=>.ret (Au 28 [n,r]) else .fail Hc
def Sx (n:Nd):Bool:=(JZ n.text).2==0&&decide ((JZ n.text).1<=9)
def Lb (n:Nd):Bool:=match n.kids[n.kids.length / 2]? with
 |some x=> !(x.form==7||x.form==8||x.form==3||x.form==4)
 |none=>false
def SK (l:List Nd):Rd (Sum (List Nd) (List Nd)):=.look λs=>if Bn s 15 [44]=true then .seq AO λc=>.seq (C3 H2 Lb) λo=>.ret (.inl (l++[c]++[o])) else .ret (.inr l)
def LR (l:List Nd):Rd Nd:=.seq (C3 H2 Lb) λo=>.seq (.loop SK (l++[o])) λl=>.ret (Au 35 l)
def LU:Rd Nd:=.seq AO λf=>.look λs=>if ((Ab s).1.kind==11)=true then .seq (C3 AO Sx) λd=>LR ([f]++[d]) else LR [f]
def pU (atom:Rd Nd) (l:List Nd):Rd (Sum (List Nd) (List Nd)):=.look λs=>if Bn s 15 [44]=true then .seq AO λc=>.seq (C3 atom dq) λo=>.ret (.inl (l++[c]++[o])) else .ret (.inr l)
def Vz (atom full:Rd Nd) (n:Nd):Rd Nd:=if dq n=true then .seq (.loop (pU atom) [n]) λl=>.seq (BA 10 [58,58]) λc=>.seq full λt=>.ret (Au 34 (l++[c]++[t])) else .fail Hc
def Pp (L:ER) (atom ops exp stmt full:Rd Nd):Rd Nd:=.look λs=>if K3 (Ab s).1=true then LU
 else .seq ops λn=>.look λs=>if Bn s 15 [44]=true then Vz atom full n else if Bn s 10 [58,58]=true then Vz atom full n
  else if ((gu n).2.2==0)=true then .seq (Vo L exp stmt [61]) λr=>.ret (Au 36 [n,r]) else .fail Hc
def EG (s:Ag):Ag×Bool:=if M0 s=true/\¬s.wait=1/\¬IZ s=0 then (EW s,true) else (Es,false)
theorem MN {s:Ag} (h:(EG s).2=true):mu (EG s).1<=mu s:=by
 unfold EG at h |-
 split
 .rename_i U
  have hne:s.Dg≠[]:=λe=>U.2.2 (by unfold IZ;rw [e];rfl)
  have:=Io hne
  simp only [mu,EW] at *
  omega
 .rename_i U;rw [if_neg U] at h;cases h
def Sm:Rd Unit:=⟨λs=>if (EG s).2=true then .inr ((),(EG s).1) else .inl (⟨Se s,Sf s⟩,s),λs v s' h=>by
 split at h
 .cases h;exact MN ‹_›
 .cases h⟩
def Tu (_:Unit):Rd (Sum Unit Unit):=.look λs=>if KO (Ab s).1=true then .seq Ji λ_=>.ret (.inl ()) else .ret (.inr ())
def Qk:Rd Unit:=.loop Tu ()
def Is (f:Bool) (U:Bool):Rd Bool:=.look λs=>if (if f then Bn s 15 [125] else (Ab s).1.kind==20)=true then .seq Ji λ_=>.ret true
 else if U=true then (if f=true then Sg else .seq Sm λ_=>.ret true) else .ret false
def MJ (starts:Tk->Bool) (item:Rd Nd) (f:Bool) (l:List Nd):Rd (Sum (List Nd) (List Nd)):=.seq Qk λ_=>.look λs=>.seq (Is f (!starts (Ab s).1)) λe=>
 if e=true then .ret (.inr l) else .seq item λn=>.look λs=>.seq (Is f (!KO (Ab s).1)) λe=>if e=true then .ret (.inr (l++[n])) else .ret (.inl (l++[n]))
def Dx (f:Bool) (l:List Nd):Nd:=.mk 2 (if f then 1 else 0) [] 0 0 l
def Da (starts:Tk->Bool) (item:Rd Nd):Rd Nd:=.look λs=>if ((Ab s).1.kind==18)=true then .seq Ji λ_=>.seq (.loop (MJ starts item false) []) λl=>.ret (Dx false l)
 else .seq (BA 15 [123]) λ_=>.seq (.loop (MJ starts item true) []) λl=>.ret (Dx true l)
def nw (L:ER):Rd Nd:=KD L
def Yf (L:ER):Rd Nd:=GV L (KD L)
def opsL (L:ER):Rd Nd:=Vc (Yf L)
def N5 (full:Rd Nd) (L:ER):Rd Nd:=Xn (Yf L) full
def KQ (full:Rd Nd) (L:ER):Rd Nd:=Qv L (N5 full L)
def jJ (full:Rd Nd) (L:ER):Rd Nd:=WU L (opsL L) (N5 full L) (KQ full L)
def FT (full:Rd Nd) (L:ER):Rd Nd:=Pp L (KD L) (opsL L) (N5 full L) (KQ full L) full
def F5 (t:Tk):Bool:=FJ t||K3 t
def rl (full:Rd Nd) (L:ER):ER where
 atom:=nw L
 exp:=N5 full L
 ops:=opsL L
 decls:=Da F5 (FT full L)
 stmts:=Da FJ (KQ full L)
 alts:=Da FJ (jJ full L)
 Fo:=λo=>DP (Yf L) full (N5 full L) o
 list:=λo=>NJ (N5 full L) (KQ full L) o
def rz:ER:=⟨.fail Hb,.fail Hb,.fail Hb,.fail Hb,.fail Hb,.fail Hb,λ_=>.fail Hb,λ_=>.fail Hb⟩
theorem PD (U:AZ A):AZ (FV A):=λs n s' h=>by
 unfold FV at h
 split at h
 .cases h
 .rename_i p h1
  have h2:=Ft U _ _ _ h1
  split at h
  .rename_i h3
   have h4:=DU h3 Do Do
   split at h
   .cases h
   .rename_i q h5
    have:=Hd U _ _ _ h5
    cases h
    omega
  .have:=Ra h
   omega
def CT (d:Nat):Rd Nd:=HB (FV (Dj (Dn (d - 1)))) λs v s' h=>Nat.le_of_lt (PD (BV (BF _)) _ _ _ h)
def IA:Nat->ER
 |0=>rz
 |d+1=>rl (CT (d+1)) (IA d)
def Xh (item:Rd Nd) (l:List Nd):Rd (Sum (List Nd) (List Nd)):=.seq item λn=>.look λs=>if Bn s 15 [44]=true then .seq AO λc=>.ret (.inl (l++[n]++[c])) else .ret (.inr (l++[n]))
def Xf (item:Rd Nd) (shut:List UInt8) (p:Bool×List Nd):Rd (Sum (Bool×List Nd) (List Nd)):=
 if p.1=true then .look λs=>if Bn s 15 shut=true then .ret (.inr p.2) else .seq item λn=>.look λs=>if Bn s 15 [44]=true then .seq AO λc=>.ret (.inl (false,p.2++[n]++[c])) else .ret (.inr (p.2++[n]))
 else .seq item λn=>.look λs=>if Bn s 15 [44]=true then .seq AO λc=>.ret (.inl (false,p.2++[n]++[c])) else .ret (.inr (p.2++[n]))
def FK (item:Rd Nd) (shut:List UInt8) (l:List Nd):Rd (List Nd):=.seq (.loop (Xf item shut) (true,l)) λl=>.seq (BA 15 shut) λc=>.ret (l++[c])
def Fg (ks:List Int):Rd Nd:=.seq (BA 15 [40]) λo=>.seq (Dm ks) λn=>.seq (BA 15 [41]) λc=>.ret (Au 3 [o,n,c])
def qv (n:Nd):Int:=match n.kids[1]? with
 |some x=>x.form
 |none=>0
def Lg:Rd Nd:=.look λs=>if Bn s 15 [40]=true then .look λs0=>.seq (Fg [5,6]) λn=>if (qv n==5)=true then .ret n else .GH s0 Hc else Dm [1]
def L7:Rd Nd:=.look λs=>if Bn s 15 [40]=true then Fg [5,6] else Dm [1,2]
def Tz (own:Bool):List Int:=if own then [1] else [1,3]
def MX (own:Bool):List Int:=if own then [2] else [2,4]
def mA (own:Bool):List Int:=if own then [5,6] else [5,6,7,8]
abbrev mV:List UInt8:=[109,111,100,117,108,101]
abbrev YP:List UInt8:=[113,117,97,108,105,102,105,101,100]
abbrev sk:List UInt8:=[97,115]
abbrev mT:List UInt8:=[104,105,100,105,110,103]
abbrev TL:List UInt8:=[105,109,112,111,114,116]
abbrev mS:List UInt8:=[101,120,112,111,114,116]
abbrev q8:List UInt8:=[115,97,102,101]
abbrev mW:List UInt8:=[117,110,115,97,102,101]
abbrev n7:List UInt8:=[116,121,112,101]
abbrev nZ:List UInt8:=[100,97,116,97]
abbrev V0:List UInt8:=[110,101,119,116,121,112,101]
abbrev ju:List UInt8:=[99,108,97,115,115]
abbrev R4:List UInt8:=[105,110,115,116,97,110,99,101]
abbrev VY:List UInt8:=[100,101,102,97,117,108,116]
abbrev VZ:List UInt8:=[102,111,114,101,105,103,110]
abbrev dr:List UInt8:=[100,101,114,105,118,105,110,103]
def U0 (l:List Nd):Rd Nd:=.look λs=>if Bn s 15 [40]=true then .seq AO λo=>.look λs=>if Bn s 10 [46,46]=true then .seq AO λd=>.seq (BA 15 [41]) λc=>.ret (Au 52 (l++[o]++[d,c]))
 else .seq (FK L7 [41] (l++[o])) λl=>.ret (Au 52 l)
 else .ret (Au 52 l)
def ZJ (own:Bool):Rd Nd:=.look λs=>if Bn s 15 [40]=true then .seq (Fg (mA own)) λn=>.ret (Au 52 [n])
 else if ((Ab s).1.kind==2)=true then .seq (Dm (MX own)) λn=>U0 [n]
 else if ((Ab s).1.kind==4)=true then .seq (Dm (MX own)) λn=>U0 [n]
 else .seq (Dm (Tz own)) λn=>.ret (Au 52 [n])
def U1 (own:Bool):Rd Nd:=if own=true then ZJ own else .look λs=>if Bn s 9 mV=true then .seq AO λm=>.seq (Dm (MX own)) λn=>.ret (Au 52 [m,n]) else ZJ own
def X6 (own:Bool) (l:List Nd):Rd (Sum (List Nd) (List Nd)):=.look λs=>if Bn s 15 [41]=true then .ret (.inr l) else Xh (U1 own) l
def P7 (own:Bool):Rd Nd:=.seq (BA 15 [40]) λo=>.seq (.loop (X6 own) [o]) λl=>.seq (BA 15 [41]) λc=>.ret (Au 51 (l++[c]))
def Ox (l:List Nd):Rd Nd:=.seq (P7 true) λn=>.ret (Au 50 (l++[n]))
def Ow (l:List Nd):Rd Nd:=.look λs=>if Bn s 1 mT=true then .seq AO λh=>Ox (l++[h])
 else if Bn s 15 [40]=true then Ox l else .ret (Au 50 l)
def Ov (l:List Nd):Rd Nd:=.seq (Dm [2,4]) λn=>.look λs=>if Bn s 1 sk=true then .seq AO λa=>.seq (Dm [2,4]) λm=>Ow (l++[n]++[a]++[m]) else Ow (l++[n])
def HU:Rd Nd:=.seq AO λi=>.look λs=>if Bn s 1 YP=true then .seq AO λq=>Ov ([i]++[q]) else Ov [i]
def LZ (full:Rd Nd) (l:List Nd):Rd Nd:=.seq Lg λn=>.seq (BA 10 [58,58]) λc=>.seq full λt=>.ret (Au 47 (l++[n]++[c]++[t]))
def JE (full:Rd Nd) (l:List Nd):Rd Nd:=.look λs=>if ((Ab s).1.kind==14)=true then .seq AO λt=>LZ full (l++[t]) else LZ full l
def PM (full:Rd Nd) (l:List Nd):Rd Nd:=.look λs=>if (if Bn s 1 q8=true then true else Bn s 1 mW)=true then
 (if Bn (Ab s).2.1 10 [58,58]=true then JE full l else .seq AO λt=>JE full (l++[t]))
 else JE full l
def LY (full:Rd Nd) (l:List Nd):Rd Nd:=.seq AO λw=>.seq (Dm [1]) λn=>PM full (l++[w]++[n])
def HN (full:Rd Nd):Rd Nd:=.seq AO λf=>.look λs=>if Bn s 9 TL=true then LY full [f] else if Bn s 1 mS=true then LY full [f] else Sg
def Gr (whole:Rd Nd):Rd Nd:=.seq AO λd=>.seq (BA 15 [40]) λo=>.seq (FK whole [41] [d,o]) λl=>.ret (Au 46 l)
def Ea (n:Nd):Bool:=if n.kind==39 then n.kids.head?.all (DD · [2])&&n.kids.tail.all (DD · [1]) else DD n [2]
def Je (row:Rd Nd) (l:List Nd):Rd (List Nd×Nd):=.seq row λr=>.look λs=>if Bn s 10 [61,62]=true then .seq AO λa=>.seq row λq=>.ret (l++[r]++[a],q) else .ret (l,r)
def F9 (b:Bool):Rd Unit:=if b=true then .ret () else .fail Hc
def Ib (row whole:Rd Nd):Rd Nd:=.seq AO λt=>.seq row λr=>.seq (F9 (Ea r)) λ_=>.seq (BA 10 [61]) λe=>.seq whole λw=>.ret (Au 41 ([t,r]++[e]++[w]))
def IV (atom:Rd Nd):Rd Nd:=.seq AO λb=>.seq atom λa=>.ret (Au 40 [b,a])
def HD (atom:Rd Nd):Rd Nd:=.look λs=>if Bn s 5 [33]=true then IV atom
 else if Bn s 15 [40]=true then (if ((Ab (Ab s).2.1).1.kind==6)=true then Fg [6] else atom)
 else atom
def TJ (t:Tk):Bool:=if t.kind==5 then t.text==[33] else if t.kind==15 then t.text==[40]||t.text==[91] else t.kind==2||t.kind==4||t.kind==1
def Tm (atom:Rd Nd) (l:List Nd):Rd (Sum (List Nd) (List Nd)):=.look λs=>if TJ (Ab s).1=true then .seq (HD atom) λn=>.ret (.inl (l++[n])) else .ret (.inr l)
def JO (atom:Rd Nd):Rd (List Nd):=.seq (HD atom) λn=>.loop (Tm atom) [n]
def Ff (n:Nd):Bool:=n.kind==40
def RT (l:List Nd):Rd Nd:=if l.length=1 then .ret (l.headD HX) else .seq (F9 (!l.any Ff)) λ_=>.ret (Au 39 l)
def GS (n:Nd):Bool:=DD n [2]||(n.kind==3&&n.kids.length==3&&n.kids[1]?.any (DD · [6]))
def Xy (l:List Nd):Rd (Sum (List Nd) (List Nd)):=.look λs=>if Bn s 15 [44]=true then .seq AO λc=>.seq Lg λn=>.ret (.inl (l++[c]++[n])) else .ret (.inr l)
def IX (atom whole:Rd Nd):Rd Nd:=.seq Lg λn=>.seq (.loop Xy [n]) λl=>.seq (BA 10 [58,58]) λc=>.look λs=>
 if Bn s 5 [33]=true then .seq (IV atom) λt=>.ret (Au 13 (l++[c]++[t])) else .seq whole λt=>.ret (Au 13 (l++[c]++[t]))
def QD:Rd Nd:=.look λs=>if ((Ab s).1.kind==6)=true then .seq AO λt=>.ret (Au 18 [t])
 else .look λs0=>.seq AO λo=>.seq (Dm [1,2,3,4]) λn=>.seq (BA 15 [96]) λc=>if (n.form==2)=true then .ret (Au 18 [o,n,c]) else .GH s0 Hc
def G9 (atom:Rd Nd) (l:List Nd):Rd Nd:=.seq (RT l) λa=>.seq QD λo=>.seq (JO atom) λr=>.seq (RT r) λb=>.ret (Au 48 [a,o,b])
def Ip (atom:Rd Nd) (l:List Nd):Rd Nd:=.look λs=>if ((Ab s).1.kind==6)=true then G9 atom l else if Bn s 15 [96]=true then G9 atom l
 else .seq (F9 (GS (l.headD HX))) λ_=>.ret (Au 48 l)
def Gc (atom whole:Rd Nd):Rd Nd:=.seq (JO atom) λl=>if (l.length==1&&GS (l.headD HX))=true then
 .look λs=>if Bn s 15 [123]=true then .seq AO λo=>.seq (FK (IX atom whole) [125] (l++[o])) λl=>.ret (Au 48 l) else Ip atom l
 else Ip atom l
def Gs:Rd Nd:=.seq AO λd=>.look λs=>if Bn s 15 [40]=true then .seq AO λo=>.seq (FK (Dm [2,4]) [41] ([d]++[o])) λl=>.ret (Au 49 l) else .seq (Dm [2,4]) λc=>.ret (Au 49 ([d]++[c]))
def HL (k:Int) (l:List Nd):Rd Nd:=.look λs=>if Bn s 9 dr=true then .seq Gs λd=>.ret (Au k (l++[d])) else .ret (Au k l)
def eK (atom whole:Rd Nd) (p:List UInt8×List Nd):Rd (Sum (List UInt8×List Nd) (List Nd)):=.look λs=>if Bn s 10 p.1=true then .seq AO λe=>.seq (Gc atom whole) λc=>.ret (.inl ([124],p.2++[e]++[c])) else .ret (.inr p.2)
def Rh (atom row whole:Rd Nd):Rd Nd:=.seq AO λd=>.seq (Je row [d]) λp=>.seq (F9 (Ea p.2)) λ_=>.seq (.loop (eK atom whole) ([61],p.1++[p.2])) λl=>HL 42 l
def S8 (n:Nd):Bool:=if GS (n.kids.headD HX) then
 (if n.kids.length=2 then !Ff (n.kids[1]?.getD HX)
 else if n.kids.length=4/\(n.kids[2]?.getD HX).kind=13 then decide ((n.kids[2]?.getD HX).kids.length=3)&& !Ff ((n.kids[2]?.getD HX).kids[2]?.getD HX) else false)
 else false
def H0 (atom row whole:Rd Nd):Rd Nd:=.seq AO λd=>.seq (Je row [d]) λp=>.seq (F9 (Ea p.2)) λ_=>.seq (BA 10 [61]) λe=>.seq (Gc atom whole) λc=>.seq (F9 (S8 c)) λ_=>HL 43 (p.1++[p.2]++[e]++[c])
def Re (decls:Rd Nd) (k:Int) (l:List Nd) (U:Nd->Bool):Rd Nd:=.look λs=>if Bn s 9 YQ=true then .seq AO λw=>.seq decls λb=>.seq (F9 (b.kids.all U)) λ_=>.ret (Au k (l++[Au 31 [w,b]])) else .ret (Au k l)
def Hq (n:Nd):Bool:=n.kind==39&&n.kids.length==2&&DD (n.kids[0]?.getD HX) [2]&&DD (n.kids[1]?.getD HX) [1]
def L0 (n:Nd):Bool:=n.kind==39&&n.kids.length==2&&DD (n.kids[0]?.getD HX) [2,4]
def MM (row decls:Rd Nd):Rd Nd:=.seq AO λc=>.seq (Je row [c]) λp=>.seq (F9 (Hq p.2)) λ_=>Re decls 44 (p.1++[p.2]) λ_=>true
def Gu (row decls:Rd Nd):Rd Nd:=.seq AO λc=>.seq (Je row [c]) λp=>.seq (F9 (L0 p.2)) λ_=>Re decls 45 (p.1++[p.2]) λn=>n.kind==36
def My (atom row whole full decl decls:Rd Nd):Rd Nd:=.look λs=>if ((Ab s).1.kind==9)=true then
 (if ((Ab s).1.text==TL)=true then HU
 else if ((Ab s).1.text==n7)=true then Ib row whole
 else if ((Ab s).1.text==nZ)=true then Rh atom row whole
 else if ((Ab s).1.text==V0)=true then H0 atom row whole
 else if ((Ab s).1.text==ju)=true then MM row decls
 else if ((Ab s).1.text==R4)=true then Gu row decls
 else if ((Ab s).1.text==VY)=true then Gr whole
 else if ((Ab s).1.text==VZ)=true then HN full
 else decl)
 else decl
def QE (t:Tk):Bool:=(t.kind==9&&(t.text==TL||t.text==n7||t.text==nZ||t.text==V0||t.text==ju||t.text==R4||t.text==VY||t.text==VZ))||(FJ t||K3 t)
def HC (d:Nat):Rd Nd:=HB (Dj (Dn (d - 1))) λs v s' h=>Nat.le_of_lt (BV (BF _) _ _ _ h)
def Mz (d:Nat):Rd Nd:=HB (FZ (Dj (Dn (d - 1)))) λs v s' h=>Nat.le_of_lt (Ft (BV (BF _)) _ _ _ h)
def Gn (d:Nat):Rd Nd:=HB (D1 (Dj (Dn (d - 1)))) λs v s' h=>Nat.le_of_lt (Hd (BV (BF _)) _ _ _ h)
end Go.Proofs.Z
namespace Go.Proofs.Z
open Go Go.Aw
def kR (n:Nd) (s:Ag) (e:Int):V:=.agg [.int .i64 n.kind,.int .i64 n.form,.str n.text,.int .i64 n.line,.int .i64 n.Ce,.slice 6 (Cv n.kids) .any,
 .slice 4 (AD s.AA) .any,.int .i64 s.pos,.slice 1 (ints s.Dg) .any,.int .i64 s.wait,.int .i64 e]
section
variable {st:St} {R:Ay->St->Prop}
attribute [local irreducible] Go.Aw.Ah
def fh:Rs->V
 | .inr (n,s)=>kR n s 0
 | .inl (e,s)=>kR HX s e
end
section
variable {st:St} {R:Ay->St->Prop}
attribute [local irreducible] Go.Aw.Ah
theorem YL {deep:Int} (U:¬deep<1->C9 297 (if 100<deep then 100 else deep) A):C8 220 deep A:=by
 intro s hm st R h
 refine pB Tryz.func220 ?_
 repeat' ((conv=>whnf);first|(refine Bp ?_;intros)|(refine Bq ?_ ?_<;>intro _)|refine On (s:=s) (q:=A s) (λhd=>U hd s hm) ?_)
 all_goals exact BH rfl h
theorem jS {deep:Int} (U:¬deep<1->C9 362 (if 100<deep then 100 else deep) A):C8 406 deep A:=by
 intro s hm st R h
 refine pB Tryz.func406 ?_
 repeat' ((conv=>whnf);first|(refine Bp ?_;intros)|(refine Bq ?_ ?_<;>intro _)|refine On (s:=s) (q:=A s) (λhd=>U hd s hm) ?_)
 all_goals exact BH rfl h
theorem pN {deep:Int} (U:¬deep<1->C9 296 (if 100<deep then 100 else deep) A):C8 219 deep A:=by
 intro s hm st R h
 refine pB Tryz.func219 ?_
 repeat' ((conv=>whnf);first|(refine Bp ?_;intros)|(refine Bq ?_ ?_<;>intro _)|refine On (s:=s) (q:=A s) (λhd=>U hd s hm) ?_)
 all_goals exact BH rfl h
theorem ld {deep:Int} (U:¬deep<1->C9 305 (if 100<deep then 100 else deep) A):C8 231 deep A:=by
 intro s hm st R h
 refine pB Tryz.func231 ?_
 repeat' ((conv=>whnf);first|(refine Bp ?_;intros)|(refine Bq ?_ ?_<;>intro _)|refine On (s:=s) (q:=A s) (λhd=>U hd s hm) ?_)
 all_goals exact BH rfl h
end
def Ll (Y:Ag->Rs) (n:Nd) (s:Ag):Ls:=match Y s with
 | .inl e=>.inl e
 | .inr q=>Cn Y [n,q.1] q.2
def dG (st:St) (b:Nat) (R:Ay->St->Prop):Ls->Prop
 | .inr (l,s')=>∀st' U,G5 st st' b s'->U.Bx st'->R (.ret (.slice 6 (l.map AM) U)) (U.st st' (l.length*6))
 | .inl (e,s')=>∀st',G5 st st' b s'->R (.BX (fault e)) st'
theorem R2 {s:Ag} (h:Bn s 15 [44]=true) (U:Y (Ab s).2.1=.inr (n,s')) (hm:mu s'<mu s):Cn Y l s=Cn Y (l++[Bv (Ab s).1,n]) s':=by
 rw [Cn,if_pos h,U]
 dsimp only
 rw [if_pos hm]
section
variable {st:St} {R:Ay->St->Prop}
attribute [local irreducible] Go.Aw.Ah
theorem mR (hY:C8 220 d Y) (h0:d=0->∀s,Y s=.inl (2,s)) (hB:El Y) (hF:AZ Y) {n1:Nd} {s:Ag} {x:Int} (hx:x=(d:Int)) (hm:mu s<=100000000) (hs:Has st b s) (h:dG st b R (Ll Y n1 s)):
 PC 423 [.ptr b 0,.slice 6 [AM n1] .full,.int .i64 x] st R:=by
 refine pB Tryz.func423 ?_
 unfold Ll at h
 have hn1:[n1].length+1<=1000000000:=by show 1+1<=1000000000;decide
 repeat' ((conv=>whnf);first|(refine Bp ?_;intros)|(refine Bq ?_ ?_<;>intro _)|refine Kt (λ_=>?_) ?_|refine PT hx hY h0 hB hm hs (DG (λn2 s2 hq2 st2 h2=>?_) (λe2 s2 hq2 st2 h2=>?_))|refine Nu (l:=[n1]) (x:=n2) (own:=.full) trivial hn1 (λown1 ho1=>?_))
 .rw [hq2] at h
  have hd2:=hF _ _ _ hq2
  dsimp only at h
  refine JI (α:=List Nd×Ag×St×AB) (λx=>[(1,.slice 6 (x.1.map AM) x.2.2.2)]) [0,2,6] (λx=>[]) [] (λx=>x.2.2.2.st x.2.2.1 (x.1.length*6))
   (λx=>x.2.2.2.Bx x.2.2.1/\G5 st x.2.2.1 b x.2.1/\x.1.length+2*mu x.2.1<=400000000/\mu x.2.1<=mu s/\Cn Y x.1 x.2.1=Cn Y [n1,n2] s2) (λx=>mu x.2.1) ([n1]++[n2],s2,st2,own1)
   ⟨ho1,h2,by show 2+2*mu s2<=_;omega,by show mu s2<=_;omega,rfl⟩ Yl (St.le_refl _) ?_
  rintro ⟨l,U,st3,own⟩ ⟨j1,j2,j5,j6,j7⟩
  dsimp only at j1 j2 j5 j6 j7
  have hm3:mu U<=100000000:=AC
  have hb3:=EH hm3
  have hl3:Has (st3.Aa b (CD U)) b U:=.inl (St.Ai ..)
  have g3:own.Bx (st3.Aa b (CD U)):=HR j1 j2.1
  have hn:l.length+2<=1000000000:=AC
  have hm4:Bn U 15 [44]=true->mu (Ab U).2.1<=100000000:=λe=>by have:=DU e Do Do;omega
  repeat' ((conv=>whnf);first|(refine Bp ?_;intros)|(refine Bq ?_ ?_<;>intro _)|refine Kt (λ_=>?_) ?_|refine oZ j2.1 hb3 ?_|refine Fi (hl3.hw own _) hb3 (Qz g3 hl3 (IW ‹_› Do) (λst4 h4 g4=>?_))|refine PT hx hY h0 hB (hm4 ‹_›) (h4.1.hw own _) (EP g4 h4.1 (FE (λn5 s5 hq5 st5 h5 g5=>?_) (λe5 s5 hq5 st5 h5 g5=>?_)))|refine dS (l:=l) (x:=Bv (Ab U).1) (y:=n5) g5 hn (λown' ho'=>?_))
  all_goals conv=>whnf
  .have hp:Bn U 15 [44]=true:=FS
   have hd:=hF _ _ _ hq5
   have hd3:=DU hp Do Do
   have hd4:mu s5<mu U:=AC
   have hu:=(AX (st:=st3) (b:=b) (s:=U)).trans (h4.trans h5)
   refine ⟨(l++[Bv (Ab U).1,n5],s5,st5,own'),⟨ho',j2.trans hu,?_,by show mu s5<=_;omega,?_⟩,hd4,Yl,St.le_refl _⟩
   .show (l++[Bv (Ab U).1,n5]).length+2*mu s5<=_
    rw [List.length_append]
    show l.length+2+2*mu s5<=_
    omega
   .show Cn Y (l++[Bv (Ab U).1,n5]) s5=_
    rw [<-j7,R2 (l:=l) hp hq5 hd4]
  .have hp:Bn U 15 [44]=true:=FS
   have hu:=(AX (st:=st3) (b:=b) (s:=U)).trans (h4.trans h5)
   have hr:Cn Y l U=.inl (e5,s5):=by rw [Cn,if_pos hp,hq5]
   rw [<-j7,hr] at h
   exact DS (AB.Bz g5) rfl (h st5 (j2.trans hu))
  .have hr:Cn Y l U=.inr (l,U):=by rw [Cn,if_neg (Bool.eq_false_iff.1 ‹_›)]
   rw [<-j7,hr] at h
   exact fin (h _ own (j2.trans AX) g3) rfl
 .rw [hq2] at h
  exact fin (h st2 h2) rfl
end
section
variable {st:St} {R:Ay->St->Prop}
attribute [local irreducible] Go.Aw.Ah
theorem o0 {s:Ag} (e:Bn s k x=true) (U:Has st b s) (hb:s.Dg.length<=500000000) (h:R (.ret (.bool true)) (st.Aa b (CD s))):PC 156 [.ptr b 0,.int .i64 k,.str x] st R:=XJ U hb ke
theorem bO {s:Ag} (e:Bn s k x=false) (U:Has st b s) (hb:s.Dg.length<=500000000) (h:R (.ret (.bool false)) (st.Aa b (CD s))):PC 156 [.ptr b 0,.int .i64 k,.str x] st R:=XJ U hb ke
theorem Ez {st:St} {s:Ag}:Has (st.Aa b (CD s)) b s:=.inl (St.Ai ..)
theorem aY {s:Ag} (h:Bn s 15 [44]=true):DQ l s=DQ (l++[Bv (Ab s).1]) (Ab s).2.1:=by
 rw [DQ,if_pos h,if_pos (DU h Do Do)]
theorem Xg {s:Ag} (h:Bn s 15 [44]=false):DQ l s=(l,s):=by
 rw [DQ,if_neg ke]
theorem YN (l:List Nd) (s:Ag):∀q s',Cn Y l s=.inr (q,s')->q.length+2*mu s'<=l.length+2*mu s:=by
 fun_induction Cn Y l s with
 |case1 l s U e1 h2=>simp_all
 |case2 l s U p h2 h3 ih=>
  grind
 |case3 l s U p h2 h3=>simp_all
 |case4 l s U=>simp_all
theorem dp (hF:AZ Y) {s:Ag} (h:Ll Y n s=.inr (l,s')):mu s'<=mu s/\l.length<=2+2*mu s:=by
 unfold Ll at h
 split at h
 .cases h
 .rename_i U
  have h2:=hF _ _ _ U
  have h3:=R3 _ _ _ _ h
  have h4:=YN _ _ _ _ h
  grind
theorem c8 {st:St} {K:Ay->St->Prop} {q:Ls} (h:∀l s',q=.inr (l,s')->∀st' U,G5 st st' b s'->U.Bx st'->K (.ret (.slice 6 (l.map AM) U)) (U.st st' (l.length*6)))
 (k:∀e s',q=.inl (e,s')->∀st',G5 st st' b s'->K (.BX (fault e)) st'):dG st b K q:=by
 match q with
 | .inr (l,s')=>exact h l s' rfl
 | .inl (e,s')=>exact k e s' rfl
theorem me {x:Int} (hx:x=((d+1:Nat):Int)) (hd:d<=1000000) (hY:C8 220 d Y) (h0:d=0->∀s,Y s=.inl (2,s)) (hB:El Y) (hF:AZ Y):C9 404 x (FA Y):=by
 intro s hm b st R hs h
 refine pB Tryz.func404 ?_
 have hb:=EH hm
 unfold FA at h
 cases hq1:DF s with
 |inl q=>
  rw [hq1] at h
  obtain ⟨e,s'⟩:=q
  repeat' ((conv=>whnf);first|(refine Bp ?_;intros)|(refine Bq ?_ ?_<;>intro _)|refine Fi hs hb (TH hq1 (λst1 h1=>?_)))
  all_goals exact fin (h st1 h1) rfl
 |inr q=>
  obtain ⟨n1,s1⟩:=q
  rw [hq1] at h
  have hm1:mu s1<=100000000:=by have:=(OS hq1).1;omega
  have hb1:=EH hm1
  have hn1:[n1].length+1<=1000000000:=by show 1+1<=1000000000;decide
  dsimp only at h
  cases hA:Bn s1 10 [45,62] with
  |true=>
   rw [if_pos hA] at h
   have hb2:(Ab s1).2.1.Dg.length<=500000000:=EH (by have:=DU hA Do Do;omega)
   have hn2:∀n2:Nd,([n1]++[n2]).length+1<=1000000000:=λ_=>by simp_all
   repeat' ((conv=>whnf);first|(refine Bp ?_;intros)|(refine Bq ?_ ?_<;>intro _)|refine Fi hs hb (Gm hq1 (λst1 h1=>?_))|refine o0 hA h1.1 hb1 ?_|refine Fi Ez hb1 (Gm (IW hA Do) (λst2 h2=>?_))|refine Nu (l:=[n1]) (x:=Bv (Ab s1).1) (own:=.full) trivial hn1 (λown1 ho1=>?_)|refine QH (h2.1.hw own1 _) hb2 (EP ho1 h2.1 (FE (λn3 s3 hq3 U h3 hg3=>?_) (λe3 s3 hq3 U h3 hg3=>?_)))|refine Nu (l:=[n1]++[Bv (Ab s1).1]) (x:=n3) hg3 (hn2 _) (λown2 ho2=>?_))
   all_goals unfold Jm at h
   all_goals rw [hq3] at h
   .exact DS (AB.Bz ho2) B6 (h U ((h1.trans AX).trans (h2.trans h3)))
   .exact DS (AB.Bz hg3) rfl (h U ((h1.trans AX).trans (h2.trans h3)))
  |false=>
  rw [if_neg ke] at h
  cases hC:Bn s1 15 [41] with
  |true=>
   rw [if_pos hC] at h
   repeat' ((conv=>whnf);first|(refine Bp ?_;intros)|(refine Bq ?_ ?_<;>intro _)|refine Fi hs hb (Gm hq1 (λst1 h1=>?_))|refine bO hA h1.1 hb1 ?_|refine o0 hC Ez hb1 ?_|refine QH Ez hb1 (DG (λn3 s3 hq3 U h3=>?_) (λe3 s3 hq3 U h3=>?_))|refine Nu (l:=[n1]) (x:=n3) (own:=.full) trivial hn1 (λown2 ho2=>?_))
   all_goals unfold Jm at h
   all_goals rw [hq3] at h
   .exact DS (AB.Bz ho2) B6 (h U (((h1.trans AX).trans AX).trans h3))
   .exact fin (h U (((h1.trans AX).trans AX).trans h3)) rfl
  |false=>
  rw [if_neg ke] at h
  cases hE:Bn s1 15 [44] with
  |true=>
   rw [if_pos hE] at h
   repeat' ((conv=>whnf);first|(refine Bp ?_;intros)|(refine Bq ?_ ?_<;>intro _)|refine Fi hs hb (Gm hq1 (λst1 h1=>?_))|refine bO hA h1.1 hb1 ?_|refine bO hC Ez hb1 ?_|refine o0 hE Ez hb1 ?_)
   refine JI (α:=List Nd×Ag×St×AB) (λx=>[(5,.slice 6 (x.1.map AM) x.2.2.2)]) [0,1,4,6] (λx=>[]) [0] (λx=>x.2.2.2.st x.2.2.1 (x.1.length*6))
    (λx=>x.2.2.2.Bx x.2.2.1/\G5 st x.2.2.1 b x.2.1/\x.1.length+mu x.2.1<=200000000/\mu x.2.1<=mu s1/\DQ x.1 x.2.1=DQ [n1] s1) (λx=>mu x.2.1) ([n1],s1,_,.full)
    ⟨trivial,((h1.trans AX).trans AX).trans AX,by grind,Nat.le_refl _,rfl⟩ Yl (St.le_refl _) ?_
   rintro ⟨l,s3,U,own⟩ ⟨j1,j2,j5,j6,j7⟩
   dsimp only at j1 j2 j5 j6 j7
   have hm3:mu s3<=100000000:=AC
   have hb3:=EH hm3
   have hl3:Has (U.Aa b (CD s3)) b s3:=.inl (St.Ai ..)
   have g3:own.Bx (U.Aa b (CD s3)):=HR j1 j2.1
   have hn:l.length+1<=1000000000:=AC
   repeat' ((conv=>whnf);first|(refine Bp ?_;intros)|(refine Bq ?_ ?_<;>intro _)|refine oZ j2.1 hb3 ?_|refine Fi (hl3.hw own _) hb3 (Qz g3 hl3 (IW ‹_› Do) (λst4 h4 g4=>?_))|refine Nu (l:=l) (x:=Bv (Ab s3).1) g4 hn (λown' ho'=>?_)|refine QH (hl3.hw own _) hb3 (EP g3 hl3 (FE (λn5 s5 hq5 st5 h5 g5=>?_) (λe5 s5 hq5 st5 h5 g5=>?_)))|refine Nu (l:=l) (x:=n5) g5 hn (λown' ho'=>?_))
   all_goals conv=>whnf
   .have hp:Bn s3 15 [44]=true:=FS
    have hd3:=DU hp Do Do
    refine ⟨(l++[Bv (Ab s3).1],(Ab s3).2.1,st4,own'),⟨ho',j2.trans (AX.trans h4),?_,by grind,?_⟩,hd3,Yl,St.le_refl _⟩
    .grind
    .show DQ (l++[Bv (Ab s3).1]) (Ab s3).2.1=_
     rw [<-j7,aY (l:=l) hp]
   all_goals rw [<-j7,Xg ‹_›] at h
   all_goals unfold Jm at h
   all_goals dsimp only at h
   all_goals rw [hq5] at h
   .exact DS (AB.Bz ho') B6 (h st5 (j2.trans (AX.trans h5)))
   .exact DS (AB.Bz g5) rfl (h st5 (j2.trans (AX.trans h5)))
  |false=>
   rw [if_neg ke] at h
   replace h:Et st b R (match Ll Y n1 s1 with
    | .inl e=>(.inl e:Rs)
    | .inr r=>Jm (if 2<r.1.length then 5 else 4) r.1 r.2 [41]):=by
    unfold Ll
    cases hy:Y s1 with
    |inl e=>simp_all
    |inr q=>grind
   have hbl:∀{l s2},Ll Y n1 s1=.inr (l,s2)->s2.Dg.length<=500000000/\l.length+1<=1000000000:=λe=>by
    have:=dp hF e
    exact ⟨EH AC,AC⟩
   repeat' ((conv=>whnf);first|(refine Bp ?_;intros)|(refine Bq ?_ ?_<;>intro _)|refine Fi hs hb (Gm hq1 (λst1 h1=>?_))|refine bO hA h1.1 hb1 ?_|refine bO hC Ez hb1 ?_|refine bO hE Ez hb1 ?_|refine mR hY h0 hB hF (n1:=n1) AC hm1 Ez (c8 (λl s2 hq2 st2 own1 h2 g2=>?_) (λe2 s2 hq2 st2 h2=>?_))|refine BR (λ_=>?_)|refine QH (h2.1.hw own1 _) (hbl hq2).1 (EP g2 h2.1 (FE (λn3 s3 hq3 U h3 hg3=>?_) (λe3 s3 hq3 U h3 hg3=>?_)))|refine Nu (l:=l) (x:=n3) hg3 (hbl hq2).2 (λown2 ho2=>?_))
   all_goals rw [hq2] at h
   all_goals dsimp only at h
   all_goals try unfold Jm at h
   all_goals try rw [hq3] at h
   all_goals have hu:=(((h1.trans AX).trans AX).trans AX).trans h2
   .rw [if_pos AC] at h
    exact DS (AB.Bz ho2) B6 (h U (hu.trans h3))
   .exact DS (AB.Bz hg3) rfl (h U (hu.trans h3))
   .rw [if_neg AC] at h
    exact DS (AB.Bz ho2) B6 (h U (hu.trans h3))
   .exact DS (AB.Bz hg3) rfl (h U (hu.trans h3))
   .exact fin (h st2 hu) rfl
end
theorem R1 (h:d=0) (s:Ag):Dn d s=.inl (2,s):=by subst h;rfl
theorem TX (U:d+1<=1000000) (h:C8 220 (d:Int) (Dn d)):C9 362 ((d+1:Nat):Int) (Dj (Dn d)):=
 oA (me rfl AC h (λe s=>R1 e s) (B9 d) (BF d)) (iR AC h (λe s=>R1 e s) (B9 d) (BF d))
theorem Mq (U:d+1<=1000000) (h:C8 220 (d:Int) (Dn d)):C9 296 ((d+1:Nat):Int) (FZ (Dj (Dn d))):=
 pO (TX U h) (BV (BF d))
theorem Np (U:d+1<=1000000) (h:C8 220 (d:Int) (Dn d)):C9 297 ((d+1:Nat):Int) (D1 (Dj (Dn d))):=
 mZ (Mq U h) (TW (Mq U h) (BV (BF d))) (BV (BF d))
theorem JW:∀d:Nat,d<=100->C8 220 (d:Int) (Dn d)
 |0,_=>YL λh=>absurd Do h
 |d+1,U=>YL λ_=>by
  rw [if_neg AC]
  exact Np AC (JW d AC)
def CR (deep:Int):Nat:=(if 100<deep then 100 else deep).toNat
theorem Sw (deep:Int):CR deep<=100:=by unfold CR;split<;>omega
theorem Sv {deep:Int} (h:¬deep<1):(if 100<deep then 100 else deep)=((CR deep - 1+1:Nat):Int):=by unfold CR;split<;>omega
theorem qZ {deep:Int}:C8 220 deep (D1 (Dj (Dn (CR deep - 1)))):=YL λh=>by
 rw [Sv h]
 have:=Sw deep
 exact Np AC (JW _ AC)
theorem ql {deep:Int}:C8 406 deep (Dj (Dn (CR deep - 1))):=jS λh=>by
 rw [Sv h]
 have:=Sw deep
 exact TX AC (JW _ AC)
theorem rC {deep:Int}:C8 219 deep (FZ (Dj (Dn (CR deep - 1)))):=pN λh=>by
 rw [Sv h]
 have:=Sw deep
 exact Mq AC (JW _ AC)
def rn:Rs->Nd
 | .inr p=>p.1
 | .inl _=>HX
def rs:Rs->Ag
 | .inr p=>p.2
 | .inl p=>p.2
def re:Rs->Int
 | .inr _=>0
 | .inl p=>p.1
theorem fj (q:Rs):fh q=kR (rn q) (rs q) (re q):=by cases q<;>rfl
def R8 (f:FuncId) (d:Int) (A:Ag->Rs):Prop:=∀s,mu s<=100000000->∀(st:St) (R:Ay->St->Prop),R (.ret (fh (A s))) st->PC f [CV s,.int .i64 d] st R
theorem R8.e {f:FuncId} {d x:Int} {A:Ag->Rs} (h:R8 f d A) (hx:x=d) {s:Ag} {q:Rs} (e:A s=q) (U:mu s<=100000000) {st:St} {R:Ay->St->Prop} (k:R (.ret (fh q)) st):PC f [CV s,.int .i64 x] st R:=by
 subst hx;subst e;exact h s U st R k
theorem R8.q {d x:Int} (h:R8 f d A) (hx:x=d) {s:Ag} (U:mu s<=100000000) {st:St} (k:R (.ret (kR (rn (A s)) (rs (A s)) (re (A s)))) st):PC f [CV s,.int .i64 x] st R:=by
 subst hx;exact h s U st R (by rw [fj];exact k)
section
variable {st:St} {R:Ay->St->Prop}
attribute [local irreducible] Go.Aw.Ah
theorem oT {d:Int} (hr:C9 296 d (FZ A)) (ha:WQ 364 d (Du A)) (hw:C9 297 d (D1 A)) (hF:AZ A):C9 305 d (FV A):=by
 intro s hm b st R hs h
 refine pB Tryz.func305 ?_
 unfold FV at h
 have hm1:∀{n1 s1},FZ A s=.inr (n1,s1)->mu s1<=100000000:=λe=>by have:=Ft hF _ _ _ e;omega
 have hm2:∀{n1 s1},FZ A s=.inr (n1,s1)->Bn s1 10 [61,62]=true->mu (Ab s1).2.1<=100000000:=λe i=>by have:=hm1 e;have:=DU i Do Do;omega
 repeat' ((conv=>whnf);first|exact CL|(refine Bp ?_;intros)|(refine CM ?_ ?_ ?_;rotate_left)|(refine Bq ?_ ?_<;>intro _)|refine hr s hm b _ _ hs (DG (λn1 s1 U st1 h1=>?_) (λe1 s1 U st1 h1=>?_))|refine XJ h1.1 (EH (hm1 U)) ?_|refine ha n1 s1 (hm1 U) b _ _ Ez (DG (λn2 s2 hq2 st2 h2=>?_) (λe2 s2 hq2 st2 h2=>?_))|refine Ae [(0,true),(1,true),(3,true),(4,true),(2,false),(5,false),(6,true),(7,true),(8,false)] [0] EQ ?_|refine Fi Ez (EH (hm1 U)) (Gm (IW ‹_› Do) (λst2 h2=>?_))|refine hw (Ab s1).2.1 (hm2 U ‹_›) b _ _ h2.1 (DG (λn3 s3 hq3 st3 h3=>?_) (λe3 s3 hq3 st3 h3=>?_))|with_reducible refine WF ?_)
 all_goals rw [U] at h
 all_goals dsimp only at h
 .rw [if_pos ‹_›,hq3] at h
  exact DS (St.le_refl _) (B6 (l:=[n1,Bv (Ab s1).1,n3])) (h st3 ((h1.trans AX).trans (h2.trans h3)))
 .rw [if_pos ‹_›,hq3] at h
  intro e'
  exact fin (h st3 ((h1.trans AX).trans (h2.trans h3))) rfl
 .rw [if_neg (Bool.eq_false_iff.1 ‹_›),hq2] at h
  exact BH rfl (h st2 ((h1.trans AX).trans h2))
 .rw [if_neg (Bool.eq_false_iff.1 ‹_›),hq2] at h
  exact fin (h st2 ((h1.trans AX).trans h2)) rfl
 .exact fin (h st1 h1) rfl
theorem fJ (U:d+1<=1000000) (h:C8 220 (d:Int) (Dn d)):C9 305 ((d+1:Nat):Int) (FV (Dj (Dn d))):=
 oT (Mq U h) (TW (Mq U h) (BV (BF d))) (Np U h) (BV (BF d))
theorem nC {deep:Int}:C8 231 deep (FV (Dj (Dn (CR deep - 1)))):=ld λh=>by
 rw [Sv h]
 have:=Sw deep
 exact fJ AC (JW _ AC)
end
end Go.Proofs.Z
namespace Go.Aw
theorem jZ {b:Bool} {p q:Prop} (h:b=true) (k:p):Bg b p q:=Wk (λ_=>k) (λe=>by rw [h] at e;cases e)
theorem jY {b:Bool} {p q:Prop} (h:b=false) (k:q):Bg b p q:=Wk (λe=>by rw [h] at e;cases e) (λ_=>k)
theorem WG {l:Int} {p q:Prop} (h:p):Bg (k==k&&(t==t&&(l==l&&(c==c&&true)))) p q:=jZ GT h
theorem WH {l:Int} {p q:Prop} (h:q):Bg (!(k==k&&(t==t&&(l==l&&(c==c&&true))))) p q:=jY GT h
theorem WI {l:List Int} {x:Int} {K:List V->Prop} (h:l[i.toNat]? =some x) (U:0<=i) (k:K [.int .i64 x]):0<=i/\∃e,(ints l)[i.toNat]? =some e/\K e:=⟨U,_,by simp [ints,h],k⟩
end Go.Aw
namespace Go.Proofs.Z
open Go Go.Aw
section
variable {st:St} {R:Ay->St->Prop}
attribute [local irreducible] Go.Aw.Ah
theorem cJ:∀(m:Nat) {n:Nd} {st:St} {R:Ay->St->Prop},n.size<=m->R (.ret (.bool true)) st->PC 16 [enc n,enc n] st R:=by
 intro m
 induction m with
 |zero=>intro n st R hm h;cases n;rw [Nd.size] at hm;omega
 |succ m ih=>
  intro n st R hm h
  refine pB Tryz.func16 ?_
  repeat' ((conv=>whnf);first|(with_reducible first|refine Wt rfl ?_|refine WG ?_|refine WH ?_|refine WI ‹_› AC ?_|exact Wa|exact Wb|exact Wc|refine Wd EQ ?_|refine We ?_ ?_ ?_|refine W8 GE ?_ ?_ ?_|refine W0 GE ?_ ?_ ?_|refine W9 ?_ ?_ ?_|refine Wt IR ?_|refine Wu IR ?_|refine Wv AC ?_|refine Ww AC ?_|refine Wf Do (λ_=>?_) (λ_=>?_)|refine Wg (λ_=>?_) (λ_=>?_)|refine Wh (λ_=>?_) (λ_=>?_)|refine Wi ?_|refine Wj ?_|refine Wk (λ_=>?_) (λ_=>?_)|refine Wl (λ_=>?_)|refine Wm ‹_› AC ?_|refine Wn AC AC (λ_ _ _=>?_)|refine Wq AC AC ?_|refine Wz (λ_=>?_)|refine WA (λ_=>?_)|refine WB ‹_› AC ?_|refine WC AC AC (λ_ _=>?_)|refine WD AC AC (λ_ _=>?_))|with_reducible refine WF ?_)
  refine L5 5 [2,3] [0,1] n.kids.length (λk=>k<=n.kids.length) (Nat.zero_le _) Yl ?_
  intro k hk
  by_cases U:k<n.kids.length
  .obtain ⟨x,hx⟩:∃x,n.kids[(k:Int).toNat]? =some x:=⟨_,List.getElem?_eq_getElem U⟩
   have hxm:x ∈ n.kids:=List.mem_of_getElem? hx
   have hxs:=Fa hxm
   repeat' ((conv=>whnf);first|(with_reducible first|refine Wt rfl ?_|refine WG ?_|refine WH ?_|refine WI ‹_› AC ?_|exact Wa|exact Wb|exact Wc|refine Wd EQ ?_|refine We ?_ ?_ ?_|refine W8 GE ?_ ?_ ?_|refine W0 GE ?_ ?_ ?_|refine W9 ?_ ?_ ?_|refine Wt IR ?_|refine Wu IR ?_|refine Wv AC ?_|refine Ww AC ?_|refine Wf Do (λ_=>?_) (λ_=>?_)|refine Wg (λ_=>?_) (λ_=>?_)|refine Wh (λ_=>?_) (λ_=>?_)|refine Wi ?_|refine Wj ?_|refine Wk (λ_=>?_) (λ_=>?_)|refine Wl (λ_=>?_)|refine Wm ‹_› AC ?_|refine Wn AC AC (λ_ _ _=>?_)|refine Wq AC AC ?_|refine Wz (λ_=>?_)|refine WA (λ_=>?_)|refine WB ‹_› AC ?_|refine WC AC AC (λ_ _=>?_)|refine WD AC AC (λ_ _=>?_))|refine ih (n:=x) AC ?_|with_reducible refine WF ?_)
   all_goals conv=>whnf
   all_goals exact ⟨k+1,U,Nat.sub_lt_sub_left U (Nat.lt_succ_self k),Yl,St.le_refl _⟩
  .skip
   repeat' ((conv=>whnf);first|(with_reducible first|refine Wt rfl ?_|refine WG ?_|refine WH ?_|refine WI ‹_› AC ?_|exact Wa|exact Wb|exact Wc|refine Wd EQ ?_|refine We ?_ ?_ ?_|refine W8 GE ?_ ?_ ?_|refine W0 GE ?_ ?_ ?_|refine W9 ?_ ?_ ?_|refine Wt IR ?_|refine Wu IR ?_|refine Wv AC ?_|refine Ww AC ?_|refine Wf Do (λ_=>?_) (λ_=>?_)|refine Wg (λ_=>?_) (λ_=>?_)|refine Wh (λ_=>?_) (λ_=>?_)|refine Wi ?_|refine Wj ?_|refine Wk (λ_=>?_) (λ_=>?_)|refine Wl (λ_=>?_)|refine Wm ‹_› AC ?_|refine Wn AC AC (λ_ _ _=>?_)|refine Wq AC AC ?_|refine Wz (λ_=>?_)|refine WA (λ_=>?_)|refine WB ‹_› AC ?_|refine WC AC AC (λ_ _=>?_)|refine WD AC AC (λ_ _=>?_))|with_reducible refine WF ?_)
   all_goals exact fin h rfl
theorem Vv {s:Ag} (h:R (.ret (.bool true)) st):PC 17 [CV s,CV s] st R:=by
 refine pB Tryz.func17 ?_
 repeat' ((conv=>whnf);first|(with_reducible first|refine Wt rfl ?_|refine WG ?_|refine WH ?_|refine WI ‹_› AC ?_|exact Wa|exact Wb|exact Wc|refine Wd EQ ?_|refine We ?_ ?_ ?_|refine W8 GE ?_ ?_ ?_|refine W0 GE ?_ ?_ ?_|refine W9 ?_ ?_ ?_|refine Wt IR ?_|refine Wu IR ?_|refine Wv AC ?_|refine Ww AC ?_|refine Wf Do (λ_=>?_) (λ_=>?_)|refine Wg (λ_=>?_) (λ_=>?_)|refine Wh (λ_=>?_) (λ_=>?_)|refine Wi ?_|refine Wj ?_|refine Wk (λ_=>?_) (λ_=>?_)|refine Wl (λ_=>?_)|refine Wm ‹_› AC ?_|refine Wn AC AC (λ_ _ _=>?_)|refine Wq AC AC ?_|refine Wz (λ_=>?_)|refine WA (λ_=>?_)|refine WB ‹_› AC ?_|refine WC AC AC (λ_ _=>?_)|refine WD AC AC (λ_ _=>?_))|with_reducible refine WF ?_)
 refine L5 5 [2,3] [0,1] s.AA.length (λk=>k<=s.AA.length) (Nat.zero_le _) Yl ?_
 intro k hk
 by_cases U:k<s.AA.length
 .obtain ⟨x,hx⟩:∃x,s.AA[(k:Int).toNat]? =some x:=⟨_,List.getElem?_eq_getElem U⟩
  repeat' ((conv=>whnf);first|(with_reducible first|refine Wt rfl ?_|refine WG ?_|refine WH ?_|refine WI ‹_› AC ?_|exact Wa|exact Wb|exact Wc|refine Wd EQ ?_|refine We ?_ ?_ ?_|refine W8 GE ?_ ?_ ?_|refine W0 GE ?_ ?_ ?_|refine W9 ?_ ?_ ?_|refine Wt IR ?_|refine Wu IR ?_|refine Wv AC ?_|refine Ww AC ?_|refine Wf Do (λ_=>?_) (λ_=>?_)|refine Wg (λ_=>?_) (λ_=>?_)|refine Wh (λ_=>?_) (λ_=>?_)|refine Wi ?_|refine Wj ?_|refine Wk (λ_=>?_) (λ_=>?_)|refine Wl (λ_=>?_)|refine Wm ‹_› AC ?_|refine Wn AC AC (λ_ _ _=>?_)|refine Wq AC AC ?_|refine Wz (λ_=>?_)|refine WA (λ_=>?_)|refine WB ‹_› AC ?_|refine WC AC AC (λ_ _=>?_)|refine WD AC AC (λ_ _=>?_))|with_reducible refine WF ?_)
  all_goals conv=>whnf
  all_goals exact ⟨k+1,U,Nat.sub_lt_sub_left U (Nat.lt_succ_self k),Yl,St.le_refl _⟩
 .skip
  repeat' ((conv=>whnf);first|(with_reducible first|refine Wt rfl ?_|refine WG ?_|refine WH ?_|refine WI ‹_› AC ?_|exact Wa|exact Wb|exact Wc|refine Wd EQ ?_|refine We ?_ ?_ ?_|refine W8 GE ?_ ?_ ?_|refine W0 GE ?_ ?_ ?_|refine W9 ?_ ?_ ?_|refine Wt IR ?_|refine Wu IR ?_|refine Wv AC ?_|refine Ww AC ?_|refine Wf Do (λ_=>?_) (λ_=>?_)|refine Wg (λ_=>?_) (λ_=>?_)|refine Wh (λ_=>?_) (λ_=>?_)|refine Wi ?_|refine Wj ?_|refine Wk (λ_=>?_) (λ_=>?_)|refine Wl (λ_=>?_)|refine Wm ‹_› AC ?_|refine Wn AC AC (λ_ _ _=>?_)|refine Wq AC AC ?_|refine Wz (λ_=>?_)|refine WA (λ_=>?_)|refine WB ‹_› AC ?_|refine WC AC AC (λ_ _=>?_)|refine WD AC AC (λ_ _=>?_))|with_reducible refine WF ?_)
  refine L5 6 [2,3] [0,1] s.Dg.length (λk=>k<=s.Dg.length) (Nat.zero_le _) Yl ?_
  intro k hk
  by_cases U:k<s.Dg.length
  .obtain ⟨x,hx⟩:∃x,s.Dg[(k:Int).toNat]? =some x:=⟨_,List.getElem?_eq_getElem U⟩
   repeat' ((conv=>whnf);first|(with_reducible first|refine Wt rfl ?_|refine WG ?_|refine WH ?_|refine WI ‹_› AC ?_|exact Wa|exact Wb|exact Wc|refine Wd EQ ?_|refine We ?_ ?_ ?_|refine W8 GE ?_ ?_ ?_|refine W0 GE ?_ ?_ ?_|refine W9 ?_ ?_ ?_|refine Wt IR ?_|refine Wu IR ?_|refine Wv AC ?_|refine Ww AC ?_|refine Wf Do (λ_=>?_) (λ_=>?_)|refine Wg (λ_=>?_) (λ_=>?_)|refine Wh (λ_=>?_) (λ_=>?_)|refine Wi ?_|refine Wj ?_|refine Wk (λ_=>?_) (λ_=>?_)|refine Wl (λ_=>?_)|refine Wm ‹_› AC ?_|refine Wn AC AC (λ_ _ _=>?_)|refine Wq AC AC ?_|refine Wz (λ_=>?_)|refine WA (λ_=>?_)|refine WB ‹_› AC ?_|refine WC AC AC (λ_ _=>?_)|refine WD AC AC (λ_ _=>?_))|with_reducible refine WF ?_)
   all_goals conv=>whnf
   all_goals exact ⟨k+1,U,Nat.sub_lt_sub_left U (Nat.lt_succ_self k),Yl,St.le_refl _⟩
  .skip
   repeat' ((conv=>whnf);first|(with_reducible first|refine Wt rfl ?_|refine WG ?_|refine WH ?_|refine WI ‹_› AC ?_|exact Wa|exact Wb|exact Wc|refine Wd EQ ?_|refine We ?_ ?_ ?_|refine W8 GE ?_ ?_ ?_|refine W0 GE ?_ ?_ ?_|refine W9 ?_ ?_ ?_|refine Wt IR ?_|refine Wu IR ?_|refine Wv AC ?_|refine Ww AC ?_|refine Wf Do (λ_=>?_) (λ_=>?_)|refine Wg (λ_=>?_) (λ_=>?_)|refine Wh (λ_=>?_) (λ_=>?_)|refine Wi ?_|refine Wj ?_|refine Wk (λ_=>?_) (λ_=>?_)|refine Wl (λ_=>?_)|refine Wm ‹_› AC ?_|refine Wn AC AC (λ_ _ _=>?_)|refine Wq AC AC ?_|refine Wz (λ_=>?_)|refine WA (λ_=>?_)|refine WB ‹_› AC ?_|refine WC AC AC (λ_ _=>?_)|refine WD AC AC (λ_ _=>?_))|with_reducible refine WF ?_)
   all_goals exact fin h rfl
theorem Yr {l:List Tk} {o1 o2:AB} (h:R (.ret (.bool true)) st):PC 24 [.slice 4 (AD l) o1,.slice 4 (AD l) o2] st R:=by
 refine pB Tryz.func24 ?_
 repeat' ((conv=>whnf);first|(with_reducible first|refine Wt rfl ?_|refine WG ?_|refine WH ?_|refine WI ‹_› AC ?_|exact Wa|exact Wb|exact Wc|refine Wd EQ ?_|refine We ?_ ?_ ?_|refine W8 GE ?_ ?_ ?_|refine W0 GE ?_ ?_ ?_|refine W9 ?_ ?_ ?_|refine Wt IR ?_|refine Wu IR ?_|refine Wv AC ?_|refine Ww AC ?_|refine Wf Do (λ_=>?_) (λ_=>?_)|refine Wg (λ_=>?_) (λ_=>?_)|refine Wh (λ_=>?_) (λ_=>?_)|refine Wi ?_|refine Wj ?_|refine Wk (λ_=>?_) (λ_=>?_)|refine Wl (λ_=>?_)|refine Wm ‹_› AC ?_|refine Wn AC AC (λ_ _ _=>?_)|refine Wq AC AC ?_|refine Wz (λ_=>?_)|refine WA (λ_=>?_)|refine WB ‹_› AC ?_|refine WC AC AC (λ_ _=>?_)|refine WD AC AC (λ_ _=>?_))|with_reducible refine WF ?_)
 refine L5 5 [0,1] [] l.length (λk=>k<=l.length) (Nat.zero_le _) Yl ?_
 intro k hk
 by_cases U:k<l.length
 .obtain ⟨x,hx⟩:∃x,l[(k:Int).toNat]? =some x:=⟨_,List.getElem?_eq_getElem U⟩
  repeat' ((conv=>whnf);first|(with_reducible first|refine Wt rfl ?_|refine WG ?_|refine WH ?_|refine WI ‹_› AC ?_|exact Wa|exact Wb|exact Wc|refine Wd EQ ?_|refine We ?_ ?_ ?_|refine W8 GE ?_ ?_ ?_|refine W0 GE ?_ ?_ ?_|refine W9 ?_ ?_ ?_|refine Wt IR ?_|refine Wu IR ?_|refine Wv AC ?_|refine Ww AC ?_|refine Wf Do (λ_=>?_) (λ_=>?_)|refine Wg (λ_=>?_) (λ_=>?_)|refine Wh (λ_=>?_) (λ_=>?_)|refine Wi ?_|refine Wj ?_|refine Wk (λ_=>?_) (λ_=>?_)|refine Wl (λ_=>?_)|refine Wm ‹_› AC ?_|refine Wn AC AC (λ_ _ _=>?_)|refine Wq AC AC ?_|refine Wz (λ_=>?_)|refine WA (λ_=>?_)|refine WB ‹_› AC ?_|refine WC AC AC (λ_ _=>?_)|refine WD AC AC (λ_ _=>?_))|with_reducible refine WF ?_)
  all_goals conv=>whnf
  all_goals exact ⟨k+1,U,Nat.sub_lt_sub_left U (Nat.lt_succ_self k),Yl,St.le_refl _⟩
 .skip
  repeat' ((conv=>whnf);first|(with_reducible first|refine Wt rfl ?_|refine WG ?_|refine WH ?_|refine WI ‹_› AC ?_|exact Wa|exact Wb|exact Wc|refine Wd EQ ?_|refine We ?_ ?_ ?_|refine W8 GE ?_ ?_ ?_|refine W0 GE ?_ ?_ ?_|refine W9 ?_ ?_ ?_|refine Wt IR ?_|refine Wu IR ?_|refine Wv AC ?_|refine Ww AC ?_|refine Wf Do (λ_=>?_) (λ_=>?_)|refine Wg (λ_=>?_) (λ_=>?_)|refine Wh (λ_=>?_) (λ_=>?_)|refine Wi ?_|refine Wj ?_|refine Wk (λ_=>?_) (λ_=>?_)|refine Wl (λ_=>?_)|refine Wm ‹_› AC ?_|refine Wn AC AC (λ_ _ _=>?_)|refine Wq AC AC ?_|refine Wz (λ_=>?_)|refine WA (λ_=>?_)|refine WB ‹_› AC ?_|refine WC AC AC (λ_ _=>?_)|refine WD AC AC (λ_ _=>?_))|with_reducible refine WF ?_)
  all_goals exact fin h rfl
end
mutual
def BQ:Nd->List Tk
 | .mk k f t l c ks=>if k=1 then [⟨f,t,l,c⟩] else Be ks
def Be:List Nd->List Tk
 |[]=>[]
 |n::r=>BQ n++Be r
end
theorem DE:∀{a b:List Nd},Be (a++b)=Be a++Be b
 |[],b=>rfl
 |n::r,b=>by rw [List.cons_append,Be,Be,DE,List.append_assoc]
theorem SW (t:Tk):BQ (Bv t)=[t]:=rfl
theorem L2 (h:¬k=1):BQ (Au k l)=Be l:=by unfold Au;rw [BQ,if_neg h]
theorem C5:Be [n]=BQ n:=by rw [Be,Be,List.append_nil]
inductive Path:Ag->List Tk->Ag->Prop where
 |nil (s:Ag):Path s [] s
 |cons {s:Ag} {l:List Tk} {t:Ag}:(Ab s).2.2=0->mu (Ab s).2.1<mu s->Path (Ab s).2.1 l t->Path s ((Ab s).1::l) t
theorem Path.trans {s t u:Ag} {l m:List Tk} (h:Path s l t) (k:Path t m u):Path s (l++m) u:=by
 induction h with
 |nil s=>exact k
 |cons U h2 _ ih=>exact .cons U h2 (ih k)
theorem Path.one {s:Ag} (U:(Ab s).2.2=0) (h2:mu (Ab s).2.1<mu s):Path s [(Ab s).1] (Ab s).2.1:=.cons U h2 (.nil _)
theorem Path.is {s:Ag} (h:Bn s k x=true) (U:k≠0) (h1:k≠21):Path s [(Ab s).1] (Ab s).2.1:=.one (GQ h U) (DU h U h1)
variable {A:Ag->Rs}
theorem iz (l:List Nd) (s:Ag):∀q s',FB A l s=.inr (q,s')->∃r,q=l++r:=by
 fun_induction FB A l s with
 |case1 l s U e1 h2=>simp_all
 |case2 l s U p h2 h3 ih=>grind
 |case3 l s U p h2 h3=>simp_all
 |case4 l s U=>simp_all
section
variable {st:St} {R:Ay->St->Prop}
attribute [local irreducible] Go.Aw.Ah
theorem Tw {a b:List Nd}:De (a++b)=De a+De b:=by
 induction a with
 |nil=>simp [De]
 |cons x r U=>rw [List.cons_append,De,De,U];omega
end
def jF (k:Int):Nat:=if k=1 then 3 else if k=30 then 2 else 1
def N9:List Nd->Nat
 |[]=>0
 |n::r=>jF n.kind+N9 r
theorem mq (k:Int):1<=jF k:=by
 unfold jF
 grind
theorem IQ:∀{a b:List Nd},N9 (a++b)=N9 a+N9 b
 |[],b=>by rw [List.nil_append,N9,Nat.zero_add]
 |n::r,b=>by rw [List.cons_append,N9,N9,IQ];omega
theorem OP:∀{l:List Nd},l.length<=N9 l
 |[]=>Nat.le_refl _
 |n::r=>by have:=OP (l:=r);have:=mq n.kind;rw [N9,List.length_cons];omega
def Ey (t:Tk):Bool:=t.kind==18||t.kind==19||t.kind==20||(t.kind==15&&(t.text==[123]||t.text==[125]||t.text==[59]))
inductive A7:List Nd->Ag->Ag->Prop where
 |nil (s:Ag):A7 [] s s
 |app {l m:List Nd} {s s1 s2:Ag}:A7 l s s1->A7 m s1 s2->A7 (l++m) s s2
 |tok {s:Ag}:(Ab s).2.2=0->(Ab s).1.kind<18->(Ab s).1.kind≠0->A7 [Bv (Ab s).1] s (Ab s).2.1
 |skip {s:Ag}:(Ab s).2.2=0->Ey (Ab s).1=true->A7 [] s (Ab s).2.1
 |close {s:Ag}:(EG s).2=true->A7 [] s (EG s).1
 |node {k:Int} {l:List Nd} {s s':Ag}:A7 l s s'->k≠1->1+jF k<=N9 l->A7 [Au k l] s s'
 |block {f:Bool} {l:List Nd} {s s':Ag}:(Ab s).2.2=0->Ey (Ab s).1=true->A7 l (Ab s).2.1 s'->A7 [Dx f l] s s'
theorem Kb {t:Tk} (h:Ey t=true):t.kind≠0/\t.kind≠21:=by
 unfold Ey at h
 grind
theorem A7.size {l:List Nd} {s s':Ag} (h:A7 l s s'):De l+N9 l+4*mu s'<=4*mu s:=by
 induction h with
 |nil s=>simp only [De,N9];omega
 |app _ _ U h2=>rw [Tw,IQ];omega
 |tok U h2 h3=>
  rename_i s
  have:=(EF U).2 AC
  have e:De [Bv (Ab s).1]+N9 [Bv (Ab s).1]=4:=rfl
  omega
 |skip U h2=>have:=(EF U).1;simp only [De,N9];omega
 |close U=>have:=MN U;simp only [De,N9];omega
 |node U h2 h3 ih=>
  rename_i k l s s'
  have e:De [Au k l]+N9 [Au k l]=(1+De l+0)+(jF k+0):=by simp only [Au,De,Nd.size,N9];rfl
  omega
 |block U h2 h3 ih=>
  rename_i f l s s'
  have:=(EF U).2 (Kb h2).2
  have e:De [Dx f l]+N9 [Dx f l]=(1+De l+0)+(1+0):=by simp only [Dx,De,Nd.size,N9];rfl
  omega
theorem A7.qU {s:Ag} (h:A7 [n] s s'):n.size+4*mu s'<=4*mu s:=by
 have:=h.size
 simp only [De] at this
 omega
theorem A7.two {s:Ag} (h:A7 l s s') (hk:k≠1) (U:k≠30) (hl:2<=l.length):A7 [Au k l] s s':=
 .node h hk (by have:=OP (l:=l);unfold jF;grind)
theorem A7.is {s:Ag} (h:Bn s k x=true) (U:k≠0) (h1:k<18):A7 [Bv (Ab s).1] s (Ab s).2.1:=by
 have e:(Ab s).1.kind=k:=by
  unfold Bn at h
  simp only [Bool.and_eq_true,beq_iff_eq] at h
  exact h.1
 exact .tok (GQ h U) AC AC
theorem A7.cons {s s1 s2:Ag} (h:A7 [n] s s1) (k:A7 l s1 s2):A7 (n::l) s s2:=.app h k
theorem A7.snoc {s s1 s2:Ag} (h:A7 l s s1) (k:A7 [n] s1 s2):A7 (l++[n]) s s2:=.app h k
theorem A7.one {s:Ag} (h:A7 l s s') (hk:k≠1) (U:k≠30) (hl:1<=l.length):A7 [Ye k l] s s':=by
 unfold Ye
 split
 .match l,‹l.length=1› with
  |[x],_=>exact h
 .exact h.two hk U AC
def C0 (A:Ag->Rs):Prop:=∀s n s',A s=.inr (n,s')->A7 [n] s s'
variable {A:Ag->Rs}
theorem cS {t:Tk} (h:DL t=true):t.kind≠0/\t.kind<18:=by
 unfold DL at h
 grind
theorem SC {s:Ag} (hs:DL (Ab s).1=true) (h:DF s=.inr (n,s')):A7 [n] s s':=by
 have U:=cS hs
 unfold DF at h
 split at h
 .rename_i e;cases h;exact .tok e U.2 U.1
 grind
theorem kK {s:Ag} (U:k≠0) (h1:k<18) (h:MA s k x=.inr (n,s')):A7 [n] s s':=by
 unfold MA at h
 split at h
 .rename_i e
  rw [IW e U] at h
  cases h
  exact .is e U h1
 .cases h
theorem Pu {s:Ag} {s0:Ag} (hk:k≠1) (U:k≠30) (hl:1<=l.length) (h0:A7 l s0 s) (h:Jm k l s x=.inr (n,s')):A7 [n] s0 s':=by
 unfold Jm at h
 split at h
 .cases h
 .rename_i p hp
  cases h
  exact (h0.snoc (kK Do Do hp)).two hk U ke
theorem kJ (hA:C0 A) (l:List Nd) (s:Ag):∀s0 q s',A7 l s0 s->FB A l s=.inr (q,s')->A7 q s0 s':=by
 fun_induction FB A l s with
 |case1 l s U e1 h2=>simp_all
 |case2 l s U p h2 h3 ih=>intro s0 q s' h0 h;exact ih s0 q s' (h0.snoc (hA s p.1 p.2 h2)) h
 |case3 l s U p h2 h3=>simp_all
 |case4 l s U=>simp_all
theorem SB (U:C0 A):C0 (FZ A):=λs n s' h=>by
 unfold FZ at h
 split at h
 .cases h
 .rename_i p hp
  have h1:=U s p.1 p.2 hp
  split at h
  .cases h
  .rename_i q hq
   have h2:=kJ U _ _ _ _ _ h1 hq
   obtain ⟨r,hr⟩:=iz _ _ _ _ hq
   split at h
   .simp_all
   .rename_i hl
    cases h
    exact h2.two Do Do (by grind)
theorem kH (hA:C0 A) (l:List Nd) (s:Ag):∀s0 q s',A7 l s0 s->F3 A l s=.inr (q,s')->A7 q s0 s'/\∃r,q=l++r:=by
 fun_induction F3 A l s with
 |case1 l s U e1 h2=>simp_all
 |case2 l s U p h2 h3 ih=>
  intro s0 q s' h0 h
  obtain ⟨k1,r,k2⟩:=ih s0 q s' (.app h0 (.cons (.is U Do Do) (SB hA _ p.1 p.2 h2))) h
  simp_all
 |case3 l s U p h2 h3=>simp_all
 |case4 l s U=>simp_all
theorem Rl (hA:C0 A) {U:Nd} {s0 s:Ag} (h0:A7 [n] s0 s) (h:Du A n s=.inr (U,s')):A7 [U] s0 s':=by
 unfold Du at h
 split at h
 .cases h
 .rename_i q hq
  obtain ⟨k1,r,k3⟩:=kH hA _ _ _ _ _ h0 hq
  split at h
  .simp_all
  .rename_i hl
   cases h
   exact k1.two Do Do (by grind)
theorem Pv (U:C0 A):C0 (D1 A):=λs n s' h=>by
 unfold D1 at h
 split at h
 .cases h
 .rename_i p hp
  exact Rl U (SB U _ p.1 p.2 hp) h
theorem kI (U:C0 A):C0 (FV A):=λs n s' h=>by
 unfold FV at h
 split at h
 .cases h
 .rename_i p hp
  have h1:=SB U _ p.1 p.2 hp
  split at h
  .rename_i hi
   split at h
   .cases h
   .rename_i q hq
    cases h
    exact (h1.cons (.cons (.is hi Do Do) (Pv U _ q.1 q.2 hq))).two Do Do (Nat.le_of_ble_eq_true rfl)
  .exact Rl U h1 h
theorem bq (hA:C0 A) (l:List Nd) (s:Ag):∀s0 q s',A7 l s0 s->1<=l.length->Cn A l s=.inr (q,s')->A7 q s0 s'/\1<=q.length:=by
 fun_induction Cn A l s with
 |case1 l s U e1 h2=>simp_all
 |case2 l s U p h2 h3 ih=>
  intro s0 q s' h0 hl h
  exact ih s0 q s' (.app h0 (.cons (.is U Do Do) (hA _ p.1 p.2 h2))) ke h
 |case3 l s U p h2 h3=>simp_all
 |case4 l s U=>grind
theorem eR (l:List Nd) (s:Ag):∀s0,A7 l s0 s->1<=l.length->A7 (DQ l s).1 s0 (DQ l s).2/\1<=(DQ l s).1.length:=by
 fun_induction DQ l s with
 |case1 l s U h2 ih=>intro s0 h0 hl;exact ih s0 (h0.snoc (.is U Do Do)) ke
 |case2 l s U h2=>simp_all
 |case3 l s U=>simp_all
theorem eS (hA:C0 A) {s:Ag} (hs:DL (Ab s).1=true) (h:FA A s=.inr (n,s')):A7 [n] s s':=by
 unfold FA at h
 split at h
 .cases h
 .rename_i p hp
  have U:=SC hs (n:=p.1) (s':=p.2) hp
  split at h
  .rename_i hi
   exact Pu Do Do (Nat.le_of_ble_eq_true rfl) (U.cons (.is hi Do Do)) h
  split at h
  .exact Pu Do Do (Nat.le_of_ble_eq_true rfl) U h
  split at h
  .obtain ⟨k1,k2⟩:=eR [p.1] p.2 s U (Nat.le_of_ble_eq_true rfl)
   exact Pu Do Do k2 k1 h
  split at h
  .cases h
  .rename_i q hq
   have h2:=hA _ q.1 q.2 hq
   split at h
   .cases h
   .rename_i r hr
    obtain ⟨k1,k2⟩:=bq hA _ _ _ _ _ (U.cons h2) (Nat.le_of_ble_eq_true rfl) hr
    exact Pu AC AC k2 k1 h
theorem bm (hA:C0 A) {s:Ag} (hs:DL (Ab s).1=true) (h:Ec A s=.inr (n,s')):A7 [n] s s':=by
 unfold Ec at h
 split at h
 .cases h
 .rename_i p hp
  have U:=SC hs (n:=p.1) (s':=p.2) hp
  split at h
  .rename_i hi
   cases h
   exact (U.cons (.is hi Do Do)).two Do Do (Nat.le_of_ble_eq_true rfl)
  split at h
  .cases h
  .rename_i q hq
   exact Pu Do Do (Nat.le_of_ble_eq_true rfl) (U.cons (hA _ q.1 q.2 hq)) h
theorem LJ (hA:C0 A):C0 (Dj A):=λs n s' h=>by
 unfold Dj at h
 split at h
 .rename_i U
  split at h
  .split at h
   .exact eS hA U h
   .exact bm hA U h
  .exact SC U h
 .cases h
theorem LK:∀d,C0 (Dn d)
 |0=>λs n s' h=>by cases h
 |d+1=>Pv (LJ (LK d))
def CU {α:Type} (q U:Sum (Int×Ag) α):Prop:=(∃s',q=.inl (2,s'))\/U=q
variable {A A':Ag->Rs}
theorem T9 (h:∀s,CU (A s) (A' s)) (l:List Nd) (s:Ag):CU (FB A l s) (FB A' l s):=by
 fun_induction FB A l s with
 |case1 l s U e1 h2=>
  rcases h s with ⟨s',e⟩|e
  .rw [h2] at e;cases e;exact .inl ⟨s',rfl⟩
  .right;rw [FB,if_pos U,e,h2]
 |case2 l s U p h2 h3 ih=>
  rcases h s with ⟨s',e⟩|e
  .simp_all
  .rw [Z5 (A:=A') (n:=p.1) (s':=p.2) U (by grind) h3];exact ih
 |case3 l s U p h2 h3=>exact .inl ⟨s,rfl⟩
 |case4 l s U=>right;rw [FB,if_neg U]
theorem Gz (h:∀s,CU (A s) (A' s)) (s:Ag):CU (FZ A s) (FZ A' s):=by
 unfold FZ
 rcases h s with ⟨s',e⟩|e
 .rw [e];exact .inl ⟨s',rfl⟩
 .rw [e]
  cases U:A s with
  |inl p=>grind
  |inr p=>
   dsimp only
   rcases T9 h [p.1] p.2 with ⟨s',e⟩|e
   .rw [e];exact .inl ⟨s',rfl⟩
   .rw [e];exact .inr rfl
theorem T7 (h:∀s,CU (A s) (A' s)) (l:List Nd) (s:Ag):CU (F3 A l s) (F3 A' l s):=by
 fun_induction F3 A l s with
 |case1 l s U e1 h2=>
  rcases Gz h (Ab s).2.1 with ⟨s',e⟩|e
  .rw [h2] at e;cases e;exact .inl ⟨s',rfl⟩
  .right;rw [F3,if_pos U,e,h2]
 |case2 l s U p h2 h3 ih=>
  rcases Gz h (Ab s).2.1 with ⟨s',e⟩|e
  .simp_all
  .rw [Y2 (A:=A') (n:=p.1) (s':=p.2) U (by grind) h3];exact ih
 |case3 l s U p h2 h3=>exact .inl ⟨s,rfl⟩
 |case4 l s U=>right;rw [F3,if_neg U]
theorem KE (h:∀s,CU (A s) (A' s)) (n:Nd) (s:Ag):CU (Du A n s) (Du A' n s):=by
 unfold Du
 rcases T7 h [n] s with ⟨s',e⟩|e
 .rw [e];exact .inl ⟨s',rfl⟩
 .rw [e];exact .inr rfl
theorem Iq (h:∀s,CU (A s) (A' s)) (s:Ag):CU (D1 A s) (D1 A' s):=by
 unfold D1
 rcases Gz h s with ⟨s',e⟩|e
 .rw [e];exact .inl ⟨s',rfl⟩
 .rw [e]
  cases U:FZ A s with
  |inl p=>exact .inr rfl
  |inr p=>exact KE h p.1 p.2
theorem T8 (h:∀s,CU (A s) (A' s)) (s:Ag):CU (FV A s) (FV A' s):=by
 unfold FV
 rcases Gz h s with ⟨s',e⟩|e
 .rw [e];exact .inl ⟨s',rfl⟩
 .rw [e]
  cases U:FZ A s with
  |inl p=>exact .inr rfl
  |inr p=>
   dsimp only
   split
   .rcases Iq h (Ab p.2).2.1 with ⟨s',e⟩|e
    .rw [e];exact .inl ⟨s',rfl⟩
    .rw [e];exact .inr rfl
   .exact KE h p.1 p.2
theorem QQ (h:∀s,CU (A s) (A' s)) (l:List Nd) (s:Ag):CU (Cn A l s) (Cn A' l s):=by
 fun_induction Cn A l s with
 |case1 l s U e1 h2=>
  rcases h (Ab s).2.1 with ⟨s',e⟩|e
  .rw [h2] at e;cases e;exact .inl ⟨s',rfl⟩
  .right;rw [Cn,if_pos U,e,h2]
 |case2 l s U p h2 h3 ih=>
  rcases h (Ab s).2.1 with ⟨s',e⟩|e
  .simp_all
  .rw [R2 (Y:=A') (n:=p.1) (s':=p.2) U (by grind) h3];exact ih
 |case3 l s U p h2 h3=>exact .inl ⟨s,rfl⟩
 |case4 l s U=>right;rw [Cn,if_neg U]
theorem Su (h:∀s,CU (A s) (A' s)) (s:Ag):CU (FA A s) (FA A' s):=by
 unfold FA
 split
 .exact .inr rfl
 .rename_i p U
  split
  .exact .inr rfl
  split
  .exact .inr rfl
  split
  .exact .inr rfl
  rcases h p.2 with ⟨s',e⟩|e
  .rw [e];exact .inl ⟨s',rfl⟩
  .rw [e]
   cases hq:A p.2 with
   |inl q=>grind
   |inr q=>
    dsimp only
    rcases QQ h [p.1,q.1] q.2 with ⟨s',e⟩|e
    .rw [e];exact .inl ⟨s',rfl⟩
    .rw [e];exact .inr rfl
theorem QP (h:∀s,CU (A s) (A' s)) (s:Ag):CU (Ec A s) (Ec A' s):=by
 unfold Ec
 split
 .exact .inr rfl
 .rename_i p U
  split
  .exact .inr rfl
  rcases h p.2 with ⟨s',e⟩|e
  .rw [e];exact .inl ⟨s',rfl⟩
  .rw [e];exact .inr rfl
theorem FU (h:∀s,CU (A s) (A' s)) (s:Ag):CU (Dj A s) (Dj A' s):=by
 unfold Dj
 split
 .split
  .split
   .exact Su h s
   .exact QP h s
  .exact .inr rfl
 .exact .inr rfl
theorem Jx:∀(d d':Nat),d<=d'->∀s,CU (Dn d s) (Dn d' s)
 |0,d',_,s=>.inl ⟨s,rfl⟩
 |d+1,d'+1,h,s=>Iq (FU (Jx d d' AC)) s
namespace Rd
variable {α β γ σ:Type}
def Ap (a b:Rd α):Prop:=∀s,(∃e t,a.run s=.inl (e,t)/\e.1=2)\/b.run s=a.run s
theorem Ap.A9 {a:Rd α}:Ap a a:=λ_=>.inr rfl
theorem Ap.trans {a b c:Rd α} (h:Ap a b) (k:Ap b c):Ap a c:=λs=>by
 rcases h s with h|h
 .exact .inl h
 .rcases k s with ⟨e,t,k,U⟩|k
  .exact .inl ⟨e,t,h ▸ k,U⟩
  .exact .inr (k.trans h)
theorem Ap.seq {m m':Rd α} {k U:α->Rd β} (h:Ap m m') (hk:∀v,Ap (k v) (U v)):Ap (seq m k) (seq m' U):=λs=>by
 unfold Rd.seq
 dsimp only
 rcases h s with ⟨e,t,h,he⟩|h
 .left;rw [h];exact ⟨e,t,rfl,he⟩
 .rw [h]
  cases m.run s with
  |inl e=>exact .inr rfl
  |inr p=>exact hk p.1 p.2
theorem Ap.look {f U:Ag->Rd α} (h:∀s,Ap (f s) (U s)):Ap (look f) (look U):=λs=>h s s
theorem Ap.ite {c:Prop} [Decidable c] {a b U b':Rd α} (h1:Ap a U) (h2:Ap b b'):Ap (if c then a else b) (if c then U else b'):=by split<;>assumption
theorem Ap.deep {b:Rd α}:Ap (fail Hb) b:=λs=>.inl ⟨Hb,s,rfl,rfl⟩
theorem Ap.loop {body U:σ->Rd (Sum σ β)} (h:∀x,Ap (body x) (U x)) (x:σ):Ap (loop body x) (loop U x):=λs=>by
 show (∃e t,iter body x s=.inl (e,t)/\e.1=2)\/iter U x s=iter body x s
 fun_induction iter body x s with
 |case1 x s e h1=>
  rcases h x s with ⟨e',t,h2,he⟩|h2
  .rw [h1] at h2;cases h2;exact .inl ⟨_,_,rfl,he⟩
  .right;rw [iter,h2,h1]
 |case2 x s y s1 h1=>
  rcases h x s with ⟨e',t,h2,he⟩|h2
  .rw [h1] at h2;cases h2
  .right;rw [iter,h2,h1]
 |case3 x s x' s1 h1 hlt ih=>
  rcases h x s with ⟨e',t,h2,he⟩|h2
  .rw [h1] at h2;cases h2
  .have e:iter U x s=iter U x' s1:=by
    rw [iter,h2,h1];dsimp only;rw [if_pos hlt]
   rw [e];exact ih
 |case4 x s x' s1 h1 hlt=>exact .inl ⟨_,_,rfl,rfl⟩
end Rd
open Rd (Ap)
structure Dz (L L':ER):Prop where
 atom:Ap L.atom L'.atom
 exp:Ap L.exp L'.exp
 ops:Ap L.ops L'.ops
 decls:Ap L.decls L'.decls
 stmts:Ap L.stmts L'.stmts
 alts:Ap L.alts L'.alts
 Fo:∀o,Ap (L.Fo o) (L'.Fo o)
 list:∀o,Ap (L.list o) (L'.list o)
section
variable {L L':ER} {A A' B B' C C' D D' E E':Rd Nd}
theorem Q7 (h:Ap A A'):Ap (C3 A p) (C3 A' p):=Ap.look λs=>Ap.seq h λn=>Ap.A9
theorem dP (h:Ap A A') {b:Bool}:Ap (NB A b) (NB A' b):=Ap.loop (λl=>Ap.seq Ap.A9 λl=>Ap.seq h λn=>Ap.A9) _
theorem MD (h:Ap A A'):Ap (Vc A) (Vc A'):=Ap.seq (dP h) λ_=>Ap.A9
theorem TV (h:Ap A A'):Ap (JX A n) (JX A' n):=Ap.look λs=>Ap.ite (Ap.seq Ap.A9 λc=>Ap.seq h λt=>Ap.A9) Ap.A9
theorem ou (h:Ap A A') (k:Ap B B'):Ap (Xn A B) (Xn A' B'):=Ap.seq (MD h) λ_=>TV k
theorem TT (h:Dz L L') {a b:Nd}:Ap (JH L a b) (JH L' a b):=Ap.seq Ap.A9 λ_=>Ap.seq h.exp λ_=>Ap.A9
theorem aG (h:Dz L L') (k:Ap A A'):Ap (Ix L A) (Ix L' A'):=
 have U:∀l,Ap (Kc A l) (Kc A' l):=λl=>Ap.seq (Q7 k) λ_=>Ap.A9
 Ap.seq Ap.A9 λb=>Ap.seq (Ap.loop (λl=>Ap.ite (U l) (Ap.look λs=>Ap.ite (U l) Ap.A9)) _) λl=>Ap.seq Ap.A9 λa=>Ap.seq h.exp λ_=>Ap.A9
theorem Y0 (h:Dz L L'):Ap (KN L l w) (KN L' l w):=Ap.seq Ap.A9 λ_=>Ap.seq Ap.A9 λ_=>Ap.seq h.exp λ_=>Ap.A9
theorem aD (h:Dz L L'):Ap (Ik L) (Ik L'):=Ap.seq Ap.A9 λ_=>Ap.seq h.exp λ_=>Ap.seq (Y0 h) λ_=>Ap.seq (Y0 h) λ_=>Ap.A9
theorem jL (h:Dz L L'):Ap (Rf L) (Rf L'):=Ap.seq Ap.A9 λ_=>Ap.seq h.exp λ_=>Ap.seq Ap.A9 λ_=>Ap.seq h.alts λ_=>Ap.A9
theorem dR (h:Dz L L'):Ap (Li L) (Li L'):=Ap.seq Ap.A9 λ_=>Ap.seq h.stmts λ_=>Ap.A9
theorem O0 (k:Ap A A'):Ap (Js A) (Js A'):=Ap.seq k λn=>Ap.seq (Ap.loop (λl=>Ap.look λs=>Ap.ite (Ap.seq k λ_=>Ap.A9) Ap.A9) _) λ_=>Ap.A9
theorem ov (h:Dz L L'):Ap (bT L) (bT L'):=Ap.seq Ap.A9 λ_=>Ap.seq h.decls λ_=>TT h
theorem WW (h:Dz L L') (k:Ap A A'):Ap (GV L A) (GV L' A'):=Ap.look λs=>Ap.ite (Ap.ite (aG h k) (O0 k)) (Ap.ite (Ap.ite (ov h) (Ap.ite (aD h) (Ap.ite (jL h) (Ap.ite (dR h) (O0 k))))) (O0 k))
theorem Q8 (h:Dz L L') {o:Nd}:Ap (Ld L o) (Ld L' o):=Ap.look λs=>Ap.ite (Ap.ite (h.Fo o) (Ap.seq Ap.A9 λ_=>Ap.seq h.ops λ_=>Ap.A9)) (h.Fo o)
theorem aI (h:Dz L L') {o:Nd}:Ap (M8 L o) (M8 L' o):=Ap.look λs=>Ap.ite (Ap.ite Ap.A9 (Q8 h)) (Q8 h)
theorem dO (h:Dz L L'):Ap (Le L) (Le L'):=Ap.seq Ap.A9 λo=>Ap.look λs=>Ap.ite Ap.A9 (Ap.ite Ap.A9 (aI h))
theorem aJ (h:Dz L L'):Ap (IU L) (IU L'):=Ap.seq Ap.A9 λo=>Ap.look λs=>Ap.ite Ap.A9 (h.list o)
theorem jK (h:Dz L L'):Ap (Nw L) (Nw L'):=Ap.look λs=>Ap.ite (Ap.ite (Ap.ite (dO h) (aJ h)) (Ap.ite Ap.A9 (Ap.ite (Ap.seq Ap.A9 λ_=>Ap.seq h.atom λ_=>Ap.A9)
 (Ap.seq Ap.A9 λn=>Ap.ite (Ap.look λs=>Ap.ite (Ap.seq Ap.A9 λ_=>Ap.seq h.atom λ_=>Ap.A9) Ap.A9) Ap.A9)))) Ap.A9
theorem aH (h:Dz L L'):Ap (Hi L n) (Hi L' n):=
 have U:∀l,Ap (MU L l) (MU L' l):=λl=>Ap.seq Ap.A9 λ_=>Ap.seq Ap.A9 λ_=>Ap.seq h.exp λ_=>Ap.A9
 Ap.seq Ap.A9 λ_=>Ap.seq (Ap.loop (λl=>Ap.look λs=>Ap.ite (Ap.ite (U l) Ap.A9) (U l)) _) λ_=>Ap.A9
theorem Lq (h:Dz L L'):Ap (KD L) (KD L'):=Ap.seq (jK h) λn=>Ap.loop (λn=>Ap.look λs=>Ap.ite (Ap.seq (aH h) λ_=>Ap.A9) Ap.A9) _
theorem dL (h:Ap A A') (k:Ap B B') (j:Ap C C') {o:Nd}:Ap (DP A B C o) (DP A' B' C' o):=Ap.seq (dP h) λp=>Ap.ite Ap.A9 (Ap.seq (TV k) λe=>
 Ap.seq (Ap.loop (λl=>Ap.look λs=>Ap.ite (Ap.seq Ap.A9 λ_=>Ap.seq j λ_=>Ap.A9) Ap.A9) _) λ_=>Ap.A9)
theorem TU (h:Ap A A'):Ap (EI A l) (EI A' l):=Ap.seq Ap.A9 λb=>Ap.seq h λt=>Ap.loop (λl=>Ap.look λs=>Ap.ite (Ap.seq Ap.A9 λ_=>Ap.seq h λ_=>Ap.A9) Ap.A9) _
theorem jM (h:Ap A A') (k:Ap B B') {o:Nd}:Ap (NJ A B o) (NJ A' B' o):=
 have U:∀l,Ap (RB A l) (RB A' l):=λl=>Ap.look λs=>Ap.ite (Ap.seq Ap.A9 λ_=>Ap.seq h λ_=>Ap.A9) Ap.A9
 Ap.seq h λe=>Ap.look λs=>Ap.ite (Ap.seq (TU k) λ_=>Ap.A9) (Ap.seq (Ap.loop (λl=>Ap.ite (Ap.look λs=>Ap.ite (Ap.seq Ap.A9 λ_=>Ap.look λs=>Ap.ite Ap.A9 (Ap.seq h λ_=>Ap.A9)) (U l)) (U l)) _) λ_=>Ap.A9)
theorem YZ (h:Ap A A'):Ap (O8 A n) (O8 A' n):=Ap.look λs=>Ap.ite (Ap.ite (Ap.seq Ap.A9 λ_=>Ap.seq h λ_=>Ap.A9) Ap.A9) Ap.A9
theorem jN (h:Dz L L') (k:Ap A A'):Ap (Qv L A) (Qv L' A'):=Ap.look λs=>Ap.ite (Ap.seq Ap.A9 λ_=>Ap.seq h.decls λ_=>Ap.look λs=>Ap.ite (Ap.seq (TT h) λ_=>YZ k) Ap.A9) (Ap.seq k λ_=>YZ k)
theorem dN (h:Dz L L') (k:Ap A A') (j:Ap B B') {m:List UInt8}:Ap (Vo L A B m) (Vo L' A' B' m):=
 have U:∀l,Ap (K5 A B m l) (K5 A' B' m l):=λl=>Ap.seq (TU j) λ_=>Ap.seq Ap.A9 λ_=>Ap.seq k λ_=>Ap.A9
 have hb:∀l,Ap (Yq L A B m l) (Yq L' A' B' m l):=λl=>Ap.seq (Ap.loop (λl=>Ap.ite (U l) (Ap.ite (Ap.look λs=>Ap.ite (U l) Ap.A9) Ap.A9)) _) λ_=>Ap.look λs=>Ap.ite (Ap.seq Ap.A9 λ_=>Ap.seq h.decls λ_=>Ap.A9) Ap.A9
 Ap.look λs=>Ap.ite (Ap.seq Ap.A9 λ_=>Ap.seq k λ_=>hb _) (Ap.ite (hb _) Ap.A9)
theorem ot (h:Dz L L') (i:Ap A A') (k:Ap B B') (j:Ap C C'):Ap (WU L A B C) (WU L' A' B' C'):=Ap.seq i λn=>Ap.ite (Ap.seq (dN h k j) λ_=>Ap.A9) Ap.A9
theorem dQ (h:Ap A A') (k:Ap B B'):Ap (Vz A B n) (Vz A' B' n):=Ap.ite (Ap.seq (Ap.loop (λl=>Ap.look λs=>Ap.ite (Ap.seq Ap.A9 λ_=>Ap.seq (Q7 h) λ_=>Ap.A9) Ap.A9) _) λ_=>Ap.seq Ap.A9 λ_=>Ap.seq k λ_=>Ap.A9) Ap.A9
theorem Sd (h:Dz L L') (i:Ap A A') (j:Ap B B') (k:Ap C C') (l:Ap D D') (m:Ap E E'):Ap (Pp L A B C D E) (Pp L' A' B' C' D' E'):=
 Ap.look λs=>Ap.ite Ap.A9 (Ap.seq j λn=>Ap.look λs=>Ap.ite (dQ i m) (Ap.ite (dQ i m) (Ap.ite (Ap.seq (dN h k l) λ_=>Ap.A9) Ap.A9)))
theorem Lr (h:Ap A A') {p:Tk->Bool}:Ap (Da p A) (Da p A'):=
 have hb:∀f l,Ap (MJ p A f l) (MJ p A' f l):=λf l=>Ap.seq Ap.A9 λ_=>Ap.look λs=>Ap.seq Ap.A9 λe=>Ap.ite Ap.A9 (Ap.seq h λn=>Ap.A9)
 Ap.look λs=>Ap.ite (Ap.seq Ap.A9 λ_=>Ap.seq (Ap.loop (hb _) _) λ_=>Ap.A9) (Ap.seq Ap.A9 λ_=>Ap.seq (Ap.loop (hb _) _) λ_=>Ap.A9)
theorem KX (h:Dz L L'):Ap (Yf L) (Yf L'):=WW h (Lq h)
theorem G6 (f:Ap A A') (h:Dz L L'):Ap (N5 A L) (N5 A' L'):=ou (KX h) f
theorem HG (f:Ap A A') (h:Dz L L'):Ap (KQ A L) (KQ A' L'):=jN h (G6 f h)
theorem qj (f:Ap A A') (h:Dz L L'):Dz (rl A L) (rl A' L') where
 atom:=Lq h
 exp:=G6 f h
 ops:=MD (KX h)
 decls:=Lr (Sd h (Lq h) (MD (KX h)) (G6 f h) (HG f h) f)
 stmts:=Lr (HG f h)
 alts:=Lr (ot h (MD (KX h)) (G6 f h) (HG f h))
 Fo:=λo=>dL (KX h) f (G6 f h)
 list:=λo=>jM (G6 f h) (HG f h)
theorem Oi {X:Ag->Rs} {h:∀s v s',X s=.inr (v,s')->mu s'<=mu s} {h':∀s v s',Y s=.inr (v,s')->mu s'<=mu s} (hX:El X) (hY:El Y) (k:∀s,CU (X s) (Y s)):Ap (HB X h) (HB Y h'):=λs=>by
 rcases k s with ⟨t,e⟩|e
 .left;exact ⟨_,t,JN hX e,rfl⟩
 .right
  cases U:X s with
  |inl p=>obtain ⟨x,t⟩:=p;rw [U] at e;exact (JN hY e).trans (JN hX U).symm
  |inr p=>rw [U] at e;exact (Md e).trans (Md U).symm
theorem Oh {d':Nat} (h:d<=d'):Ap (CT d) (CT d'):=
 Oi (J3 (Cq (B9 _))) (J3 (Cq (B9 _))) (T8 (FU (Jx (d - 1) (d' - 1) AC)))
theorem XZ:∀{d d':Nat},d<=d'->Dz (IA d) (IA d')
 |0,d',_=>⟨Ap.deep,Ap.deep,Ap.deep,Ap.deep,Ap.deep,Ap.deep,λ_=>Ap.deep,λ_=>Ap.deep⟩
 |d+1,d'+1,h=>qj (Oh AC) (XZ AC)
end
end Go.Proofs.Z
