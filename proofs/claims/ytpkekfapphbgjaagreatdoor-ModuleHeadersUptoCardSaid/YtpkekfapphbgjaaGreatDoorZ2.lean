/-
  Parts of a proof: lemmas that the last text uses.
-/
import Derived.Test.YtpkekfapphbgjaaGreatDoorZ1
import Derived.IntWalk
import Derived.Shelf.Strings.Builder1
import Derived.Shelf.Strings.Builder2
import Derived.Shelf.Strings.OnBuilder
import Derived.Shelf.Strings.Trim
import Derived.Shelf.Small.Utf8
import Derived.Shelf.Small.Strs
import Derived.Shelf.Strings.Search1
import Derived.Shelf.Strings.Search2
import Derived.Shelf.Strings.Search3
import Derived.Shelf.LaysM
import Derived.Shelf.Strings.Shaped
import Derived.Shelf.GgClosure.StringsIndexFunc
import Derived.Ground.GgwProg
import Derived.Shelf.GgClosure.StringsIndexFuncTop
import Derived.Shelf.GgClosure.StringsRunes
import Derived.Shelf.Strings.Prefix
import Derived.Shelf.Strings.Fields
import Derived.Shelf.Strings.SplitShaped
import Derived.Shelf.Unicode.Latin
import Derived.Shelf.Unicode.Decode
import Derived.Shelf.Strings.Runes
import Derived.Shelf.Strings.AsciiSet
import Derived.Shelf.Unicode.DecodeSlow
import Derived.Shelf.Unicode.DecodeAny
import Derived.Shelf.Unicode.Is16White
import Derived.Shelf.Unicode.IsSpaceAny
import Derived.Shelf.Unicode.DecodeLast
import Derived.Shelf.Unicode.Is16Any
import Derived.Shelf.Unicode.Is32Any
import Derived.Shelf.Unicode.ExclAny
import Derived.Shelf.Strings.FuncGrows
import Derived.Shelf.Slices.Turned
import Derived.Ground.Names2Prog
import Derived.Shelf.Slices.Clone
import Derived.Ground.SlgnProg
import Derived.Shelf.SlicesE.Clone
import Derived.Test.YtpkekfapphbgjaaGreatDoorProg
import Derived.Below
set_option linter.unusedVariables false
set_option linter.unusedSimpArgs false
set_option maxHeartbeats 16000000
variable {k i base:Int} {x s t o w r:List UInt8} {l new:List Go.Aw.Nd} {n:Go.Aw.Nd} {Y:Go.Proofs.Z.Ae->Go.Proofs.Z.Rs} {s':Go.Proofs.Z.Ae} {m b d c pos j:Nat} {K R:Go.Aw.AB->Go.Aw.St->Prop} {f:Go.FuncId} {cs args:List Go.Aw.V} {p:Go.Aw.Nd->Bool} {ks kinds:List Int} {I:Go.Aw.Mem} {P B:Prop} {ih:(Go.Aw.AF->Go.Aw.Env->Go.Aw.St->Prop)->Go.Aw.Env->Go.Aw.St->Prop} {Q:Go.Aw.AF->Go.Aw.Env->Go.Aw.St->Prop} {env:Go.Aw.Env} {α β:Type} {mk:Nat->List Go.Aw.V} {st0:Go.Aw.St} {rows:List (Go.Aw.AH×List Go.Aw.Nd)}
namespace Go.Proofs.Z
open Go Go.Aw
abbrev Ls:=Sum (Int×Ae) (List Nd×Ae)
def Db (s:Ae):Rs:=if (Ab s).2.2=0 then .inr (Be (Ab s).1,(Ab s).2.1) else .inl ((Ab s).2.2,s)
def gI (s:Ae):Rs:=.inl (Vh s,s)
def KA (s:Ae) (k:Int) (x:List UInt8):Rs:=if AZ s k x then Db s else gI s
def B1 (t:Tk):Bool:=t.kind==2||t.kind==4||t.kind==1||(t.kind==15&&(t.text==[40]||t.text==[91]))
def As (k:Int) (l:List Nd):Nd:=.mk k 0 [] 0 0 l
def Gc (A:Ae->Rs) (l:List Nd) (s:Ae):Ls:=
 if B1 (Ab s).1 then match A s with
  | .inl e=>.inl e
  | .inr p=>if mu p.2<mu s then Gc A (l++[p.1]) p.2 else .inl (2,s)
 else .inr (l,s)
termination_by mu s
def Gd (A:Ae->Rs) (s:Ae):Rs:=
 match A s with
 | .inl e=>.inl e
 | .inr p=>match Gc A [p.1] p.2 with
   | .inl e=>.inl e
   | .inr q=>if q.1.length=1 then .inr (p.1,q.2) else .inr (As 39 q.1,q.2)
def Gx (A:Ae->Rs) (l:List Nd) (s:Ae):Ls:=
 if AZ s 10 [45,62] then match Gd A (Ab s).2.1 with
  | .inl e=>.inl e
  | .inr p=>if mu p.2<mu s then Gx A (l++[Be (Ab s).1,p.1]) p.2 else .inl (2,s)
 else .inr (l,s)
termination_by mu s
def Dt (A:Ae->Rs) (n:Nd) (s:Ae):Rs:=
 match Gx A [n] s with
 | .inl e=>.inl e
 | .inr q=>if q.1.length=1 then .inr (n,q.2) else .inr (As 37 q.1,q.2)
def DC (A:Ae->Rs) (s:Ae):Rs:=
 match Gd A s with
 | .inl e=>.inl e
 | .inr p=>Dt A p.1 p.2
def F5 (A:Ae->Rs) (s:Ae):Rs:=
 match Gd A s with
 | .inl e=>.inl e
 | .inr p=>if AZ p.2 10 [61,62] then match DC A (Ab p.2).2.1 with
    | .inl e=>.inl e
    | .inr q=>.inr (As 38 [p.1,Be (Ab p.2).1,q.1],q.2)
   else Dt A p.1 p.2
def CE (Y:Ae->Rs) (l:List Nd) (s:Ae):Ls:=
 if AZ s 15 [44] then match Y (Ab s).2.1 with
  | .inl e=>.inl e
  | .inr p=>if mu p.2<mu s then CE Y (l++[Be (Ab s).1,p.1]) p.2 else .inl (2,s)
 else .inr (l,s)
termination_by mu s
def Cs (l:List Nd) (s:Ae):List Nd×Ae:=
 if AZ s 15 [44] then if mu (Ab s).2.1<mu s then Cs (l++[Be (Ab s).1]) (Ab s).2.1 else (l,s) else (l,s)
termination_by mu s
def Hv (k:Int) (l:List Nd) (s:Ae) (x:List UInt8):Rs:=match KA s 15 x with
 | .inl e=>.inl e
 | .inr p=>.inr (As k (l++[p.1]),p.2)
def Fg (Y:Ae->Rs) (s:Ae):Rs:=
 match Db s with
 | .inl e=>.inl e
 | .inr p=>
   if AZ p.2 10 [45,62] then Hv 3 [p.1,Be (Ab p.2).1] (Ab p.2).2.1 [41]
   else if AZ p.2 15 [41] then Hv 3 [p.1] p.2 [41]
   else if AZ p.2 15 [44] then Hv 3 (Cs [p.1] p.2).1 (Cs [p.1] p.2).2 [41]
   else match Y p.2 with
    | .inl e=>.inl e
    | .inr q=>match CE Y [p.1,q.1] q.2 with
      | .inl e=>.inl e
      | .inr r=>Hv (if 2<r.1.length then 5 else 4) r.1 r.2 [41]
def DY (Y:Ae->Rs) (s:Ae):Rs:=
 match Db s with
 | .inl e=>.inl e
 | .inr p=>
   if AZ p.2 15 [93] then .inr (As 3 [p.1,Be (Ab p.2).1],(Ab p.2).2.1)
   else match Y p.2 with
    | .inl e=>.inl e
    | .inr q=>Hv 6 [p.1,q.1] q.2 [93]
def Dl (Y:Ae->Rs) (s:Ae):Rs:=
 if B1 (Ab s).1 then if (Ab s).1.kind=15 then if (Ab s).1.text=[40] then Fg Y s else DY Y s else Db s else gI s
def DU:Nat->Ae->Rs
 |0,s=>.inl (2,s)
 |d+1,s=>DC (Dl (DU d)) s
def Fh (A:Ae->Rs):Prop:=∀s e s',A s=.inl (e,s')->e≠0
def A4 (A:Ae->Rs):Prop:=∀s n s',A s=.inr (n,s')->mu s'<mu s
theorem Vi (s:Ae):Vh s≠0:=by
 unfold Vh
 omega
theorem Jh:Fh Db:=λs e s' h=>by
 unfold Db at h
 grind
theorem XV:Fh gI:=λs e s' h=>by unfold gI at h;cases h;exact Vi s
theorem gJ:Fh (λs=>KA s k x):=λs e s' h=>by
 unfold KA at h
 dsimp only at h
 split at h
 .exact Jh _ _ _ h
 .exact XV _ _ _ h
theorem KF:Fh (λs=>Hv k l s x):=λs e s' h=>by
 unfold Hv at h
 dsimp only at h
 split at h
 .rename_i U hw
  cases h
  exact gJ _ _ _ hw
 grind
theorem pD {A:Ae->Rs} (hA:Fh A) (l:List Nd) (s:Ae):∀e s',Gc A l s=.inl (e,s')->e≠0:=by
 fun_induction Gc A l s with
 |case1 l s U e1 h2=>intro e s' h;cases h;exact hA _ _ _ h2
 |case2 l s U p h2 h3 ih=>exact ih
 |case3 l s U p h2 h3=>simp_all
 |case4 l s U=>simp_all
theorem Nc {A:Ae->Rs} (hA:Fh A):Fh (Gd A):=λs e s' h=>by
 unfold Gd at h
 split at h
 .rename_i U;cases h;exact hA _ _ _ U
 .split at h
  .rename_i U;cases h;exact pD hA _ _ _ _ U
  grind
theorem lq {A:Ae->Rs} (hA:Fh A) (l:List Nd) (s:Ae):∀e s',Gx A l s=.inl (e,s')->e≠0:=by
 fun_induction Gx A l s with
 |case1 l s U e1 h2=>intro e s' h;cases h;exact Nc hA _ _ _ h2
 |case2 l s U p h2 h3 ih=>exact ih
 |case3 l s U p h2 h3=>simp_all
 |case4 l s U=>simp_all
theorem Pq {A:Ae->Rs} (hA:Fh A):Fh (Dt A n):=λs e s' h=>by
 unfold Dt at h
 split at h
 .rename_i U;cases h;exact lq hA _ _ _ _ U
 grind
theorem MB {A:Ae->Rs} (U:Fh A):Fh (DC A):=λs e s' h=>by
 unfold DC at h
 split at h
 .rename_i h1;cases h;exact Nc U _ _ _ h1
 .exact Pq U _ _ _ h
theorem T3 {A:Ae->Rs} (hA:Fh A):Fh (F5 A):=λs e s' h=>by
 unfold F5 at h
 split at h
 .rename_i U;cases h;exact Nc hA _ _ _ U
 .split at h
  .split at h
   .rename_i U;cases h;exact MB hA _ _ _ U
   grind
  .exact Pq hA _ _ _ h
theorem dz (hY:Fh Y) (l:List Nd) (s:Ae):∀e s',CE Y l s=.inl (e,s')->e≠0:=by
 fun_induction CE Y l s with
 |case1 l s U e1 h2=>intro e s' h;cases h;exact hY _ _ _ h2
 |case2 l s U p h2 h3 ih=>exact ih
 |case3 l s U p h2 h3=>simp_all
 |case4 l s U=>simp_all
theorem aZ (hY:Fh Y):Fh (Fg Y):=λs e s' h=>by
 unfold Fg at h
 split at h
 .rename_i U;cases h;exact Jh _ _ _ U
 .split at h
  .exact KF _ _ _ h
  .split at h
   .exact KF _ _ _ h
   .split at h
    .exact KF _ _ _ h
    .split at h
     .rename_i U;cases h;exact hY _ _ _ U
     .split at h
      .rename_i U;cases h;exact dz hY _ _ _ _ U
      .exact KF _ _ _ h
theorem XW (hY:Fh Y):Fh (DY Y):=λs e s' h=>by
 unfold DY at h
 split at h
 .rename_i U;cases h;exact Jh _ _ _ U
 .split at h
  .cases h
  .split at h
   .rename_i U;cases h;exact hY _ _ _ U
   .exact KF _ _ _ h
theorem HL (U:Fh Y):Fh (Dl Y):=λs e s' h=>by
 unfold Dl at h
 split at h
 .split at h
  .split at h
   .exact aZ U _ _ _ h
   .exact XW U _ _ _ h
  .exact Jh _ _ _ h
 .exact XV _ _ _ h
theorem FK:∀d,Fh (DU d)
 |0=>λs e s' h=>by cases h;decide
 |d+1=>MB (HL (FK d))
theorem QS {s:Ae} (h:Db s=.inr (n,s')):mu s'<=mu s/\((Ab s).1.kind≠21->mu s'<mu s):=by
 unfold Db at h
 split at h
 .rename_i e;cases h;exact EY e
 grind
theorem vv {s:Ae} (hk:k≠0) (U:k≠21) (h:KA s k x=.inr (n,s')):mu s'<mu s:=by
 unfold KA at h
 split at h
 .rename_i e
  unfold Db at h
  rw [if_pos (Ev e hk)] at h
  cases h
  exact C8 e hk U
 .cases h
theorem EJ {s:Ae} (h:Hv k l s x=.inr (n,s')):mu s'<mu s:=by
 unfold Hv at h
 split at h
 .cases h
 .rename_i U;cases h;exact vv Do Do U
theorem L0 {s:Ae} (U:B1 (Ab s).1=true) (h:Db s=.inr (n,s')):mu s'<mu s:=by
 refine (QS h).2 λe=>?_
 unfold B1 at U
 simp_all
theorem Xg {A:Ae->Rs} (l:List Nd) (s:Ae):∀q s',Gc A l s=.inr (q,s')->mu s'<=mu s:=by
 fun_induction Gc A l s with
 |case1 l s U e1 h2=>simp_all
 |case2 l s U p h2 h3 ih=>grind
 |case3 l s U p h2 h3=>simp_all
 |case4 l s U=>simp_all
theorem FN {A:Ae->Rs} (hA:A4 A):A4 (Gd A):=λs n s' h=>by
 unfold Gd at h
 split at h
 .cases h
 .rename_i U
  have:=hA _ _ _ U
  split at h
  .cases h
  .rename_i h2
   have:=Xg _ _ _ _ h2
   grind
theorem dP {A:Ae->Rs} (l:List Nd) (s:Ae):∀q s',Gx A l s=.inr (q,s')->mu s'<=mu s:=by
 fun_induction Gx A l s with
 |case1 l s U e1 h2=>simp_all
 |case2 l s U p h2 h3 ih=>grind
 |case3 l s U p h2 h3=>simp_all
 |case4 l s U=>simp_all
theorem Ln {A:Ae->Rs} {m:Nd} {s:Ae} (h:Dt A n s=.inr (m,s')):mu s'<=mu s:=by
 unfold Dt at h
 split at h
 .cases h
 .rename_i U
  have:=dP _ _ _ _ U
  grind
theorem EI {A:Ae->Rs} (hA:A4 A):A4 (DC A):=λs n s' h=>by
 unfold DC at h
 split at h
 .cases h
 .rename_i U
  have:=FN hA _ _ _ U
  have:=Ln h
  omega
theorem JL (l:List Nd) (s:Ae):∀q s',CE Y l s=.inr (q,s')->mu s'<=mu s:=by
 fun_induction CE Y l s with
 |case1 l s U e1 h2=>simp_all
 |case2 l s U p h2 h3 ih=>grind
 |case3 l s U p h2 h3=>simp_all
 |case4 l s U=>simp_all
theorem Lq (l:List Nd) (s:Ae):mu (Cs l s).2<=mu s:=by
 fun_induction Cs l s with
 |case1 l s U h2 ih=>omega
 |case2 l s U h2=>simp_all
 |case3 l s U=>simp_all
theorem Zw (hY:A4 Y) {s:Ae} (hs:B1 (Ab s).1=true) (h:Fg Y s=.inr (n,s')):mu s'<mu s:=by
 unfold Fg at h
 split at h
 .cases h
 .rename_i h1
  have:=L0 hs h1
  split at h
  .rename_i U
   have:=C8 U Do Do
   have:=EJ h
   omega
  .split at h
   .have:=EJ h;omega
   .split at h
    .have:=EJ h
     have:=Lq [‹Nd×Ae›.1] ‹Nd×Ae›.2
     omega
    .split at h
     .cases h
     .rename_i U
      have:=hY _ _ _ U
      split at h
      .cases h
      .rename_i h3
       have:=JL _ _ _ _ h3
       have:=EJ h
       omega
theorem jL (hY:A4 Y) {s:Ae} (hs:B1 (Ab s).1=true) (h:DY Y s=.inr (n,s')):mu s'<mu s:=by
 unfold DY at h
 split at h
 .cases h
 .rename_i h1
  have:=L0 hs h1
  split at h
  .rename_i U
   have:=C8 U Do Do
   grind
  .split at h
   .cases h
   .rename_i U
    have:=hY _ _ _ U
    have:=EJ h
    omega
theorem BK (hY:A4 Y):A4 (Dl Y):=λs n s' h=>by
 unfold Dl at h
 split at h
 .rename_i U
  split at h
  .split at h
   .exact Zw hY U h
   .exact jL hY U h
  .exact L0 U h
 .cases h
theorem Bo:∀d,A4 (DU d)
 |0=>λs n s' h=>by cases h
 |d+1=>EI (BK (Bo d))
theorem Eo {st:St} {q:Rs} (h:∀n s',q=.inr (n,s')->∀st',Io st st' b s'->K (.ret (enc n)) st') (k:∀e s',q=.inl (e,s')->∀st',Io st st' b s'->K (.Cd (fault e)) st'):Fj st b K q:=by
 match q with
 | .inr (n,s')=>exact h n s' rfl
 | .inl (e,s')=>exact k e s' rfl
theorem Has.hw {st:St} {s:Ae} (h:Has st b s) (own:AH) (n:Nat):Has (own.st st n) b s:=by
 cases own with
 |any=>exact h
 |full=>exact h
 |tok t=>exact h
theorem gx {own:AH} {st st':St} {n:Nat} {s:Ae} (hg:own.BS st) (hh:Has st b s) (hu:Io (own.st st n) st' b s'):∃U,st'=own.st U n/\Io st U b s'/\own.BS U:=by
 obtain ⟨h1,cs,e⟩:=hu
 cases own with
 |any=>exact hg.elim
 |full=>exact ⟨st',rfl,⟨h1,cs,e⟩,trivial⟩
 |tok t=>
  refine ⟨st.Aa b cs,e,⟨?_,cs,rfl⟩,?_,?_⟩
  .rw [e] at h1;exact h1
  .have:b≠t:=by
    rintro rfl
    have h2:st.box b=none:=hg.1
    rcases hh with k|⟨_,_,_,_,_,k⟩<;>(rw [h2] at k;cases k)
   rw [St.Ai this];exact hg.1
  .exact hg.2
def ld (own:AH) (n:Nat) (st:St) (b:Nat) (R:AB->St->Prop):Rs->Prop
 | .inr (x,s')=>∀st',Io st st' b s'->own.BS st'->R (.ret (enc x)) (own.st st' n)
 | .inl (e,s')=>∀st',Io st st' b s'->own.BS st'->R (.Cd (fault e)) (own.st st' n)
theorem FW {own:AH} {n:Nat} {st:St} {s:Ae} {q:Rs} (hg:own.BS st) (hh:Has st b s) (h:ld own n st b R q):Fj (own.st st n) b R q:=by
 refine Eo (λx s' e st' hu=>?_) (λx s' e st' hu=>?_)
 .obtain ⟨U,rfl,h2,h3⟩:=gx hg hh hu
  subst e
  exact h U h2 h3
 .obtain ⟨U,rfl,h2,h3⟩:=gx hg hh hu
  subst e
  exact h U h2 h3
section
variable {st:St} {R:AB->St->Prop}
attribute [local irreducible] Go.Aw.Am
theorem Z2 {t:Tk} (h:R (.ret (.bool (B1 t))) st):PC 391 [F1 t] st R:=by
 refine pB Tryz.func391 ?_
 repeat' ((conv=>whnf);first|(refine Br ?_;intros)|(refine Bs ?_ ?_<;>intro _)|fail)
 all_goals conv=>whnf
 all_goals (refine Av h ?_;clear h;simp_all [B1])
def DR (f:FuncId) (d:Int) (A:Ae->Rs):Prop:=∀s,mu s<=100000000->Reads f s d (A s)
theorem FH {s:Ae} (h:mu s<=100000000):s.DE.length<=500000000:=by have:=xW s;omega
theorem Gi {s:Ae} (U:Has st b s) (hb:s.DE.length<=500000000) (h:Fj st b R (Db s)):PC 150 [.ptr b 0] st R:=by
 unfold Db at h
 refine MZ U hb (λe=>?_) (λe=>?_)
 .rw [if_pos e] at h;exact h
 .rw [if_neg e] at h;exact h _ A3
theorem yU {s:Ae} (U:Has st b s) (hb:s.DE.length<=500000000) (h:∀st',Io st st' b s->R (.Cd (fault (Vh s))) st'):PC 113 [.ptr b 0] st R:=lx U hb (h _ A3)
theorem Tv {s:Ae} (hs:Has st b s) (hb:s.DE.length<=500000000) (h:Fj st b R (KA s k x)):PC 153 [.ptr b 0,.int .i64 k,.str x] st R:=by
 unfold KA Db at h
 refine q6 hs hb (λU e2=>?_) (λU e2=>?_) (λU=>?_)
 .rw [if_pos U,if_pos e2] at h;exact h
 .rw [if_pos U,if_neg e2] at h;exact h _ A3
 .rw [if_neg (by rw [U];decide)] at h;exact h _ A3
theorem wP {d:Int} (hr:DR 410 d (Fg Y)) (hsq:DR 411 d (DY Y)):DR 390 d (Dl Y):=by
 intro s hm b st R hs h
 refine pB Tryz.func390 ?_
 have hb:=FH hm
 have hl:Has (st.Aa b (Dg s)) b s:=.inl (St.Aj ..)
 unfold Dl at h
 repeat' ((conv=>whnf);first|(refine Br ?_;intros)|(refine Bs ?_ ?_<;>intro _)|refine Hk hs hb ?_|refine Z2 ?_|refine Gi hl hb (Eo (λn s' hq st' U=>?_) (λe s' hq st' U=>?_))|refine yU hl hb (λst' U=>?_)|refine hr s hm b _ _ hl (Eo (λn s' hq st' U=>?_) (λe s' hq st' U=>?_))|refine hsq s hm b _ _ hl (Eo (λn s' hq st' U=>?_) (λe s' hq st' U=>?_)))
 all_goals repeat (first|rw [if_pos ‹_›] at h|rw [if_neg ‹_›] at h|rw [if_neg (Bool.eq_false_iff.1 ‹_›)] at h)
 all_goals first
  |exact fin (h st' (A3.trans U)) rfl
  |(rw [hq] at h;exact BR rfl (h st' (A3.trans U)))
  |(rw [hq] at h;exact fin (h st' (A3.trans U)) rfl)
 all_goals trace_state
end
theorem T1 {own:AH} {st:St} {K:V->St->Prop} (h:own.BS st) (hb:l.length+new.length<=1000000000)
 (k:∀U:AH,U.BS st->K (.slice 6 (CR (l++new)) U) (U.st st ((l++new).length*6))):Am 6 72 (CR l) own (CR new) (own.st st (l.length*6)) K:=by
 have hw:(CR new).map (·.map V.KD)=CR new:=by
  rw [B9,List.map_map]
  refine List.map_congr_left λx _=>?_
  rfl
 have hsc:((CR new).all λv=>v.all V.sc)=true:=by
  rw [B9,List.all_map,List.all_eq_true]
  intro x _
  rfl
 have:=FZ (sz:=6) (bytes:=72) (es:=CR l) (new:=CR new) (K:=K) h (by rw [De,De];omega) (by rw [De,De];simp only [D7];omega) hsc (λU ho=>by
  have:=k U ho
  rw [De,De,hw,<-Yd,<-List.length_append]
  omega)
 rw [De] at this
 omega
theorem Ou {x:Nd} {own:AH} {st:St} {K:V->St->Prop} (h:own.BS st) (hb:l.length+1<=1000000000)
 (k:∀U:AH,U.BS st->K (.slice 6 (CR (l++[x])) U) (U.st st ((l++[x]).length*6))):Am 6 72 (CR l) own [AP x] (own.st st (l.length*6)) K:=by
 have:=T1 (l:=l) (new:=[x]) h hb k
 rw [B9 [x]] at this
 grind
theorem dN {x:Nd} {own:AH} {st:St} {K:V->St->Prop} (h:own.BS st) (hb:l.length+1<=1000000000)
 (k:∀U:AH,U.BS st->K (.slice 6 (CR (l++[x])) U) (U.st st ((l++[x]).length*6))):Am 6 72 (l.map AP) own [AP x] (own.st st (l.length*6)) K:=by
 rw [<-B9]
 exact Ou h hb k
theorem UE {K:Int->Prop} (h:d<=1000000) (k:K (d:Int)):∃r,r=IntKind.i64.wrap (((d+1:Nat):Int) - 1)/\K r:=by
 refine ⟨d,?_,k⟩
 rw [show ((d+1:Nat):Int) - 1=(d:Int) by omega,L6 AC AC]
section
variable {st:St} {R:AB->St->Prop}
attribute [local irreducible] Go.Aw.Am
theorem XD {q:Rs} {x:Int} (e:q=.inl (x,s')) (h:∀st',Io st st' b s'->K (.Cd (fault x)) st'):Fj st b K q:=by subst e;exact h
theorem GP {own:AH} {st:St} {q:Rs} (h:∀n s',q=.inr (n,s')->∀st',Io st st' b s'->own.BS st'->K (.ret (enc n)) (own.st st' m)) (k:∀e s',q=.inl (e,s')->∀st',Io st st' b s'->own.BS st'->K (.Cd (fault e)) (own.st st' m)):ld own m st b K q:=by
 match q with
 | .inr (n,s')=>exact h n s' rfl
 | .inl (e,s')=>exact k e s' rfl
theorem HH {q:Rs} {x:Nd} (e:q=.inr (x,s')) (h:∀st',Io st st' b s'->K (.ret (enc x)) st'):Fj st b K q:=by subst e;exact h
def DQ (f:FuncId) (d:Int) (A:Ae->Rs):Prop:=∀s,mu s<=100000000->∀(st:St) (R:AB->St->Prop),R (.ret (Kt (BV s d (A s)))) st->PC f [D4 s,.int .i64 d] st R
theorem xq {A:Ae->Rs} (hf:DQ f d A) (h0:d=0->∀s,A s=.inl (2,s)) (hA:Fh A) {s:Ae} (hm:mu s<=100000000) (hs:Has st b s) (h:Fj st b R (A s)):
 PC 110 [.ptr b 0,.func f [] [],.int .i64 d] st R:=by
 by_cases hd:(d:Int)<1
 .have hz:d=0:=AC
  rw [h0 hz s] at h
  refine RV (n:=Gj) (s':=s) (e:=2) (λst R k=>hf s hm st R ?_) hs (λe=>by cases e) (λ_=>h)
  unfold BV;rw [if_pos hd];exact k
 .cases U:A s with
  |inr p=>
   rw [U] at h
   refine RV (n:=p.1) (s':=p.2) (e:=0) (λst R k=>hf s hm st R ?_) hs (λ_=>h) (λe=>absurd rfl e)
   unfold BV;rw [if_neg hd,U];exact k
  |inl p=>
   rw [U] at h
   have hne:=hA s p.1 p.2 U
   refine RV (n:=Gj) (s':=p.2) (e:=p.1) (λst R k=>hf s hm st R ?_) hs (λe=>absurd e hne) (λ_=>h)
   unfold BV;rw [if_neg hd,U];exact k
theorem RX {x:Int} {A:Ae->Rs} (hx:x=(d:Int)) (hf:DQ f d A) (U:d=0->∀s,A s=.inl (2,s)) (hA:Fh A) {s:Ae} (hm:mu s<=100000000) (hs:Has st b s) (h:Fj st b R (A s)):
 PC 110 [.ptr b 0,.func f [] [],.int .i64 x] st R:=by subst hx;exact xq hf U hA hm hs h
theorem p4 (hd:d<=1000000) (hY:DQ 318 d Y) (h0:d=0->∀s,Y s=.inl (2,s)) (hB:Fh Y) (hF:A4 Y):DR 411 ((d+1:Nat):Int) (DY Y):=by
 intro s hm b st R hs h
 refine pB Tryz.func411 ?_
 have hb:=FH hm
 unfold DY at h
 cases U:Db s with
 |inl q=>
  rw [U] at h
  obtain ⟨e,s'⟩:=q
  repeat' ((conv=>whnf);first|(refine Br ?_;intros)|(refine Bs ?_ ?_<;>intro _)|refine Gi hs hb (XD U (λst1 h1=>?_)))
  all_goals exact fin (h st1 h1) rfl
 |inr q=>
  obtain ⟨n1,s1⟩:=q
  rw [U] at h
  have hm1:mu s1<=100000000:=by have:=(QS U).1;omega
  have hb1:=FH hm1
  repeat' ((conv=>whnf);first|(refine Br ?_;intros)|(refine Bs ?_ ?_<;>intro _)|refine Gi hs hb (HH U (λst1 h1=>?_))|refine bW h1.1 hb1 ?_)
  .have hp:AZ s1 15 [93]=true:=FS
   have hl1:Has (st1.Aa b (Dg s1)) b s1:=.inl (St.Aj ..)
   have hq2:Db s1=.inr (Be (Ab s1).1,(Ab s1).2.1):=by unfold Db;rw [if_pos (Ev hp Do)]
   dsimp only at h
   rw [if_pos hp] at h
   have hn1:[n1].length+1<=1000000000:=by show 1+1<=1000000000;decide
   repeat' ((conv=>whnf);first|(refine Br ?_;intros)|(refine Bs ?_ ?_<;>intro _)|refine Gi hl1 hb1 (HH hq2 (λst2 h2=>?_))|refine dN (l:=[n1]) (x:=Be (Ab s1).1) (own:=.full) trivial hn1 (λown1 ho1=>?_))
   all_goals exact EV (AH.BZ ho1) rfl (h st2 (h1.trans (A3.trans h2)))
  .have hp:AZ s1 15 [93]=false:=FS
   have hl1:Has (st1.Aa b (Dg s1)) b s1:=.inl (St.Aj ..)
   dsimp only at h
   rw [if_neg ke] at h
   have hn1:[n1].length+1<=1000000000:=by show 1+1<=1000000000;decide
   have hn2:∀n2:Nd,([n1]++[n2]).length+1<=1000000000:=λ_=>by simp_all
   repeat' ((conv=>whnf);first|(refine Br ?_;intros)|(refine Bs ?_ ?_<;>intro _)|refine RX AC hY h0 hB hm1 hl1 (Eo (λn2 s2 hq2 st2 h2=>?_) (λe2 s2 hq2 st2 h2=>?_))|refine dN (l:=[n1]) (x:=n2) (own:=.full) trivial hn1 (λown1 ho1=>?_)|refine Tv (h2.1.hw own1 _) (FH (Nat.le_trans (Nat.le_of_lt (hF _ _ _ hq2)) hm1)) (FW ho1 h2.1 (GP (λn3 s3 hq3 st3 h3 hg3=>?_) (λe3 s3 hq3 st3 h3 hg3=>?_)))|refine Ou (l:=[n1]++[n2]) (x:=n3) hg3 (hn2 n2) (λown2 ho2=>?_))
   all_goals rw [hq2] at h
   .unfold Hv at h
    dsimp only at h
    rw [hq3] at h
    exact EV (AH.BZ ho2) rfl (h st3 (((h1.trans A3).trans h2).trans h3))
   .unfold Hv at h
    dsimp only at h
    rw [hq3] at h
    exact EV (AH.BZ hg3) rfl (h st3 (((h1.trans A3).trans h2).trans h3))
   .exact fin (h st2 ((h1.trans A3).trans h2)) rfl
end
theorem Pp {x:Nd} {own:AH} {st:St} {K:V->St->Prop} (h:own.BS st) (hb:l.length+1<=1000000000)
 (k:∀U:AH,U.BS st->K (.slice 6 ((l++[x]).map AP) U) (U.st st ((l++[x]).length*6))):Am 6 72 (l.map AP) own [AP x] (own.st st (l.length*6)) K:=by
 rw [<-B9]
 exact Ou h hb (by simpa only [B9] using k)
theorem Cn {own:AH}:AB.ret (enc (As k l))=(AB.ret (.agg [.int .i64 k,.int .i64 0,.str [],.int .i64 0,.int .i64 0,.slice 6 (l.map AP) own])).wk:=by
 rw [<-B9];rfl
theorem fP {A:Ae->Rs} {s:Ae} (h:B1 (Ab s).1=true) (U:A s=.inr (n,s')) (hm:mu s'<mu s):Gc A l s=Gc A (l++[n]) s':=by
 rw [Gc,if_pos h,U]
 dsimp only
 rw [if_pos hm]
section
variable {st:St} {R:AB->St->Prop}
attribute [local irreducible] Go.Aw.Am
theorem Ci {K:Nat->Prop} (k:l.length<4611686018427387904->K l.length):∀m,m=(l.map AP).length->m<D7->K m:=λm U h=>by
 rw [List.length_map] at U;subst U;exact k h
theorem W4 {own:AH} {st:St} {n:Nat}:(own.st st n).Aa b cs=own.st (st.Aa b cs) n:=by cases own<;>rfl
theorem xX {own:AH} {n:Nat} {s:Ae} (hg:own.BS st) (U:Has st b s) (hb:s.DE.length<=500000000) (h:R (.ret (F1 (Ab s).1)) (own.st (st.Aa b (Dg s)) n)):PC 112 [.ptr b 0] (own.st st n) R:=
 Hk (U.hw own n) hb (by rw [W4];exact h)
theorem Jo {own:AH} {s:Ae} (U:own.BS st) (hs:Has st b s):own.BS (st.Aa b cs):=by
 cases own with
 |any=>exact U
 |full=>trivial
 |tok t=>
  have:b≠t:=by
   rintro rfl
   have h2:st.box b=none:=U.1
   rcases hs with k|⟨_,_,_,_,_,k⟩<;>(rw [h2] at k;cases k)
  exact ⟨by rw [St.Ai this];exact U.1,U.2⟩
theorem xV {n1:Nd} {K:List V->Prop} (h:l.length=Int.toNat 1) (j:l.length=1->l=[n1]) (k:K (AP n1)):(0:Int)<=0/\∃e,(l.map AP)[Int.toNat 0]? =some e/\K e:=
 ⟨Int.le_refl _,AP n1,by rw [j h];rfl,k⟩
theorem yi {d:Int} {A:Ae->Rs} (ha:DR 390 d A) (hF:A4 A):DR 357 d (Gd A):=by
 intro s hm b st R hs h
 refine pB Tryz.func357 ?_
 unfold Gd at h
 cases U:A s with
 |inl q=>
  obtain ⟨e,s1⟩:=q
  rw [U] at h
  repeat' ((conv=>whnf);first|(refine Br ?_;intros)|(refine Bs ?_ ?_<;>intro _)|refine ha s hm b _ _ hs (XD U (λst1 h1=>?_)))
  all_goals exact fin (h st1 h1) rfl
 |inr q=>
  obtain ⟨n1,s1⟩:=q
  rw [U] at h
  have hf1:=hF _ _ _ U
  dsimp only at h
  repeat' ((conv=>whnf);first|(refine Br ?_;intros)|(refine Bs ?_ ?_<;>intro _)|refine ha s hm b _ _ hs (HH U (λst1 h1=>?_)))
  refine J6 (α:=List Nd×Ae×St×AH) (λx=>[(5,.slice 6 (x.1.map AP) x.2.2.2)]) [0,1,4] (λx=>[]) [0] (λx=>x.2.2.2.st x.2.2.1 (x.1.length*6))
   (λx=>x.2.2.2.BS x.2.2.1/\Io st x.2.2.1 b x.2.1/\x.1≠[]/\x.1.length+mu x.2.1<=200000000/\mu x.2.1<=mu s1/\Gc A x.1 x.2.1=Gc A [n1] s1/\(x.1.length=1->x.1=[n1])) (λx=>mu x.2.1) ([n1],s1,st1,.full)
   ⟨trivial,h1,GT,by show 1+mu s1<=_;omega,Nat.le_refl _,rfl,λ_=>rfl⟩ Yl (St.le_refl _) ?_
  rintro ⟨l,s2,st2,own⟩ ⟨j1,j2,j3,j4,j5,j6,j7⟩
  dsimp only at j1 j2 j3 j4 j5 j6 j7
  have hm2:mu s2<=100000000:=AC
  have hb2:=FH hm2
  have hl3:Has (st2.Aa b (Dg s2)) b s2:=.inl (St.Aj ..)
  have g3:own.BS (st2.Aa b (Dg s2)):=Jo j1 j2.1
  have u3:Io st (st2.Aa b (Dg s2)) b s2:=j2.trans A3
  have hn:l.length+1<=1000000000:=AC
  repeat' ((conv=>whnf);first|(refine Br ?_;intros)|(refine Bs ?_ ?_<;>intro _)|refine xX j1 j2.1 hb2 ?_|refine Z2 ?_|refine ha s2 hm2 b _ _ (hl3.hw own _) (FW g3 hl3 (GP (λn2 s4 hq2 st4 h4 g4=>?_) (λe2 s4 hq2 st4 h4 g4=>?_)))|refine Pp (l:=l) g4 hn (λown' ho'=>?_)|refine Ci (λ_=>?_)|refine xV ‹_› j7 ?_)
  .have hd:=hF _ _ _ hq2
   refine ⟨(l++[n2],s4,st4,own'),⟨ho',u3.trans h4,GT,by show (l++[n2]).length+mu s4<=_;rw [List.length_append,List.length_singleton];omega,by show mu s4<=_;omega,?_,?_⟩,hd,Yl,St.le_refl _⟩
   .show Gc A (l++[n2]) s4=_
    rw [<-j6,fP (l:=l) ‹_› hq2 hd]
   .intro e
    have:=List.length_pos_iff.2 j3
    have e:(l++[n2]).length=1:=e
    rw [List.length_append,List.length_singleton] at e
    omega
  .have hr:Gc A l s2=.inl (e2,s4):=by rw [Gc,if_pos ‹_›,hq2]
   rw [<-j6,hr] at h
   exact EV (AH.BZ g4) rfl (h st4 (u3.trans h4))
  .have hr:Gc A l s2=.inr (l,s2):=by rw [Gc,if_neg (Bool.eq_false_iff.1 ‹_›)]
   rw [<-j6,hr] at h
   dsimp only at h
   rw [if_pos ‹_›] at h
   exact EV (AH.BZ g3) rfl (h _ u3)
  .have hr:Gc A l s2=.inr (l,s2):=by rw [Gc,if_neg (Bool.eq_false_iff.1 ‹_›)]
   rw [<-j6,hr] at h
   dsimp only at h
   rw [if_neg ‹_›] at h
   exact EV (AH.BZ g3) Cn (h _ u3)
end
theorem lk {x y:Nd} {own:AH} {st:St} {K:V->St->Prop} (h:own.BS st) (hb:l.length+2<=1000000000)
 (k:∀U:AH,U.BS st->K (.slice 6 ((l++[x,y]).map AP) U) (U.st st ((l++[x,y]).length*6))):Am 6 72 (l.map AP) own [AP x,AP y] (own.st st (l.length*6)) K:=by
 rw [<-B9]
 have:=T1 (l:=l) (new:=[x,y]) h hb (by simpa only [B9] using k)
 rw [B9 [x,y]] at this
 grind
theorem dO {A:Ae->Rs} {s:Ae} (h:AZ s 10 [45,62]=true) (U:Gd A (Ab s).2.1=.inr (n,s')) (hm:mu s'<mu s):Gx A l s=Gx A (l++[Be (Ab s).1,n]) s':=by
 rw [Gx,if_pos h,U]
 simp_all
theorem HD {s:Ae} (h:AZ s k x=true) (U:k≠0):Db s=.inr (Be (Ab s).1,(Ab s).2.1):=by unfold Db;rw [if_pos (Ev h U)]
section
variable {st:St} {R:AB->St->Prop}
attribute [local irreducible] Go.Aw.Am
theorem xt {own:AH} {n:Nat} {s:Ae} (U:Has st b s) (hb:s.DE.length<=500000000) (h:R (.ret (.bool (AZ s k x))) (own.st (st.Aa b (Dg s)) n)):PC 149 [.ptr b 0,.int .i64 k,.str x] (own.st st n) R:=
 bW (U.hw own n) hb (by rw [W4];exact h)
theorem S8 {own:AH} {n:Nat} {st:St} {s:Ae} {q:Rs} {x:Nd} (U:own.BS st) (hh:Has st b s) (e:q=.inr (x,s')) (h:∀st',Io st st' b s'->own.BS st'->R (.ret (enc x)) (own.st st' n)):Fj (own.st st n) b R q:=
 FW U hh (by subst e;exact h)
def aN (f:FuncId) (d:Int) (A:Nd->Ae->Rs):Prop:=∀n s,mu s<=100000000->∀(b:Nat) (st:St) (R:AB->St->Prop),Has st b s->Fj st b R (A n s)->PC f [.ptr b 0,enc n,.int .i64 d] st R
theorem XS {d:Int} {A:Ae->Rs} (hr:DR 357 d (Gd A)) (hF:A4 A):aN 392 d (Dt A):=by
 intro n1 s1 hm b st R hs h
 refine pB Tryz.func392 ?_
 unfold Dt at h
 repeat' ((conv=>whnf);first|(refine Br ?_;intros)|(refine Bs ?_ ?_<;>intro _)|fail)
 refine J6 (α:=List Nd×Ae×St×AH) (λx=>[(7,.slice 6 (x.1.map AP) x.2.2.2)]) [0,2,4,6] (λx=>[]) [0,1] (λx=>x.2.2.2.st x.2.2.1 (x.1.length*6))
  (λx=>x.2.2.2.BS x.2.2.1/\Has x.2.2.1 b x.2.1/\(∃s0,Io st x.2.2.1 b s0\/x.2.2.1=st)/\x.1≠[]/\x.1.length+2*mu x.2.1<=400000000/\mu x.2.1<=mu s1/\Gx A x.1 x.2.1=Gx A [n1] s1) (λx=>mu x.2.1) ([n1],s1,st,.full)
  ⟨trivial,hs,⟨s1,.inr rfl⟩,GT,by grind,Nat.le_refl _,rfl⟩ Yl (St.le_refl _) ?_
 rintro ⟨l,s2,U,own⟩ ⟨j1,j2,j3,j4,j5,j6,j7⟩
 dsimp only at j1 j2 j3 j4 j5 j6 j7
 have hm2:mu s2<=100000000:=AC
 have hb2:=FH hm2
 have hl3:Has (U.Aa b (Dg s2)) b s2:=.inl (St.Aj ..)
 have g3:own.BS (U.Aa b (Dg s2)):=Jo j1 j2
 have up:∀{st4 s4},Io U st4 b s4->Io st st4 b s4:=λ{st4 s4} hu=>by
  obtain ⟨s0,h3|h3⟩:=j3
  .exact h3.trans hu
  simp_all
 have hn:l.length+2<=1000000000:=AC
 have hm4:AZ s2 10 [45,62]=true->mu (Ab s2).2.1<=100000000:=λe=>by have:=C8 e Do Do;omega
 repeat' ((conv=>whnf);first|(refine Br ?_;intros)|(refine Bs ?_ ?_<;>intro _)|refine xt j2 hb2 ?_|refine Gi (hl3.hw own _) hb2 (S8 g3 hl3 (HD ‹_› Do) (λst4 h4 g4=>?_))|refine hr _ (hm4 ‹_›) b _ _ (h4.1.hw own _) (FW g4 h4.1 (GP (λn2 s5 hq2 st5 h5 g5=>?_) (λe2 s5 hq2 st5 h5 g5=>?_)))|refine lk (l:=l) (x:=Be (Ab s2).1) (y:=n2) g5 hn (λown' ho'=>?_)|refine Ci (λ_=>?_))
 .have hp:AZ s2 10 [45,62]=true:=FS
  have hd:=FN hF _ _ _ hq2
  have hd2:=C8 hp Do Do
  have hd3:mu s5<mu s2:=AC
  have hu:=(A3 (st:=U) (b:=b) (s:=s2)).trans (h4.trans h5)
  refine ⟨(l++[Be (Ab s2).1,n2],s5,st5,own'),⟨ho',h5.1,⟨s5,.inl (up hu)⟩,GT,?_,by grind,?_⟩,hd3,Yl,St.le_refl _⟩
  .grind
  .show Gx A (l++[Be (Ab s2).1,n2]) s5=_
   rw [<-j7,dO (l:=l) hp hq2 hd3]
 .have hp:AZ s2 10 [45,62]=true:=FS
  have hu:=(A3 (st:=U) (b:=b) (s:=s2)).trans (h4.trans h5)
  have hr:Gx A l s2=.inl (e2,s5):=by rw [Gx,if_pos hp,hq2]
  rw [<-j7,hr] at h
  exact EV (AH.BZ g5) rfl (h st5 (up hu))
 .have hr:Gx A l s2=.inr (l,s2):=by rw [Gx,if_neg (Bool.eq_false_iff.1 AC)]
  rw [<-j7,hr] at h
  dsimp only at h
  rw [if_pos (by grind)] at h
  exact EV (AH.BZ g3) rfl (h _ (up A3))
 .have hr:Gx A l s2=.inr (l,s2):=by rw [Gx,if_neg (Bool.eq_false_iff.1 AC)]
  rw [<-j7,hr] at h
  dsimp only at h
  rw [if_neg (by grind)] at h
  exact EV (AH.BZ g3) Cn (h _ (up A3))
theorem vw {d:Int} {A:Ae->Rs} (hr:DR 357 d (Gd A)) (ha:aN 392 d (Dt A)) (hF:A4 A):DR 358 d (DC A):=by
 intro s hm b st R hs h
 refine pB Tryz.func358 ?_
 unfold DC at h
 have hm1:∀{n1 s1},Gd A s=.inr (n1,s1)->mu s1<=100000000:=λe=>by have:=FN hF _ _ _ e;omega
 repeat' ((conv=>whnf);first|(refine Br ?_;intros)|(refine Bs ?_ ?_<;>intro _)|refine hr s hm b _ _ hs (Eo (λn1 s1 U st1 h1=>?_) (λe1 s1 U st1 h1=>?_))|refine ha n1 s1 (hm1 U) b _ _ h1.1 (Eo (λn2 s2 hq2 st2 h2=>?_) (λe2 s2 hq2 st2 h2=>?_)))
 all_goals rw [U] at h
 all_goals dsimp only at h
 .rw [hq2] at h;exact BR rfl (h st2 (h1.trans h2))
 .rw [hq2] at h;exact fin (h st2 (h1.trans h2)) rfl
 .exact fin (h st1 h1) rfl
end
abbrev Er:={e:Int // e≠0}
abbrev Rv (α:Type):=Sum (Er×Ae) (α×Ae)
structure Rd (α:Type) where
 run:Ae->Rv α
 le:∀s v s',run s=.inr (v,s')->mu s'<=mu s
namespace Rd
variable {α β γ σ:Type}
theorem ext' {a b:Rd α} (h:∀s,a.run s=b.run s):a=b:=by
 obtain ⟨U,l1⟩:=a
 obtain ⟨r2,l2⟩:=b
 obtain rfl:U=r2:=funext h
 rfl
def ret (v:α):Rd α:=⟨λs=>.inr (v,s),λs U s' h=>by simp_all⟩
def seq (m:Rd α) (k:α->Rd β):Rd β:=⟨λs=>match m.run s with
 | .inl e=>.inl e
 | .inr p=>(k p.1).run p.2,λs v s' h=>by
 cases U:m.run s with
 |inl e=>simp_all
 |inr p=>rw [U] at h;exact Nat.le_trans ((k p.1).le _ _ _ h) (m.le _ _ _ U)⟩
def fail (e:Er):Rd α:=⟨λs=>.inl (e,s),λs v s' h=>by cases h⟩
def Dm (t:Ae) (e:Er):Rd α:=⟨λ_=>.inl (e,t),λs v s' h=>by cases h⟩
def look (f:Ae->Rd α):Rd α:=⟨λs=>(f s).run s,λs v s' h=>(f s).le _ _ _ h⟩
def iter (body:σ->Rd (Sum σ β)) (x:σ) (s:Ae):Rv β:=
 match (body x).run s with
 | .inl e=>.inl e
 | .inr (.inr y,s')=>.inr (y,s')
 | .inr (.inl U,s')=>if mu s'<mu s then iter body U s' else .inl (⟨2,Do⟩,s)
termination_by mu s
theorem eP (body:σ->Rd (Sum σ β)) (x:σ) (s:Ae):∀v s',iter body x s=.inr (v,s')->mu s'<=mu s:=by
 fun_induction iter body x s with
 |case1 x s e h=>simp_all
 |case2 x s y s1 h=>intro v s' h';cases h';exact (body x).le _ _ _ h
 |case3 x s x' s1 h U ih=>grind
 |case4 x s x' s1 h U=>simp_all
def loop (body:σ->Rd (Sum σ β)) (x:σ):Rd β:=⟨iter body x,eP body x⟩
theorem nW {body:σ->Rd (Sum σ β)} {w:σ->Nat} {w':β->Nat} (h1:∀x s U s',(body x).run s=.inr (.inl U,s')->w U<=w x+4) (h2:∀x s y s',(body x).run s=.inr (.inr y,s')->w' y<=w x+c) (x:σ) (s:Ae):
 ∀y s',(loop body x).run s=.inr (y,s')->w' y+4*mu s'<=w x+c+4*mu s:=by
 show ∀y s',iter body x s=.inr (y,s')->_
 fun_induction iter body x s with
 |case1 x s e h=>simp_all
 |case2 x s y s1 h=>intro y s' h';cases h';have:=h2 _ _ _ _ h;have:=(body x).le _ _ _ h;omega
 |case3 x s U s1 h hlt ih=>grind
 |case4 x s U s1 h hlt=>simp_all
def wp (m:Rd α) (s:Ae) (Q:α->Ae->Prop) (E:Er->Ae->Prop):Prop:=match m.run s with
 | .inl p=>E p.1 p.2
 | .inr p=>Q p.1 p.2
theorem wp_ret {v:α} {s:Ae} {Q:α->Ae->Prop} {E:Er->Ae->Prop}:wp (ret v) s Q E=Q v s:=rfl
theorem wp_seq {m:Rd α} {k:α->Rd β} {s:Ae} {Q:β->Ae->Prop} {E:Er->Ae->Prop}:wp (seq m k) s Q E=wp m s (λv s'=>wp (k v) s' Q E) E:=by
 unfold wp seq
 grind
theorem ED {e:Er} {s:Ae} {Q:α->Ae->Prop} {E:Er->Ae->Prop}:wp (fail e) s Q E=E e s:=rfl
theorem Fb {e:Er} {s t:Ae} {Q:α->Ae->Prop} {E:Er->Ae->Prop}:wp (Dm t e) s Q E=E e t:=rfl
theorem Ag {f:Ae->Rd α} {s:Ae} {Q:α->Ae->Prop} {E:Er->Ae->Prop}:wp (look f) s Q E=wp (f s) s Q E:=rfl
theorem Ax {c:Prop} [Decidable c] {a b:Rd α} {s:Ae} {Q:α->Ae->Prop} {E:Er->Ae->Prop}:wp (if c then a else b) s Q E=if c then wp a s Q E else wp b s Q E:=by grind
def again (body:σ->Rd (Sum σ β)) (s:Ae) (Q:β->Ae->Prop) (E:Er->Ae->Prop):Sum σ β->Ae->Prop
 | .inr y,s'=>Q y s'
 | .inl x,s'=>if mu s'<mu s then wp (loop body x) s' Q E else E ⟨2,Do⟩ s
theorem wp_loop {body:σ->Rd (Sum σ β)} {x:σ} {s:Ae} {Q:β->Ae->Prop} {E:Er->Ae->Prop}:wp (loop body x) s Q E=wp (body x) s (again body s Q E) E:=by
 have e:(loop body x).run s=match (body x).run s with
  | .inl e=>.inl e
  | .inr (.inr y,s')=>.inr (y,s')
  | .inr (.inl x',s')=>if mu s'<mu s then (loop body x').run s' else .inl (⟨2,Do⟩,s):=by
  show iter body x s=_
  rw [iter]
  rfl
 unfold wp
 rw [e]
 cases hb:(body x).run s with
 |inl p=>rfl
 |inr p=>
  obtain ⟨r,s'⟩:=p
  cases r with
  |inr y=>rfl
  |inl x'=>
   dsimp only [again]
   by_cases U:mu s'<mu s
   .rw [if_pos U,if_pos U];rfl
   grind
theorem BJ {body:σ->Rd (Sum σ β)} {s:Ae} {Q:β->Ae->Prop} {E:Er->Ae->Prop} {y:β}:again body s Q E (.inr y) s'=Q y s':=rfl
theorem Fk {body:σ->Rd (Sum σ β)} {s:Ae} {Q:β->Ae->Prop} {E:Er->Ae->Prop} {x:σ} (h:again body s Q E (.inl x) s') (U:mu s'<mu s):wp (loop body x) s' Q E:=by
 have h:if mu s'<mu s then wp (loop body x) s' Q E else E ⟨2,Do⟩ s:=h
 simp_all
theorem wp_mono {m:Rd α} {s:Ae} {Q Q':α->Ae->Prop} {E E':Er->Ae->Prop} (h:wp m s Q E) (hq:∀v s',m.run s=.inr (v,s')->Q v s'->Q' v s') (U:∀e s',m.run s=.inl (e,s')->E e s'->E' e s'):wp m s Q' E':=by
 unfold wp at h |-
 grind
theorem Va {m:Rd α} {s:Ae} {Q:α->Ae->Prop} {E:Er->Ae->Prop} (hq:∀v s',m.run s=.inr (v,s')->Q v s') (U:∀e s',m.run s=.inl (e,s')->E e s'):wp m s Q E:=by
 unfold wp
 grind
def A4 (m:Rd α):Prop:=∀s v s',m.run s=.inr (v,s')->mu s'<mu s
theorem A4.seq {m:Rd α} {k:α->Rd β} (h:A4 m):A4 (seq m k):=λs v s' e=>by
 unfold Rd.seq at e
 dsimp only at e
 split at e
 .cases e
 .exact Nat.lt_of_le_of_lt ((k _).le _ _ _ e) (h _ _ _ ‹_›)
theorem A4.at {m:Rd α} {k:α->Rd β} {s s':Ae} {v:β} (h:∀v s',m.run s=.inr (v,s')->mu s'<mu s) (e:(Rd.seq m k).run s=.inr (v,s')):mu s'<mu s:=by
 unfold Rd.seq at e
 dsimp only at e
 split at e
 .cases e
 .exact Nat.lt_of_le_of_lt ((k _).le _ _ _ e) (h _ _ ‹_›)
theorem A4.fail {e:Er}:A4 (fail e:Rd α):=λs v s' h=>by cases h
theorem A4.Dm {t:Ae} {e:Er}:A4 (Dm t e:Rd α):=λs v s' h=>by cases h
theorem A4.look {f:Ae->Rd α} (h:∀s v s',(f s).run s=.inr (v,s')->mu s'<mu s):A4 (look f):=λs v s' e=>h s v s' e
theorem A4.ite {c:Prop} [Decidable c] {a b:Rd α} (U:A4 a) (h2:A4 b):A4 (if c then a else b):=by grind
end Rd
def Ia (A:Ae->Rs) (hle:∀s v s',A s=.inr (v,s')->mu s'<=mu s):Rd Nd:=⟨λs=>match A s with
 | .inl p=>if h:p.1=0 then .inl (⟨2,Do⟩,p.2) else .inl (⟨p.1,h⟩,p.2)
 | .inr p=>.inr p,λs v s' h=>by
 grind⟩
theorem Zj {A:Ae->Rs} {hle:∀s v s',A s=.inr (v,s')->mu s'<=mu s} (U:Fh A) {s:Ae} {e:Int} (h:A s=.inl (e,s')):(Ia A hle).run s=.inl (⟨e,U _ _ _ h⟩,s'):=by
 unfold Ia
 grind
theorem NU {A:Ae->Rs} {hle:∀s v s',A s=.inr (v,s')->mu s'<=mu s} {s:Ae} {p:Nd×Ae} (h:A s=.inr p):(Ia A hle).run s=.inr p:=by
 unfold Ia
 simp_all
def Az:Rd Nd:=Ia Db λs v s' h=>(QS h).1
def HO {α:Type}:Rd α:=⟨λs=>.inl (⟨Vh s,Vi s⟩,s),λs v s' h=>by cases h⟩
def A0 (k:Int) (x:List UInt8):Rd Nd:=.look λs=>if AZ s k x=true then Az else HO
def CX (ks:List Int):Rd Nd:=.look λs=>if ks.contains (Ab s).1.kind=true then Az else HO
def Hl:Rd Unit:=.seq Az λ_=>.ret ()
theorem qq {s:Ae} (h:AZ s k x=true) (U:k≠0):Az.run s=.inr (Be (Ab s).1,(Ab s).2.1):=NU (HD h U)
theorem BQ {s:Ae} (h:(Ab s).2.2=0):Az.run s=.inr (Be (Ab s).1,(Ab s).2.1):=NU (by unfold Db;simp_all)
theorem Hf {s:Ae} (h:¬(Ab s).2.2=0):Az.run s=.inl (⟨(Ab s).2.2,h⟩,s):=by
 have e:Db s=.inl ((Ab s).2.2,s):=by unfold Db;rw [if_neg h]
 exact Zj Jh e
theorem Ig {s:Ae} {v:Nd} (h:Az.run s=.inr (v,s')) (U:(Ab s).1.kind≠21):mu s'<mu s:=by
 by_cases e:(Ab s).2.2=0
 .rw [BQ e] at h;cases h;exact (EY e).2 U
 .rw [Hf e] at h;cases h
theorem DX {s:Ae} (h:(Ab s).1.kind≠0):(Ab s).2.2=0:=by
 apply Classical.byContradiction
 intro e
 rw [Zc e] at h
 exact h rfl
theorem ME (U:k≠21):Rd.A4 (A0 k x):=Rd.A4.look λs v s' h=>by
 split at h
 .rename_i hi
  refine Ig h λe=>U ?_
  unfold AZ at hi
  simp_all
 .cases h
theorem bG (U:ks.contains 21=false):Rd.A4 (CX ks):=Rd.A4.look λs v s' h=>by
 split at h
 .rename_i hi
  exact Ig h λe=>by simp_all
 .cases h
abbrev M7 (f:FuncId) (args:List V) (st:St) (R:AB->St->Prop):Prop:=A9 Tryz.prog f args st R
def J2 (x:Int):List Int->Int->Int
 |[],_=> -1
 |y::r,i=>if x=y then i else J2 x r (i+1)
theorem RU {x:Int}:∀{l:List Int} {i:Int},0<=i->(0<=J2 x l i↔l.contains x=true)
 |[],i,h=>by simp [J2]
 |y::r,i,h=>by
  simp only [J2]
  split
  .simp_all
  .rename_i e
   rw [RU AC]
   simp [e]
theorem mZ {x:Int} {st:St} {own:AH} (h:R (.ret (.int .i64 (J2 x kinds 0))) st):M7 364 [.slice 1 (ints kinds) own,.int .i64 x] st R:=by
 refine pB Tryz.func364 ?_
 have hlen:(ints kinds).length=kinds.length:=by simp [ints]
 intro m hm hl
 rw [hlen] at hm
 subst hm
 conv=>whnf
 refine ⟨Nat,λk=>{tmps:=[(8,.int .i64 k),(7,.int .i64 kinds.length),(0,.slice 1 (ints kinds) own),(1,.int .i64 x)],boxes:=[],Bw:=0,sz:=19,gl:=[]},λ_=>st,
  λk=>k<=kinds.length/\J2 x kinds 0=J2 x (kinds.drop k) k,λk=>kinds.length - k,0,⟨Nat.zero_le _,rfl⟩,⟨rfl,⟨rfl,rfl,rfl,rfl,rfl,rfl,rfl,rfl,trivial⟩,trivial,rfl⟩,St.le_refl _,?_⟩
 rintro k ⟨hk,hi⟩
 refine Wh (λh1=>?_) (λh1=>?_)
 .have U:k<kinds.length:=AC
  have he:(ints kinds)[(k:Int).toNat]? =some [.int .i64 kinds[k]]:=by simp [ints,U]
  refine ⟨AC,_,he,?_⟩
  have hd:J2 x (kinds.drop k) k=if x=kinds[k] then (k:Int) else J2 x (kinds.drop (k+1)) (k+1):=by
   rw [List.drop_eq_getElem_cons U];rfl
  refine Wg (λh2=>?_) (λh2=>?_)
  .exact fin h ke
  .refine ⟨((k+1:Nat):Int),?_,?_⟩
   .simp only [D7] at hl
    rw [L6 AC AC];rfl
   .refine ⟨k+1,⟨U,?_⟩,by grind,⟨rfl,⟨rfl,rfl,rfl,rfl,rfl,rfl,rfl,rfl,trivial⟩,trivial,rfl⟩,St.le_refl _⟩
    simp_all
 .refine fin h ?_
  have:k=kinds.length:=AC
  rw [hi,this,List.drop_length];rfl
section
variable {st:St} {R:AB->St->Prop}
theorem Pt {x:Int} {own:AH} (h:R (.ret (.bool (kinds.contains x))) st):M7 325 [.slice 1 (ints kinds) own,.int .i64 x] st R:=by
 refine pB Tryz.func325 ?_
 refine mZ ?_
 have key:=RU (x:=x) (l:=kinds) (i:=0) AC
 refine Wh (λU=>?_) (λU=>?_)
 .exact Av h (key.1 U)
 .refine Av h ?_
  simp_all
def DV (n:Nd) (kinds:List Int):Bool:=n.kind==1&&kinds.contains n.form
theorem Jr {own:AH} (h:R (.ret (.bool (DV n kinds))) st):M7 380 [enc n,.slice 1 (ints kinds) own] st R:=by
 refine pB Tryz.func380 ?_
 unfold DV at h
 repeat' ((conv=>whnf);first|(refine Me ?_;intros)|(refine Mf ?_ ?_<;>intro _)|refine Pt ?_)
 all_goals exact Av h ke
def FU (n:Nd) (k:Int) (t:List UInt8):Bool:=DV n [k]&&n.text==t
theorem Kk (h:R (.ret (.bool (FU n k t))) st):M7 381 [enc n,.int .i64 k,.str t] st R:=by
 refine pB Tryz.func381 ?_
 unfold FU at h
 repeat' ((conv=>whnf);first|(refine Me ?_;intros)|(refine Mf ?_ ?_<;>intro _)|refine Jr (kinds:=[k]) ?_)
 all_goals exact Av h ke
def BX (n:Nd) (o s:List UInt8):Option (List Nd):=
 if 2<=n.kids.length/\n.kids[0]?.any (FU · 15 o)=true/\n.kids[n.kids.length - 1]?.any (FU · 15 s)=true then some ((n.kids.take (n.kids.length - 1)).drop 1) else none
theorem Jm (U:∀l,BX n o s=some l->R (.ret (.BM [.slice 6 (CR l) .any,.bool true])) st)
 (hn:BX n o s=none->R (.ret (.BM [.slice 6 [] .any,.bool false])) st):M7 376 [enc n,.str o,.str s] st R:=by
 refine pB Tryz.func376 ?_
 repeat' ((conv=>whnf);first|(refine Me ?_;intros)|(refine Mf ?_ ?_<;>intro _)|refine Kk ?_)
 .exact VK (hn (by simp [BX];omega)) rfl
 all_goals
  have e:((n.kids.length:Int) - 1).toNat=n.kids.length - 1:=AC
  simp only [e,Int.toNat_zero,Int.reduceToNat] at *
  first
   |exact VK (U _ (by simp_all [BX];omega)) rfl
   |exact VK (hn (by simp_all [BX])) rfl
theorem bQ (h:BX n o s=some l):l.length+2=n.kids.length:=by
 simp only [BX] at h
 grind
theorem VO (U:∀l,BX n o s=some l->l.length+2=n.kids.length->R (.ret (.BM [.slice 6 (CR l) .any,.bool true])) st)
 (hn:BX n o s=none->R (.ret (.BM [.slice 6 [] .any,.bool false])) st):M7 376 [enc n,.str o,.str s] st R:=
 Jm (λl h=>U l h (bQ h)) hn
def Lk:Nd:=.mk 0 0 [] 0 0 []
def J9 (n:Nd):Bool:=DV n [6,8]||FU n 10 [58]
theorem YZ (h:R (.ret (.bool (J9 n))) st):M7 407 [enc n] st R:=by
 refine pB Tryz.func407 ?_
 repeat' ((conv=>whnf);first|(refine Me ?_;intros)|(refine Mf ?_ ?_<;>intro _)|refine Jr (kinds:=[6,8]) ?_|refine Kk ?_)
 all_goals conv=>whnf
 all_goals (refine Av h ?_;clear h;simp_all [J9])
def H6 (n:Nd):Option Nd:=if n.kind=3 then (match BX n [40] [41] with|some l=>if l.length=1 then l[0]? else none|none=>none) else none
theorem Y7 (U:∀x,H6 n=some x->R (.ret (.BM [enc x,.bool true])) st) (hn:H6 n=none->R (.ret (.BM [enc Lk,.bool false])) st):M7 402 [enc n] st R:=by
 refine pB Tryz.func402 ?_
 repeat' ((conv=>whnf);first|(refine Me ?_;intros)|(refine Mf ?_ ?_<;>intro _)|refine Jm (λl hl=>?_) (λhl=>?_))
 all_goals conv=>whnf
 all_goals first
  |exact BR rfl (U _ (by clear U hn;simp_all [H6]))
  |exact BR rfl (hn (by clear U hn;simp_all [H6]))
def Eu (n:Nd):Option (List UInt8):=
 if DV n [1] then some n.text else match H6 n with|some x=>if DV x [5] then some x.text else none|none=>none
theorem M3 (U:∀t,Eu n=some t->R (.ret (.BM [.str t,.bool true])) st) (hn:Eu n=none->R (.ret (.BM [.str [],.bool false])) st):M7 377 [enc n] st R:=by
 refine pB Tryz.func377 ?_
 repeat' ((conv=>whnf);first|(refine Me ?_;intros)|(refine Mf ?_ ?_<;>intro _)|refine Y7 (λl hl=>?_) (λhl=>?_)|refine Jr (kinds:=[1]) ?_|refine Jr (kinds:=[5]) ?_)
 all_goals conv=>whnf
 all_goals first
  |exact BR rfl (U _ (by clear U hn;simp_all [Eu]))
  |exact BR rfl (hn (by clear U hn;simp_all [Eu]))
def J8 (n:Nd):Bool:=DV n [2,4]||(match H6 n with|some x=>J9 x|none=>false)
theorem V6 (h:R (.ret (.bool (J8 n))) st):M7 385 [enc n] st R:=by
 refine pB Tryz.func385 ?_
 repeat' ((conv=>whnf);first|(refine Me ?_;intros)|(refine Mf ?_ ?_<;>intro _)|refine Y7 (λl U=>?_) (λU=>?_)|refine Jr (kinds:=[2,4]) ?_|refine YZ ?_)
 all_goals conv=>whnf
 all_goals (refine Av h ?_;clear h;simp_all [J8])
def C4 (n:Nd):Nd×Bool:=
 if n.kind=18 then (if n.kids.length=1 then ((n.kids[0]?.getD Lk),false) else if n.kids.length=3 then (match BX n [96] [96] with|some l=>((l[0]?.getD Lk),true)|none=>(Lk,false)) else (Lk,false)) else (Lk,false)
theorem PG (h:R (.ret (.BM [enc (C4 n).1,.bool (C4 n).2])) st):M7 403 [enc n] st R:=by
 refine pB Tryz.func403 ?_
 repeat' ((conv=>whnf);first|(refine Me ?_;intros)|(refine Mf ?_ ?_<;>intro _)|refine VO (λl U hk=>?_) (λU=>?_))
 all_goals conv=>whnf
 all_goals refine BR ?_ h
 all_goals clear h
 all_goals simp_all [C4]
 all_goals rfl
def MM (n:Nd):Bool:=if (C4 n).2 then DV (C4 n).1 [2,4] else J9 (C4 n).1
theorem fe (h:R (.ret (.bool (MM n))) st):M7 408 [enc n] st R:=by
 refine pB Tryz.func408 ?_
 repeat' ((conv=>whnf);first|(refine Me ?_;intros)|(refine Mf ?_ ?_<;>intro _)|refine PG ?_|refine Jr (kinds:=[2,4]) ?_|refine YZ ?_)
 all_goals conv=>whnf
 all_goals (refine Av h ?_;clear h;simp_all [MM])
def KH (n:Nd):Option (List UInt8):=
 if (if (C4 n).2 then DV (C4 n).1 [1] else DV (C4 n).1 [5]) then some (C4 n).1.text else none
theorem rW (U:∀t,KH n=some t->R (.ret (.BM [.str t,.bool true])) st) (hn:KH n=none->R (.ret (.BM [.str [],.bool false])) st):M7 378 [enc n] st R:=by
 refine pB Tryz.func378 ?_
 repeat' ((conv=>whnf);first|(refine Me ?_;intros)|(refine Mf ?_ ?_<;>intro _)|refine PG ?_|refine Jr (kinds:=[1]) ?_|refine Jr (kinds:=[5]) ?_)
 all_goals conv=>whnf
 all_goals first
  |exact BR rfl (U _ (by clear U hn;simp_all [KH]))
  |exact BR rfl (hn (by clear U hn;simp_all [KH]))
def Dk (f:FuncId) (p:Nd->Bool) (x:Nd):Prop:=∀(st:St) (R:AB->St->Prop),R (.ret (.bool (p x))) st->M7 f [enc x] st R
def Gb (p:Nd->Bool):Bool->List Nd->Bool
 |_,[]=>true
 |b,x::r=>(if b then FU x 15 [44] else p x)&&Gb p (!b) r
def IG (p:Nd->Bool) (l:List Nd):Bool:=l.length % 2==1&&Gb p false l
theorem cT {k:Nat} {x:Nd} (h:l[k]? =some x):
 Gb p (k % 2==1) (l.drop k)=((if k % 2=1 then FU x 15 [44] else p x)&&Gb p ((k+1) % 2==1) (l.drop (k+1))):=by
 rw [drop_at h,Gb]
 have:(!(k % 2==1))=((k+1) % 2==1):=by
  rcases Nat.mod_two_eq_zero_or_one k with e|e
  .grind
  .grind
 grind
theorem Zm (U:∀x ∈ l,Dk f p x) (h:R (.ret (.bool (IG p l))) st):M7 405 [.slice 6 (CR l) .any,.func f [] []] st R:=by
 refine pB Tryz.func405 ?_
 repeat' ((conv=>whnf);first|(refine Me ?_;intros)|(refine Mf ?_ ?_<;>intro _)|refine Kk ?_)
 .conv=>whnf
  refine Av h ?_
  have:=Tc.1 ‹_›
  simp [IG,this]
 .refine KX 13 [11,12,1] l.length (λk=>k<=l.length/\(Gb p false l=Gb p (k % 2==1) (l.drop k))) ⟨Nat.zero_le _,rfl⟩ Yl ?_
  rintro k ⟨hk,hi⟩
  repeat' ((conv=>whnf);first|(refine Me ?_;intros)|(refine Mf ?_ ?_<;>intro _)|refine Kk ?_|refine U _ ‹_› _ _ ?_)
  all_goals conv=>whnf
  all_goals simp only [Tc,ky,Int.toNat_natCast] at *
  all_goals try (have e:=cT (p:=p) ‹l[k]? =some _›;rw [e] at hi;clear e)
  all_goals try omega
  all_goals first
   |(refine ⟨k+1,⟨AC,?_⟩,AC,Yl,St.le_refl _⟩;clear h;simp_all)
   |(refine Av h ?_;clear h;simp_all [IG])
  rw [List.drop_eq_nil_of_le AC];rfl
def C7 (p:Nd->Bool):List Nd->Int->Int
 |[],_=> -1
 |y::r,i=>if p y then i else C7 p r (i+1)
theorem H2 {p:Nd->Bool}:∀{l:List Nd} {i:Int},0<=i->(0<=C7 p l i↔l.any p=true)
 |[],i,h=>by simp [C7]
 |y::r,i,h=>by
  simp only [C7,List.any_cons]
  split
  .simp_all
  .rename_i e
   rw [H2 AC]
   simp [e]
theorem VU {st:St}
 (U:∀x ∈ l,Dk f p x) (h:R (.ret (.int .i64 (C7 p l 0))) st):M7 365 [.slice 6 (CR l) .any,.func f [] []] st R:=by
 refine pB Tryz.func365 ?_
 repeat' ((conv=>whnf);first|(refine Me ?_;intros)|(refine Mf ?_ ?_<;>intro _)|refine Kk ?_)
 refine KX 8 [6,7,0,1] l.length (λk=>k<=l.length/\(C7 p l 0=C7 p (l.drop k) k)) ⟨Nat.zero_le _,rfl⟩ Yl ?_
 rintro k ⟨hk,hi⟩
 repeat' ((conv=>whnf);first|(refine Me ?_;intros)|(refine Mf ?_ ?_<;>intro _)|refine U _ ‹_› _ _ ?_)
 all_goals conv=>whnf
 all_goals try (have e:=drop_at ‹l[Int.toNat k]? =some _›;rw [Int.toNat_natCast] at e;rw [e,C7] at hi;clear e)
 all_goals first
  |(refine ⟨k+1,⟨AC,?_⟩,AC,Yl,St.le_refl _⟩;clear h;simp_all)
  |(refine fin h ?_;clear h;simp_all;done)
  |(refine fin h ?_;rw [hi,List.drop_eq_nil_of_le AC];rfl)
theorem Ks (hf:∀x ∈ l,Dk f p x) (h:R (.ret (.bool (l.any p))) st):M7 327 [.slice 6 (CR l) .any,.func f [] []] st R:=by
 refine pB Tryz.func327 ?_
 refine VU hf ?_
 have key:=H2 (p:=p) (l:=l) (i:=0) AC
 refine Wh (λU=>?_) (λU=>?_)
 .exact Av h (key.1 U)
 .refine Av h ?_
  simp_all
theorem sX {x:Nd}:Dk 404 (λx=> !FU x 15 [44]) x:=by
 intro st R h
 refine pB Tryz.func404 ?_
 repeat' ((conv=>whnf);first|(refine Me ?_;intros)|(refine Mf ?_ ?_<;>intro _)|refine Kk ?_)
 all_goals conv=>whnf
 all_goals (refine Av h ?_;clear h;simp_all)
def Ui (n:Nd):Bool:=
 (Eu n).isSome||J8 n||(match BX n [91] [93] with|some l=>l.isEmpty|none=>match BX n [40] [41] with|some l=> !l.any λx=> !FU x 15 [44]|none=>false)
theorem xo (h:R (.ret (.bool (Ui n))) st):M7 382 [enc n] st R:=by
 refine pB Tryz.func382 ?_
 repeat' ((conv=>whnf);first|(refine Me ?_;intros)|(refine Mf ?_ ?_<;>intro _)|refine M3 (λl U=>?_) (λU=>?_)|refine V6 ?_|refine Jm (λl U=>?_) (λU=>?_)|refine Ks (λx _=>sX) ?_)
 all_goals conv=>whnf
 all_goals (refine Av h ?_;clear h;simp_all [Ui])
end
section
variable {st:St} {R:AB->St->Prop}
theorem MI (h:BX n o s=some l):∀x ∈ l,x ∈ n.kids:=by
 simp only [BX] at h
 grind
def EG (p:Nd->Bool) (n:Nd) (o s:List UInt8) (least:Int) (one:Bool):Bool:=
 match BX n o s with
 |some l=>decide (2*least - 1<=(l.length:Int))&&(!one||l.length==1)&&IG p l
 |none=>false
theorem X1 {least:Int} {one:Bool} (h0:0<=least) (h1:least<=10) (hp:∀x ∈ n.kids,Dk 352 p x)
 (h:R (.ret (.bool (EG p n o s least one))) st):M7 383 [enc n,.str o,.str s,.int .i64 least,.bool one] st R:=by
 cases one
 all_goals refine pB Tryz.func383 ?_
 repeat' ((conv=>whnf);first|(refine Me ?_;intros)|(refine Mf ?_ ?_<;>intro _)|refine Jm (λl U=>?_) (λU=>?_)|refine Zm (λx hx=>hp x (MI ‹_› x hx)) ?_)
 all_goals conv=>whnf
 all_goals (refine Av h ?_;clear h;simp_all [EG])
 all_goals (intros;omega)
def TD (q:Nd->Bool):List Nd->Bool
 |[]=>true
 |x::r=>q x&&TD q r
def Iq (p:Nd->Bool) (x:Nd):Bool:= !(x.kind==11)&& !(x.kind==17)&&p x
def Ip (p:Nd->Bool) (l:List Nd):Bool:=TD (Iq p) l&&decide (0<l.length)
theorem X0 (U:∀x ∈ l,Dk 352 p x) (h:R (.ret (.bool (Ip p l))) st):M7 375 [.slice 6 (CR l) .any] st R:=by
 refine pB Tryz.func375 ?_
 repeat' ((conv=>whnf);first|(refine Me ?_;intros)|(refine Mf ?_ ?_<;>intro _)|refine Kk ?_)
 refine KX 7 [5,6,0] l.length (λk=>k<=l.length/\TD (Iq p) l=TD (Iq p) (l.drop k)) ⟨Nat.zero_le _,rfl⟩ Yl ?_
 rintro k ⟨hk,hi⟩
 repeat' ((conv=>whnf);first|(refine Me ?_;intros)|(refine Mf ?_ ?_<;>intro _)|refine U _ ‹_› _ _ ?_)
 all_goals conv=>whnf
 all_goals try (have e:=drop_at ‹l[Int.toNat k]? =some _›;rw [Int.toNat_natCast] at e;rw [e,TD] at hi;clear e)
 all_goals first
  |(refine ⟨k+1,⟨AC,?_⟩,AC,Yl,St.le_refl _⟩;clear h;simp_all [Iq];done)
  |(refine Av h ?_;clear h;simp_all [Ip,Iq];done)
  |(refine Av h ?_;clear h;rw [List.drop_eq_nil_of_le AC] at hi;simp_all [Ip,TD];done)
  |skip
def OJ (p:Nd->Bool) (n:Nd):Bool:=
 n.kind==13&&n.kids.length==3&&n.kids[0]?.any (DV · [1,3])&&n.kids[1]?.any (FU · 10 [61])&&n.kids[2]?.any p
theorem sL (U:∀x ∈ n.kids,Dk 352 p x):Dk 406 (OJ p) n:=by
 intro st R h
 refine pB Tryz.func406 ?_
 repeat' ((conv=>whnf);first|(refine Me ?_;intros)|(refine Mf ?_ ?_<;>intro _)|refine Jr (kinds:=[1,3]) ?_|refine Kk ?_|refine U _ ‹_› _ _ ?_)
 all_goals conv=>whnf
 all_goals (refine Av h ?_;clear h;simp_all [OJ])
def Kh (p:Nd->Bool) (n:Nd):Bool:=
 decide (3<=n.kids.length)&&n.kids[0]?.any J8&&(match BX (.mk 0 0 [] 0 0 (n.kids.drop 1)) [123] [125] with|some l=>l.isEmpty||IG (OJ p) l|none=>false)
theorem pj (hp:∀x ∈ n.kids,∀y ∈ x.kids,Dk 352 p y) (h:R (.ret (.bool (Kh p n))) st):M7 384 [enc n] st R:=by
 refine pB Tryz.func384 ?_
 repeat' ((conv=>whnf);first|(refine Me ?_;intros)|(refine Mf ?_ ?_<;>intro _)|refine V6 ?_|refine Jm (n:=.mk 0 0 [] 0 0 _) (λl U=>?_) (λU=>?_)|refine Zm (λx hx=>sL (hp x (List.mem_of_mem_drop (i:=1) (l:=n.kids) (MI (n:=.mk 0 0 [] 0 0 (n.kids.drop 1)) ‹_› x hx)))) ?_)
 all_goals conv=>whnf
 all_goals (refine Av h ?_;clear h;try simp only [Int.toNat_zero,Int.toNat_one] at *;simp_all [Kh])
 all_goals first
  |omega
  |(have:¬3<=n.kids.length:=by omega
    simp [Kh,this])
def Ge (p:Nd->Bool):Nat->List Nd->Bool
 |2,[]=>true
 |_,[]=>false
 |0,x::r=>if x.kind=19 then Ge p 1 r else (!(x.kind==17)&&p x)&&Ge p 2 r
 |1,x::r=>DV x [11,12]&&Ge p 2 r
 |_,x::r=>MM x&&Ge p 0 r
theorem wc {k:Nat} {x:Nd} (h:l[k]? =some x):Ge p 0 (l.drop k)=if x.kind=19 then Ge p 1 (l.drop (k+1)) else (!(x.kind==17)&&p x)&&Ge p 2 (l.drop (k+1)):=by
 rw [drop_at h];rfl
theorem we {k:Nat} {x:Nd} (h:l[k]? =some x):Ge p 1 (l.drop k)=(DV x [11,12]&&Ge p 2 (l.drop (k+1))):=by
 rw [drop_at h];rfl
theorem fQ {k:Nat} {x:Nd} (h:l[k]? =some x):Ge p 2 (l.drop k)=(MM x&&Ge p 0 (l.drop (k+1))):=by
 rw [drop_at h];rfl
theorem PK {k s:Nat} (h:l.length<=k):Ge p s (l.drop k)=(s==2):=by
 rw [List.drop_eq_nil_of_le h]
 match s with
 |0=>rfl
 |1=>rfl
 |2=>rfl
 |s+3=>rfl
theorem tn0:(0:Int).toNat=0:=rfl
theorem tn1:((0:Int)+1).toNat=1:=rfl
theorem tn2:((0:Int)+1+1).toNat=2:=rfl
theorem tn3 {k:Nat}:((k:Int)+1).toNat=k+1:=AC
theorem tn4 {k:Nat}:((k:Int)+1+1).toNat=k+2:=AC
theorem pG (U:∀x ∈ l,Dk 352 p x) (h:R (.ret (.bool (Ge p 0 l))) st):M7 386 [.slice 6 (CR l) .any] st R:=by
 refine pB Tryz.func386 ?_
 conv=>whnf
 refine ⟨Nat,λ_=>0,λk=>{tmps:=[(3,.int .i64 k),(0,.slice 6 (CR l) .any)],boxes:=[],Bw:=0,sz:=57,gl:=[]},λ_=>st,
  λk=>k<=l.length/\Ge p 0 l=Ge p 0 (l.drop k),λk=>l.length - k,?_,?_⟩
 .have hi:Ge p 0 l=Ge p 0 (l.drop 0):=rfl
  repeat' ((conv=>whnf);first|(refine Me ?_;intros)|(refine Mf ?_ ?_<;>intro _)|refine Jr (kinds:=[11,12]) ?_|refine fe ?_|refine U _ ‹_› _ _ ?_)
  all_goals conv=>whnf
  all_goals try simp only [tn0,tn1,tn2,tn3,tn4,Int.toNat_natCast,Nat.zero_add,Nat.reduceAdd] at *
  all_goals try (have e:=wc (p:=p) ‹l[0]? =some _›;rw [e] at hi;clear e)
  all_goals (try have e1:=we (p:=p) ‹l[1]? =some _›)
  all_goals (try have e2:=fQ (p:=p) ‹l[1]? =some _›)
  all_goals (try have e3:=fQ (p:=p) ‹l[2]? =some _›)
  all_goals (try have f0:=PK (p:=p) (s:=0) (l:=l) (k:=0) AC)
  all_goals (try have f1:=PK (p:=p) (s:=1) (l:=l) (k:=1) AC)
  all_goals (try have f2:=PK (p:=p) (s:=2) (l:=l) (k:=1) AC)
  all_goals (try have f3:=PK (p:=p) (s:=2) (l:=l) (k:=2) AC)
  all_goals try simp only [Nat.zero_add,Nat.reduceAdd] at *
  all_goals first
   |(refine Av h ?_;clear h;clear U;simp_all;done)
   |(refine ⟨3,(by first|trivial|rfl),⟨AC,?_⟩,Yl,St.le_refl _⟩;clear h;clear U;simp_all;done)
   |(refine ⟨2,(by first|trivial|rfl),⟨AC,?_⟩,Yl,St.le_refl _⟩;clear h;clear U;simp_all;done)
 .rintro k ⟨hk,hi⟩
  refine ⟨_,rfl,?_⟩
  repeat' ((conv=>whnf);first|(refine Me ?_;intros)|(refine Mf ?_ ?_<;>intro _)|refine Jr (kinds:=[11,12]) ?_|refine fe ?_|refine U _ ‹_› _ _ ?_)
  all_goals conv=>whnf
  all_goals try simp only [tn0,tn1,tn2,tn3,tn4,Int.toNat_natCast,Nat.zero_add,Nat.reduceAdd] at *
  all_goals try (have e:=wc (p:=p) ‹l[k]? =some _›;rw [e] at hi;clear e)
  all_goals (try have e1:=we (p:=p) ‹l[k+1]? =some _›)
  all_goals (try have e2:=fQ (p:=p) ‹l[k+1]? =some _›)
  all_goals (try have e3:=fQ (p:=p) ‹l[k+2]? =some _›)
  all_goals (try have f0:=PK (p:=p) (s:=0) (l:=l) (k:=k) AC)
  all_goals (try have f1:=PK (p:=p) (s:=1) (l:=l) (k:=k+1) AC)
  all_goals (try have f2:=PK (p:=p) (s:=2) (l:=l) (k:=k+1) AC)
  all_goals (try have f3:=PK (p:=p) (s:=2) (l:=l) (k:=k+2) AC)
  all_goals try simp only [Nat.zero_add,Nat.reduceAdd] at *
  all_goals first
   |(refine Av h ?_;clear h;clear U;simp_all;done)
   |(refine ⟨k+3,(by first|trivial|rfl),⟨AC,?_⟩,AC,Yl,St.le_refl _⟩;clear h;clear U;simp_all;done)
   |(refine ⟨k+2,(by first|trivial|rfl),⟨AC,?_⟩,AC,Yl,St.le_refl _⟩;clear h;clear U;simp_all;done)
end
section
variable {st:St} {R:AB->St->Prop}
def IB (p:Nd->Bool) (n:Nd):Bool:=
 if n.kind=1 then DV n [1,2,4,11,12,13,14]
 else if n.kind=14 then n.kids.length==1&&n.kids[0]?.any (FU · 9 [95])
 else if n.kind=3 then Ui n
 else if n.kind=15 then n.kids.length==3&&n.kids[0]?.any (DV · [1])&&n.kids[1]?.any (FU · 10 [64])&&n.kids[2]?.any p
 else if n.kind=16 then n.kids.length==2&&n.kids[0]?.any (FU · 10 [126])&&n.kids[1]?.any p
 else if n.kind=4 then EG p n [40] [41] 1 true
 else if n.kind=5 then EG p n [40] [41] 2 false
 else if n.kind=6 then EG p n [91] [93] 1 false
 else if n.kind=12 then Kh p n
 else if n.kind=11 then decide (0<n.kids.length)&&n.kids[0]?.any J8&&Ip p (n.kids.drop 1)
 else if n.kind=17 then decide (1<n.kids.length)&&Ge p 0 n.kids
 else false
theorem og (hp:∀x,x.size<n.size->Dk 352 p x):Dk 352 (IB p) n:=by
 intro st R h
 have U:∀x ∈ n.kids,Dk 352 p x:=λx hx=>hp x (Gf hx)
 have hkk:∀x ∈ n.kids,∀y ∈ x.kids,Dk 352 p y:=λx hx y hy=>hp y (Nat.lt_trans (Gf hy) (Gf hx))
 have hd:∀x ∈ n.kids.drop 1,Dk 352 p x:=λx hx=>U x (List.mem_of_mem_drop hx)
 refine pB Tryz.func352 ?_
 repeat' ((conv=>whnf);first|(refine Me ?_;intros)|(refine Mf ?_ ?_<;>intro _)|refine Jr (kinds:=[1,2,4,11,12,13,14]) ?_|refine Kk ?_|refine xo ?_|refine Jr (kinds:=[1]) ?_|refine U _ ‹_› _ _ ?_|refine X1 (p:=p) Do Do U ?_|refine pj hkk ?_|refine V6 ?_|refine X0 hd ?_|refine pG U ?_)
 all_goals conv=>whnf
 all_goals (refine Av h ?_;clear h hp U hkk hd;try simp only [Int.toNat_zero,Int.toNat_one,Int.reduceToNat] at *)
 all_goals first
  |(simp_all [IB];done)
  |(have:1<n.kids.length:=by omega
    simp_all [IB];done)
  |(have:¬1<n.kids.length:=by omega
    simp_all [IB];intros;omega)
def Y3:Nat->Nd->Bool
 |0,_=>false
 |k+1,n=>IB (Y3 k) n
theorem size_pos (n:Nd):0<n.size:=by cases n;rw [Nd.size];omega
theorem cC:∀(k:Nat) (n:Nd),n.size<=k->Dk 352 (Y3 k) n
 |0,n,h=>by have:=size_pos n;omega
 |k+1,n,h=>og λx U=>cC k x AC
def SI (p:Nd->Bool) (l:List Nd):Bool:=if l.length=1 then l[0]?.any (λx=> !(x.kind==17)&&p x) else Ge p 0 l
theorem pT (U:∀x ∈ l,Dk 352 p x) (h:R (.ret (.bool (SI p l))) st):M7 379 [.slice 6 (CR l) .any] st R:=by
 refine pB Tryz.func379 ?_
 repeat' ((conv=>whnf);first|(refine Me ?_;intros)|(refine Mf ?_ ?_<;>intro _)|refine U _ ‹_› _ _ ?_|refine pG U ?_)
 all_goals conv=>whnf
 all_goals (refine Av h ?_;clear h U;try simp only [Int.toNat_zero,Int.toNat_one,Int.reduceToNat] at *)
 all_goals first
  |(simp_all [SI];done)
  |skip
def Et (p:Nd->Bool) (l:List Nd):Nat->List Nd->List UInt8×Bool
 |_,[]=>([],false)
 |i,x::r=>match KH x with
  |some t=>(t,SI p (l.take i)&&SI p (l.drop (i+1)))
  |none=>Et p l (i+1) r
def Cz (p:Nd->Bool) (q:Nd->List UInt8×Bool) (n:Nd):List UInt8×Bool:=
 if n.kind=11 then
  if 2<=n.kids.length then (if Ip p (n.kids.drop 1) then (match n.kids[0]? with
   |none=>([],false)
   |some f=>if f.kind=4 then (match BX f [40] [41] with|some l=>if l.length=1 then (match l[0]? with|some x=>q x|none=>([],false)) else ([],false)|none=>([],false))
    else match Eu f with|some t=>(t,true)|none=>([],false)) else ([],false)) else ([],false)
 else if n.kind=17 then Et p n.kids 0 n.kids
 else ([],false)
theorem mP {f:List UInt8×Bool} {b:Bool} (h:f=(t,b)):AB.ret (.BM [.str f.1,.bool f.2])=(AB.ret (.BM [.str t,.bool b])).wk:=by subst h;rfl
def aO (q:Nd->List UInt8×Bool) (x:Nd):Prop:=∀(st:St) (R:AB->St->Prop),R (.ret (.BM [.str (q x).1,.bool (q x).2])) st->M7 351 [enc x] st R
theorem TH {q:Nd->List UInt8×Bool} (hp:∀x,x.size<n.size->Dk 352 p x) (hq:∀x,x.size<n.size->aO q x):aO (Cz p q) n:=by
 intro st R h
 have hk:∀x ∈ n.kids,Dk 352 p x:=λx U=>hp x (Gf U)
 have hd:∀x ∈ n.kids.drop 1,Dk 352 p x:=λx U=>hk x (List.mem_of_mem_drop U)
 refine pB Tryz.func351 ?_
 repeat' ((conv=>whnf);first|(refine Me ?_;intros)|(refine Mf ?_ ?_<;>intro _)|refine X0 hd ?_|refine Jm (λl hl=>?_) (λhl=>?_)|refine M3 (λl hl=>?_) (λhl=>?_)|refine hq _ (Nat.lt_trans (Gf (MI ‹_› _ ‹_›)) (Gf ‹_›)) _ _ ?_)
 all_goals try (refine eZ 63 [1,61,62] [0] n.kids.length (λk=>k<=n.kids.length/\Et p n.kids 0 n.kids=Et p n.kids k (n.kids.drop k)) ⟨Nat.zero_le _,rfl⟩ Yl ?_;rintro k ⟨hkl,hi⟩)
 repeat' ((conv=>whnf);first|(refine Me ?_;intros)|(refine Mf ?_ ?_<;>intro _)|refine rW (λl hl=>?_) (λhl=>?_)|refine pT (λx U=>hk x (List.mem_of_mem_take (List.mem_of_mem_drop U))) ?_|refine pT (λx U=>hk x (List.mem_of_mem_drop U)) ?_)
 all_goals conv=>whnf
 all_goals first
  |refine BR ?_ h
  |(refine ⟨k+1,⟨AC,?_⟩,AC,Yl,St.le_refl _⟩)
  |skip
 all_goals clear h hp hq hk hd
 all_goals try (have e:=drop_at ‹n.kids[Int.toNat k]? =some _›;rw [Int.toNat_natCast] at e;rw [e,Et] at hi;clear e)
 all_goals try simp only [Int.toNat_zero,Int.toNat_one,Int.reduceToNat,Int.toNat_natCast] at *
 all_goals first
  |(simp_all;done)
  |refine mP ?_
 .have:¬2<=n.kids.length:=AC
  simp [Cz, *]
 all_goals try have g:2<=n.kids.length:=AC
 .rename_i x _ _ y _ _ _
  have e:Cz p q n=q y:=by simp_all [Cz]
  rw [e];exact Prod.ext rfl ‹_›
 .rename_i x _ _ y _ _ _
  have e:Cz p q n=q y:=by simp_all [Cz]
  rw [e];exact Prod.ext rfl ‹_›
 all_goals try (rw [List.drop_eq_nil_of_le AC,Et] at hi)
 all_goals simp_all [Cz]
def Yt:Nat->Nd->List UInt8×Bool
 |0,_=>([],false)
 |k+1,n=>Cz (Y3 k) (Yt k) n
theorem RP:∀(k:Nat) (n:Nd),n.size<=k->aO (Yt k) n
 |0,n,h=>by have:=size_pos n;omega
 |k+1,n,h=>TH (λx U=>cC k x AC) λx U=>RP k x AC
end
section
variable {st:St} {R:AB->St->Prop}
def H5 (n:Nd):Bool:=Y3 n.size n
theorem cB:Dk 352 H5 n:=λst R h=>cC n.size n (Nat.le_refl _) st R h
def bf (n:Nd):Int:=if H5 n then 0 else 120
theorem lU (h:R (.ret (.int .i64 (bf n))) st):M7 421 [enc n] st R:=by
 refine pB Tryz.func421 ?_
 repeat' ((conv=>whnf);first|(refine Me ?_;intros)|(refine Mf ?_ ?_<;>intro _)|refine cB _ _ ?_)
 all_goals conv=>whnf
 all_goals (refine fin h ?_;clear h;simp_all [bf])
def TN (n:Nd):Int×List UInt8×Int:=
 if (Yt n.size n).2 then (1,(Yt n.size n).1,0) else if H5 n then (2,[],0) else (0,[],120)
theorem mR {f:Int×List UInt8×Int} {b c:Int} (h:f=(b,t,c)):AB.ret (.BM [.int .i64 f.1,.str f.2.1,.int .i64 f.2.2])=(AB.ret (.BM [.int .i64 b,.str t,.int .i64 c])).wk:=by subst h;rfl
theorem zo (h:R (.ret (.BM [.int .i64 (TN n).1,.str (TN n).2.1,.int .i64 (TN n).2.2])) st):M7 313 [enc n] st R:=by
 refine pB Tryz.func313 ?_
 repeat' ((conv=>whnf);first|(refine Me ?_;intros)|(refine Mf ?_ ?_<;>intro _)|refine RP _ n (Nat.le_refl _) _ _ ?_|refine cB _ _ ?_)
 all_goals conv=>whnf
 all_goals (refine BR ?_ h;clear h;refine mR ?_;simp_all [TN])
def EN (q:Nd->List (List UInt8)) (field:Bool):Nat->List Nd->List (List UInt8)
 |_,[]=>[]
 |i,x::r=>(if 0<i\/field=false then q x else [])++EN q field (i+1) r
def CM (q:Nd->List (List UInt8)) (n:Nd):List (List UInt8):=
 match Eu n with
 |some s=>[s]
 |none=>if n.kind=18\/n.kind=19 then [] else EN q (n.kind==13) 0 n.kids
def aP (q:Nd->List (List UInt8)) (x:Nd):Prop:=∀(l:List (List UInt8)) (own:AH) (st:St) (R:AB->St->Prop),l.length+(q x).length<=1000000000->own.BS st->
 (∀U:AH,U.BS st->R (.ret (.slice 1 (strs (l++q x)) U)) (U.st st (l++q x).length))->M7 399 [.slice 1 (strs l) own,enc x] (own.st st l.length) R
attribute [local irreducible] Go.Aw.Am
theorem cJ {q:Nd->List (List UInt8)} (hq:∀x,x.size<n.size->aP q x):aP (CM q) n:=by
 intro l own st R hb ho h
 refine pB Tryz.func399 ?_
 repeat' ((conv=>whnf);first|(refine Me ?_;intros)|(refine Mf ?_ ?_<;>intro _)|refine M3 (λt ht=>?_) (λht=>?_)|refine PZ (new:=[_]) ho ?_ (λown' ho'=>?_))
 .have e:CM q n=[t]:=by simp [CM,ht]
  rw [e] at hb;exact hb
 .conv=>whnf
  have e:CM q n=[t]:=by simp [CM,ht]
  rw [e] at h
  exact fin (h own' ho') rfl
 .conv=>whnf
  have e:CM q n=[]:=by simp [CM, *]
  rw [e,List.append_nil] at h
  exact fin (h own ho) rfl
 .conv=>whnf
  have e:CM q n=[]:=by simp [CM, *]
  rw [e,List.append_nil] at h
  exact fin (h own ho) rfl
 .have e:CM q n=EN q (n.kind==13) 0 n.kids:=by simp [CM, *]
  rw [e] at h hb
  conv=>whnf
  refine V4 (α:=Nat×AH×List (List UInt8)) (λx=>[(31,.int .i64 (x.1:Int)),(0,.slice 1 (strs x.2.2) x.2.1)]) [3,29,30] [0] (λx=>AH.st st x.2.2.length x.2.1)
   (λx=>x.1<=n.kids.length/\AH.BS st x.2.1/\l++EN q (n.kind==13) 0 n.kids=x.2.2++EN q (n.kind==13) x.1 (n.kids.drop x.1)) (λx=>n.kids.length - x.1) (0,own,l) ⟨Nat.zero_le _,ho,rfl⟩ Yl (St.le_refl _) ?_
  rintro ⟨k,own1,U⟩ ⟨hk,ho1,hi⟩
  simp only at hk ho1 hi
  have hlen:=congrArg List.length hi
  simp only [List.length_append] at hlen
  repeat' ((conv=>whnf);first|(refine Me ?_;intros)|(refine Mf ?_ ?_<;>intro _)|refine hq _ (Gf ‹_›) U own1 st _ ?_ ho1 (λown2 ho2=>?_))
  all_goals try conv=>whnf
  all_goals try (have e:=drop_at ‹n.kids[_]? =some _›;simp only [Int.toNat_natCast] at e;rw [e,EN] at hi hlen;clear e)
  all_goals simp only [Int.toNat_natCast] at *
  .rw [if_pos (.inl AC)] at hlen
   rw [List.length_append] at hlen
   show U.length+_<=1000000000
   omega
  .refine ⟨(k+1,own2,U++_),⟨by show k+1<=_;omega,ho2,?_⟩,by show _ - (k+1)<_ - k;omega,Yl,St.le_refl _⟩
   rw [if_pos (.inl AC)] at hi
   rw [hi,List.append_assoc]
  .refine ⟨(k+1,own1,U),⟨by show k+1<=_;omega,ho1,?_⟩,by show _ - (k+1)<_ - k;omega,Yl,St.le_refl _⟩
   rw [if_neg (by rintro (g|g)<;>first|omega|simp_all)] at hi
   rw [hi];rfl
  .have g:(n.kind==13)=false:=ke
   rw [if_pos (.inr g),List.length_append] at hlen
   show U.length+_<=1000000000
   omega
  .refine ⟨(k+1,own2,U++_),⟨by show k+1<=_;omega,ho2,?_⟩,by show _ - (k+1)<_ - k;omega,Yl,St.le_refl _⟩
   have g:(n.kind==13)=false:=ke
   rw [if_pos (.inr g)] at hi
   rw [hi,List.append_assoc]
  .rw [List.drop_eq_nil_of_le AC,EN,List.append_nil] at hi
   rw [hi] at h
   exact fin (h own1 ho1) rfl
def F9:Nat->Nd->List (List UInt8)
 |0,_=>[]
 |k+1,n=>CM (F9 k) n
theorem Y8:∀(k:Nat) (n:Nd),n.size<=k->aP (F9 k) n
 |0,n,h=>by have:=size_pos n;omega
 |k+1,n,h=>cJ λx U=>Y8 k x AC
def GH (n:Nd):List (List UInt8)×Int:=if H5 n then (F9 n.size n,0) else ([],120)
theorem je (hb:(F9 n.size n).length<=1000000000) (h:R (.ret (.BM [.slice 1 (strs (GH n).1) .any,.int .i64 (GH n).2])) st):M7 372 [enc n] st R:=by
 refine pB Tryz.func372 ?_
 repeat' ((conv=>whnf);first|(refine Me ?_;intros)|(refine Mf ?_ ?_<;>intro _)|refine cB _ _ ?_|refine Y8 _ n (Nat.le_refl _) [] .full st _ ?_ trivial (λown2 U=>?_))
 all_goals try conv=>whnf
 .show 0+_<=_
  omega
 .have e:GH n=(F9 n.size n,0):=by simp_all [GH]
  rw [e] at h
  exact ⟨_,st,.inr rfl,AH.BZ U,h⟩
 .have e:GH n=([],120):=by simp_all [GH]
  rw [e] at h
  exact BR rfl h
end
theorem Sk {q:Nd->List (List UInt8)} {b:Bool}:∀{l:List Nd} {i:Nat},(∀x ∈ l,(q x).length<=x.size)->(EN q b i l).length<=Dh l
 |[],_,_=>by simp [EN,Dh]
 |x::r,i,h=>by
  have:=Sk (b:=b) (l:=r) (i:=i+1) λy hy=>h y (List.mem_cons_of_mem _ hy)
  have:=h x List.mem_cons_self
  rw [EN,List.length_append,Dh]
  grind
theorem Sl:∀{k:Nat} {n:Nd},(F9 k n).length<=n.size
 |0,n=>Nat.zero_le _
 |k+1,n=>by
  rw [F9,CM]
  have:=size_pos n
  split
  .grind
  .split
   .simp
   .have:=Sk (b:=n.kind==13) (l:=n.kids) (i:=0) (q:=F9 k) λx _=>Sl
    cases n with
    |mk a b c d e ks=>rw [Nd.size];show (EN _ _ 0 ks).length<=_;have:(EN (F9 k) (a==13) 0 ks).length<=Dh ks:=this;show (EN (F9 k) (a==13) 0 ks).length<=_;omega
section
variable {st:St} {R:AB->St->Prop}
theorem oA (U:n.size<=1000000000) (h:R (.ret (.BM [.slice 1 (strs (GH n).1) .any,.int .i64 (GH n).2])) st):M7 372 [enc n] st R:=
 je (Nat.le_trans Sl U) h
theorem mw {f:Int} {l c:Int} {ks:List Nd}:enc (.mk k f t l c ks)=.agg [.int .i64 k,.int .i64 f,.str t,.int .i64 l,.int .i64 c,.slice 6 (ks.map AP) .any]:=by
 rw [enc,AP,B9];rfl
end
end Go.Proofs.Z
namespace Go.Proofs
open Go.Shelf
open Go.RowKit in
open Go.RowKit in
def Tryz.YJ:Go.Shelf.Ren:=⟨λ|160=>119|232=>159|231=>158|227=>160|234=>162|233=>161|236=>164|235=>163|228=>194|271=>196|151=>195|197=>68|120=>241|152=>240|260=>117|137=>294|119=>295|224=>252|225=>251|217=>250|266=>299|n=>n,λ|9=>9|4=>4|3=>3|5=>5|117=>226|116=>225|0=>0|124=>229|21=>21|105=>105|46=>219|119=>218|139=>222|138=>221|n=>n,λ|3=>1|4=>2|n=>n⟩
theorem Tryz.tv:Go.Proofs.Lays.n160 Tryz.prog Tryz.YJ:={
 mixed:=EQ
 f119:=Tryz.func295.trans (congrArg some EQ)
 f120:=Tryz.func241.trans (congrArg some EQ)
 f137:=Tryz.func294.trans (congrArg some EQ)
 f151:=Tryz.func195.trans (congrArg some EQ)
 f152:=Tryz.func240.trans (congrArg some EQ)
 f160:=Tryz.func119.trans (congrArg some EQ)
 f197:=Tryz.func68.trans (congrArg some EQ)
 f217:=Tryz.func250.trans (congrArg some EQ)
 f224:=Tryz.func252.trans (congrArg some EQ)
 f225:=Tryz.func251.trans (congrArg some EQ)
 f227:=Tryz.func160.trans (congrArg some EQ)
 f228:=Tryz.func194.trans (congrArg some EQ)
 f231:=Tryz.func158.trans (congrArg some EQ)
 f232:=Tryz.func159.trans (congrArg some EQ)
 f233:=Tryz.func161.trans (congrArg some EQ)
 f234:=Tryz.func162.trans (congrArg some EQ)
 f235:=Tryz.func163.trans (congrArg some EQ)
 f236:=Tryz.func164.trans (congrArg some EQ)
 f260:=Tryz.func117.trans (congrArg some EQ)
 f266:=Tryz.func299.trans (congrArg some EQ)
 f271:=Tryz.func196.trans (congrArg some EQ)
 t0:=Tryz.underlying0
 a0:=Tryz.isAgg0
 z0:=Tryz.sizeOf0
 v0:=Tryz.zeroValue0
 t3:=Tryz.underlying3
 a3:=Tryz.isAgg3
 z3:=Tryz.sizeOf3
 v3:=Tryz.zeroValue3
 t4:=Tryz.underlying4
 a4:=Tryz.isAgg4
 z4:=Tryz.sizeOf4
 v4:=Tryz.zeroValue4
 t5:=Tryz.underlying5
 a5:=Tryz.isAgg5
 z5:=Tryz.sizeOf5
 v5:=Tryz.zeroValue5
 t9:=Tryz.underlying9
 a9:=Tryz.isAgg9
 z9:=Tryz.sizeOf9
 v9:=Tryz.zeroValue9
 t21:=Tryz.underlying21
 a21:=Tryz.isAgg21
 z21:=Tryz.sizeOf21
 v21:=Tryz.zeroValue21
 t46:=Tryz.underlying219
 a46:=Tryz.isAgg219
 z46:=Tryz.sizeOf219
 v46:=Tryz.zeroValue219
 t105:=Tryz.underlying105
 a105:=Tryz.isAgg105
 z105:=Tryz.sizeOf105
 v105:=Tryz.zeroValue105
 t116:=Tryz.underlying225
 a116:=Tryz.isAgg225
 z116:=Tryz.sizeOf225
 t117:=Tryz.underlying226
 a117:=Tryz.isAgg226
 z117:=Tryz.sizeOf226
 v117:=Tryz.zeroValue226
 t119:=Tryz.underlying218
 a119:=Tryz.isAgg218
 z119:=Tryz.sizeOf218
 t124:=Tryz.underlying229
 a124:=Tryz.isAgg229
 z124:=Tryz.sizeOf229
 v124:=Tryz.zeroValue229
 t138:=Tryz.underlying221
 a138:=Tryz.isAgg221
 z138:=Tryz.sizeOf221
 v138:=Tryz.zeroValue221
 t139:=Tryz.underlying222
 a139:=Tryz.isAgg222
 z139:=Tryz.sizeOf222
 v139:=Tryz.zeroValue222
 g3:=EQ
 g4:=by kernel_rfl}
open Go.RowKit in
theorem Tryz.strings_Trim_one (s:ByteArray) (c:UInt8) (U:c.toNat<128) (w:World) (hs:s.size<=9223372036854775807):
 Calls Tryz.prog 119 #[.string s,.string ⟨#[c]⟩] w λe w'=>e=.returned (.string ⟨(Lib.trimB s.data.toList c).toArray⟩)/\(w'=w\/w'=w.drew):=Any.strings_Trim_one Tryz.tv s c U w hs
def Tryz.YG:Go.Shelf.Ren:=⟨λ|137=>294|217=>250|266=>299|n=>n,λ|9=>9|5=>5|3=>3|n=>n,λ|n=>n⟩
theorem Tryz.tq:Go.Proofs.Lays.n137 Tryz.prog Tryz.YG:={
 mixed:=EQ
 f137:=Tryz.func294.trans (congrArg some EQ)
 f217:=Tryz.func250.trans (congrArg some EQ)
 f266:=Tryz.func299.trans (congrArg some EQ)
 t3:=Tryz.underlying3
 a3:=Tryz.isAgg3
 z3:=Tryz.sizeOf3
 v3:=Tryz.zeroValue3
 t5:=Tryz.underlying5
 a5:=Tryz.isAgg5
 z5:=Tryz.sizeOf5
 v5:=Tryz.zeroValue5
 t9:=Tryz.underlying9
 a9:=Tryz.isAgg9
 z9:=Tryz.sizeOf9
 v9:=Tryz.zeroValue9}
open Go.RowKit in
theorem Tryz.strings_IndexByte (s:ByteArray) (c:Int) (w:World):
 Calls Tryz.prog 294 #[.string s,.int .u8 c] w λe w'=>e=.returned (.int .i64 (Lib.indexByte s.data.toList c.toNat.toUInt8))/\w'=w:=Any.strings_IndexByte Tryz.tq s c w
def Tryz.YH:Go.Shelf.Ren:=⟨λ|144=>125|143=>168|219=>204|217=>250|225=>251|224=>252|267=>253|266=>299|314=>300|n=>n,λ|9=>9|4=>4|3=>3|5=>5|46=>219|146=>307|51=>306|n=>n,λ|1=>3|n=>n⟩
theorem Tryz.tt:Go.Proofs.Lays.n144 Tryz.prog Tryz.YH:={
 mixed:=EQ
 f143:=Tryz.func168.trans (congrArg some EQ)
 f144:=Tryz.func125.trans (congrArg some EQ)
 f217:=Tryz.func250.trans (congrArg some EQ)
 f219:=Tryz.func204.trans (congrArg some EQ)
 f224:=Tryz.func252.trans (congrArg some EQ)
 f225:=Tryz.func251.trans (congrArg some EQ)
 f266:=Tryz.func299.trans (congrArg some EQ)
 f267:=Tryz.func253.trans (congrArg some EQ)
 f314:=Tryz.func300.trans (congrArg some EQ)
 t3:=Tryz.underlying3
 a3:=Tryz.isAgg3
 z3:=Tryz.sizeOf3
 v3:=Tryz.zeroValue3
 t4:=Tryz.underlying4
 a4:=Tryz.isAgg4
 z4:=Tryz.sizeOf4
 v4:=Tryz.zeroValue4
 t5:=Tryz.underlying5
 a5:=Tryz.isAgg5
 z5:=Tryz.sizeOf5
 v5:=Tryz.zeroValue5
 t9:=Tryz.underlying9
 a9:=Tryz.isAgg9
 z9:=Tryz.sizeOf9
 v9:=Tryz.zeroValue9
 t46:=Tryz.underlying219
 a46:=Tryz.isAgg219
 z46:=Tryz.sizeOf219
 v46:=Tryz.zeroValue219
 t51:=Tryz.underlying306
 a51:=Tryz.isAgg306
 z51:=Tryz.sizeOf306
 v51:=Tryz.zeroValue306
 t146:=Tryz.underlying307
 a146:=Tryz.isAgg307
 z146:=Tryz.sizeOf307
 v146:=Tryz.zeroValue307
 g1:=by kernel_rfl}
open Go.RowKit Go.Lib in
theorem Tryz.strings_Contains (s sub:ByteArray) (m:Int) (w:World) (hs:s.size<4294967281) (U:w.cell? ⟨3,0,none⟩=some (.int .i64 m)):
 Calls Tryz.prog 125 #[.string s,.string sub] w λe w'=>e=.returned (.bool (Lib.contains s.data.toList sub.data.toList))/\w'=w:=Any.strings_Contains Tryz.tt s sub m w hs U
def Tryz.VY:Go.Shelf.Ren:=⟨λ|15=>44|20=>69|n=>n,λ|9=>9|23=>64|3=>3|4=>4|0=>0|21=>21|n=>n,λ|n=>n⟩
theorem Tryz.nA:Go.Proofs.LaysGw.n15 Tryz.prog Tryz.VY:={
 mixed:=EQ
 f15:=Tryz.func44.trans (congrArg some EQ)
 f20:=Tryz.func69.trans (congrArg some EQ)
 t0:=Tryz.underlying0
 a0:=Tryz.isAgg0
 z0:=Tryz.sizeOf0
 v0:=Tryz.zeroValue0
 i0:=EQ
 t3:=Tryz.underlying3
 a3:=Tryz.isAgg3
 z3:=Tryz.sizeOf3
 v3:=Tryz.zeroValue3
 i3:=EQ
 t4:=Tryz.underlying4
 a4:=Tryz.isAgg4
 z4:=Tryz.sizeOf4
 v4:=Tryz.zeroValue4
 i4:=EQ
 t9:=Tryz.underlying9
 a9:=Tryz.isAgg9
 z9:=Tryz.sizeOf9
 v9:=Tryz.zeroValue9
 i9:=EQ
 t21:=Tryz.underlying21
 a21:=Tryz.isAgg21
 z21:=Tryz.sizeOf21
 v21:=Tryz.zeroValue21
 i21:=EQ
 t23:=Tryz.underlying64
 a23:=Tryz.isAgg64
 z23:=Tryz.sizeOf64
 v23:=Tryz.zeroValue64
 i23:=by kernel_rfl}
def Tryz.cd:Go.Shelf.Ren:=⟨λ|99=>73|206=>118|n=>n,λ|9=>9|4=>4|3=>3|n=>n,λ|n=>n⟩
theorem Tryz.xA:Go.Proofs.Lays.n99 Tryz.prog Tryz.cd:={
 mixed:=EQ
 f99:=Tryz.func73.trans (congrArg some EQ)
 f206:=Tryz.func118.trans (congrArg some EQ)
 t3:=Tryz.underlying3
 a3:=Tryz.isAgg3
 z3:=Tryz.sizeOf3
 v3:=Tryz.zeroValue3
 t4:=Tryz.underlying4
 a4:=Tryz.isAgg4
 z4:=Tryz.sizeOf4
 v4:=Tryz.zeroValue4
 t9:=Tryz.underlying9
 a9:=Tryz.isAgg9
 z9:=Tryz.sizeOf9
 v9:=Tryz.zeroValue9}
open Go.RowKit Go.Lib in
theorem Tryz.strings_HasPrefix (s p:ByteArray) (w:World):
 Calls Tryz.prog 73 #[.string s,.string p] w λe w'=>e=.returned (.bool (Lib.hasPrefix s.data.toList p.data.toList))/\w'=w:=Any.strings_HasPrefix Tryz.xA s p w
def Tryz.YI:Go.Shelf.Ren:=⟨λ|157=>214|229=>258|199=>259|261=>302|311=>335|312=>336|n=>n,λ|9=>9|31=>79|3=>3|5=>5|4=>4|119=>218|0=>0|40=>64|152=>309|21=>21|154=>311|51=>306|141=>313|196=>330|193=>327|198=>333|49=>331|194=>328|201=>336|226=>347|46=>219|227=>348|n=>n,λ|0=>4|6=>5|n=>n⟩
theorem Tryz.tu:Go.Proofs.Lays.n157 Tryz.prog Tryz.YI:={
 mixed:=EQ
 f157:=Tryz.func214.trans (congrArg some EQ)
 f199:=Tryz.func259.trans (congrArg some EQ)
 f229:=Tryz.func258.trans (congrArg some EQ)
 f261:=Tryz.func302.trans (congrArg some EQ)
 f311:=Tryz.func335.trans (congrArg some EQ)
 f312:=Tryz.func336.trans (congrArg some EQ)
 t0:=Tryz.underlying0
 a0:=Tryz.isAgg0
 z0:=Tryz.sizeOf0
 v0:=Tryz.zeroValue0
 t3:=Tryz.underlying3
 a3:=Tryz.isAgg3
 z3:=Tryz.sizeOf3
 v3:=Tryz.zeroValue3
 t4:=Tryz.underlying4
 a4:=Tryz.isAgg4
 z4:=Tryz.sizeOf4
 v4:=Tryz.zeroValue4
 t5:=Tryz.underlying5
 a5:=Tryz.isAgg5
 z5:=Tryz.sizeOf5
 v5:=Tryz.zeroValue5
 t9:=Tryz.underlying9
 a9:=Tryz.isAgg9
 z9:=Tryz.sizeOf9
 v9:=Tryz.zeroValue9
 t21:=Tryz.underlying21
 a21:=Tryz.isAgg21
 z21:=Tryz.sizeOf21
 v21:=Tryz.zeroValue21
 t31:=Tryz.underlying79
 a31:=Tryz.isAgg79
 z31:=Tryz.sizeOf79
 v31:=Tryz.zeroValue79
 t40:=Tryz.underlying64
 a40:=Tryz.isAgg64
 z40:=Tryz.sizeOf64
 v40:=Tryz.zeroValue64
 t46:=Tryz.underlying219
 a46:=Tryz.isAgg219
 z46:=Tryz.sizeOf219
 v46:=Tryz.zeroValue219
 t49:=Tryz.underlying331
 a49:=Tryz.isAgg331
 z49:=Tryz.sizeOf331
 v49:=Tryz.zeroValue331
 t51:=Tryz.underlying306
 a51:=Tryz.isAgg306
 z51:=Tryz.sizeOf306
 v51:=Tryz.zeroValue306
 t119:=Tryz.underlying218
 a119:=Tryz.isAgg218
 z119:=Tryz.sizeOf218
 t141:=Tryz.underlying313
 a141:=Tryz.isAgg313
 z141:=Tryz.sizeOf313
 v141:=Tryz.zeroValue313
 t152:=Tryz.underlying309
 a152:=Tryz.isAgg309
 z152:=Tryz.sizeOf309
 v152:=Tryz.zeroValue309
 t154:=Tryz.underlying311
 a154:=Tryz.isAgg311
 z154:=Tryz.sizeOf311
 v154:=Tryz.zeroValue311
 t193:=Tryz.underlying327
 a193:=Tryz.isAgg327
 z193:=Tryz.sizeOf327
 v193:=Tryz.zeroValue327
 t194:=Tryz.underlying328
 a194:=Tryz.isAgg328
 z194:=Tryz.sizeOf328
 v194:=Tryz.zeroValue328
 t196:=Tryz.underlying330
 a196:=Tryz.isAgg330
 z196:=Tryz.sizeOf330
 v196:=Tryz.zeroValue330
 t198:=Tryz.underlying333
 a198:=Tryz.isAgg333
 z198:=Tryz.sizeOf333
 v198:=Tryz.zeroValue333
 t201:=Tryz.underlying336
 a201:=Tryz.isAgg336
 z201:=Tryz.sizeOf336
 v201:=Tryz.zeroValue336
 t226:=Tryz.underlying347
 a226:=Tryz.isAgg347
 z226:=Tryz.sizeOf347
 v226:=Tryz.zeroValue347
 t227:=Tryz.underlying348
 a227:=Tryz.isAgg348
 z227:=Tryz.sizeOf348
 v227:=Tryz.zeroValue348
 g0:=EQ
 g6:=by kernel_rfl}
open Go.RowKit Go.Lib in
theorem Tryz.strings_Fields (s : ByteArray) (w : World) (hs : s.size < 4294967281) (U : ∀ (j : Nat) b, s.data.toList[j]? = some b -> b.toNat < 128) (htab : Lib.TabIs Tryz.prog w "strings.asciiSpace" .u8 Lib.asciiSpaceTab) :
 Calls Tryz.prog 214 #[.string s] w λe w'=>
  e=.returned (.slice (some ⟨w.heap.size,0,none⟩) (Lib.fields s.data.toList).length (Lib.fields s.data.toList).length)/\w'=w.alloc (.cells ((Lib.fields s.data.toList).map λl=>Value.string ⟨l.toArray⟩).toArray 9):=Any.strings_Fields Tryz.tu EQ EQ s w hs U htab
def Tryz.YK:Go.Shelf.Ren:=⟨λ|197=>68|260=>117|n=>n,λ|9=>9|21=>21|3=>3|4=>4|5=>5|105=>105|119=>218|0=>0|46=>219|139=>222|138=>221|n=>n,λ|3=>1|4=>2|n=>n⟩
theorem Tryz.tw:Go.Proofs.Lays.n197 Tryz.prog Tryz.YK:={
 mixed:=EQ
 f197:=Tryz.func68.trans (congrArg some EQ)
 f260:=Tryz.func117.trans (congrArg some EQ)
 t0:=Tryz.underlying0
 a0:=Tryz.isAgg0
 z0:=Tryz.sizeOf0
 v0:=Tryz.zeroValue0
 t3:=Tryz.underlying3
 a3:=Tryz.isAgg3
 z3:=Tryz.sizeOf3
 v3:=Tryz.zeroValue3
 t4:=Tryz.underlying4
 a4:=Tryz.isAgg4
 z4:=Tryz.sizeOf4
 v4:=Tryz.zeroValue4
 t5:=Tryz.underlying5
 a5:=Tryz.isAgg5
 z5:=Tryz.sizeOf5
 v5:=Tryz.zeroValue5
 t9:=Tryz.underlying9
 a9:=Tryz.isAgg9
 z9:=Tryz.sizeOf9
 v9:=Tryz.zeroValue9
 t21:=Tryz.underlying21
 a21:=Tryz.isAgg21
 z21:=Tryz.sizeOf21
 v21:=Tryz.zeroValue21
 t46:=Tryz.underlying219
 a46:=Tryz.isAgg219
 z46:=Tryz.sizeOf219
 v46:=Tryz.zeroValue219
 t105:=Tryz.underlying105
 a105:=Tryz.isAgg105
 z105:=Tryz.sizeOf105
 v105:=Tryz.zeroValue105
 t119:=Tryz.underlying218
 a119:=Tryz.isAgg218
 z119:=Tryz.sizeOf218
 t138:=Tryz.underlying221
 a138:=Tryz.isAgg221
 z138:=Tryz.sizeOf221
 v138:=Tryz.zeroValue221
 t139:=Tryz.underlying222
 a139:=Tryz.isAgg222
 z139:=Tryz.sizeOf222
 v139:=Tryz.zeroValue222
 g3:=EQ
 g4:=by kernel_rfl}
open Go.RowKit Go.Lib in
theorem Tryz.utf8_DecodeRuneInString (s:ByteArray) (w:World) (U:Lib.Utf8Tabs 1 2 w):
 Calls Tryz.prog 68 #[.string s] w λe w'=>e=.returned (.tuple #[.int .i32 (Lib.decodeGo s).1,.int .i64 (Lib.decodeGo s).2])/\Below w.heap.size w w':=Any.utf8_DecodeRuneInString Tryz.tw s w U
open Go.RowKit Go.Lib in
theorem Tryz.strings_IndexFunc_grows (g:Nat) (U:Array Value) (eg:∀args w,(callFunc g args).run Tryz.prog w=.ok (.enter g args) w) (p:Nat->Bool) (s:ByteArray) (w:World) (hp:PredGrows Tryz.prog g U p w):
 Calls Tryz.prog 44 #[.string s,.func (.func g) #[] U] w λe w'=>e=.returned (.int .i64 (Lib.idxFunc p true s))/\Below w.heap.size w w':=Any.strings_IndexFunc_grows Tryz.nA g U eg p s w hp
end Go.Proofs
namespace Go.Aw
open Go
theorem CU.below {st:St} {w w':World} (h:CU I st w) (b:RowKit.Below w.heap.size w w'):Fr I st w I st w'/\CU I st w':=by
 refine ⟨⟨b.os,b.tape,b.output,b.size,λx hx _ _=>b.block x hx,Mem.le_refl _,λ_ _ h k=>absurd h k,λ_ h k=>absurd h k,λ_ h=>.inr h⟩,?_,?_,?_,h.IV,?_,h.UU⟩
 .intro x o v e
  have e:=h.cell x o v e
  rw [Hq (b.block x (ML e))];exact e
 .intro x n e
  obtain ⟨c,ty,U,h2⟩:=h.shape x n e
  exact ⟨c,ty,by rw [b.block x (H3 U)];exact U,h2⟩
 .intro x cs e
  obtain ⟨vs,ty,U,h2⟩:=h.box x cs e
  exact ⟨vs,ty,by rw [b.block x (H3 U)];exact U,h2⟩
 .intro x n e
  exact ⟨Nat.lt_of_lt_of_le (h.hw x n e).1 b.size,(h.hw x n e).2⟩
theorem DF {P:Program} {st:St} (hf:Plain P f) (v:V)
 (h:∀(I:Mem) (w:World) (U:List Value),CU I st w->Aq I args U->Calls P f U.toArray w λe w'=>(∃c,e=.returned c/\AL I v c)/\RowKit.Below w.heap.size w w')
 (k:R (.ret v) st):A9 P f args st R:=
 ⟨λI w U hs ha=>(h I w U hs ha).mono λe w' ⟨⟨c,he,hc⟩,hb⟩=>⟨I,st,.ret v,(hs.below hb).1,(hs.below hb).2,by subst he;exact hc,k⟩,hf⟩
theorem CU.row {st:St} {w:World} (h:CU I st w) (vs:List Value) (ty:TypeId):
 Fr I st w (I.add w.heap.size 0 vs vs.length) st (w.alloc (.cells vs.toArray ty))/\CU (I.add w.heap.size 0 vs vs.length) st (w.alloc (.cells vs.toArray ty))/\I.le (I.add w.heap.size 0 vs vs.length):=by
 have hr:Rel [] I st w I (λ_=>none) {tmps:=[],boxes:=[],Bw:=0,sz:=0,gl:=[]} st {tmps:=#[],defers:=[]} w:=
  Su h rfl (λt v e=>by cases e) rfl rfl
 have h1:=hr.newRow vs [] ty
 rw [List.append_nil,List.length_nil,Nat.add_zero] at h1
 have U:=h1.Il (St.Js (St.le_refl st) (D6 h).2 vs.length)
 exact ⟨U.fr,U.s,U.fr.le⟩
theorem pn {n:Nat} (l:List (List UInt8)) (hl:∀x ∈ l,x.length<D7) (hn:l.length<D7)
 (hle:I.le (I.add b 0 (l.map λx=>Value.string ⟨x.toArray⟩) n)):
 AL (I.add b 0 (l.map λx=>Value.string ⟨x.toArray⟩) n) (.slice 1 (l.map λx=>[.str x]) .any) (.slice (some ⟨b,0,none⟩) l.length l.length):=by
 simp only [AL]
 refine ⟨some ⟨b,0,none⟩,l.length,GT,GT,ke,Do,trivial,.inr rfl,?_⟩
 refine CK.add _ (l.map λx=>Value.string ⟨x.toArray⟩) 0 ?_ hle (λj c U=>Mem.QZ U)
 clear hle hn
 induction l with
 |nil=>rfl
 |cons a r ih=>
  simp only [List.map_cons,Cm]
  refine ⟨[Value.string ⟨a.toArray⟩],r.map λx=>Value.string ⟨x.toArray⟩,rfl,rfl,?_,ih λx hx=>hl x (List.mem_cons_of_mem _ hx)⟩
  simp only [Aq,AL]
  simp_all
end Go.Aw
namespace Go.Proofs.Z
open Go Go.Aw
def X5 (s:List UInt8):Int×Int:=match s with
 |[]=>(65533,0)
 |a::r=>(((AJ (a::r)).1:Nat),((AJ (a::r)).2:Nat))
theorem Pv (s:List UInt8):(((Lib.decodeGo ⟨s.toArray⟩).1:Nat):Int)=(X5 s).1/\(((Lib.decodeGo ⟨s.toArray⟩).2:Nat):Int)=(X5 s).2:=by
 cases s with
 |nil=>exact ⟨rfl,rfl⟩
 |cons a r=>
  have U:¬(⟨(a::r).toArray⟩:ByteArray).size=0:=by show ¬(a::r).toArray.size=0;simp
  unfold Lib.decodeGo
  rw [if_neg U,Vv GT,List.drop_zero]
  exact ⟨rfl,rfl⟩
section
variable {st:St} {R:AB->St->Prop}
theorem vL (h:R (.ret (.BM [.int .i32 (X5 s).1,.int .i64 (X5 s).2])) st):PC 68 [.str s] st R:=by
 refine DF ⟨_,Tryz.func68,Do,Do⟩ _ (λI w cargs U ha=>?_) h
 simp only [Aq,AL] at ha
 obtain ⟨c,r,rfl,⟨rfl,hl⟩,rfl⟩:=ha
 refine (Tryz.utf8_DecodeRuneInString ⟨s.toArray⟩ w ⟨λi hi=>U.cell _ _ _ (U.UU.first i hi),λi hi=>⟨U.cell _ _ _ (U.UU.accept i hi).1,U.cell _ _ _ (U.UU.accept i hi).2⟩⟩).mono λe w' ⟨he,hb⟩=>⟨⟨_,he,?_⟩,hb⟩
 rw [(Pv s).1,(Pv s).2]
 simp only [AL,Aq]
 exact ⟨_,rfl,_,_,rfl,rfl,_,_,rfl,rfl,rfl⟩
theorem Jz {p:List UInt8} (h:R (.ret (.bool (p.isPrefixOf s))) st):PC 73 [.str s,.str p] st R:=by
 refine DF ⟨_,Tryz.func73,Do,Do⟩ _ (λI w U hs ha=>?_) h
 simp only [Aq,AL] at ha
 obtain ⟨c,r,rfl,⟨rfl,hl⟩,c2,r2,rfl,⟨rfl,hl2⟩,rfl⟩:=ha
 refine (Tryz.strings_HasPrefix ⟨s.toArray⟩ ⟨p.toArray⟩ w).mono λe w' ⟨he,hw⟩=>⟨⟨_,he,?_⟩,hw ▸ RowKit.Below.refl _ _⟩
 simp only [AL]
 rfl
theorem yB {c:UInt8} (hc:c.toNat<128) (h:R (.ret (.str (Lib.trimB s c))) st):PC 119 [.str s,.str [c]] st R:=by
 refine DF ⟨_,Tryz.func119,Do,Do⟩ _ (λI w U hs ha=>?_) h
 simp only [Aq,AL] at ha
 obtain ⟨c1,r,rfl,⟨rfl,hl⟩,c2,r2,rfl,⟨rfl,hl2⟩,rfl⟩:=ha
 have hsz:(⟨s.toArray⟩:ByteArray).size<=9223372036854775807:=by show s.toArray.size<=_;unfold D7 at hl;simp;omega
 refine (Tryz.strings_Trim_one ⟨s.toArray⟩ c hc w hsz).mono λe w' ⟨he,hw⟩=>⟨⟨_,he,?_⟩,?_⟩
 .simp only [AL]
  refine ⟨trivial,?_⟩
  have:(Lib.trimB s c).length<=s.length:=by
   unfold Lib.trimB Lib.trimLeftB Lib.trimRightB
   refine Nat.le_trans (List.dropWhile_sublist _).length_le ?_
   rw [List.length_reverse]
   refine Nat.le_trans (List.dropWhile_sublist _).length_le ?_
   simp
  unfold D7 at hl |-;omega
 .rcases hw with rfl|rfl
  .exact RowKit.Below.refl _ _
  .exact (RowKit.Below.refl _ _).drew
theorem wV {c:UInt8} (h:R (.ret (.int .i64 (Lib.indexByte s c))) st):PC 294 [.str s,.int .u8 c.toNat] st R:=by
 refine DF ⟨_,Tryz.func294,Do,Do⟩ _ (λI w U hs ha=>?_) h
 simp only [Aq,AL] at ha
 obtain ⟨c1,r,rfl,⟨rfl,hl⟩,c2,r2,rfl,rfl,rfl⟩:=ha
 refine (Tryz.strings_IndexByte ⟨s.toArray⟩ c.toNat w).mono λe w' ⟨he,hw⟩=>⟨⟨_,he,?_⟩,hw ▸ RowKit.Below.refl _ _⟩
 simp [AL]
theorem bq (hz:s.length<4294967281) (h:R (.ret (.bool (Lib.contains s t))) st):PC 125 [.str s,.str t] st R:=by
 refine DF ⟨_,Tryz.func125,Do,Do⟩ _ (λI w U hs ha=>?_) h
 simp only [Aq,AL] at ha
 obtain ⟨c1,r,rfl,⟨rfl,hl⟩,c2,r2,rfl,⟨rfl,hl2⟩,rfl⟩:=ha
 obtain ⟨m,hm⟩:=hs.UU.maxLen
 refine (Tryz.strings_Contains ⟨s.toArray⟩ ⟨t.toArray⟩ m w (by show s.toArray.size<_;simpa using hz) (hs.cell _ _ _ hm)).mono λe w' ⟨he,hw⟩=>⟨⟨_,he,?_⟩,hw ▸ RowKit.Below.refl _ _⟩
 simp [AL]
end
end Go.Proofs.Z
namespace Go.Aw
open Go
noncomputable def Env.Ow (env:Env) (U:List (Nat×V)) (bx:List (Nat×List V)) (keep kb:List Nat):Env:=match env with
 |⟨ts,bs,n,sz,gl⟩=>⟨Env.ts ⟨ts,bs,n,sz,gl⟩ U keep,List.rec (motive:=λ_=>List (Nat×List V)) (Env.bx ⟨ts,bs,n,sz,gl⟩ kb) (λp _ ih=>p::ih) bx,n,sz,gl⟩
theorem Sc {st:St} (f:α->List (Nat×V)) (g:α->List (Nat×List V)) (keep kb:List Nat) (S:α->St) (J:α->Prop) (U:α->Nat) (x0:α) (h0:J x0)
 (he:(env.Ow (f x0) (g x0) keep kb).FF env) (hs:St.le (S x0) st)
 (hb:∀x,J x->ih (Ca (λenv' st'=>∃y,J y/\U y<U x/\(env.Ow (f y) (g y) keep kb).FF env'/\St.le (S y) st') Q) (env.Ow (f x) (g x) keep kb) (S x)):
 ∃(α:Type) (E:α->Env) (S:α->St) (J:α->Prop) (U:α->Nat) (x0:α),J x0/\(E x0).FF env/\St.le (S x0) st/\
  ∀x,J x->ih (Ca (λenv' st'=>∃y,J y/\U y<U x/\(E y).FF env'/\St.le (S y) st') Q) (E x) (S x):=
 ⟨α,λk=>env.Ow (f k) (g k) keep kb,S,J,U,x0,h0,he,hs,hb⟩
theorem cw {st:St} (f:α->β->List (Nat×V)) (g:α->β->List (Nat×List V)) (keep kb:List Nat) (S:α->β->St) (J:α->β->Prop) (U:α->β->Nat) (x0:α) (y0:β) (h0:J x0 y0)
 (he:(env.Ow (f x0 y0) (g x0 y0) keep kb).FF env) (hs:St.le (S x0 y0) st)
 (hb:∀x y,J x y->ih (Ca (λenv' st'=>∃p:α×β,J p.1 p.2/\U p.1 p.2<U x y/\(env.Ow (f p.1 p.2) (g p.1 p.2) keep kb).FF env'/\St.le (S p.1 p.2) st') Q) (env.Ow (f x y) (g x y) keep kb) (S x y)):
 ∃(α:Type) (E:α->Env) (S:α->St) (J:α->Prop) (U:α->Nat) (x0:α),J x0/\(E x0).FF env/\St.le (S x0) st/\
  ∀x,J x->ih (Ca (λenv' st'=>∃y,J y/\U y<U x/\(E y).FF env'/\St.le (S y) st') Q) (E x) (S x):=
 ⟨α×β,λp=>env.Ow (f p.1 p.2) (g p.1 p.2) keep kb,λp=>S p.1 p.2,λp=>J p.1 p.2,λp=>U p.1 p.2,(x0,y0),h0,he,hs,λp h=>hb p.1 p.2 h⟩
theorem V3 {st:St} {γ:Type} (f:α->β->γ->List (Nat×V)) (g:α->β->γ->List (Nat×List V)) (keep kb:List Nat) (S:α->β->γ->St) (J:α->β->γ->Prop) (U:α->β->γ->Nat) (x0:α) (y0:β) (z0:γ) (h0:J x0 y0 z0)
 (he:(env.Ow (f x0 y0 z0) (g x0 y0 z0) keep kb).FF env) (hs:St.le (S x0 y0 z0) st)
 (hb:∀x y z,J x y z->ih (Ca (λenv' st'=>∃p:α×β×γ,J p.1 p.2.1 p.2.2/\U p.1 p.2.1 p.2.2<U x y z/\(env.Ow (f p.1 p.2.1 p.2.2) (g p.1 p.2.1 p.2.2) keep kb).FF env'/\St.le (S p.1 p.2.1 p.2.2) st') Q) (env.Ow (f x y z) (g x y z) keep kb) (S x y z)):
 ∃(α:Type) (E:α->Env) (S:α->St) (J:α->Prop) (U:α->Nat) (x0:α),J x0/\(E x0).FF env/\St.le (S x0) st/\
  ∀x,J x->ih (Ca (λenv' st'=>∃y,J y/\U y<U x/\(E y).FF env'/\St.le (S y) st') Q) (E x) (S x):=
 ⟨α×β×γ,λp=>env.Ow (f p.1 p.2.1 p.2.2) (g p.1 p.2.1 p.2.2) keep kb,λp=>S p.1 p.2.1 p.2.2,λp=>J p.1 p.2.1 p.2.2,λp=>U p.1 p.2.1 p.2.2,(x0,y0,z0),h0,he,hs,λp h=>hb p.1 p.2.1 p.2.2 h⟩
theorem Cb {k:IntKind} {a b:Int} (e:a=b):AB.ret (.int k a)=AB.ret (.int k b):=by rw [e]
theorem WJ {n:Nat} {p:Prop} (k:n<4611686018427387904->p):n<D7->p:=k
theorem WK {l:List UInt8} {K:Nat->Nat->Prop} (k:∀c m,(c,m)=AJ l->K c m):∀c m,(c,m)=AJ l->K c m:=k
theorem WN {a:Int} {K:List UInt8->Prop} (U:0<=a) (h1:a<=s.length) (k:K (s.drop a.toNat)):
 (0<=a/\a<=(s.length:Int)/\(s.length:Int)<=s.length)/\∀s',s'=(s.take (s.length:Int).toNat).drop a.toNat->K s':=
 ⟨⟨U,h1,Int.le_refl _⟩,λs' e=>by
   simp_all⟩
theorem WO {b:Int} {K:List UInt8->Prop} (U:0<=b) (h1:b<=s.length) (k:K (s.take b.toNat)):
 ((0:Int)<=0/\0<=b/\b<=s.length)/\∀s',s'=(s.take b.toNat).drop (0:Int).toNat->K s':=
 ⟨⟨Int.le_refl _,U,h1⟩,λs' e=>by
   simp_all⟩
theorem WP {a b:Int} {K:List UInt8->Prop} (U:0<=a) (h1:a<=b) (h2:b<=s.length) (k:K ((s.take b.toNat).drop a.toNat)):
 (0<=a/\a<=b/\b<=s.length)/\∀s',s'=(s.take b.toNat).drop a.toNat->K s':=⟨⟨U,h1,h2⟩,λs' e=>e ▸ k⟩
theorem WM {K:UInt8->Prop} (U:0<=i) (h1:i<s.length) (k:∀e,s[i.toNat]? =some e->K e):0<=i/\∃e,s[i.toNat]? =some e/\K e:=ke
theorem WL {e:UInt8} {K:UInt8->Prop} (h:s[i.toNat]? =some e) (U:0<=i) (k:K e):0<=i/\∃e,s[i.toNat]? =some e/\K e:=⟨U,e,h,k⟩
theorem D2 (h:P:=by with_reducible first|(show _/\_;first|exact Wa)|(show Bq _ _ _;first|exact Wb|exact Wc)|fail):P:=h
theorem Cf {A:Prop} (k:A) (h:A->P:=by intro k;with_reducible first|(show _/\_;first|exact Wd EQ k|exact Wm ‹_› AC k|exact Wn AC AC k|exact Wo AC AC k|exact Wp AC AC AC k|exact Wr Do AC AC k|exact Ws Do k|exact WB ‹_› AC k|exact WC AC AC k|exact WD AC AC k|exact WE AC AC AC k|exact WL ‹_› AC k|exact WM AC AC k|exact WN AC AC k|exact WO AC AC k|exact WP AC AC AC k)|(show Bq _ _ _;first|exact Wt H9 k|exact Wu H9 k|exact Wv AC k|exact Ww AC k|exact Wi k|exact Wj k)|(intro x y z;exact Wl k x y z)|(intro x y z;exact Wz k x y z)|(intro x y z;exact WA k x y z)|(intro x;exact WJ k x)|(intro x y z;exact WK k x y z)|(show Exists _;first|exact Wq AC AC k)|fail):P:=h k
theorem D3 {B C:V->Prop} (k:V) (l:B k) (m:C k) (h:∀k,B k->C k->P:=by intro k l m;with_reducible first|(show Exists _;first|exact We k l m|exact W8 GE k l m|exact W0 GE k l m|exact W9 k l m)|fail):P:=h k l m
theorem Cg {A:Prop} (k:A) (l:B) (h:A->B->P:=by intro k l;with_reducible first|(show Bq _ _ _;first|exact Wf Do k l|exact Wg k l|exact Wh k l|exact Wk k l)|fail):P:=h k l
theorem Yc4 {A:Prop} (k:A) (l:B) (h:A->B->P:=by intro k l;with_reducible first|(intro x y;exact Wx k l x y)|(intro x y;exact Wy k l x y)|fail):P:=h k l
def BC (c:Int):Int:=
 if c=40\/c=41\/c=44\/c=59\/c=91\/c=93\/c=96\/c=123\/c=125 then 6
 else if c=34\/c=39 then 7
 else if 32<c/\c<127 then 5
 else 0
def Ng (c:Int):Int:=
 if c=215\/c=247 then 5
 else if 223<=c/\c<=255\/945<=c/\c<=969 then 2
 else if 192<=c/\c<=222\/913<=c/\c<=937/\c≠930 then 3
 else if c<160\/c=173\/55296<=c/\c<=57343\/1114111<c then 0
 else if 160<c/\c<=191\/8592<=c/\c<=8959 then 5
 else 8
def Ay (c:Int):Int:=
 if c=32\/9<=c/\c<=13 then 1
 else if 48<=c/\c<=57 then 4
 else if 97<=c/\c<=122\/c=95 then 2
 else if 65<=c/\c<=90 then 3
 else if c<128 then BC c else Ng c
def BW (c base:Int):Int:=
 let v:=if 48<=c/\c<=57 then c - 48 else if 97<=c/\c<=102 then c - 87 else if 65<=c/\c<=70 then c - 55 else 16
 if base<2\/16<base\/base<=v then -1 else v
theorem Ek (l:List UInt8):1<=(AJ l).2:=by
 unfold AJ
 grind
theorem Hs {l:List UInt8} (h:l≠[]):(AJ l).2<=l.length:=by
 cases l with
 |nil=>simp_all
 |cons a l=>
  have U:∀k:Nat,(match l[k]? with|some b=>b.toNat / 64==2|none=>false)=true->k+2<=(a::l).length:=λk e=>by grind
  unfold AJ
  grind
def BB (p:Nat×Nat->Bool) (l:List UInt8):Nat:=
 match l with
 |[]=>0
 |a::r=>if p (AJ (a::r)) then (AJ (a::r)).2+BB p ((a::r).drop (AJ (a::r)).2) else 0
termination_by l.length
decreasing_by
 have:=Ek (a::r)
 grind
theorem E6 (p:Nat×Nat->Bool):BB p []=0:=by rw [BB]
theorem Cp {p:Nat×Nat->Bool} {l:List UInt8} (h:l≠[]) (U:p (AJ l)=true):BB p l=(AJ l).2+BB p (l.drop (AJ l).2):=by
 cases l with
 |nil=>simp_all
 |cons a r=>rw [BB,if_pos U]
theorem En {p:Nat×Nat->Bool} {l:List UInt8} (U:p (AJ l)=false):BB p l=0:=by
 cases l with
 |nil=>exact E6 p
 |cons a r=>rw [BB,if_neg ke]
theorem K7 (p:Nat×Nat->Bool) (l:List UInt8):BB p l<=l.length:=by
 fun_induction BB p l with
 |case1=>omega
 |case2 a r h U=>
  have:=Hs (l:=a::r) GT
  grind
 |case3 a r h=>omega
theorem dk (p:Nat×Nat->Bool) (l:List UInt8) (h:BB p l<l.length):p (AJ (l.drop (BB p l)))=false:=by
 fun_induction BB p l with
 |case1=>simp at h
 |case2 a r U ih=>
  rw [List.length_drop] at ih
  have:=Hs (l:=a::r) GT
  rw [<-List.drop_drop]
  grind
 |case3 a r U=>simp_all
def Bx (p:Int->Bool) (l:List UInt8):Nat:=BB (λd=>p (d.1:Nat)) l
theorem UM (p:Int->Bool):Bx p []=0:=E6 _
theorem O8 {p:Int->Bool} {l:List UInt8} (h:l≠[]) (U:p ((AJ l).1:Nat)=true):Bx p l=(AJ l).2+Bx p (l.drop (AJ l).2):=Cp h U
theorem N8 {p:Int->Bool} {l:List UInt8} (U:p ((AJ l).1:Nat)=false):Bx p l=0:=En U
theorem Gg (p:Int->Bool) (l:List UInt8):Bx p l<=l.length:=K7 _ l
theorem SP (p:Int->Bool) (l:List UInt8) (h:Bx p l<l.length):p ((AJ (l.drop (Bx p l))).1:Nat)=false:=dk _ l h
theorem rune_le (h:pos<t.length) (hd:(c,m)=AJ (t.drop pos)):pos+m<=t.length/\1<=m:=by
 have U:=Ek (t.drop pos)
 have h2:=Hs (l:=t.drop pos) (λe=>by have:=congrArg List.length e;grind)
 grind
theorem QO {p:Nat×Nat->Bool} {n:Nat} (h:pos<t.length) (hd:(c,m)=AJ (t.drop pos)) (U:p (c,m)=true) (hi:n=pos+BB p (t.drop pos)):n=pos+m+BB p (t.drop (pos+m)):=by
 rw [hi,Cp (λe=>by have:=congrArg List.length e;grind) ke,<-hd,List.drop_drop]
 grind
theorem Xt {p:Nat×Nat->Bool} {n:Nat} (hd:(c,m)=AJ (t.drop pos)) (U:p (c,m)=false) (hi:n=pos+BB p (t.drop pos)):n=pos:=by
 rw [hi,En ke];rfl
theorem SQ {p:Nat×Nat->Bool} {n:Nat} (h:¬pos<t.length) (hi:n=pos+BB p (t.drop pos)):n=pos:=by
 rw [hi,List.drop_eq_nil_iff.2 AC,E6];rfl
def Df (d:Nat×Nat):Bool:= !(d.1==65533&&d.2==1)
end Go.Aw
namespace Go.Proofs.Z
open Go Go.Aw
def NO (s:List UInt8) (i:Int):Int×Int:=if i<0\/s.length<=i then (0,0) else X5 (s.drop i.toNat)
def uE (s:List UInt8) (i U:Int):Int:=if i<0\/s.length<i then 0 else i+Bx (λc=>Ay c==U) (s.drop i.toNat)
def MC (s:List UInt8):Int×Int:=if BB Df s<s.length then (BB Df s,10) else (s.length,0)
theorem Ut (h:i<0\/s.length<=i):NO s i=(0,0):=if_pos h
theorem NP (h:0<=i) (k:i<s.length):NO s i=X5 (s.drop i.toNat):=if_neg AC
theorem pM (h:i<0\/s.length<i):uE s i k=0:=if_pos h
theorem QL (h:0<=i) (U:i<=s.length):uE s i k=i+Bx (λc=>Ay c==k) (s.drop i.toNat):=if_neg AC
theorem ej (h:s≠[]):X5 s=((((AJ s).1:Nat):Int),(((AJ s).2:Nat):Int)):=by
 cases s with
 |nil=>exact absurd rfl h
 |cons a r=>rfl
theorem Qs (h:pos<s.length) (hd:(c,m)=AJ (s.drop pos)):X5 (s.drop (pos:Int).toNat)=((c:Int),(m:Int)):=by
 rw [show (pos:Int).toNat=pos by omega,ej (λe=>by have:=congrArg List.length e;rw [List.length_drop,List.length_nil] at this;omega),<-hd]
theorem lV (h:pos<s.length) (k:BB Df s=pos):MC s=(((pos:Nat):Int),10):=by
 unfold MC;rw [k,if_pos h]
theorem rZ (h:¬pos<s.length) (k:BB Df s=pos):MC s=((s.length:Int),0):=by
 unfold MC;rw [k,if_neg h]
section
variable {st:St} {R:AB->St->Prop}
theorem xJ {c:Int} (h:R (.ret (.int .i64 (BC c))) st):PC 70 [.int .i32 c] st R:=by
 refine pB Tryz.func70 ?_
 repeat' ((conv=>whnf);first|(refine Cf ?_;intros)|(refine Cg ?_ ?_<;>intro _)|fail)
 all_goals exact fin h (Cb (by unfold BC;(repeat' split)<;>first|omega|rfl))
theorem lF {c:Int} (h:R (.ret (.int .i64 (Ng c))) st):PC 71 [.int .i32 c] st R:=by
 refine pB Tryz.func71 ?_
 repeat' ((conv=>whnf);first|(refine Cf ?_;intros)|(refine Cg ?_ ?_<;>intro _)|fail)
 all_goals exact fin h (Cb (by unfold Ng;(repeat' split)<;>first|omega|rfl))
theorem Lp {c:Int} (h:R (.ret (.int .i64 (Ay c))) st):PC 46 [.int .i32 c] st R:=by
 refine pB Tryz.func46 ?_
 repeat' ((conv=>whnf);first|(refine Cf ?_;intros)|(refine Cg ?_ ?_<;>intro _)|refine xJ ?_|refine lF ?_)
 all_goals exact fin h (Cb (by unfold Ay;(repeat' split)<;>first|omega|rfl))
theorem oH (U:s.length<4611686018427387904) (h:R (.ret (.BM [.int .i32 (NO s i).1,.int .i64 (NO s i).2])) st):PC 105 [.str s,.int .i64 i] st R:=by
 refine pB Tryz.func105 ?_
 repeat' ((conv=>whnf);first|(refine Cf ?_;intros)|(refine Cg ?_ ?_<;>intro _)|refine vL ?_)
 all_goals exact fin h (by first|rw [Ut AC]|rw [NP AC AC])
theorem wj (hl:s.length<4611686018427387904) (h:R (.ret (.int .i64 (uE s i k))) st):PC 72 [.str s,.int .i64 i,.int .i64 k] st R:=by
 refine pB Tryz.func72 ?_
 repeat' ((conv=>whnf);first|(refine Cf ?_;intros)|(refine Cg ?_ ?_<;>intro _)|refine Lp ?_)
 all_goals try exact fin h (Cb (pM AC))
 have hlen:(s.drop i.toNat).length=s.length - i.toNat:=List.length_drop
 generalize ht:s.drop i.toNat=t at hlen
 refine Sc (α:=Nat) (λ_=>[]) (λpos=>[(0,[.Qe t pos])]) [0,1,2,20] [] (λ_=>st) (λpos=>pos<=t.length/\Bx (λc=>Ay c==k) t=pos+Bx (λc=>Ay c==k) (t.drop pos)) (λpos=>t.length - pos) 0 ⟨Nat.zero_le _,GT⟩ Yl (St.le_refl _) ?_
 rintro pos ⟨hp,hi⟩
 repeat' ((conv=>whnf);first|(refine Cf ?_;intros)|(refine Cg ?_ ?_<;>intro _)|refine Lp ?_)
 .rename_i U c m hd hk
  have hr:=rune_le U hd
  conv=>whnf
  exact ⟨pos+m,⟨hr.1,QO U hd (beq_iff_eq.2 hk) hi⟩,AC,Yl,St.le_refl _⟩
 .rename_i U c m hd hk
  have:=Xt (p:=λd=>Ay (d.1:Nat)==k) hd (beq_eq_false_iff_ne.2 hk) hi
  exact fin h (Cb (by rw [QL AC AC,ht,this]))
 .rename_i U hls
  have:=SQ U hi
  exact fin h (Cb (by rw [QL AC AC,ht,this];omega))
theorem Vq (h:R (.ret (.BM [.int .i64 (MC s).1,.int .i64 (MC s).2])) st):PC 43 [.str s] st R:=by
 refine pB Tryz.func43 ?_
 repeat' ((conv=>whnf);first|(refine Cf ?_;intros)|(refine Cg ?_ ?_<;>intro _)|fail)
 refine Sc (α:=Nat) (λ_=>[]) (λpos=>[(0,[.Qe s pos])]) [0,9] [] (λ_=>st) (λpos=>pos<=s.length/\BB Df s=pos+BB Df (s.drop pos)) (λpos=>s.length - pos) 0 ⟨Nat.zero_le _,GT⟩ Yl (St.le_refl _) ?_
 rintro pos ⟨hp,hi⟩
 repeat' ((conv=>whnf);first|(refine Cf ?_;intros)|(refine Cg ?_ ?_<;>intro _)|refine vL ?_)
 .rename_i U c m hd hc hm
  rw [Qs U hd] at hm
  have hk:=Xt hd (by simp only [Df];have h1:c=65533:=hc;have h2:m=1:=Int.ofNat.inj hm;rw [h1,h2];rfl) hi
  exact fin h (by rw [lV U hk])
 .rename_i U c m hd hc hm
  rw [Qs U hd] at hm
  have hr:=rune_le U hd
  conv=>whnf
  exact ⟨pos+m,⟨hr.1,QO U hd (by simp only [Df];have:¬m=1:=λe=>hm (by subst e;rfl);simp [this]) hi⟩,AC,Yl,St.le_refl _⟩
 .rename_i U c m hd hc
  have hr:=rune_le U hd
  conv=>whnf
  exact ⟨pos+m,⟨hr.1,QO U hd (by simp only [Df];have:¬c=65533:=hc;simp [this]) hi⟩,AC,Yl,St.le_refl _⟩
 .rename_i U hls
  exact fin h (by rw [rZ U (SQ U hi)])
end
end Go.Proofs.Z
namespace Go.Aw
open Go
def AE:List UInt8->Int
 |[]=> -1
 |a::_=>(a.toNat:Nat)
theorem mX (l:List UInt8): -1<=AE l/\AE l<=255:=by
 cases l with
 |nil=>exact ⟨Do,Do⟩
 |cons a r=>have:=a.toNat_lt;simp only [AE];omega
def Hx (l:List UInt8):Nat:=if AE l=13/\AE (l.drop 1)=10 then 2 else if AE l=13\/AE l=10\/AE l=12 then 1 else 0
def Z3 (Ch:Int):Int:=(Ch - 1) / 8*8+9
def AV (l:List UInt8):Nat:=if 0<Hx l then Hx l else (AJ l).2
def EC (l:List UInt8) (line:Int):Int:=if 0<Hx l then line+1 else line
def Fw (l:List UInt8) (Ch:Int):Int:=if 0<Hx l then 1 else if AE l=9 then Z3 Ch else Ch+1
theorem Ee {i:Nat} {e:UInt8} (h:s[i]? =some e):AE (s.drop i)=(e.toNat:Nat):=by rw [drop_at h];rfl
theorem HW {i:Nat} (h:s.length<=i):AE (s.drop i)= -1:=by rw [List.drop_eq_nil_iff.2 h];rfl
theorem cL (l:List UInt8):Hx l<=l.length:=by
 rcases l with _|⟨a,_|⟨b,r⟩⟩
 .decide
 .have e:¬(AE [a]=13/\AE ([a].drop 1)=10):=λh=>absurd (show (-1:Int)=10 from h.2) Do
  unfold Hx
  rw [if_neg e,List.length_singleton]
  by_cases h:AE [a]=13\/AE [a]=10\/AE [a]=12
  .rw [if_pos h];omega
  .rw [if_neg h];omega
 .unfold Hx
  simp only [List.length_cons]
  by_cases U:AE (a::b::r)=13/\AE ((a::b::r).drop 1)=10
  .rw [if_pos U];omega
  .rw [if_neg U]
   by_cases h:AE (a::b::r)=13\/AE (a::b::r)=10\/AE (a::b::r)=12
   .rw [if_pos h];omega
   .rw [if_neg h];omega
theorem Gh {l:List UInt8} (h:l≠[]):AV l<=l.length/\1<=AV l:=by
 unfold AV
 split
 .exact ⟨cL l,FS⟩
 .exact ⟨Hs h,Ek l⟩
theorem fY (s:List UInt8) (pos:Nat):¬pos<s.length\/(pos+AV (s.drop pos)<=s.length/\1<=AV (s.drop pos)):=by
 by_cases h:pos<s.length
 .have:=Gh (l:=s.drop pos) (λe=>by have:=congrArg List.length e;rw [List.length_drop,List.length_nil] at this;omega)
  rw [List.length_drop] at this
  exact .inr ⟨AC,this.2⟩
 .exact .inl h
end Go.Aw
namespace Go.Proofs.Z
open Go Go.Aw
def spot (pos:Nat) (line Ch:Int):V:=.agg [.int .i64 pos,.int .i64 line,.int .i64 Ch]
theorem SS {p:Nat} {p' l l' c U:Int} (e1:(p:Int)=p') (e2:l=l') (e3:c=U):AB.ret (spot p l c)=AB.ret (.agg [.int .i64 p',.int .i64 l',.int .i64 U]):=by subst e1;subst e2;subst e3;rfl
section
variable {st:St} {R:AB->St->Prop}
theorem fk (U:s.length<4611686018427387904) (hx:NO s i=((c:Int),(m:Int))) (h:R (.ret (.BM [.int .i32 c,.int .i64 m])) st):PC 105 [.str s,.int .i64 i] st R:=oH U (by rw [hx];exact h)
theorem Us (hl:s.length<4611686018427387904) (hp:pos<s.length) (h:R (.ret (.int .i64 (Hx (s.drop pos):Nat))) st):PC 104 [.str s,.int .i64 pos] st R:=by
 obtain ⟨e,U⟩:∃e,s[pos]? =some e:=⟨s[pos],List.getElem?_eq_getElem hp⟩
 have he':s[(pos:Int).toNat]? =some e:=U
 have h0:=Ee U
 have h1:AE ((s.drop pos).drop 1)=AE (s.drop (pos+1)):=by rw [List.drop_drop]
 refine pB Tryz.func104 ?_
 repeat' ((conv=>whnf);first|(refine Cf ?_;intros)|(refine Cg ?_ ?_<;>intro _)|fail)
 all_goals try have h2:=Ee (show s[pos+1]? =some _ by assumption)
 all_goals try have h3:=HW (s:=s) (i:=pos+1) AC
 all_goals exact fin h (Cb (by unfold Hx;rw [h1];(repeat' split)<;>omega))
theorem yw {Ch:Int} (U:1<=Ch) (h1:Ch<=4000000000000000000) (h:R (.ret (.int .i64 (Z3 Ch))) st):PC 106 [.int .i64 Ch] st R:=by
 refine pB Tryz.func106 ?_
 repeat' ((conv=>whnf);first|(refine Cf ?_;intros)|(refine Cg ?_ ?_<;>intro _)|fail)
 exact fin h (Cb (by unfold Z3;omega))
theorem fF {line Ch:Int} (hl:s.length<4611686018427387904) (hp:pos<s.length) (h0:1<=line) (h1:line<=4000000000000000000) (h2:1<=Ch) (h3:Ch<=4000000000000000000)
 (h:R (.ret (spot (pos+AV (s.drop pos)) (EC (s.drop pos) line) (Fw (s.drop pos) Ch))) st):PC 63 [.str s,spot pos line Ch] st R:=by
 obtain ⟨e,he⟩:∃e,s[pos]? =some e:=⟨s[pos],List.getElem?_eq_getElem hp⟩
 have he':s[(pos:Int).toNat]? =some e:=he
 have hh:=Ee he
 have hn:=cL (s.drop pos)
 rw [List.length_drop] at hn
 rcases hd:AJ (s.drop pos) with ⟨c,m⟩
 have hr:=rune_le hp hd.symm
 have hx:NO s pos=((c:Int),(m:Int)):=by rw [NP AC AC,Qs hp hd.symm]
 refine pB Tryz.func63 ?_
 repeat' ((conv=>whnf);first|(refine Cf ?_;intros)|(refine Cg ?_ ?_<;>intro _)|refine Us hl hp ?_|refine fk hl hx ?_|refine yw h2 h3 ?_)
 .have U:0<Hx (s.drop pos):=AC
  exact fin h (SS (by unfold AV;rw [if_pos U];omega) (by unfold EC;rw [if_pos U]) (by unfold Fw;rw [if_pos U]))
 .have U:¬0<Hx (s.drop pos):=AC
  exact fin h (SS (by unfold AV;rw [if_neg U,hd];omega) (by unfold EC;rw [if_neg U]) (by unfold Fw;rw [if_neg U,if_pos AC]))
 .have U:¬0<Hx (s.drop pos):=AC
  exact fin h (SS (by unfold AV;rw [if_neg U,hd];omega) (by unfold EC;rw [if_neg U]) (by unfold Fw;rw [if_neg U,if_neg AC]))
end
end Go.Proofs.Z
namespace Go.Aw
open Go
def BT (l:List UInt8) (k:Nat) (p:Int×Int):Int×Int:=
 match l with
 |[]=>p
 |a::r=>if k<AV (a::r) then p else BT ((a::r).drop (AV (a::r))) (k - AV (a::r)) (EC (a::r) p.1,Fw (a::r) p.2)
termination_by l.length
decreasing_by
 have:=Gh (l:=a::r) GT
 simp only [List.length_drop,List.length_cons]
 omega
theorem GQ (k:Nat) (p:Int×Int):BT [] k p=p:=by rw [BT]
theorem FJ {l:List UInt8} {k:Nat} {p:Int×Int} (h:k<AV l):BT l k p=p:=by
 cases l with
 |nil=>exact GQ k p
 |cons a r=>rw [BT,if_pos h]
theorem D8 {l:List UInt8} {k:Nat} {p:Int×Int} (U:l≠[]) (h:¬k<AV l):BT l k p=BT (l.drop (AV l)) (k - AV l) (EC l p.1,Fw l p.2):=by
 cases l with
 |nil=>exact absurd rfl U
 |cons a r=>rw [BT,if_neg h]
theorem Ei {l:List UInt8} {p:Int×Int}:BT l 0 p=p:=by
 cases l with
 |nil=>exact GQ 0 p
 |cons a r=>exact FJ (Gh GT).2
theorem VC (h:pos<s.length):s.drop pos≠[]:=λe=>by
 have:=congrArg List.length e;rw [List.length_drop,List.length_nil] at this;omega
theorem Ts {k:Nat} {line Ch:Int} (h:pos<s.length) (U:¬pos+k<pos+AV (s.drop pos)):
 BT (s.drop pos) k (line,Ch)=BT (s.drop (pos+AV (s.drop pos))) (k - AV (s.drop pos)) (EC (s.drop pos) line,Fw (s.drop pos) Ch):=by
 rw [D8 (VC h) AC,List.drop_drop]
theorem Xz (l:List UInt8) (line:Int):line<=EC l line/\EC l line<=line+1:=by unfold EC;split<;>omega
theorem QQ (l:List UInt8) {Ch:Int} (h:1<=Ch):1<=Fw l Ch/\Fw l Ch<=Ch+8:=by
 unfold Fw Z3
 by_cases U:0<Hx l
 .rw [if_pos U];omega
 .rw [if_neg U]
  by_cases h2:AE l=9
  .rw [if_pos h2];omega
  .rw [if_neg h2];omega
end Go.Aw
namespace Go.Proofs.Z
open Go Go.Aw
section
variable {st:St} {R:AB->St->Prop}
theorem zD {k:Nat} (hl:s.length<=100000000) (hk:k<=s.length) (h:R (.ret (.BM [.int .i64 (BT s k (1,1)).1,.int .i64 (BT s k (1,1)).2,.int .i64 0])) st):PC 39 [.str s,.int .i64 k] st R:=by
 refine pB Tryz.func39 ?_
 repeat' ((conv=>whnf);first|exact D2|(refine Cf ?_;intros)|(refine D3 ?_ ?_ ?_;rotate_left)|(refine Cg ?_ ?_<;>intro _)|with_reducible refine WF ?_)
 refine V3 (α:=Nat) (β:=Int) (γ:=Int) (λ_ _ _=>[]) (λpos line Ch=>[(0,[.int .i64 (pos:Int),.int .i64 line,.int .i64 Ch])]) [0,1,7] [] (λ_ _ _=>st)
  (λpos line Ch=>pos<=k/\1<=line/\line<=1+(pos:Int)/\1<=Ch/\Ch<=1+8*(pos:Int)/\BT s k (1,1)=BT (s.drop pos) (k - pos) (line,Ch)) (λpos _ _=>k - pos) 0 1 1 ⟨AC,AC,AC,AC,AC,rfl⟩ Yl (St.le_refl _) ?_
 rintro pos line Ch ⟨h1,h2,h3,h4,h5,U⟩
 have hr:=fY s pos
 have hL:=Xz (s.drop pos) line
 have hC:=QQ (s.drop pos) h4
 repeat' ((conv=>whnf);first|exact D2|(refine Cf ?_;intros)|(refine D3 ?_ ?_ ?_;rotate_left)|(refine Cg ?_ ?_<;>intro _)|refine fF AC AC AC AC AC AC ?_|with_reducible refine WF ?_)
 .exact fin h (by rw [U,FJ AC])
 .conv=>whnf
  exact ⟨(pos+AV (s.drop pos),EC (s.drop pos) line,Fw (s.drop pos) Ch),⟨UV,UV,UV,UV,UV,by dsimp only;rw [U,Ts AC AC,Nat.sub_sub]⟩,UV,Yl,St.le_refl _⟩
 .have hz:k - pos=0:=AC
  exact fin h (by rw [U,hz,Ei])
theorem vz {U:Int} (hl:s.length<=100000000) (h0:1<=U) (h1:U<=2147483648) (h:R (.ret (.BM [.int .i64 (BT s s.length (1,U)).2,.int .i64 0])) st):PC 121 [.str s,.int .i64 U] st R:=by
 refine pB Tryz.func121 ?_
 repeat' ((conv=>whnf);first|(refine Cf ?_;intros)|(refine Cg ?_ ?_<;>intro _)|fail)
 refine V3 (α:=Nat) (β:=Int) (γ:=Int) (λ_ _ _=>[]) (λpos line Ch=>[(0,[.int .i64 (pos:Int),.int .i64 line,.int .i64 Ch])]) [0,6] [] (λ_ _ _=>st)
  (λpos line Ch=>pos<=s.length/\1<=line/\line<=1+(pos:Int)/\1<=Ch/\Ch<=U+8*(pos:Int)/\BT s s.length (1,U)=BT (s.drop pos) (s.length - pos) (line,Ch)) (λpos _ _=>s.length - pos) 0 1 U ⟨AC,AC,AC,AC,AC,rfl⟩ Yl (St.le_refl _) ?_
 rintro pos line Ch ⟨h1,h2,h3,h4,h5,h6⟩
 have hr:=fY s pos
 have hL:=Xz (s.drop pos) line
 have hC:=QQ (s.drop pos) h4
 repeat' ((conv=>whnf);first|(refine Cf ?_;intros)|(refine Cg ?_ ?_<;>intro _)|refine fF AC AC AC AC AC AC ?_)
 .conv=>whnf
  exact ⟨(pos+AV (s.drop pos),EC (s.drop pos) line,Fw (s.drop pos) Ch),⟨UV,UV,UV,UV,UV,by dsimp only;rw [h6,Ts AC AC,Nat.sub_sub]⟩,UV,Yl,St.le_refl _⟩
 .have hz:s.length - pos=0:=AC
  exact fin h (by rw [h6,hz,Ei])
end
end Go.Proofs.Z
namespace Go.Aw
open Go
theorem xH {st:St} {γ δ:Type} (f:α->β->γ->δ->List (Nat×V)) (g:α->β->γ->δ->List (Nat×List V)) (keep kb:List Nat) (S:α->β->γ->δ->St) (J:α->β->γ->δ->Prop) (U:α->β->γ->δ->Nat) (x0:α) (y0:β) (z0:γ) (u0:δ) (h0:J x0 y0 z0 u0)
 (he:(env.Ow (f x0 y0 z0 u0) (g x0 y0 z0 u0) keep kb).FF env) (hs:St.le (S x0 y0 z0 u0) st)
 (hb:∀x y z u,J x y z u->ih (Ca (λenv' st'=>∃p:α×β×γ×δ,J p.1 p.2.1 p.2.2.1 p.2.2.2/\U p.1 p.2.1 p.2.2.1 p.2.2.2<U x y z u/\(env.Ow (f p.1 p.2.1 p.2.2.1 p.2.2.2) (g p.1 p.2.1 p.2.2.1 p.2.2.2) keep kb).FF env'/\St.le (S p.1 p.2.1 p.2.2.1 p.2.2.2) st') Q) (env.Ow (f x y z u) (g x y z u) keep kb) (S x y z u)):
 ∃(α:Type) (E:α->Env) (S:α->St) (J:α->Prop) (U:α->Nat) (x0:α),J x0/\(E x0).FF env/\St.le (S x0) st/\
  ∀x,J x->ih (Ca (λenv' st'=>∃y,J y/\U y<U x/\(E y).FF env'/\St.le (S y) st') Q) (E x) (S x):=
 ⟨α×β×γ×δ,λp=>env.Ow (f p.1 p.2.1 p.2.2.1 p.2.2.2) (g p.1 p.2.1 p.2.2.1 p.2.2.2) keep kb,λp=>S p.1 p.2.1 p.2.2.1 p.2.2.2,λp=>J p.1 p.2.1 p.2.2.1 p.2.2.2,λp=>U p.1 p.2.1 p.2.2.1 p.2.2.2,(x0,y0,z0,u0),h0,he,hs,λp h=>hb p.1 p.2.1 p.2.2.1 p.2.2.2 h⟩
def Eg (s:List UInt8) (U pos:Nat):List (List UInt8):=
 if h:pos<s.length then
  if 0<Hx (s.drop pos) then (s.take pos).drop U::Eg s (pos+Hx (s.drop pos)) (pos+Hx (s.drop pos)) else Eg s U (pos+1)
 else [s.drop U]
termination_by s.length - pos
decreasing_by all_goals omega
theorem zu {a b:Int} {K:Int->Prop} (h:¬a<b) (k:K a):∃r,r=(if a<b then b else a)/\K r:=⟨a,(if_neg h).symm,k⟩
theorem zw {a b:Int} {K:Int->Prop} (h:a<b) (k:K b):∃r,r=(if a<b then b else a)/\K r:=⟨b,(if_pos h).symm,k⟩
theorem ll {l:List (List UInt8)} {own:AH} {st:St} {K:V->St->Prop} (h:own.BS st) (hb:l.length<=999999999)
 (k:∀U:AH,U.BS st->K (.slice 1 (strs (l++[x])) U) (U.st st (l++[x]).length)):Am 1 16 (strs l) own [[.str x]] (own.st st l.length) K:=
 PZ (new:=[x]) h ke k
theorem iT {U:Nat} (h:pos<s.length) (k:0<Hx (s.drop pos)):Eg s U pos=(s.take pos).drop U::Eg s (pos+Hx (s.drop pos)) (pos+Hx (s.drop pos)):=by
 rw [Eg,dif_pos h,if_pos k]
theorem iR {U:Nat} (h:pos<s.length) (k:¬0<Hx (s.drop pos)):Eg s U pos=Eg s U (pos+1):=by
 rw [Eg,dif_pos h,if_neg k]
theorem cu {U:Nat} (h:¬pos<s.length):Eg s U pos=[s.drop U]:=by
 rw [Eg,dif_neg h]
end Go.Aw
namespace Go.Proofs.Z
open Go Go.Aw
section
variable {st:St} {R:AB->St->Prop}
attribute [local irreducible] Go.Aw.Am
theorem eY (hl:s.length<=100000000) (h:∀own:AH,own.BS st->R (.ret (.slice 1 (strs (Eg s 0 0)) own)) (own.st st (Eg s 0 0).length)):PC 120 [.str s] st R:=by
 refine pB Tryz.func120 ?_
 repeat' ((conv=>whnf);first|(refine Cf ?_;intros)|(refine Cg ?_ ?_<;>intro _)|refine Yc4 (λ_=>?_) ?_|fail)
 refine xH (α:=Nat) (β:=Nat) (γ:=List (List UInt8)) (δ:=AH) (λpos U l own=>[(5,.int .i64 (pos:Int)),(4,.int .i64 (U:Int)),(3,.slice 1 (strs l) own)]) (λ_ _ _ _=>[]) [0] [] (λ_ _ l own=>own.st st l.length)
  (λpos U l own=>U<=pos/\pos<=s.length/\l.length<=pos/\own.BS st/\Eg s 0 0=l++Eg s U pos) (λpos _ _ _=>s.length - pos) 0 0 [] .full ⟨AC,AC,GT,trivial,rfl⟩ Yl (St.le_refl _) ?_
 rintro pos U l own ⟨h1,h2,h3,h4,h5⟩
 have hn:=cL (s.drop pos)
 rw [List.length_drop] at hn
 repeat' ((conv=>whnf);first|(refine Cf ?_;intros)|(refine Cg ?_ ?_<;>intro _)|refine Yc4 (λ_=>?_) ?_|refine Us AC AC ?_|refine zu AC ?_|refine zw AC ?_|refine ll h4 AC (λown' ho=>?_))
 .conv=>whnf
  exact ⟨(pos+Hx (s.drop pos),pos+Hx (s.drop pos),l++[(s.take pos).drop U],own'),⟨Nat.le_refl _,AC,by grind,ho,by dsimp only;rw [h5,iT AC AC,List.append_assoc];rfl⟩,AC,Yl,St.le_refl _⟩
 .conv=>whnf
  exact ⟨(pos+1,U,l,own),⟨by grind,AC,by grind,h4,by dsimp only;rw [h5,iR AC AC]⟩,AC,Yl,St.le_refl _⟩
 .exact fin (by have:=h own' ho;rw [h5,cu AC] at this;grind) rfl
end
end Go.Proofs.Z
namespace Go.Aw
open Go
def zH:List (List UInt8):=[[95],[99,97,115,101],[99,108,97,115,115],[100,97,116,97],[100,101,102,97,117,108,116],[100,101,114,105,118,105,110,103],[100,111],[101,108,115,101],[102,111,114,101,105,103,110],[105,102],[105,109,112,111,114,116],[105,110],[105,110,102,105,120],[105,110,102,105,120,108],[105,110,102,105,120,114],[105,110,115,116,97,110,99,101],[108,101,116],[109,111,100,117,108,101],[110,101,119,116,121,112,101],[111,102],[116,104,101,110],[116,121,112,101],[119,104,101,114,101]]
def oe:List (List UInt8):=[[46,46],[58],[58,58],[61],[92],[124],[60,45],[45,62],[64],[126],[61,62]]
def yg (w:List UInt8):Bool:=zH.contains w
def TU (w:List UInt8):Int:=if oe.contains w then 10 else if AE w=58 then 6 else 5
def H0 (c:Int):Bool:=Ay c==2||Ay c==3||Ay c==4||c==39
def IC (l:List UInt8):Nat:=Bx H0 l
def FE (l:List UInt8):Int:=match l with
 |[]=>0
 |a::r=>Ay ((AJ (a::r)).1:Nat)
def A8 (l:List UInt8):Int×Nat:=
 if FE l=6 then (15,1)
 else if FE l=5 then (TU (l.take (Bx (λc=>Ay c==5) l)),Bx (λc=>Ay c==5) l)
 else if FE l=3 then (2,IC l)
 else if FE l=2 then (if yg (l.take (IC l)) then 9 else 1,IC l)
 else (0,0)
def JB (k:Int):Int:=if k=1 then 3 else if k=2 then 4 else if k=5 then 7 else if k=6 then 8 else 0
theorem DB (c:UInt8) (l:List UInt8):[c].isPrefixOf l=decide (AE l=(c.toNat:Nat)):=by
 cases l with
 |nil=>exact (decide_eq_false (λe=>by have h:(-1:Int)=(c.toNat:Nat):=e;omega)).symm
 |cons a r=>
  show (c==a&&true)=decide (((a.toNat:Nat):Int)=(c.toNat:Nat))
  rw [Bool.and_true,Bool.eq_iff_iff,beq_iff_eq,decide_eq_true_iff]
  exact ⟨λe=>by rw [e],λe=>UInt8.toNat_inj.1 AC⟩
end Go.Aw
namespace Go.Proofs.Z
open Go Go.Aw
section
variable {st:St} {R:AB->St->Prop}
theorem c8 (h:R (.ret (.bool (yg w))) st):PC 249 [.str w] st R:=by
 refine pB Tryz.func249 ?_
 repeat' ((conv=>whnf);first|(refine Cf ?_;intros)|(refine Cg ?_ ?_<;>intro _)|fail)
 all_goals exact fin h (congrArg (λb=>AB.ret (V.bool b)) (by first|(subst_vars;decide)|(simp only [yg,zH];simp_all)))
theorem jZ (h:R (.ret (.int .i64 (TU w))) st):PC 247 [.str w] st R:=by
 refine pB Tryz.func247 ?_
 repeat' ((conv=>whnf);first|(refine Cf ?_;intros)|(refine Cg ?_ ?_<;>intro _)|refine Jz ?_)
 all_goals try rename_i U
 all_goals try rw [DB,decide_eq_true_eq] at U
 all_goals try rw [DB,decide_eq_false_iff_not] at U
 all_goals exact fin h (Cb (by first|(subst_vars;decide)|(have U:AE w=58:=U;simp only [TU,oe];simp_all)|(have U:¬AE w=58:=U;simp only [TU,oe];simp_all)))
theorem q7 {c:Int} (h:R (.ret (.bool (H0 c))) st):PC 298 [.int .i32 c] st R:=by
 refine pB Tryz.func298 ?_
 repeat' ((conv=>whnf);first|(refine Cf ?_;intros)|(refine Cg ?_ ?_<;>intro _)|refine Lp ?_)
 all_goals exact fin h (congrArg (λb=>AB.ret (V.bool b)) (by simp only [H0];simp_all))
theorem Zp (h:R (.ret (.int .i64 (JB k))) st):PC 203 [.int .i64 k] st R:=by
 refine pB Tryz.func203 ?_
 repeat' ((conv=>whnf);first|(refine Cf ?_;intros)|(refine Cg ?_ ?_<;>intro _)|fail)
 all_goals exact fin h (Cb (by unfold JB;(repeat' split)<;>omega))
end
theorem Px (s:List UInt8):FE s=if (NO s 0).2=0 then 0 else Ay (NO s 0).1:=by
 cases s with
 |nil=>rw [Ut GT];rfl
 |cons a r=>
  have U:=Ek (a::r)
  rw [NP AC GT,show (0:Int).toNat=0 from rfl,List.drop_zero,ej GT,if_neg UV]
  rfl
section
variable {st:St} {R:AB->St->Prop}
theorem xR (hl:s.length<4611686018427387904) (h:R (.ret (.str (s.take (IC s)))) st):PC 248 [.str s] st R:=by
 refine pB Tryz.func248 ?_
 repeat' ((conv=>whnf);first|(refine Cf ?_;intros)|(refine Cg ?_ ?_<;>intro _)|fail)
 refine Sc (α:=Nat) (λ_=>[]) (λpos=>[(0,[.Qe s pos])]) [0,6] [] (λ_=>st) (λpos=>pos<=s.length/\IC s=pos+Bx H0 (s.drop pos)) (λpos=>s.length - pos) 0 ⟨Nat.zero_le _,by simp [IC]⟩ Yl (St.le_refl _) ?_
 rintro pos ⟨hp,hi⟩
 repeat' ((conv=>whnf);first|(refine Cf ?_;intros)|(refine Cg ?_ ?_<;>intro _)|refine q7 ?_)
 .rename_i U c m hd hk
  have hr:=rune_le U hd
  conv=>whnf
  exact ⟨pos+m,⟨hr.1,QO U hd hk hi⟩,AC,Yl,St.le_refl _⟩
 .rename_i U c m hd hk
  have:=Xt (p:=λd=>H0 (d.1:Nat)) hd hk hi
  exact fin h (by rw [this];rfl)
 .rename_i U
  have:=SQ U hi
  exact fin h (by rw [this,List.take_of_length_le AC])
theorem sN (U:s.length<4611686018427387904) (h:R (.ret (.int .i64 (FE s))) st):PC 246 [.str s] st R:=by
 refine pB Tryz.func246 ?_
 repeat' ((conv=>whnf);first|(refine Cf ?_;intros)|(refine Cg ?_ ?_<;>intro _)|refine oH U ?_|refine Lp ?_)
 .exact fin h (Cb (by rw [Px,if_pos ‹_›]))
 .exact fin h (Cb (by rw [Px,if_neg ‹_›]))
end
theorem Xal:uE s 0 k=(Bx (λc=>Ay c==k) s:Nat):=by
 rw [QL AC AC];simp
theorem iq (h:¬FE s=0):0<s.length:=by
 cases s with
 |nil=>exact absurd rfl h
 |cons a r=>simp
section
variable {st:St} {R:AB->St->Prop}
theorem wo (U:s.length<4611686018427387904) (h:R (.ret (.int .i64 (Bx (λc=>Ay c==k) s:Nat))) st):PC 72 [.str s,.int .i64 0,.int .i64 k] st R:=wj U (by rw [Xal];exact h)
theorem fE (U:s.length<4611686018427387904) (h:R (.ret (.BM [.int .i64 (A8 s).1,.str (s.take (A8 s).2)])) st):PC 202 [.str s] st R:=by
 have hr:=Gg (λc=>Ay c==5) s
 have hne:FE s=0\/0<s.length:=by
  by_cases h0:FE s=0
  .exact .inl h0
  .exact .inr (iq h0)
 refine pB Tryz.func202 ?_
 repeat' ((conv=>whnf);first|exact D2|(refine Cf ?_;intros)|(refine D3 ?_ ?_ ?_;rotate_left)|(refine Cg ?_ ?_<;>intro _)|refine sN U ?_|refine wo U ?_|refine jZ ?_|refine xR U ?_|refine c8 ?_|with_reducible refine WF ?_)
 .exact fin h (by unfold A8;rw [if_pos ‹_›];rfl)
 .exact fin h (by unfold A8;rw [if_neg AC,if_pos AC];rfl)
 .exact fin h (by unfold A8;rw [if_neg AC,if_neg AC,if_pos AC])
 .exact fin h (by unfold A8;rw [if_neg AC,if_neg AC,if_neg AC,if_pos AC,if_pos ‹_›])
 .exact fin h (by unfold A8;rw [if_neg AC,if_neg AC,if_neg AC,if_pos AC,if_neg ke])
 .exact fin h (by unfold A8;rw [if_neg AC,if_neg AC,if_neg AC,if_neg AC];rfl)
end
end Go.Proofs.Z
namespace Go.Aw
open Go
def Fc (s:List UInt8) (n:Nat) (k:Int):Int×Nat:=
 if h:n<s.length then
  if (k=2\/k=4)/\AE (s.drop n)=46/\JB (A8 (s.drop (n+1))).1≠0 then Fc s (n+1+(A8 (s.drop (n+1))).2) (JB (A8 (s.drop (n+1))).1) else (k,n)
 else (k,n)
termination_by s.length - n
decreasing_by omega
def CB (s:List UInt8):Int×Nat:=Fc s (A8 s).2 (A8 s).1
theorem K4 {n:Nat} (h:¬(n<s.length/\(k=2\/k=4)/\AE (s.drop n)=46/\JB (A8 (s.drop (n+1))).1≠0)):Fc s n k=(k,n):=by
 rw [Fc]
 split
 .rw [if_neg (λe=>h ⟨FS,e⟩)]
 .rfl
theorem ZD {n:Nat} (h:n<s.length) (e:(k=2\/k=4)/\AE (s.drop n)=46/\JB (A8 (s.drop (n+1))).1≠0):Fc s n k=Fc s (n+1+(A8 (s.drop (n+1))).2) (JB (A8 (s.drop (n+1))).1):=by
 rw [Fc,dif_pos h,if_pos e]
theorem Jy (s:List UInt8):(A8 s).2<=s.length:=by
 have hf:FE s=0\/0<s.length:=by
  cases s with
  |nil=>exact .inl rfl
  |cons a r=>exact .inr GT
 have U:=Gg (λc=>Ay c==5) s
 have h2:IC s<=s.length:=Gg _ s
 unfold A8
 (repeat' split)<;>first|omega|(dsimp only;omega)
end Go.Aw
namespace Go.Proofs.Z
open Go Go.Aw
section
variable {st:St} {R:AB->St->Prop}
theorem yX {n:Nat} (U:w.length=n) (h:R (.ret (.bool (decide (AE (s.drop n)=46)))) st):PC 73 [.str (s.drop ((w.length:Nat):Int).toNat),.str [46]] st R:=by
 refine Jz ?_
 rw [DB,U,show ((n:Nat):Int).toNat=n by omega]
 exact h
theorem o5 {n:Nat} (hl:s.length<=100000000) (U:w.length=n) (h:R (.ret (.BM [.int .i64 (A8 (s.drop (n+1))).1,.str ((s.drop (n+1)).take (A8 (s.drop (n+1))).2)])) st):PC 202 [.str (s.drop (((w.length:Nat):Int)+1).toNat)] st R:=by
 rw [U,show (((n:Nat):Int)+1).toNat=n+1 by omega]
 exact fE IR h
theorem uJ {v:List UInt8} {n:Nat} {K:List UInt8->Prop} (U:w.length=n) (h2:v.length=m) (h:n+1+m<=s.length) (k:K (s.take (n+1+m))):
 ((0:Int)<=0/\0<=((w.length:Nat):Int)+1+((v.length:Nat):Int)/\((w.length:Nat):Int)+1+((v.length:Nat):Int)<=s.length)/\∀s',s'=(s.take (((w.length:Nat):Int)+1+((v.length:Nat):Int)).toNat).drop (0:Int).toNat->K s':=by
 subst U;subst h2
 refine WO AC AC ?_
 rw [show (((w.length:Nat):Int)+1+((v.length:Nat):Int)).toNat=w.length+1+v.length by omega]
 exact k
theorem l7 (s:List UInt8) (n:Nat):¬AE (s.drop n)=46\/n<s.length:=by
 by_cases h:n<s.length
 .exact .inr h
 .rw [HW AC];exact .inl Do
theorem vC (hl:s.length<=100000000) (h:∀ahead:Int,R (.ret (.BM [.int .i64 (CB s).1,.str (s.take (CB s).2),.int .i64 ahead])) st):PC 167 [.str s] st R:=by
 refine pB Tryz.func167 ?_
 repeat' ((conv=>whnf);first|exact D2|(refine Cf ?_;intros)|(refine D3 ?_ ?_ ?_;rotate_left)|(refine Cg ?_ ?_<;>intro _)|refine fE AC ?_|with_reducible refine WF ?_)
 refine V3 (α:=Nat) (β:=Int) (γ:=Int) (λn k a=>[(2,.int .i64 k),(3,.str (s.take n)),(4,.int .i64 a)]) (λ_ _ _=>[]) [0] [] (λ_ _ _=>st) (λn k _=>n<=s.length/\CB s=Fc s n k) (λn _ _=>s.length - n) (A8 s).2 (A8 s).1 0 ⟨Jy s,rfl⟩ Yl (St.le_refl _) ?_
 rintro n k a ⟨h1,h2⟩
 have U:(s.take n).length=n:=NE
 have hp:=Jy (s.drop (n+1))
 rw [List.length_drop] at hp
 have hdl:=l7 s n
 have ht2:((s.drop (n+1)).take (A8 (s.drop (n+1))).2).length=(A8 (s.drop (n+1))).2:=by rw [List.length_take,List.length_drop];omega
 repeat' ((conv=>whnf);first|with_reducible refine uJ U ht2 AC ?_|exact D2|(refine Cf ?_;intros)|(refine D3 ?_ ?_ ?_;rotate_left)|(refine Cg ?_ ?_<;>intro _)|refine yX U ?_|refine o5 hl U ?_|refine Zp ?_|with_reducible refine WF ?_)
 all_goals first
  |exact fin (by have:=h a;rw [h2,K4 AC] at this;exact this) rfl
  |(conv=>whnf
    exact ⟨(n+1+(A8 (s.drop (n+1))).2,JB (A8 (s.drop (n+1))).1,(((s.take n).length:Nat):Int)+1),⟨UV,by dsimp only;rw [h2,ZD AC ⟨AC,AC,AC⟩]⟩,UV,Yl,St.le_refl _⟩)
end
end Go.Proofs.Z
namespace Go.Aw
open Go
def C1 (s:List UInt8) (pos:Nat):Int×Int:=if (CB (s.drop pos)).1=0 then (0,0) else ((CB (s.drop pos)).1,(pos+(CB (s.drop pos)).2:Nat))
theorem pP {n:Nat} (h:n<=s.length):(Fc s n k).2<=s.length:=by
 fun_induction Fc s n k with
 |case1 n k hn U ih=>
  have:=Jy (s.drop (n+1))
  rw [List.length_drop] at this
  exact ih AC
 |case2 n k hn U=>exact h
 |case3 n k hn=>exact h
theorem aF (s:List UInt8):(CB s).2<=s.length:=pP (Jy s)
end Go.Aw
namespace Go.Proofs.Z
open Go Go.Aw
section
variable {st:St} {R:AB->St->Prop}
theorem rb (hl:s.length<=100000000) (hp:pos<s.length) (h:R (.ret (.BM [.int .i64 (C1 s pos).1,.int .i64 (C1 s pos).2])) st):PC 124 [.str s,.int .i64 pos] st R:=by
 have ht:((s.drop pos).take (CB (s.drop pos)).2).length=(CB (s.drop pos)).2:=by rw [List.length_take];have:=aF (s.drop pos);omega
 have hw:=aF (s.drop pos)
 rw [List.length_drop] at hw
 have U:(s.drop pos).length<=100000000:=IR
 refine pB Tryz.func124 ?_
 repeat' ((conv=>whnf);first|(refine Cf ?_;intros)|(refine Cg ?_ ?_<;>intro _)|refine vC U (λ_=>?_))
 .exact fin h (by unfold C1;rw [if_pos ‹_›];simp_all)
 .exact fin h (by unfold C1;rw [if_neg ‹_›];simp only [];rw [show (pos:Int).toNat=pos by omega] at *;rw [ht];rfl)
end
end Go.Proofs.Z
namespace Go.Aw
open Go
def Bn (base:Int):List UInt8->Nat
 |[]=>0
 |a::r=>if BW ((a.toNat:Nat):Int) base<0 then 0 else Bn base r+1
def DI (l:List UInt8):Int:=if AE (l.drop 1)=111\/AE (l.drop 1)=79 then 8 else if AE (l.drop 1)=120\/AE (l.drop 1)=88 then 16 else 10
def BL (l:List UInt8):Int×Nat:=if AE l=48/\DI l≠10/\Bn (DI l) (l.drop 2)≠0 then (DI l,2) else (10,0)
def FV (l:List UInt8):Nat:=if AE l=43\/AE l=45 then 1 else 0
def G4 (l:List UInt8):Nat:=
 if (AE l=101\/AE l=69)/\Bn 10 (l.drop (1+FV (l.drop 1)))≠0 then 1+FV (l.drop 1)+Bn 10 (l.drop (1+FV (l.drop 1))) else 0
def EL (l:List UInt8):Nat:=if AE l=46/\Bn 10 (l.drop 1)≠0 then 1+Bn 10 (l.drop 1) else 0
def CN (l:List UInt8):Int×Nat:=
 if (BL l).1≠10 then (11,2+Bn (BL l).1 (l.drop 2))
 else if Bn 10 l=0 then (0,0)
 else
  (if 0<EL (l.drop (Bn 10 l))\/0<G4 (l.drop (Bn 10 l+EL (l.drop (Bn 10 l)))) then 12 else 11,
    Bn 10 l+EL (l.drop (Bn 10 l))+G4 (l.drop (Bn 10 l+EL (l.drop (Bn 10 l)))))
theorem B8 {l:List UInt8} {k:Nat} (h:0<=AE (l.drop k)):k<l.length:=by
 by_cases U:k<l.length
 .exact U
 .rw [List.drop_eq_nil_iff.2 AC] at h;exact absurd h Do
theorem DJ {a:UInt8} (h:a.toNat<128):AJ (a::r)=(a.toNat,1):=by
 unfold AJ;simp_all
theorem Qt {a:UInt8} (h:¬a.toNat<128):128<=(AJ (a::r)).1:=by
 unfold AJ;grind
theorem Jj {c:Int} (h:128<=c):BW c base<0:=by
 have U:(if 48<=c/\c<=57 then c - 48 else if 97<=c/\c<=102 then c - 87 else if 65<=c/\c<=70 then c - 55 else 16)=16:=by
  rw [if_neg AC,if_neg AC,if_neg AC]
 unfold BW;grind
theorem E5 (base:Int) (l:List UInt8):Bn base l<=l.length:=by
 induction l with
 |nil=>exact Nat.le_refl _
 |cons a r U=>unfold Bn;grind
theorem N2 (h:pos<s.length) (hd:(c,m)=AJ (s.drop pos)) (k:¬BW (c:Int) base<0):m=1/\Bn base (s.drop pos)=Bn base (s.drop (pos+1))+1:=by
 rw [List.drop_eq_getElem_cons h] at hd |-
 by_cases hb:s[pos].toNat<128
 .rw [DJ hb] at hd
  injection hd with U h2
  subst U;subst h2
  exact ⟨rfl,by rw [Bn,if_neg k]⟩
 .have:=Qt (r:=s.drop (pos+1)) hb
  rw [<-hd] at this
  exact absurd (Jj (c:=(c:Int)) (base:=base) AC) k
theorem II (h:pos<s.length) (hd:(c,m)=AJ (s.drop pos)) (k:BW (c:Int) base<0):Bn base (s.drop pos)=0:=by
 rw [List.drop_eq_getElem_cons h] at hd |-
 by_cases hb:s[pos].toNat<128
 .rw [DJ hb] at hd
  injection hd with U h2
  subst U
  rw [Bn,if_pos k]
 .rw [Bn,if_pos (Jj AC)]
theorem LP (h:s.length<=pos):Bn base (s.drop pos)=0:=by rw [List.drop_eq_nil_iff.2 h];rfl
theorem Ys (l:List UInt8):EL l<=l.length:=by
 have:=E5 10 (l.drop 1)
 rw [List.length_drop] at this
 unfold EL;grind
theorem eE (l:List UInt8):G4 l<=l.length:=by
 have:=E5 10 (l.drop (1+FV (l.drop 1)))
 rw [List.length_drop] at this
 unfold G4;grind
theorem WU (l:List UInt8):(CN l).2<=l.length:=by
 have h1:=E5 10 l
 have U:=E5 (BL l).1 (l.drop 2)
 have h3:=Ys (l.drop (Bn 10 l))
 have h4:=eE (l.drop (Bn 10 l+EL (l.drop (Bn 10 l))))
 rw [List.length_drop] at U h3 h4
 have h5:(BL l).1≠10->2<=l.length:=λe=>by
  unfold BL at e
  split at e
  .rename_i hc
   have:=E5 (DI l) (l.drop 2)
   grind
  omega
 unfold CN
 grind
theorem im {a:Int} {K:Int->Prop} (U: -2147483648<=a) (h2:a<=2147483647) (k:K a):∃r,r=IntKind.i32.wrap a/\K r:=⟨a,(IntWalk.i32_in _ ⟨U,h2⟩).symm,k⟩
end Go.Aw
namespace Go.Proofs.Z
open Go Go.Aw
section
variable {st:St} {R:AB->St->Prop}
theorem Nn {c b:Int} (h:R (.ret (.int .i64 (BW c b))) st):PC 242 [.int .i32 c,.int .i64 b] st R:=by
 refine pB Tryz.func242 ?_
 repeat' ((conv=>whnf);first|(refine Cf ?_;intros)|(refine Cg ?_ ?_<;>intro _)|refine im AC AC ?_)
 all_goals exact fin h (Cb (by unfold BW;dsimp only;(repeat' split)<;>omega))
theorem wg {b:Int} (hl:s.length<4611686018427387904) (h:R (.ret (.int .i64 (Bn b s:Nat))) st):PC 198 [.str s,.int .i64 b] st R:=by
 refine pB Tryz.func198 ?_
 repeat' ((conv=>whnf);first|(refine Cf ?_;intros)|(refine Cg ?_ ?_<;>intro _)|fail)
 refine Sc (α:=Nat) (λ_=>[]) (λpos=>[(0,[.Qe s pos])]) [0,1,8] [] (λ_=>st) (λpos=>pos<=s.length/\Bn b s=pos+Bn b (s.drop pos)) (λpos=>s.length - pos) 0 ⟨Nat.zero_le _,GT⟩ Yl (St.le_refl _) ?_
 rintro pos ⟨hp,hi⟩
 repeat' ((conv=>whnf);first|(refine Cf ?_;intros)|(refine Cg ?_ ?_<;>intro _)|refine Nn ?_)
 .rename_i U c m hd hk
  have:=II U hd hk
  exact fin h (Cb AC)
 .rename_i U c m hd hk
  obtain ⟨e1,e2⟩:=N2 U hd hk
  conv=>whnf
  exact ⟨pos+m,⟨AC,by grind⟩,AC,Yl,St.le_refl _⟩
 .rename_i U hls
  have:=LP (base:=b) (s:=s) (pos:=pos) AC
  exact fin h (Cb AC)
end
end Go.Proofs.Z
namespace Go.Aw
open Go
theorem dT {l:List UInt8} (h:AE (l.drop 1)=111\/AE (l.drop 1)=79):DI l=8:=if_pos h
theorem XX {l:List UInt8} (h:AE (l.drop 1)=120\/AE (l.drop 1)=88):DI l=16:=by unfold DI;rw [if_neg AC,if_pos h]
theorem ly {l:List UInt8} (h:AE (l.drop 1)≠111/\AE (l.drop 1)≠79/\AE (l.drop 1)≠120/\AE (l.drop 1)≠88):DI l=10:=by unfold DI;rw [if_neg AC,if_neg AC]
theorem lz (l:List UInt8):DI l=8\/DI l=16\/DI l=10:=by
 unfold DI
 split
 .exact .inl rfl
 .split
  .exact .inr (.inl rfl)
  .exact .inr (.inr rfl)
theorem LL {l:List UInt8} {b:Int} (h:AE l=48) (hb:DI l=b) (hn:b≠10) (U:Bn b (l.drop 2)≠0):BL l=(b,2):=by
 subst hb
 exact if_pos ⟨h,hn,U⟩
theorem NX {l:List UInt8} (h:AE l≠48\/DI l=10\/Bn (DI l) (l.drop 2)=0):BL l=(10,0):=if_neg AC
theorem NY (l:List UInt8):BL l=(10,0)\/(BL l=(8,2)/\DI l=8)\/(BL l=(16,2)/\DI l=16):=by
 by_cases h:AE l=48/\DI l≠10/\Bn (DI l) (l.drop 2)≠0
 .rcases lz l with hb|hb|hb
  .exact .inr (.inl ⟨LL h.1 hb Do (hb ▸ h.2.2),hb⟩)
  .exact .inr (.inr ⟨LL h.1 hb Do (hb ▸ h.2.2),hb⟩)
  .exact absurd hb h.2.1
 .exact .inl (if_neg h)
theorem fS {l:List UInt8} (h:AE l=43\/AE l=45):FV l=1:=if_pos h
theorem fR {l:List UInt8} (h:¬(AE l=43\/AE l=45)):FV l=0:=if_neg h
theorem sI {l:List UInt8} (h:¬(AE l=101\/AE l=69)):G4 l=0:=if_neg λe=>h e.1
theorem mK {l:List UInt8} (h:AE l=101\/AE l=69) (hk:1+FV (l.drop 1)=j) (U:Bn 10 (l.drop j)=0):G4 l=0:=by
 subst hk
 exact if_neg λe=>e.2 U
theorem mL {l:List UInt8} (h:AE l=101\/AE l=69) (hk:1+FV (l.drop 1)=j) (U:Bn 10 (l.drop j)≠0):G4 l=j+Bn 10 (l.drop j):=by
 subst hk
 exact if_pos ⟨h,U⟩
end Go.Aw
namespace Go.Proofs.Z
open Go Go.Aw
section
variable {st:St} {R:AB->St->Prop}
theorem pI {n:Nat} {b:Int} (U:s.length<=4611686018427387903) (h:R (.ret (.int .i64 (Bn b (s.drop n):Nat))) st):PC 198 [.str (s.drop (n:Int).toNat),.int .i64 b] st R:=
 wg IR h
theorem cU (hl:s.length<=4611686018427387903) (h:R (.ret (.BM [.int .i64 (BL s).1,.int .i64 (BL s).2])) st):PC 197 [.str s] st R:=by
 refine pB Tryz.func197 ?_
 repeat' ((conv=>whnf);first|(refine Cf ?_;intros)|(refine Cg ?_ ?_<;>intro _)|refine pI (n:=2) hl ?_)
 all_goals try have U:=Ee (show s[0]? =some _ by assumption)
 all_goals try rw [List.drop_zero] at U
 all_goals try have h1:=Ee (show s[1]? =some _ by assumption)
 all_goals try have h1:=HW (s:=s) (i:=1) AC
 all_goals first
  |exact fin h (by rw [NX (.inl AC)];rfl)
  |exact fin h (by rw [NX (.inr (.inl (ly AC)))];rfl)
  |exact fin h (by rw [NX (.inr (.inr (by rw [dT AC];assumption)))];rfl)
  |exact fin h (by rw [NX (.inr (.inr (by rw [XX AC];assumption)))];rfl)
  |exact fin h (by rw [LL AC (dT AC) Do ‹_›];rfl)
  |exact fin h (by rw [LL AC (XX AC) Do ‹_›];rfl)
theorem bD (hl:s.length<=4611686018427387903) (h:R (.ret (.int .i64 (G4 s:Nat))) st):PC 199 [.str s] st R:=by
 refine pB Tryz.func199 ?_
 by_cases U:s=[]
 .subst U
  repeat' ((conv=>whnf);first|(refine Cf ?_;intros)|(refine Cg ?_ ?_<;>intro _)|fail)
  .exact fin h rfl
  .rename_i hn;exact absurd rfl hn
 have hlen:=List.length_pos_iff.2 U
 have r1:Bn 10 (s.drop 1)<=s.length:=Nat.le_trans (E5 10 _) IR
 have r2:Bn 10 (s.drop 2)<=s.length:=Nat.le_trans (E5 10 _) IR
 repeat' ((conv=>whnf);first|(refine Cf ?_;intros)|(refine Cg ?_ ?_<;>intro _)|refine pI (n:=1) hl ?_|refine pI (n:=2) hl ?_)
 all_goals try have h0:=Ee (show s[0]? =some _ by assumption)
 all_goals try rw [List.drop_zero] at h0
 all_goals try have h1:=Ee (show s[1]? =some _ by assumption)
 all_goals try have h1:=HW (s:=s) (i:=1) AC
 all_goals first
  |(have e:=sI (l:=s) AC;exact fin h (Cb AC))
  |(have e:=mK (l:=s) (j:=1) AC (by rw [fR AC]) ‹_›;exact fin h (Cb AC))
  |(have e:=mL (l:=s) (j:=1) AC (by rw [fR AC]) ‹_›;exact fin h (Cb AC))
  |(have e:=mK (l:=s) (j:=2) AC (by rw [fS AC]) ‹_›;exact fin h (Cb AC))
  |(have e:=mL (l:=s) (j:=2) AC (by rw [fS AC]) ‹_›;exact fin h (Cb AC))
end
end Go.Proofs.Z
namespace Go.Proofs.Z
open Go Go.Aw
open Rd (ret seq fail Dm look loop)
def Lj (base:Int):List UInt8->Int->Int×Int
 |[],v=>(v,0)
 |a::r,v=>if (4611686018427387904 - BW (a.toNat:Nat) base) / base<v then (0,3) else Lj base r (v*base+BW (a.toNat:Nat) base)
def Li (s:List UInt8):Int×Int:=if (CN s).1=11/\(CN s).2=s.length then Lj (BL s).1 (s.drop (BL s).2) 0 else (0,40)
def Hc (t:Tk):Bool:=t.kind==19||(t.kind==15&&t.text==[59])
def Cq (t:Tk):Bool:=t.kind==1||t.kind==2||t.kind==3||t.kind==4||t.kind==11||t.kind==12||t.kind==13||t.kind==14||
 (t.kind==9&&t.text==[95])||(t.kind==10&&t.text==[126])||(t.kind==15&&(t.text==[40]||t.text==[91]))
abbrev qX:List UInt8:=[108,101,116]
abbrev zZ:List UInt8:=[105,102]
abbrev gA:List UInt8:=[99,97,115,101]
abbrev zY:List UInt8:=[100,111]
abbrev wIn:List UInt8:=[105,110]
abbrev wOf:List UInt8:=[111,102]
abbrev zQ:List UInt8:=[116,104,101,110]
abbrev zP:List UInt8:=[101,108,115,101]
abbrev Dd:List UInt8:=[119,104,101,114,101]
def C3 (t:Tk):Bool:=(t.kind==9&&(t.text==qX||t.text==zZ||t.text==gA||t.text==zY))||(t.kind==10&&t.text==[92])||(t.kind==5&&t.text==[45])||Cq t
def EK (t:Tk):Bool:=t.kind==9&&(t.text==[105,110,102,105,120,108]||t.text==[105,110,102,105,120,114]||t.text==[105,110,102,105,120])
def JH (t:Tk):Bool:=t.kind==5||t.kind==6||t.kind==7||t.kind==8||(t.kind==10&&t.text==[58])
def J3 (t:Tk):Bool:=JH t||(t.kind==15&&t.text==[96])
def MP (k:Int) (l:List Nd):Nd:=if l.length=1 then l.headD Gj else As k l
def It:Er:=⟨2,Do⟩
def Iu:Er:=⟨120,Do⟩
def To (n:Nd):Bool:=(n.kind==1||n.kind==3)&&((GH n).2==0&&(GH n).1.length==1)
def Du (m:Rd Nd) (may:Nd->Bool):Rd Nd:=.look λs0=>.seq m λn=>if may n=true then .ret n else .Dm s0 Iu
def IE:Rd Nd:=.look λs=>if JH (Ab s).1=true then .seq Az λt=>.ret (As 18 [t])
 else .seq (A0 15 [96]) λo=>.seq (CX [1,2,3,4]) λn=>.seq (A0 15 [96]) λc=>.ret (As 18 [o,n,c])
def cF (l:List Nd):Rd (Sum (List Nd) (List Nd)):=.look λs=>if AZ s 5 [45]=true then .seq Az λt=>.ret (.inl (l++[As 19 [t]])) else .ret (.inr l)
def Se (l:List Nd):Rd (List Nd):=.loop cF l
def pC (U:Rd Nd) (br:Bool) (l:List Nd):Rd (Sum (List Nd) (List Nd×Bool)):=.seq (Se l) λl=>.seq U λn=>.look λs=>
 if J3 (Ab s).1=true then .seq IE λo=>
  if br=true then .look λs=>if AZ s 15 [41]=true then .ret (.inr (l++[n]++[o],true)) else .ret (.inl (l++[n]++[o]))
  else .ret (.inl (l++[n]++[o]))
 else .ret (.inr (l++[n],false))
def Pw (U:Rd Nd) (br:Bool):Rd (List Nd×Bool):=.loop (pC U br) []
def Zl (U:Rd Nd):Rd Nd:=.seq (Pw U false) λp=>.ret (MP 17 p.1)
def Le (full:Rd Nd) (n:Nd):Rd Nd:=.look λs=>if AZ s 10 [58,58]=true then .seq Az λc=>.seq full λt=>.ret (As 22 [n,c,t]) else .ret n
def bC (U full:Rd Nd):Rd Nd:=.seq (Zl U) λn=>Le full n
structure Fi where
 atom:Rd Nd
 exp:Rd Nd
 ops:Rd Nd
 decls:Rd Nd
 stmts:Rd Nd
 alts:Rd Nd
 Ez:Nd->Rd Nd
 list:Nd->Rd Nd
def KW (L:Fi) (lt block:Nd):Rd Nd:=.seq (A0 9 wIn) λi=>.seq L.exp λe=>.ret (As 24 [lt,block,i,e])
def iI (L:Fi):Rd Nd:=.seq Az λt=>.seq L.decls λb=>KW L t b
def LG (atom:Rd Nd) (l:List Nd):Rd (Sum (List Nd) (List Nd)):=.seq (Du atom H5) λn=>.ret (.inl (l++[n]))
def VX (atom:Rd Nd) (l:List Nd):Rd (Sum (List Nd) (List Nd)):=
 if ((l.length:Int)==1)=true then LG atom l else .look λs=>if Cq (Ab s).1=true then LG atom l else .ret (.inr l)
def J4 (L:Fi) (atom:Rd Nd):Rd Nd:=.seq Az λb=>.seq (.loop (VX atom) [b]) λl=>.seq (A0 10 [45,62]) λa=>.seq L.exp λe=>.ret (As 23 (l++[a]++[e]))
def UI (w:List UInt8):Rd Unit:=.look λs=>if Hc (Ab s).1=true then (if AZ (Ab s).2.1 9 w=true then Hl else .ret ()) else .ret ()
def Mo (L:Fi) (l:List Nd) (w:List UInt8):Rd (List Nd):=.seq (UI w) λ_=>.seq (A0 9 w) λa=>.seq L.exp λe=>.ret (l++[a]++[e])
def JT (L:Fi):Rd Nd:=.seq Az λi=>.seq L.exp λc=>.seq (Mo L [i,c] zQ) λl=>.seq (Mo L l zP) λl=>.ret (As 25 l)
def T6 (L:Fi):Rd Nd:=.seq Az λc=>.seq L.exp λe=>.seq (A0 9 wOf) λo=>.seq L.alts λa=>.ret (As 26 ([c,e,o]++[a]))
def Fz (b:Nd):Bool:=match b.kids.getLast? with
 |none=>true
 |some x=>x.kind==32||x.kind==33
def MX (L:Fi):Rd Nd:=.seq Az λd=>.seq L.stmts λb=>if Fz b=true then .fail Iu else .ret (As 27 [d,b])
def aY (atom:Rd Nd) (l:List Nd):Rd (Sum (List Nd) (List Nd)):=.look λs=>if Cq (Ab s).1=true then .seq atom λn=>.ret (.inl (l++[n])) else .ret (.inr l)
def Mz (atom:Rd Nd):Rd Nd:=.seq atom λn=>.seq (.loop (aY atom) [n]) λl=>.ret (MP 11 l)
def Ib (L:Fi) (atom:Rd Nd):Rd Nd:=.look λs=>
 if ((Ab s).1.kind==10)=true then (if ((Ab s).1.text==[92])=true then J4 L atom else Mz atom)
 else if ((Ab s).1.kind==9)=true then
  (if ((Ab s).1.text==qX)=true then iI L
  else if ((Ab s).1.text==zZ)=true then JT L
  else if ((Ab s).1.text==gA)=true then T6 L
  else if ((Ab s).1.text==zY)=true then MX L
  else Mz atom)
 else Mz atom
def Vt (l:List Nd):Rd (Sum (List Nd) (List Nd)):=.look λs=>if AZ s 15 [44]=true then .seq Az λc=>.ret (.inl (l++[c])) else .ret (.inr l)
def RT (o:Nd):Rd Nd:=.seq (.loop Vt [o]) λl=>.seq (A0 15 [41]) λc=>.ret (As 3 (l++[c]))
def MS (L:Fi) (o:Nd):Rd Nd:=.look λs=>if J3 (Ab s).1=true then
 (if AZ s 5 [45]=true then L.Ez o else .seq IE λp=>.seq L.ops λe=>.seq (A0 15 [41]) λc=>.ret (As 10 [o,p,e,c]))
 else L.Ez o
def O1 (L:Fi) (o:Nd):Rd Nd:=.look λs=>if JH (Ab s).1=true then
 (if AZ (Ab s).2.1 15 [41]=true then .seq Az λp=>.seq Az λc=>.ret (As 3 [o,p,c]) else MS L o)
 else MS L o
def MT (L:Fi):Rd Nd:=.seq Az λo=>.look λs=>if AZ s 15 [41]=true then RT o else if AZ s 15 [44]=true then RT o else O1 L o
def Km (L:Fi):Rd Nd:=.seq Az λo=>.look λs=>if AZ s 15 [93]=true then .seq Az λc=>.ret (As 3 [o,c]) else L.list o
def Q8 (L:Fi):Rd Nd:=.look λs=>if Cq (Ab s).1=true then
 (if ((Ab s).1.kind==15)=true then (if ((Ab s).1.text==[40])=true then MT L else Km L)
 else if ((Ab s).1.kind==9)=true then .seq Az λw=>.ret (As 14 [w])
 else if ((Ab s).1.kind==10)=true then .seq Az λw=>.seq L.atom λa=>.ret (As 16 [w,a])
 else .seq Az λn=>if ((Ab s).1.kind==1)=true then .look λs=>if AZ s 10 [64]=true then .seq Az λw=>.seq L.atom λa=>.ret (As 15 [n,w,a]) else .ret n
  else .ret n)
 else HO
def OK (L:Fi) (l:List Nd):Rd (Sum (List Nd) (List Nd)):=.seq (CX [1,3]) λU=>.seq (A0 10 [61]) λq=>.seq L.exp λe=>.look λs=>
 if AZ s 15 [44]=true then .seq Az λc=>.ret (.inl (l++[As 13 [U,q,e]]++[c])) else .ret (.inr (l++[As 13 [U,q,e]]))
def Xd (L:Fi) (l:List Nd):Rd (Sum (List Nd) (List Nd)):=.look λs=>if AZ s 15 [125]=true then (if 2<(l.length:Int) then OK L l else .ret (.inr l)) else OK L l
def IH (L:Fi) (n:Nd):Rd Nd:=.seq Az λb=>.seq (.loop (Xd L) [n,b]) λl=>.seq (A0 15 [125]) λc=>.ret (As 12 (l++[c]))
def lu (L:Fi) (n:Nd):Rd (Sum Nd Nd):=.look λs=>if AZ s 15 [123]=true then .seq (IH L n) λn=>.ret (.inl n) else .ret (.inr n)
def Mj (L:Fi):Rd Nd:=.seq (Q8 L) λn=>.loop (lu L) n
def dw (exp:Rd Nd) (p:Int×List Nd):Rd (Sum (Int×List Nd) (Int×List Nd)):=.look λs=>if AZ s 15 [44]=true then .seq Az λc=>.seq exp λe=>.ret (.inl (5,p.2++[c]++[e])) else .ret (.inr p)
def Ec (U full exp:Rd Nd) (o:Nd):Rd Nd:=.seq (Pw U true) λp=>if p.2=true then
 .seq Az λc=>.ret (As 9 [o,MP 17 (p.1.take (p.1.length - 1)),p.1.getLastD Gj,c])
 else .seq (Le full (MP 17 p.1)) λe=>.seq (.loop (dw exp) (4,[o,e])) λq=>.seq (A0 15 [41]) λc=>.ret (As q.1 (q.2++[c]))
def OZ (stmt:Rd Nd) (l:List Nd):Rd (Sum (List Nd) (List Nd)):=.look λs=>if AZ s 15 [44]=true then .seq Az λc=>.seq stmt λt=>.ret (.inl (l++[c]++[t])) else .ret (.inr l)
def FI (stmt:Rd Nd) (l:List Nd):Rd (List Nd):=.seq (A0 10 [124]) λb=>.seq stmt λt=>.loop (OZ stmt) (l++[b]++[t])
def Un (exp:Rd Nd) (l:List Nd):Rd (Sum (List Nd) (Int×List Nd)):=.look λs=>if AZ s 15 [44]=true then .seq Az λc=>.seq exp λe=>.ret (.inl (l++[c]++[e])) else .ret (.inr (6,l))
def nT (exp:Rd Nd) (l:List Nd):Rd (Sum (List Nd) (Int×List Nd)):=if (l.length:Int)<5 then
 .look λs=>if AZ s 10 [46,46]=true then .seq Az λd=>.look λs=>if AZ s 15 [93]=true then .ret (.inr (7,l++[d])) else .seq exp λe=>.ret (.inr (7,l++[d]++[e]))
  else Un exp l
 else Un exp l
def NL (exp stmt:Rd Nd) (o:Nd):Rd Nd:=.seq exp λe=>.look λs=>if AZ s 10 [124]=true then
 .seq (FI stmt [o,e]) λl=>.seq (A0 15 [93]) λc=>.ret (As 8 (l++[c]))
 else .seq (.loop (nT exp) [o,e]) λq=>.seq (A0 15 [93]) λc=>.ret (As q.1 (q.2++[c]))
def Q9 (exp:Rd Nd) (n:Nd):Rd Nd:=.look λs=>if AZ s 10 [60,45]=true then (if H5 n=true then .seq Az λa=>.seq exp λe=>.ret (As 32 [n,a,e]) else .fail Iu) else .ret n
def S4 (L:Fi) (exp:Rd Nd):Rd Nd:=.look λs=>if AZ s 9 qX=true then
 .seq Az λt=>.seq L.decls λb=>.look λs=>if AZ s 9 wIn=true then .seq (KW L t b) λn=>Q9 exp n else .ret (As 33 [t,b])
 else .seq exp λn=>Q9 exp n
def MJ (exp stmt:Rd Nd) (m:List UInt8) (l:List Nd):Rd (Sum (List Nd) (List Nd)):=.seq (FI stmt []) λg=>.seq (A0 10 m) λq=>.seq exp λe=>.ret (.inl (l++[As 30 (g++[q]++[e])]))
def VR (exp stmt:Rd Nd) (m:List UInt8) (l:List Nd):Rd (Sum (List Nd) (List Nd)):=if ((l.length:Int)==0)=true then MJ exp stmt m l
 else if ((l.headD Gj).kind==30)=true then .look λs=>if AZ s 10 [124]=true then MJ exp stmt m l else .ret (.inr l)
 else .ret (.inr l)
def c9 (L:Fi) (exp stmt:Rd Nd) (m:List UInt8) (l:List Nd):Rd Nd:=.seq (.loop (VR exp stmt m) l) λl=>.look λs=>if AZ s 9 Dd=true then
 .seq Az λw=>.seq L.decls λb=>.ret (As 29 (l++[As 31 [w,b]]))
 else .ret (As 29 l)
def Zv (L:Fi) (exp stmt:Rd Nd) (m:List UInt8):Rd Nd:=.look λs=>if AZ s 10 m=true then .seq Az λa=>.seq exp λe=>c9 L exp stmt m ([]++[a,e])
 else if AZ s 10 [124]=true then c9 L exp stmt m [] else HO
def aS (L:Fi) (ops exp stmt:Rd Nd):Rd Nd:=.seq ops λn=>if H5 n=true then .seq (Zv L exp stmt [45,62]) λr=>.ret (As 28 [n,r]) else .fail Iu
def JV (n:Nd):Bool:=(Li n.text).2==0&&decide ((Li n.text).1<=9)
def GK (n:Nd):Bool:=match n.kids[n.kids.length / 2]? with
 |some x=> !(x.form==7||x.form==8||x.form==3||x.form==4)
 |none=>false
def VM (l:List Nd):Rd (Sum (List Nd) (List Nd)):=.look λs=>if AZ s 15 [44]=true then .seq Az λc=>.seq (Du IE GK) λo=>.ret (.inl (l++[c]++[o])) else .ret (.inr l)
def JX (l:List Nd):Rd Nd:=.seq (Du IE GK) λo=>.seq (.loop VM (l++[o])) λl=>.ret (As 35 l)
def JY:Rd Nd:=.seq Az λf=>.look λs=>if ((Ab s).1.kind==11)=true then .seq (Du Az JV) λd=>JX ([f]++[d]) else JX [f]
def yp (atom:Rd Nd) (l:List Nd):Rd (Sum (List Nd) (List Nd)):=.look λs=>if AZ s 15 [44]=true then .seq Az λc=>.seq (Du atom To) λo=>.ret (.inl (l++[c]++[o])) else .ret (.inr l)
def ZG (atom full:Rd Nd) (n:Nd):Rd Nd:=if To n=true then .seq (.loop (yp atom) [n]) λl=>.seq (A0 10 [58,58]) λc=>.seq full λt=>.ret (As 34 (l++[c]++[t])) else .fail Iu
def Rq (L:Fi) (atom ops exp stmt full:Rd Nd):Rd Nd:=.look λs=>if EK (Ab s).1=true then JY
 else .seq ops λn=>.look λs=>if AZ s 15 [44]=true then ZG atom full n else if AZ s 10 [58,58]=true then ZG atom full n
  else if ((TN n).2.2==0)=true then .seq (Zv L exp stmt [61]) λr=>.ret (As 36 [n,r]) else .fail Iu
def Ck (s:Ae):Ae×Bool:=if G9 s=true/\¬s.wait=1/\¬Ey s=0 then (EU s,true) else (Fv,false)
theorem OB {s:Ae} (h:(Ck s).2=true):mu (Ck s).1<=mu s:=by
 unfold Ck at h |-
 split
 .rename_i U
  have hne:s.DE≠[]:=λe=>U.2.2 (by unfold Ey;rw [e];rfl)
  have:=HP hne
  simp only [mu,EU] at *
  omega
 .rename_i U;rw [if_neg U] at h;cases h
def MD:Rd Unit:=⟨λs=>if (Ck s).2=true then .inr ((),(Ck s).1) else .inl (⟨Vh s,Vi s⟩,s),λs v s' h=>by
 split at h
 .cases h;exact OB ‹_›
 .cases h⟩
def Xi (_:Unit):Rd (Sum Unit Unit):=.look λs=>if Hc (Ab s).1=true then .seq Hl λ_=>.ret (.inl ()) else .ret (.inr ())
def MU:Rd Unit:=.loop Xi ()
def FD (f:Bool) (U:Bool):Rd Bool:=.look λs=>if (if f then AZ s 15 [125] else (Ab s).1.kind==20)=true then .seq Hl λ_=>.ret true
 else if U=true then (if f=true then HO else .seq MD λ_=>.ret true) else .ret false
def Vl (starts:Tk->Bool) (item:Rd Nd) (f:Bool) (l:List Nd):Rd (Sum (List Nd) (List Nd)):=.seq MU λ_=>.look λs=>.seq (FD f (!starts (Ab s).1)) λe=>
 if e=true then .ret (.inr l) else .seq item λn=>.look λs=>.seq (FD f (!Hc (Ab s).1)) λe=>if e=true then .ret (.inr (l++[n])) else .ret (.inl (l++[n]))
def C6 (f:Bool) (l:List Nd):Nd:=.mk 2 (if f then 1 else 0) [] 0 0 l
def FB (starts:Tk->Bool) (item:Rd Nd):Rd Nd:=.look λs=>if ((Ab s).1.kind==18)=true then .seq Hl λ_=>.seq (.loop (Vl starts item false) []) λl=>.ret (C6 false l)
 else .seq (A0 15 [123]) λ_=>.seq (.loop (Vl starts item true) []) λl=>.ret (C6 true l)
def vJ (L:Fi):Rd Nd:=Mj L
def oV (L:Fi):Rd Nd:=Ib L (Mj L)
def opsL (L:Fi):Rd Nd:=Zl (oV L)
def P9 (full:Rd Nd) (L:Fi):Rd Nd:=bC (oV L) full
def Mp (full:Rd Nd) (L:Fi):Rd Nd:=S4 L (P9 full L)
def rH (full:Rd Nd) (L:Fi):Rd Nd:=aS L (opsL L) (P9 full L) (Mp full L)
def Rp (full:Rd Nd) (L:Fi):Rd Nd:=Rq L (Mj L) (opsL L) (P9 full L) (Mp full L) full
def IW (t:Tk):Bool:=C3 t||EK t
def zX (full:Rd Nd) (L:Fi):Fi where
 atom:=vJ L
 exp:=P9 full L
 ops:=opsL L
 decls:=FB IW (Rp full L)
 stmts:=FB C3 (Mp full L)
 alts:=FB C3 (rH full L)
 Ez:=λo=>Ec (oV L) full (P9 full L) o
 list:=λo=>NL (P9 full L) (Mp full L) o
def Xah:Fi:=⟨.fail It,.fail It,.fail It,.fail It,.fail It,.fail It,λ_=>.fail It,λ_=>.fail It⟩
theorem RH {A:Ae->Rs} (U:A4 A):A4 (F5 A):=λs n s' h=>by
 unfold F5 at h
 split at h
 .cases h
 .rename_i p h1
  have h2:=FN U _ _ _ h1
  split at h
  .rename_i h3
   have h4:=C8 h3 Do Do
   split at h
   .cases h
   .rename_i q h5
    have:=EI U _ _ _ h5
    cases h
    omega
  .have:=Ln h
   omega
def Kv (d:Nat):Rd Nd:=Ia (F5 (Dl (DU (d - 1)))) λs v s' h=>Nat.le_of_lt (RH (BK (Bo _)) _ _ _ h)
def cz:Nat->Fi
 |0=>Xah
 |d+1=>zX (Kv (d+1)) (cz d)
def bm (item:Rd Nd) (l:List Nd):Rd (Sum (List Nd) (List Nd)):=.seq item λn=>.look λs=>if AZ s 15 [44]=true then .seq Az λc=>.ret (.inl (l++[n]++[c])) else .ret (.inr (l++[n]))
def Vs (item:Rd Nd) (shut:List UInt8) (p:Bool×List Nd):Rd (Sum (Bool×List Nd) (List Nd)):=
 if p.1=true then .look λs=>if AZ s 15 shut=true then .ret (.inr p.2) else .seq item λn=>.look λs=>if AZ s 15 [44]=true then .seq Az λc=>.ret (.inl (false,p.2++[n]++[c])) else .ret (.inr (p.2++[n]))
 else .seq item λn=>.look λs=>if AZ s 15 [44]=true then .seq Az λc=>.ret (.inl (false,p.2++[n]++[c])) else .ret (.inr (p.2++[n]))
def DW (item:Rd Nd) (shut:List UInt8) (l:List Nd):Rd (List Nd):=.seq (.loop (Vs item shut) (true,l)) λl=>.seq (A0 15 shut) λc=>.ret (l++[c])
def FA (ks:List Int):Rd Nd:=.seq (A0 15 [40]) λo=>.seq (CX ks) λn=>.seq (A0 15 [41]) λc=>.ret (As 3 [o,n,c])
def Uf (n:Nd):Int:=match n.kids[1]? with
 |some x=>x.form
 |none=>0
def K6:Rd Nd:=.look λs=>if AZ s 15 [40]=true then .look λs0=>.seq (FA [5,6]) λn=>if (Uf n==5)=true then .ret n else .Dm s0 Iu else CX [1]
def LK:Rd Nd:=.look λs=>if AZ s 15 [40]=true then FA [5,6] else CX [1,2]
def Xq (own:Bool):List Int:=if own then [1] else [1,3]
def ON (own:Bool):List Int:=if own then [2] else [2,4]
def u6 (own:Bool):List Int:=if own then [5,6] else [5,6,7,8]
abbrev E9:List UInt8:=[109,111,100,117,108,101]
abbrev dD:List UInt8:=[113,117,97,108,105,102,105,101,100]
abbrev wAs:List UInt8:=[97,115]
abbrev vt:List UInt8:=[104,105,100,105,110,103]
abbrev QT:List UInt8:=[105,109,112,111,114,116]
abbrev vr:List UInt8:=[101,120,112,111,114,116]
abbrev qY:List UInt8:=[115,97,102,101]
abbrev XL:List UInt8:=[117,110,115,97,102,101]
abbrev qZ:List UInt8:=[116,121,112,101]
abbrev qW:List UInt8:=[100,97,116,97]
abbrev Tr:List UInt8:=[110,101,119,116,121,112,101]
abbrev dC:List UInt8:=[99,108,97,115,115]
abbrev Pj:List UInt8:=[105,110,115,116,97,110,99,101]
abbrev Tp:List UInt8:=[100,101,102,97,117,108,116]
abbrev Tq:List UInt8:=[102,111,114,101,105,103,110]
abbrev kK:List UInt8:=[100,101,114,105,118,105,110,103]
def Sj (l:List Nd):Rd Nd:=.look λs=>if AZ s 15 [40]=true then .seq Az λo=>.look λs=>if AZ s 10 [46,46]=true then .seq Az λd=>.seq (A0 15 [41]) λc=>.ret (As 52 (l++[o]++[d,c]))
 else .seq (DW LK [41] (l++[o])) λl=>.ret (As 52 l)
 else .ret (As 52 l)
def Y6 (own:Bool):Rd Nd:=.look λs=>if AZ s 15 [40]=true then .seq (FA (u6 own)) λn=>.ret (As 52 [n])
 else if ((Ab s).1.kind==2)=true then .seq (CX (ON own)) λn=>Sj [n]
 else if ((Ab s).1.kind==4)=true then .seq (CX (ON own)) λn=>Sj [n]
 else .seq (CX (Xq own)) λn=>.ret (As 52 [n])
def Uq (own:Bool):Rd Nd:=if own=true then Y6 own else .look λs=>if AZ s 9 E9=true then .seq Az λm=>.seq (CX (ON own)) λn=>.ret (As 52 [m,n]) else Y6 own
def cI (own:Bool) (l:List Nd):Rd (Sum (List Nd) (List Nd)):=.look λs=>if AZ s 15 [41]=true then .ret (.inr l) else bm (Uq own) l
def Ex (own:Bool):Rd Nd:=.seq (A0 15 [40]) λo=>.seq (.loop (cI own) [o]) λl=>.seq (A0 15 [41]) λc=>.ret (As 51 (l++[c]))
def LD (l:List Nd):Rd Nd:=.seq (Ex true) λn=>.ret (As 50 (l++[n]))
def LC (l:List Nd):Rd Nd:=.look λs=>if AZ s 1 vt=true then .seq Az λh=>LD (l++[h])
 else if AZ s 15 [40]=true then LD l else .ret (As 50 l)
def LB (l:List Nd):Rd Nd:=.seq (CX [2,4]) λn=>.look λs=>if AZ s 1 wAs=true then .seq Az λa=>.seq (CX [2,4]) λm=>LC (l++[n]++[a]++[m]) else LC (l++[n])
def G7:Rd Nd:=.seq Az λi=>.look λs=>if AZ s 1 dD=true then .seq Az λq=>LB ([i]++[q]) else LB [i]
def Jl (full:Rd Nd) (l:List Nd):Rd Nd:=.seq K6 λn=>.seq (A0 10 [58,58]) λc=>.seq full λt=>.ret (As 47 (l++[n]++[c]++[t]))
def HU (full:Rd Nd) (l:List Nd):Rd Nd:=.look λs=>if ((Ab s).1.kind==14)=true then .seq Az λt=>Jl full (l++[t]) else Jl full l
def KS (full:Rd Nd) (l:List Nd):Rd Nd:=.look λs=>if (if AZ s 1 qY=true then true else AZ s 1 XL)=true then
 (if AZ (Ab s).2.1 10 [58,58]=true then HU full l else .seq Az λt=>HU full (l++[t]))
 else HU full l
def Jk (full:Rd Nd) (l:List Nd):Rd Nd:=.seq Az λw=>.seq (CX [1]) λn=>KS full (l++[w]++[n])
def G5 (full:Rd Nd):Rd Nd:=.seq Az λf=>.look λs=>if AZ s 9 QT=true then Jk full [f] else if AZ s 1 vr=true then Jk full [f] else HO
def FL (whole:Rd Nd):Rd Nd:=.seq Az λd=>.seq (A0 15 [40]) λo=>.seq (DW whole [41] [d,o]) λl=>.ret (As 46 l)
def Dx (n:Nd):Bool:=if n.kind==39 then n.kids.head?.all (DV · [2])&&n.kids.tail.all (DV · [1]) else DV n [2]
def Ix (row:Rd Nd) (l:List Nd):Rd (List Nd×Nd):=.seq row λr=>.look λs=>if AZ s 10 [61,62]=true then .seq Az λa=>.seq row λq=>.ret (l++[r]++[a],q) else .ret (l,r)
def Gs (b:Bool):Rd Unit:=if b=true then .ret () else .fail Iu
def He (row whole:Rd Nd):Rd Nd:=.seq Az λt=>.seq row λr=>.seq (Gs (Dx r)) λ_=>.seq (A0 10 [61]) λe=>.seq whole λw=>.ret (As 41 ([t,r]++[e]++[w]))
def HB (atom:Rd Nd):Rd Nd:=.seq Az λb=>.seq atom λa=>.ret (As 40 [b,a])
def Ii (atom:Rd Nd):Rd Nd:=.look λs=>if AZ s 5 [33]=true then HB atom
 else if AZ s 15 [40]=true then (if ((Ab (Ab s).2.1).1.kind==6)=true then FA [6] else atom)
 else atom
def Lc (t:Tk):Bool:=if t.kind==5 then t.text==[33] else if t.kind==15 then t.text==[40]||t.text==[91] else t.kind==2||t.kind==4||t.kind==1
def W6 (atom:Rd Nd) (l:List Nd):Rd (Sum (List Nd) (List Nd)):=.look λs=>if Lc (Ab s).1=true then .seq (Ii atom) λn=>.ret (.inl (l++[n])) else .ret (.inr l)
def Jd (atom:Rd Nd):Rd (List Nd):=.seq (Ii atom) λn=>.loop (W6 atom) [n]
def DZ (n:Nd):Bool:=n.kind==40
def PT (l:List Nd):Rd Nd:=if l.length=1 then .ret (l.headD Gj) else .seq (Gs (!l.any DZ)) λ_=>.ret (As 39 l)
def Ff (n:Nd):Bool:=DV n [2]||(n.kind==3&&n.kids.length==3&&n.kids[1]?.any (DV · [6]))
def bN (l:List Nd):Rd (Sum (List Nd) (List Nd)):=.look λs=>if AZ s 15 [44]=true then .seq Az λc=>.seq K6 λn=>.ret (.inl (l++[c]++[n])) else .ret (.inr l)
def IJ (atom whole:Rd Nd):Rd Nd:=.seq K6 λn=>.seq (.loop bN [n]) λl=>.seq (A0 10 [58,58]) λc=>.look λs=>
 if AZ s 5 [33]=true then .seq (HB atom) λt=>.ret (As 13 (l++[c]++[t])) else .seq whole λt=>.ret (As 13 (l++[c]++[t]))
def M0:Rd Nd:=.look λs=>if ((Ab s).1.kind==6)=true then .seq Az λt=>.ret (As 18 [t])
 else .look λs0=>.seq Az λo=>.seq (CX [1,2,3,4]) λn=>.seq (A0 15 [96]) λc=>if (n.form==2)=true then .ret (As 18 [o,n,c]) else .Dm s0 Iu
def GS (atom:Rd Nd) (l:List Nd):Rd Nd:=.seq (PT l) λa=>.seq M0 λo=>.seq (Jd atom) λr=>.seq (PT r) λb=>.ret (As 48 [a,o,b])
def Hr (atom:Rd Nd) (l:List Nd):Rd Nd:=.look λs=>if ((Ab s).1.kind==6)=true then GS atom l else if AZ s 15 [96]=true then GS atom l
 else .seq (Gs (Ff (l.headD Gj))) λ_=>.ret (As 48 l)
def GU (atom whole:Rd Nd):Rd Nd:=.seq (Jd atom) λl=>if (l.length==1&&Ff (l.headD Gj))=true then
 .look λs=>if AZ s 15 [123]=true then .seq Az λo=>.seq (DW (IJ atom whole) [125] (l++[o])) λl=>.ret (As 48 l) else Hr atom l
 else Hr atom l
def FM:Rd Nd:=.seq Az λd=>.look λs=>if AZ s 15 [40]=true then .seq Az λo=>.seq (DW (CX [2,4]) [41] ([d]++[o])) λl=>.ret (As 49 l) else .seq (CX [2,4]) λc=>.ret (As 49 ([d]++[c]))
def G2 (k:Int) (l:List Nd):Rd Nd:=.look λs=>if AZ s 9 kK=true then .seq FM λd=>.ret (As k (l++[d])) else .ret (As k l)
def l5 (atom whole:Rd Nd) (p:List UInt8×List Nd):Rd (Sum (List UInt8×List Nd) (List Nd)):=.look λs=>if AZ s 10 p.1=true then .seq Az λe=>.seq (GU atom whole) λc=>.ret (.inl ([124],p.2++[e]++[c])) else .ret (.inr p.2)
def Pu (atom row whole:Rd Nd):Rd Nd:=.seq Az λd=>.seq (Ix row [d]) λp=>.seq (Gs (Dx p.2)) λ_=>.seq (.loop (l5 atom whole) ([61],p.1++[p.2])) λl=>G2 42 l
def ID (n:Nd):Bool:=if Ff (n.kids.headD Gj) then
 (if n.kids.length=2 then !DZ (n.kids[1]?.getD Gj)
 else if n.kids.length=4/\(n.kids[2]?.getD Gj).kind=13 then decide ((n.kids[2]?.getD Gj).kids.length=3)&& !DZ ((n.kids[2]?.getD Gj).kids[2]?.getD Gj) else false)
 else false
def Ha (atom row whole:Rd Nd):Rd Nd:=.seq Az λd=>.seq (Ix row [d]) λp=>.seq (Gs (Dx p.2)) λ_=>.seq (A0 10 [61]) λe=>.seq (GU atom whole) λc=>.seq (Gs (ID c)) λ_=>G2 43 (p.1++[p.2]++[e]++[c])
def Pr (decls:Rd Nd) (k:Int) (l:List Nd) (may:Nd->Bool):Rd Nd:=.look λs=>if AZ s 9 Dd=true then .seq Az λw=>.seq decls λb=>.seq (Gs (b.kids.all may)) λ_=>.ret (As k (l++[As 31 [w,b]])) else .ret (As k l)
def FC (n:Nd):Bool:=n.kind==39&&n.kids.length==2&&DV (n.kids[0]?.getD Gj) [2]&&DV (n.kids[1]?.getD Gj) [1]
def Iy (n:Nd):Bool:=n.kind==39&&n.kids.length==2&&DV (n.kids[0]?.getD Gj) [2,4]
def KL (row decls:Rd Nd):Rd Nd:=.seq Az λc=>.seq (Ix row [c]) λp=>.seq (Gs (FC p.2)) λ_=>Pr decls 44 (p.1++[p.2]) λ_=>true
def FO (row decls:Rd Nd):Rd Nd:=.seq Az λc=>.seq (Ix row [c]) λp=>.seq (Gs (Iy p.2)) λ_=>Pr decls 45 (p.1++[p.2]) λn=>n.kind==36
def af (atom row whole full decl decls:Rd Nd):Rd Nd:=.look λs=>if ((Ab s).1.kind==9)=true then
 (if ((Ab s).1.text==QT)=true then G7
 else if ((Ab s).1.text==qZ)=true then He row whole
 else if ((Ab s).1.text==qW)=true then Pu atom row whole
 else if ((Ab s).1.text==Tr)=true then Ha atom row whole
 else if ((Ab s).1.text==dC)=true then KL row decls
 else if ((Ab s).1.text==Pj)=true then FO row decls
 else if ((Ab s).1.text==Tp)=true then FL whole
 else if ((Ab s).1.text==Tq)=true then G5 full
 else decl)
 else decl
def Oj (t:Tk):Bool:=(t.kind==9&&(t.text==QT||t.text==qZ||t.text==qW||t.text==Tr||t.text==dC||t.text==Pj||t.text==Tp||t.text==Tq))||(C3 t||EK t)
def XB (d:Nat):Rd Nd:=Ia (Dl (DU (d - 1))) λs v s' h=>Nat.le_of_lt (BK (Bo _) _ _ _ h)
def qL (d:Nat):Rd Nd:=Ia (Gd (Dl (DU (d - 1)))) λs v s' h=>Nat.le_of_lt (FN (BK (Bo _)) _ _ _ h)
def XH (d:Nat):Rd Nd:=Ia (DC (Dl (DU (d - 1)))) λs v s' h=>Nat.le_of_lt (EI (BK (Bo _)) _ _ _ h)
end Go.Proofs.Z
namespace Go.Proofs.Z
open Go Go.Aw
def vG (st0 st:St):AH×List Nd->Prop
 |(.any,_)=>False
 |(.full,_)=>True
 |(.tok t,l)=>st0.fresh t/\st.hw t=some (l.length*6)
def dJ:AH×List Nd->AH×List Nd->Prop
 |(.tok t,_),(.tok u,_)=>t≠u
 |_,_=>True
theorem dJ.symm {r q:AH×List Nd} (h:dJ r q):dJ q r:=by
 obtain ⟨o1,U⟩:=r;obtain ⟨o2,l2⟩:=q
 cases o1<;>cases o2<;>first|exact trivial|exact Ne.symm h
structure Rx (st0 st:St) (rows:List (AH×List Nd)):Prop where
 le:st0.le st
 ok:∀r ∈ rows,vG st0 st r
 ap:rows.Pairwise dJ
section
variable {st0 st:St} {r q:AH×List Nd} {rows:List (AH×List Nd)}
theorem Rx.start:Rx st st []:=⟨St.le_refl _,λr U=>absurd U List.not_mem_nil,List.Pairwise.nil⟩
theorem Rx.drop (h:Rx st0 st (r::rows)):Rx st0 st rows:=⟨h.le,λq U=>h.ok q (List.mem_cons_of_mem _ U),(List.pairwise_cons.1 h.ap).2⟩
theorem Rx.push (h:Rx st0 st rows) (l:List Nd):Rx st0 st ((.full,l)::rows):=⟨h.le,λq U=>by
 rcases List.mem_cons.1 U with e|e
 .subst e;exact trivial
 .exact h.ok q e,List.pairwise_cons.2 ⟨λq U=>trivial,h.ap⟩⟩
theorem Rx.swap (h:Rx st0 st (r::q::rows)):Rx st0 st (q::r::rows):=by
 have h1:=List.pairwise_cons.1 h.ap
 have h2:=List.pairwise_cons.1 h1.2
 refine ⟨h.le,λx U=>h.ok x ?_,List.pairwise_cons.2 ⟨λx U=>?_,List.pairwise_cons.2 ⟨λx U=>h1.1 x (List.mem_cons_of_mem _ U),h2.2⟩⟩⟩
 .grind
 .rcases List.mem_cons.1 U with e|e
  .subst e;exact (h1.1 q (List.mem_cons_self ..)).symm
  simp_all
theorem Rx.fresh {t:Nat} (h:Rx st0 st rows) (U:st.fresh t):st0.fresh t:=by
 refine ⟨?_,?_⟩
 .cases e:st0.box t with
  |none=>rfl
  |some c=>
   have:=h.le.1 t c e
   rw [U.1] at this;grind
 .cases e:st0.hw t with
  |none=>rfl
  |some c=>
   have:=h.le.2 t c e
   rw [U.2] at this;grind
theorem Rx.qh {t:Nat} (h:Rx st0 st rows) (ht:st.fresh t):∀r ∈ rows,r.1≠.tok t:=λr U e=>by
 have:=h.ok r U
 obtain ⟨o,l⟩:=r
 dsimp only at e
 subst e
 have:=this.2
 rw [ht.2] at this;grind
theorem Rx.app {own:AH} {K:V->St->Prop} (h:Rx st0 st ((own,l)::rows)) (hb:l.length+new.length<=1000000000)
 (k:∀own' st',st'.box=st.box->Rx st0 st' ((own',l++new)::rows)->K (.slice 6 ((l++new).map AP) own') st'):Am 6 72 (l.map AP) own (new.map AP) st K:=by
 have hw:(new.map AP).map (·.map V.KD)=new.map AP:=by
  rw [List.map_map]
  exact List.map_congr_left λx _=>rfl
 have hsc:((new.map AP).all λv=>v.all V.sc)=true:=by
  rw [List.all_map,List.all_eq_true]
  intro x _;rfl
 have hlen:(l.map AP).length+(new.map AP).length=(l++new).length:=GT
 have hap:=List.pairwise_cons.1 h.ap
 have mk:∀(t:Nat) (m:St),(∀r ∈ rows,vG st0 m r)->st0.fresh t->st0.le m->(∀r ∈ rows,r.1≠.tok t)->m.hw t=some ((l++new).length*6)->Rx st0 m ((.tok t,l++new)::rows):=by
  intro t m h1 h2 h4 h5 h6
  refine ⟨h4,λr U=>?_,List.pairwise_cons.2 ⟨λr U=>?_,hap.2⟩⟩
  .rcases List.mem_cons.1 U with e|e
   .subst e;exact ⟨h2,h6⟩
   simp_all
  .obtain ⟨o,q⟩:=r
   cases o with
   |tok u=>exact λe=>h5 _ U ke
   |any=>exact trivial
   |full=>exact trivial
 refine ⟨by grind,by rw [hlen,List.length_append];unfold D7;omega,AR hsc ?_⟩
 cases own with
 |any=>exact (h.ok _ (List.mem_cons_self ..)).elim
 |full=>
  refine ⟨λe=>?_,λ_=>.inl λt ht=>?_⟩
  .simp_all
  .rw [hw,hlen,<-List.map_append]
   refine k (.tok t) _ rfl (mk t _ (λr U=>?_) (h.fresh ht) (St.Js h.le (h.fresh ht).2 _) (h.drop.qh ht) (by simp [St.Co]))
   have h1:=h.ok r (List.mem_cons_of_mem _ U)
   have h2:=h.drop.qh ht r U
   obtain ⟨o,q⟩:=r
   cases o with
   |tok u=>
    have:u≠t:=λe=>h2 ke
    exact ⟨h1.1,by simp only [St.Co];rw [if_neg this];exact h1.2⟩
   |any=>exact h1
   |full=>exact h1
 |tok t0=>
  have h0:=h.ok _ (List.mem_cons_self ..)
  refine ⟨by rw [List.length_map];exact h0.2,.inl λt ht=>?_⟩
  rw [hw,hlen,<-List.map_append]
  have hne:∀r ∈ rows,r.1≠.tok t0:=λr U e=>by
   have:=hap.1 r U
   obtain ⟨o,q⟩:=r
   dsimp only at e
   subst e
   exact this rfl
  have hst:∀r ∈ rows,r.1≠.tok t:=λr U=>by
   rcases ht with rfl|ht
   .grind
   .exact h.drop.qh ht r U
  have hf:st0.fresh t:=by
   rcases ht with rfl|ht
   .exact h0.1
   .exact h.fresh ht
  refine k (.tok t) _ rfl (mk t _ (λr U=>?_) hf ⟨h.le.1,λx n hx=>?_⟩ hst (by simp [St.Co]))
  .have h1:=h.ok r (List.mem_cons_of_mem _ U)
   have h2:=hst r U
   have h3:=hne r U
   obtain ⟨o,q⟩:=r
   cases o with
   |tok u=>
    have e1:u≠t:=λe=>h2 ke
    have e2:u≠t0:=λe=>h3 ke
    exact ⟨h1.1,by simp only [St.Co,St.Fe];rw [if_neg e1,if_neg e2];exact h1.2⟩
   |any=>exact h1
   |full=>exact h1
  .simp only [St.Co,St.Fe]
   split
   .rename_i e;subst e
    rw [hf.2] at hx;cases hx
   .split
    .rename_i e;subst e
     rw [h0.1.2] at hx;cases hx
    .exact h.le.2 x n hx
theorem Rx.Aa {b:Nat} {cs cs':List V} (h:Rx (st0.Aa b cs) st rows):Rx (st0.Aa b cs') (st.Aa b cs') rows:=by
 refine ⟨⟨λx c U=>?_,λx n U=>h.le.2 x n U⟩,λr hr=>?_,h.ap⟩
 .by_cases e:x=b
  .subst e;rw [St.Aj] at U |-;exact U
  .rw [St.Ai (Ne.symm e)] at U |-
   exact h.le.1 x c (by rw [St.Ai (Ne.symm e)];exact U)
 .have:=h.ok r hr
  obtain ⟨o,l⟩:=r
  cases o with
  |any=>exact this
  |full=>exact this
  |tok t=>
   have hb:b≠t:=by
    rintro rfl
    have:=this.1.1
    rw [St.Aj] at this;cases this
   exact ⟨⟨by rw [St.Ai hb];have:=this.1.1;rw [St.Ai hb] at this;omega,this.1.2⟩,this.2⟩
end
structure Cx (st0:St) (b:Nat) (s:Ae) (st:St) (rows:List (AH×List Nd)):Prop where
 has:Has st b s
 rx:∃cs,Rx (st0.Aa b cs) st rows
 mu:mu s<=100000000
structure Cy (st0:St) (b:Nat) (s:Ae) (st:St) (rows:List (AH×List Nd)):Prop where
 has:Has st b s
 rx:∃cs,Rx (st0.Aa b cs) st rows
section
variable {st0 st st':St} {b:Nat} {s s':Ae} {r q:AH×List Nd} {rows:List (AH×List Nd)}
theorem Cx.y (h:Cx st0 b s st rows):Cy st0 b s st rows:=⟨h.has,h.rx⟩
theorem Cy.drop (h:Cy st0 b s st (r::rows)):Cy st0 b s st rows:=⟨h.has,h.rx.imp λ_ e=>e.drop⟩
theorem Cx.Xan (h:Cx st0 b s st rows) (hu:Io st st' b s'):Cy st0 b s' st' rows:=by
 obtain ⟨U,cs,rfl⟩:=hu
 obtain ⟨c0,hr⟩:=h.rx
 exact ⟨U,⟨cs,hr.Aa⟩⟩
theorem Cx.hb (h:Cx st0 b s st rows):s.DE.length<=500000000:=FH h.mu
theorem Cx.start (h:Has st b s) (U:Proofs.Z.mu s<=100000000):Cx st b s st []:=
 ⟨h,by
   rcases h with e|⟨_,_,_,_,_,e⟩
   all_goals exact ⟨_,by rw [St.N7 e];exact Rx.start⟩,U⟩
theorem Cx.drop (h:Cx st0 b s st (r::rows)):Cx st0 b s st rows:=⟨h.has,h.rx.imp λ_ e=>e.drop,h.mu⟩
theorem Cx.push (h:Cx st0 b s st rows) (l:List Nd):Cx st0 b s st ((.full,l)::rows):=⟨h.has,h.rx.imp λ_ e=>e.push l,h.mu⟩
theorem Cx.swap (h:Cx st0 b s st (r::q::rows)):Cx st0 b s st (q::r::rows):=⟨h.has,h.rx.imp λ_ e=>e.swap,h.mu⟩
theorem Cx.set (h:Cx st0 b s st rows) (hu:Io st st' b s') (hm:Proofs.Z.mu s'<=100000000):Cx st0 b s' st' rows:=by
 obtain ⟨U,cs,rfl⟩:=hu
 obtain ⟨c0,hr⟩:=h.rx
 exact ⟨U,⟨cs,hr.Aa⟩,hm⟩
theorem Cx.Pg (h:Cx st0 b s st rows) (hu:Io st st' b s') (U:Proofs.Z.mu s'<=Proofs.Z.mu s):Cx st0 b s' st' rows:=h.set hu (Nat.le_trans U h.mu)
theorem Cx.look (h:Cx st0 b s st rows):Cx st0 b s (st.Aa b (Dg s)) rows:=h.Pg A3 (Nat.le_refl _)
theorem Cx.VP {t:Nat} (h:Cx st0 b s st rows) (U:st.fresh t):st0.box t=none/\t≠b:=by
 obtain ⟨c0,hr⟩:=h.rx
 have hb:t≠b:=by
  rintro rfl
  rcases h.has with e|⟨_,_,_,_,_,e⟩<;>(rw [U.1] at e;cases e)
 have:=(hr.fresh U).1
 rw [St.Ai hb.symm] at this
 simp_all
theorem Cx.ye {z:List V} (h:Cx st0 b s st rows) (hf:st.fresh c):Cx (st0.Aa c cs) b s ((st.Aa c z).Aa c cs) rows:=by
 have hb:=(h.VP hf).2
 rw [St.set_set]
 obtain ⟨c0,hr⟩:=h.rx
 refine ⟨?_,⟨c0,⟨λx v U=>?_,λx n U=>hr.le.2 x n U⟩,λr hr'=>?_,hr.ap⟩,h.mu⟩
 .rcases h.has with e|⟨q1,q2,q3,q4,q5,e⟩
  .exact .inl (by rw [St.Ai hb];exact e)
  .exact .inr ⟨q1,q2,q3,q4,q5,by rw [St.Ai hb];exact e⟩
 .by_cases e:x=c
  .subst e
   rw [St.Ai hb.symm,St.Aj] at U
   rw [St.Aj];exact U
  .rw [St.Ai (Ne.symm e)]
   by_cases e2:x=b
   .subst e2
    rw [St.Aj] at U
    exact hr.le.1 x v (by rw [St.Aj];exact U)
   .rw [St.Ai (Ne.symm e2),St.Ai (Ne.symm e)] at U
    exact hr.le.1 x v (by rw [St.Ai (Ne.symm e2)];exact U)
 .have hk:=hr.ok r hr'
  obtain ⟨o,l⟩:=r
  cases o with
  |any=>exact hk
  |full=>exact hk
  |tok t=>
   have htc:t≠c:=by
    rintro rfl
    have:=hk.2
    rw [hf.2] at this;cases this
   have h1:=hk.1.1
   have htb:t≠b:=by
    rintro rfl
    rw [St.Aj] at h1;cases h1
   rw [St.Ai htb.symm] at h1
   exact ⟨⟨by rw [St.Ai htb.symm,St.Ai htc.symm];exact h1,hk.1.2⟩,hk.2⟩
theorem Cx.Xc (h:Cx st0 b s st rows) (U:st.fresh c):Cx (st0.Aa c cs) b s (st.Aa c cs) rows:=by
 have:=h.ye (z:=cs) (cs:=cs) U
 rw [St.set_set] at this;omega
theorem Rx.unbox (h:Rx (st0.Aa c cs) st rows) (hf:st0.box c=none):Rx st0 st rows:=by
 refine ⟨⟨λx v hx=>?_,h.le.2⟩,λr hr=>?_,h.ap⟩
 .have:x≠c:=by rintro rfl;rw [hf] at hx;cases hx
  exact h.le.1 x v (by rw [St.Ai this.symm];exact hx)
 .have U:=h.ok r hr
  obtain ⟨o,l⟩:=r
  cases o with
  |any=>exact U
  |full=>exact U
  |tok t=>
   have h1:=U.1.1
   have:t≠c:=by rintro rfl;rw [St.Aj] at h1;cases h1
   rw [St.Ai this.symm] at h1
   exact ⟨⟨h1,U.1.2⟩,U.2⟩
theorem S6 {cs':List V} (h:c≠b):(st0.Aa c cs).Aa b cs'=(st0.Aa b cs').Aa c cs:=by
 simp only [St.Aa,St.mk.injEq,and_true]
 grind
theorem Cx.unbox {c:Nat} {cs:List V} (h:Cx (st0.Aa c cs) b s st rows) (U:st0.box c=none/\c≠b):Cx st0 b s st rows:=
 ⟨h.has,h.rx.imp λc0 hr=>by rw [S6 U.2] at hr;exact hr.unbox (by rw [St.Ai U.2.symm];grind),h.mu⟩
theorem Cy.unbox {c:Nat} {cs:List V} (h:Cy (st0.Aa c cs) b s st rows) (U:st0.box c=none/\c≠b):Cy st0 b s st rows:=
 ⟨h.has,h.rx.imp λc0 hr=>by rw [S6 U.2] at hr;exact hr.unbox (by rw [St.Ai U.2.symm];grind)⟩
theorem Cx.boxed (h:Cx (st0.Aa c cs) b s st rows) (U:st0.box c=none/\c≠b):st.box c=some cs:=by
 obtain ⟨c0,hr⟩:=h.rx
 exact hr.le.1 c cs (by rw [St.Ai U.2.symm,St.Aj])
theorem Has.eq (h:Has st b s) (e:st'.box=st.box):Has st' b s:=by unfold Has at h |-;simp_all
theorem Cx.app {own:AH} {l new:List Nd} {K:V->St->Prop} (h:Cx st0 b s st ((own,l)::rows)) (hb:l.length+new.length<=1000000000)
 (k:∀U st',Cx st0 b s st' ((U,l++new)::rows)->K (.slice 6 ((l++new).map AP) U) st'):Am 6 72 (l.map AP) own (new.map AP) st K:=by
 obtain ⟨c0,hr⟩:=h.rx
 exact hr.app hb λU st' e hr'=>k U st' ⟨h.has.eq e,⟨c0,hr'⟩,h.mu⟩
theorem Cx.Hp {own:AH} {x:Nd} {K:V->St->Prop} (h:Cx st0 b s st ((own,l)::rows)) (hb:l.length+1<=1000000000)
 (k:∀U st',Cx st0 b s st' ((U,l++[x])::rows)->K (.slice 6 ((l++[x]).map AP) U) st'):Am 6 72 (l.map AP) own [AP x] st K:=h.app (new:=[x]) hb k
theorem Cx.wM {own:AH} {x y:Nd} {K:V->St->Prop} (h:Cx st0 b s st ((own,l)::rows)) (hb:l.length+2<=1000000000)
 (k:∀U st',Cx st0 b s st' ((U,l++[x,y])::rows)->K (.slice 6 ((l++[x,y]).map AP) U) st'):Am 6 72 (l.map AP) own [AP x,AP y] st K:=h.app (new:=[x,y]) hb k
theorem Rx.Hp {own:AH} {x:Nd} {K:V->St->Prop} (h:Rx st0 st ((own,l)::rows)) (hb:l.length+1<=1000000000)
 (k:∀U st',Rx st0 st' ((U,l++[x])::rows)->K (.slice 6 ((l++[x]).map AP) U) st'):Am 6 72 (l.map AP) own [AP x] st K:=h.app (new:=[x]) hb λU st' _ c=>k U st' c
end
structure AX {α:Type} (en:α->V) (f:FuncId) (mk:Nat->List V) (A:Rd α):Prop where
 ap:∀{st0:St} {b:Nat} {s:Ae} {st:St} {rows:List (AH×List Nd)} {K:AB->St->Prop},Cx st0 b s st rows->
 Rd.wp A s (λv s'=>∀st',Cx st0 b s' st' rows->K (.ret (en v)) st') (λe s'=>∀st',Cy st0 b s' st' rows->K (.Cd (fault e.1)) st')->PC f (mk b) st K
theorem AX.go {U:α->V} {A:Rd α} {s:Ae} {st:St} {Q:α->Ae->Prop} {E:Er->Ae->Prop} (hf:AX U f mk A) (hc:Cx st0 b s st rows) (h:Rd.wp A s Q E)
 (k:∀v s' st',A.run s=.inr (v,s')->mu s'<=mu s->Cx st0 b s' st' rows->Q v s'->K (.ret (U v)) st') (kb:∀e s' st',Cy st0 b s' st' rows->E e s'->K (.Cd (fault e.1)) st'):PC f (mk b) st K:=
 hf.ap hc (Rd.wp_mono h (λv s' r q st' c=>k v s' st' r (A.le _ _ _ r) c q) (λe s' _ q st' c=>kb e s' st' c q))
theorem AX.vP {U:α->V} {A:Rd α} {s:Ae} {st:St} {Q:α->Ae->Prop} {E:Er->Ae->Prop} (hf:AX U f mk A) (hF:Rd.A4 A) (hc:Cx st0 b s st rows) (h:Rd.wp A s Q E)
 (k:∀v s' st',A.run s=.inr (v,s')->mu s'<mu s->Cx st0 b s' st' rows->Q v s'->K (.ret (U v)) st') (kb:∀e s' st',Cy st0 b s' st' rows->E e s'->K (.Cd (fault e.1)) st'):PC f (mk b) st K:=
 hf.go hc h (λv s' st' r m c q=>k v s' st' r (hF _ _ _ r) c q) kb
structure rl {α:Type} (en:α->AH->V) (ls:α->List Nd) (f:FuncId) (mk:Nat->List V) (A:Rd α):Prop where
 ap:∀{st0:St} {b:Nat} {s:Ae} {st:St} {rows:List (AH×List Nd)} {K:AB->St->Prop},Cx st0 b s st rows->
 Rd.wp A s (λv s'=>∀own st',Cx st0 b s' st' ((own,ls v)::rows)->K (.ret (en v own)) st') (λe s'=>∀st',Cy st0 b s' st' rows->K (.Cd (fault e.1)) st')->PC f (mk b) st K
theorem rl.go {U:α->AH->V} {ls:α->List Nd} {A:Rd α} {s:Ae} {st:St} {Q:α->Ae->Prop} {E:Er->Ae->Prop} (hf:rl U ls f mk A) (hc:Cx st0 b s st rows) (h:Rd.wp A s Q E)
 (k:∀v own s' st',A.run s=.inr (v,s')->mu s'<=mu s->Cx st0 b s' st' ((own,ls v)::rows)->Q v s'->K (.ret (U v own)) st') (kb:∀e s' st',Cy st0 b s' st' rows->E e s'->K (.Cd (fault e.1)) st'):PC f (mk b) st K:=
 hf.ap hc (Rd.wp_mono h (λv s' r q own st' c=>k v own s' st' r (A.le _ _ _ r) c q) (λe s' _ q st' c=>kb e s' st' c q))
structure vF (f:FuncId) (mk:Nat->V->List V) (A:List Nd->Rd (List Nd)):Prop where
 ap:∀{st0:St} {b:Nat} {s:Ae} {st:St} {rows:List (AH×List Nd)} {K:AB->St->Prop} {own:AH} {l:List Nd},l.length<=90000000->Cx st0 b s st ((own,l)::rows)->
 Rd.wp (A l) s (λl' s'=>∀own' st',Cx st0 b s' st' ((own',l')::rows)->K (.ret (.slice 6 (l'.map AP) own')) st') (λe s'=>∀st',Cy st0 b s' st' rows->K (.Cd (fault e.1)) st')->PC f (mk b (.slice 6 (l.map AP) own)) st K
theorem vF.go {mk:Nat->V->List V} {A:List Nd->Rd (List Nd)} {s:Ae} {st:St} {Q:List Nd->Ae->Prop} {E:Er->Ae->Prop} {own:AH} (hf:vF f mk A) (hl:l.length<=90000000) (hc:Cx st0 b s st ((own,l)::rows)) (h:Rd.wp (A l) s Q E)
 (k:∀l' U s' st',(A l).run s=.inr (l',s')->mu s'<=mu s->Cx st0 b s' st' ((U,l')::rows)->Q l' s'->K (.ret (.slice 6 (l'.map AP) U)) st') (kb:∀e s' st',Cy st0 b s' st' rows->E e s'->K (.Cd (fault e.1)) st'):PC f (mk b (.slice 6 (l.map AP) own)) st K:=
 hf.ap hl hc (Rd.wp_mono h (λv s' r q own st' c=>k v own s' st' r ((A l).le _ _ _ r) c q) (λe s' _ q st' c=>kb e s' st' c q))
def Gl {α:Type} (U:α->V) (f:FuncId) (args:List V) (b:Nat) (A:Rd α):Prop:=∀{st0:St} {s:Ae} {st:St} {rows:List (AH×List Nd)} {K:AB->St->Prop},Cx st0 b s st rows->
 Rd.wp A s (λv s'=>∀st',Cx st0 b s' st' rows->K (.ret (U v)) st') (λe s'=>∀st',Cy st0 b s' st' rows->K (.Cd (fault e.1)) st')->PC f args st K
theorem AX.a {U:α->V} {A:Rd α} (h:AX U f mk A):Gl U f (mk b) b A:=h.ap
theorem AX.q {U:α->V} {A:Rd α} (h:AX U f mk A:=by assumption) (e:args=mk b:=by rfl):Gl U f args b A:=e ▸ h.a
theorem Gl.go {U:α->V} {A:Rd α} {s:Ae} {st:St} {Q:α->Ae->Prop} {E:Er->Ae->Prop} (hf:Gl U f args b A)
 (k:∀v s' st',A.run s=.inr (v,s')->mu s'<=mu s->Cx st0 b s' st' rows->Q v s'->K (.ret (U v)) st') (kb:∀e s' st',Cy st0 b s' st' rows->E e s'->K (.Cd (fault e.1)) st') (hc:Cx st0 b s st rows:=by assumption) (h:Rd.wp A s Q E:=by assumption):PC f args st K:=
 hf hc (Rd.wp_mono h (λv s' r q st' c=>k v s' st' r (A.le _ _ _ r) c q) (λe s' _ q st' c=>kb e s' st' c q))
theorem eF {s:Ae} {st:St} {F:AH->List (AH×List Nd)} {r:AH->AB} {r':AB} {o:AH} (h:∀o st',Cx st0 b s st' (F o)->K (r o) st') (hc:Cx st0 b s st (F o)) (e:r o=r'):∃r2 U,(r2=r'\/r2=r'.wk)/\St.le U st/\K r2 U:=⟨r o,st,.inl e,St.le_refl _,h o st hc⟩
theorem Dn {s:Ae} {st:St} {r r':AB} (hc:Cx st0 b s st rows) (h:∀st',Cx st0 b s st' rows->K r st') (e:r=r'.wk):∃r2 U,(r2=r'\/r2=r'.wk)/\St.le U st/\K r2 U:=⟨r,st,.inr e,St.le_refl _,h st hc⟩
theorem B5 {s:Ae} {st:St} {e:Int} (hc:Cy st0 b s st rows) (h:∀st',Cy st0 b s st' rows->K (.Cd (fault e)) st'):∃r2 U,(r2=.Cd (fault e)\/r2=(AB.Cd (fault e)).wk)/\St.le U st/\K r2 U:=⟨_,st,.inl rfl,St.le_refl _,h st hc⟩
theorem XY {c:Bool} {Q p q:Prop} (h:if c=true then P else Q) (k1:c=true->P->p) (U:c=false->Q->q):Bq c p q:=Wk (λe=>k1 e ke) (λe=>U e ke)
theorem Gz [BEq α] [LawfulBEq α] {a b:α} {Q p q:Prop} (h:if (a==b)=true then P else Q) (k1:a=b->P->p) (U:¬a=b->Q->q):Bq (a==b) p q:=
 Wg (λe=>k1 e ke) (λe=>U e ke)
theorem gK {c:Prop} [Decidable c] {Q p q:Prop} (h:if c then P else Q) (k1:c->P->p) (U:¬c->Q->q):Bq (decide c) p q:=
 Wh (λe=>k1 e ke) (λe=>U e ke)
theorem wR {b:Bool} {p q:Prop} (h:b=true) (k:p):Bq b p q:=Wk (λ_=>k) (λe=>by simp_all)
theorem lA {b:Bool} {p q:Prop} (h:b=false) (k:q):Bq b p q:=Wk (λe=>by simp_all) (λ_=>k)
structure LS (σ:Type) where
 x:σ
 s:Ae
 m:St
 o:AH
theorem CS {σ:Type} {Q0:AF->Env->St->Prop} {st:St} {s:Ae} {Q:β->Ae->Prop} {E:Er->Ae->Prop} {body:σ->Rd (Sum σ β)} {x0:σ}
 (f:σ->AH->List (Nat×V)) (g:σ->AH->List (Nat×List V)) (keep kb:List Nat) (rw:σ->AH->List (AH×List Nd)) (wt:σ->Nat) (U:AH) (hc:Cx st0 b s st (rw x0 U)) (h:Rd.wp (Rd.loop body x0) s Q E) (hl:wt x0+4*mu s<=500000000)
 (he:(env.Ow (f x0 U) (g x0 U) keep kb).FF env)
 (hb:∀x s1 st1 own1,Cx st0 b s1 st1 (rw x own1)->Rd.wp (body x) s1 (Rd.again body s1 Q E) E->wt x+4*mu s1<=500000000->mu s1<=mu s->
   ih (Ca (λenv' st'=>∃y:LS σ,(Cx st0 b y.s y.m (rw y.x y.o)/\Rd.wp (Rd.loop body y.x) y.s Q E/\wt y.x+4*mu y.s<=500000000/\mu y.s<=mu s)/\mu y.s<mu s1/\(env.Ow (f y.x y.o) (g y.x y.o) keep kb).FF env'/\St.le y.m st') Q0)
    (env.Ow (f x own1) (g x own1) keep kb) st1):
 ∃(α:Type) (E:α->Env) (S:α->St) (J:α->Prop) (μ:α->Nat) (x0:α),J x0/\(E x0).FF env/\St.le (S x0) st/\
  ∀x,J x->ih (Ca (λenv' st'=>∃y,J y/\μ y<μ x/\(E y).FF env'/\St.le (S y) st') Q0) (E x) (S x):=
 ⟨LS σ,λy=>env.Ow (f y.x y.o) (g y.x y.o) keep kb,λy=>y.m,
   λy=>Cx st0 b y.s y.m (rw y.x y.o)/\Rd.wp (Rd.loop body y.x) y.s Q E/\wt y.x+4*mu y.s<=500000000/\mu y.s<=mu s,λy=>mu y.s,⟨x0,s,st,U⟩,⟨hc,h,hl,Nat.le_refl _⟩,he,St.le_refl _,
   λy ⟨j1,j2,j3,j4⟩=>hb y.x y.s y.m y.o j1 (by rw [<-Rd.wp_loop];exact j2) j3 j4⟩
section
variable {st0 st:St} {b:Nat} {s:Ae} {rows:List (AH×List Nd)} {K:AB->St->Prop}
theorem Sz (U:Cx st0 b s st rows) (k:∀st',Cx st0 b s st' rows->K (.ret (F1 (Ab s).1)) st'):PC 112 [.ptr b 0] st K:=Hk U.has U.hb (k _ U.look)
theorem td (U:Cx st0 b s st rows) (kk:∀st',Cx st0 b s st' rows->K (.ret (.bool (AZ s k x))) st'):PC 149 [.ptr b 0,.int .i64 k,.str x] st K:=bW U.has U.hb (kk _ U.look)
theorem bX (U:Cx st0 b s st rows) (e:AZ s k x=true) (kk:∀st',Cx st0 b s st' rows->K (.ret (.bool true)) st'):PC 149 [.ptr b 0,.int .i64 k,.str x] st K:=td U ke
theorem nn (U:Cx st0 b s st rows) (e:AZ s k x=false) (kk:∀st',Cx st0 b s st' rows->K (.ret (.bool false)) st'):PC 149 [.ptr b 0,.int .i64 k,.str x] st K:=td U ke
theorem nj {Q:Prop} (U:Cx st0 b s st rows) (h:if AZ s k x=true then P else Q) (k1:∀st',Cx st0 b s st' rows->AZ s k x=true->P->K (.ret (.bool true)) st') (k2:∀st',Cx st0 b s st' rows->AZ s k x=false->Q->K (.ret (.bool false)) st'):
 PC 149 [.ptr b 0,.int .i64 k,.str x] st K:=by
 cases e:AZ s k x with
 |true=>exact bX U e λst' c=>k1 st' c e ke
 |false=>exact nn U e λst' c=>k2 st' c e ke
theorem HE:AX enc 150 (λb=>[.ptr b 0]) Az:=by
 refine ⟨λ{st0 b s st rows K} U h=>?_⟩
 refine MZ U.has U.hb (λe st' hu=>?_) (λe=>?_)
 .unfold Rd.wp at h;rw [BQ e] at h;exact h st' (U.Pg hu (EY e).1)
 .unfold Rd.wp at h;rw [Hf e] at h;exact h _ U.look.y
theorem Od {Q:Nd->Ae->Prop} {E:Er->Ae->Prop} (hc:Cx st0 b s st rows) (h:Rd.wp Az s Q E) (e:AZ s k x=true) (hk:k≠0/\k≠21) (kk:∀s' st',(Ab s).2.1=s'->mu s'<mu s->Cx st0 b s' st' rows->Q (Be (Ab s).1) s'->K (.ret (enc (Be (Ab s).1))) st'):
 PC 150 [.ptr b 0] st K:=by
 unfold Rd.wp at h
 rw [qq e hk.1] at h
 have U:=C8 e hk.1 hk.2
 exact MZ hc.has hc.hb (λ_ st' hu=>kk _ st' rfl U (hc.Pg hu (Nat.le_of_lt U)) h) (λn=>absurd (Ev e hk.1) n)
theorem Oe {Q:Nd->Ae->Prop} {E:Er->Ae->Prop} (hc:Cx st0 b s st rows) (h:Rd.wp Az s Q E) (hk:(Ab s).1.kind≠0/\(Ab s).1.kind≠21) (kk:∀s' st',(Ab s).2.1=s'->mu s'<mu s->Cx st0 b s' st' rows->Q (Be (Ab s).1) s'->K (.ret (enc (Be (Ab s).1))) st'):
 PC 150 [.ptr b 0] st K:=by
 have e:=DX hk.1
 unfold Rd.wp at h
 rw [BQ e] at h
 have U:=(EY e).2 hk.2
 exact MZ hc.has hc.hb (λ_ st' hu=>kk _ st' rfl U (hc.Pg hu (Nat.le_of_lt U)) h) (λn=>absurd e n)
theorem T2 {Q:α->Ae->Prop} {E:Er->Ae->Prop} (U:Cx st0 b s st rows) (h:Rd.wp (HO:Rd α) s Q E) (kb:∀e s' st',Cy st0 b s' st' rows->E e s'->K (.Cd (fault e.1)) st'):PC 113 [.ptr b 0] st K:=
 lx U.has U.hb (kb _ _ _ U.look.y h)
theorem XM:AX enc 153 (λb=>[.ptr b 0,.int .i64 k,.str x]) (A0 k x):=by
 refine ⟨λ{st0 b s st rows K} U h=>?_⟩
 unfold A0 at h
 rw [Rd.Ag,Rd.Ax] at h
 refine q6 U.has U.hb (λe1 e2 st' hu=>?_) (λe1 e2=>?_) (λe1=>?_)
 .rw [if_pos e1] at h
  unfold Rd.wp at h;rw [BQ e2] at h;exact h st' (U.Pg hu (EY e2).1)
 .rw [if_pos e1] at h
  unfold Rd.wp at h;rw [Hf e2] at h;exact h _ U.look.y
 .rw [if_neg ke] at h
  exact h _ U.look.y
theorem ze (U:Cx st0 b s st rows) (hm:mu s'<=100000000) (k:∀st',Cx st0 b s' st' rows->K (.ret (.BM [])) st'):PC 154 [.ptr b 0,D4 s'] st K:=sT U.has λst' hu=>k st' (U.set hu hm)
theorem LV {Q:Unit->Ae->Prop} {E:Er->Ae->Prop} (hc:Cx st0 b s st rows) (h:Rd.wp Hl s Q E) (hk:(Ab s).1.kind≠0/\(Ab s).1.kind≠21) (kk:∀s' st',(Ab s).2.1=s'->mu s'<mu s->Cx st0 b s' st' rows->Q () s'->K (.ret (F1 (Ab s).1)) st'):
 PC 186 [.ptr b 0] st K:=by
 have e:=DX hk.1
 unfold Hl at h
 rw [Rd.wp_seq] at h
 unfold Rd.wp at h
 rw [BQ e] at h
 have U:=(EY e).2 hk.2
 exact Xl hc.has hc.hb (λ_ st' hu=>kk _ st' rfl U (hc.Pg hu (Nat.le_of_lt U)) h) (λn=>absurd e n)
theorem fT {Q:Unit->Ae->Prop} {E:Er->Ae->Prop} (hc:Cx st0 b s st rows) (h:if AZ (Ab s).2.1 k x=true then Rd.wp Hl s Q E else P) (hk:(Ab s).1.kind≠0/\(Ab s).1.kind≠21)
 (kk:∀s' st',mu s'<mu s->Cx st0 b s' st' rows->(if AZ s' k x=true then Q () s' else P)->K (.ret (F1 (Ab s).1)) st'):PC 186 [.ptr b 0] st K:=by
 have e:=DX hk.1
 have U:=(EY e).2 hk.2
 refine Xl hc.has hc.hb (λ_ st' hu=>kk _ st' U (hc.Pg hu (Nat.le_of_lt U)) ?_) (λn=>absurd e n)
 split
 .rename_i hi
  rw [if_pos hi] at h
  unfold Hl at h
  rw [Rd.wp_seq] at h
  unfold Rd.wp at h
  rw [BQ e] at h
  exact h
 simp_all
theorem GW {s0:Ae} (U:Cx st0 b s st rows) (hm:mu s0<=100000000) (k:∀st',Cx st0 b s0 st' rows->K (.ret (.BM [])) st'):PC 154 [.ptr b 0,.agg s0.cells] st K:=ze U hm k
theorem yy (hc:Cx st0 b s st rows) (hk:(Ab s).1.kind≠0/\(Ab s).1.kind≠21) (kk:∀s' st',(Ab s).2.1=s'->mu s'<mu s->Cx st0 b s' st' rows->K (.ret (enc (Be (Ab s).1))) st'):PC 150 [.ptr b 0] st K:=by
 have e:=DX hk.1
 have U:=(EY e).2 hk.2
 exact MZ hc.has hc.hb (λ_ st' hu=>kk _ st' rfl U (hc.Pg hu (Nat.le_of_lt U))) (λn=>absurd e n)
end
theorem Dr (h:P:=by with_reducible first|(show _/\_;first|exact Wa)|(show Bq _ _ _;first|exact Wb|exact Wc)|fail):P:=h
theorem Ba {A:Prop} (k:A) (h:A->P:=by intro k;with_reducible first|(show _/\_;first|exact Wd EQ k|exact Wm ‹_› AC k|exact Wn AC AC k|exact Wo AC AC k|exact Wp AC AC AC k|exact Wr Do AC AC k|exact Ws Do k|exact WB ‹_› AC k|exact WC AC AC k|exact WD AC AC k|exact WE AC AC AC k)|(show Bq _ _ _;first|exact Wt H9 k|exact Wu H9 k|exact Wv AC k|exact Ww AC k|exact wR ‹_› k|exact lA ‹_› k|exact Wi k|exact Wj k)|(intro x y z;exact Wl k x y z)|(intro x y z;exact Wz k x y z)|(intro x y z;exact WA k x y z)|(show Exists _;first|exact Wq AC AC k)|fail):P:=h k
theorem Ds {B C:V->Prop} (k:V) (l:B k) (m:C k) (h:∀k,B k->C k->P:=by intro k l m;with_reducible first|(show Exists _;first|exact We k l m|exact W8 GE k l m|exact W0 GE k l m|exact W9 k l m)|fail):P:=h k l m
theorem Bb {A:Prop} (k:A) (l:B) (h:A->B->P:=by intro k l;with_reducible first|(show Bq _ _ _;first|exact Gz ‹_› k l|exact gK ‹_› k l|exact XY ‹_› k l)|fail):P:=h k l
theorem Bc {A:Prop} (k:A) (l:B) (h:A->B->P:=by intro k l;with_reducible first|(show Bq _ _ _;first|exact Wf Do k l|exact Wg k l|exact Wh k l|exact Wk k l)|fail):P:=h k l
theorem XO {A:Prop} (k:A) (l:B) (h:A->B->P:=by intro k l;with_reducible first|(intro x y;exact Wx k l x y)|(intro x y;exact Wy k l x y)|fail):P:=h k l
theorem Ad {p:Env->Prop} (h:∀e,p e):∀e:Env,p e:=h
theorem aW {es:List (List V)} {e:List V} {K:List V->Prop} (U:0<=i) (h:es[i.toNat]? =some e) (k:K e):0<=i/\∃e,es[i.toNat]? =some e/\K e:=⟨U,e,h,k⟩
theorem nf {l:List Int} {x:Int} {K:List V->Prop} (h:l[i.toNat]? =some x) (U:0<=i) (k:K [.int .i64 x]):0<=i/\∃e,(ints l)[i.toNat]? =some e/\K e:=⟨U,_,by simp [ints,h],k⟩
theorem nD {es:List α} {n:Nat} {K:Nat->Prop} (h:es.length=n) (k:K n):∀m,m=es.length->m<D7->K m:=λm U _=>by rw [h] at U;subst U;exact k
section
variable {st:St} {K:AB->St->Prop}
theorem JI {t:Tk} (h:K (.ret (.bool (JH t))) st):PC 369 [F1 t] st K:=by
 refine pB Tryz.func369 ?_
 repeat' ((conv=>whnf);first|(refine Ba ?_;intros)|(refine Bb ?_ ?_<;>intro e h)|(refine Bc ?_ ?_<;>intro _)|fail)
 all_goals conv=>whnf
 all_goals (refine Av h ?_;clear h;simp_all [JH])
theorem s8 {t:Tk} (h:K (.ret (.bool (J3 t))) st):PC 371 [F1 t] st K:=by
 refine pB Tryz.func371 ?_
 repeat' ((conv=>whnf);first|(refine Ba ?_;intros)|(refine Bb ?_ ?_<;>intro e h)|(refine Bc ?_ ?_<;>intro _)|refine JI ?_)
 all_goals conv=>whnf
 all_goals (refine Av h ?_;clear h;simp_all [J3])
theorem XU {t:Tk} (h:K (.ret (.bool (Cq t))) st):PC 270 [F1 t] st K:=by
 refine pB Tryz.func270 ?_
 repeat' ((conv=>whnf);first|(refine Ba ?_;intros)|(refine Bb ?_ ?_<;>intro e h)|(refine Bc ?_ ?_<;>intro _)|fail)
 all_goals conv=>whnf
 all_goals (refine Av h ?_;clear h;simp_all [Cq])
theorem Nf {t:Tk} (h:K (.ret (.bool (C3 t))) st):PC 224 [F1 t] st K:=by
 refine pB Tryz.func224 ?_
 repeat' ((conv=>whnf);first|(refine Ba ?_;intros)|(refine Bb ?_ ?_<;>intro e h)|(refine Bc ?_ ?_<;>intro _)|refine XU ?_)
 all_goals conv=>whnf
 all_goals (refine Av h ?_;clear h;simp_all [C3,Cq,qX,zZ,gA,zY])
theorem VL {t:Tk} (h:K (.ret (.bool (EK t))) st):PC 225 [F1 t] st K:=by
 refine pB Tryz.func225 ?_
 repeat' ((conv=>whnf);first|(refine Ba ?_;intros)|(refine Bb ?_ ?_<;>intro e h)|(refine Bc ?_ ?_<;>intro _)|fail)
 all_goals conv=>whnf
 all_goals (refine Av h ?_;clear h;simp_all [EK])
theorem Xh {t:Tk} (h:K (.ret (.bool (Hc t))) st):PC 222 [F1 t] st K:=by
 refine pB Tryz.func222 ?_
 repeat' ((conv=>whnf);first|(refine Ba ?_;intros)|(refine Bb ?_ ?_<;>intro e h)|(refine Bc ?_ ?_<;>intro _)|fail)
 all_goals conv=>whnf
 all_goals (refine Av h ?_;clear h;simp_all [Hc])
theorem K0 {own:AH} (h:K (.ret (enc (As k l))) st):PC 315 [.int .i64 k,.slice 6 (l.map AP) own] st K:=by
 refine pB Tryz.func315 ?_
 repeat' ((conv=>whnf);first|(refine Ba ?_;intros)|(refine Bb ?_ ?_<;>intro e h)|(refine Bc ?_ ?_<;>intro _)|fail)
 all_goals exact EV (St.le_refl _) Cn h
theorem fo {a:Nd} {own:AH} (h:K (.ret (enc (As k [a]))) st):PC 315 [.int .i64 k,.slice 6 [AP a] own] st K:=K0 (l:=[a]) h
theorem fp {a b:Nd} {own:AH} (h:K (.ret (enc (As k [a,b]))) st):PC 315 [.int .i64 k,.slice 6 [AP a,AP b] own] st K:=K0 (l:=[a,b]) h
theorem WS {a b c:Nd} {own:AH} (h:K (.ret (enc (As k [a,b,c]))) st):PC 315 [.int .i64 k,.slice 6 [AP a,AP b,AP c] own] st K:=K0 (l:=[a,b,c]) h
theorem fq {a b c d:Nd} {own:AH} (h:K (.ret (enc (As k [a,b,c,d]))) st):PC 315 [.int .i64 k,.slice 6 [AP a,AP b,AP c,AP d] own] st K:=K0 (l:=[a,b,c,d]) h
theorem xc {own:AH} (h:K (.ret (enc (MP k l))) st):PC 347 [.int .i64 k,.slice 6 (l.map AP) own] st K:=by
 refine pB Tryz.func347 ?_
 match l with
 |[x]=>
  have h:K (.ret (enc x)) st:=h
  have hn:(([x]:List Nd).length:Int)=1:=rfl
  repeat' ((conv=>whnf);first|(refine Ba ?_;intros)|(refine Bb ?_ ?_<;>intro e h)|(refine Bc ?_ ?_<;>intro _)|refine Ci (l:=[x]) (λ_=>?_)|refine aW AC rfl ?_)
  all_goals exact BR rfl h
 |[]=>
  have h:K (.ret (enc (As k []))) st:=h
  have hn:¬(([]:List Nd).length:Int)=1:=Do
  repeat' ((conv=>whnf);first|(refine Ba ?_;intros)|(refine Bb ?_ ?_<;>intro e h)|(refine Bc ?_ ?_<;>intro _)|refine Ci (l:=[]) (λ_=>?_)|refine K0 (l:=[]) ?_)
  all_goals exact BR rfl h
 |x::y::r=>
  have h:K (.ret (enc (As k (x::y::r)))) st:=h
  have hn:¬((x::y::r).length:Int)=1:=by simp only [List.length_cons];omega
  repeat' ((conv=>whnf);first|(refine Ba ?_;intros)|(refine Bb ?_ ?_<;>intro e h)|(refine Bc ?_ ?_<;>intro _)|refine Ci (l:=x::y::r) (λ_=>?_)|refine K0 (l:=x::y::r) ?_)
  all_goals exact BR rfl h
theorem VV (h:K (.ret (.bool (H5 n))) st):PC 409 [enc n] st K:=by
 refine pB Tryz.func409 ?_
 repeat' ((conv=>whnf);first|(refine Ba ?_;intros)|(refine Bb ?_ ?_<;>intro e h)|(refine Bc ?_ ?_<;>intro _)|refine lU ?_)
 all_goals conv=>whnf
 all_goals (refine Av h ?_;clear h;simp_all [bf])
theorem eO (U:n.size<=1000000000) (h:K (.ret (.bool (To n))) st):PC 348 [enc n] st K:=by
 refine pB Tryz.func348 ?_
 have hs:(strs (GH n).1).length=(GH n).1.length:=by simp [strs]
 repeat' ((conv=>whnf);first|(refine Ba ?_;intros)|(refine Bb ?_ ?_<;>intro e h)|(refine Bc ?_ ?_<;>intro _)|refine oA U ?_|refine nD hs ?_)
 all_goals conv=>whnf
 all_goals (refine Av h ?_;clear h;simp_all [To])
end
theorem Lo {t:Tk} (h:Cq t=true):t.kind≠0/\t.kind≠21:=by
 unfold Cq at h
 simp only [Bool.or_eq_true,Bool.and_eq_true,beq_iff_eq] at h
 omega
theorem Pb {t:Tk} (h:JH t=true):t.kind≠0/\t.kind≠21:=by
 unfold JH at h
 simp only [Bool.or_eq_true,Bool.and_eq_true,beq_iff_eq] at h
 omega
theorem N5 {t:Tk} (h:Hc t=true):t.kind≠0/\t.kind≠21:=by
 unfold Hc at h
 simp only [Bool.or_eq_true,Bool.and_eq_true,beq_iff_eq] at h
 omega
abbrev pv (b d:Nat):V:=.agg [.ptr b 0,.int .i64 (d:Int)]
section
variable {st0 st:St} {b d:Nat} {s:Ae} {rows:List (AH×List Nd)} {K:AB->St->Prop}
theorem fI (U:Cx st0 b s st rows) (kk:∀st',Cx st0 b s st' rows->K (.ret (.bool (AZ s 15 x))) st'):PC 311 [pv b d,.str x] st K:=by
 refine pB Tryz.func311 ?_
 repeat' ((conv=>whnf);first|(refine Ba ?_;intros)|(refine Bb ?_ ?_<;>intro e h)|(refine Bc ?_ ?_<;>intro _)|refine td U (λst1 U=>?_))
 all_goals conv=>whnf
 all_goals exact Av (kk st1 U) ‹_›
theorem Xb (U:Cx st0 b s st rows) (e:AZ s 15 x=true) (kk:∀st',Cx st0 b s st' rows->K (.ret (.bool true)) st'):PC 311 [pv b d,.str x] st K:=fI U (by rw [e];exact kk)
theorem cV (U:Cx st0 b s st rows) (e:AZ s 15 x=false) (kk:∀st',Cx st0 b s st' rows->K (.ret (.bool false)) st'):PC 311 [pv b d,.str x] st K:=fI U (by rw [e];exact kk)
theorem ya {Q:Prop} (U:Cx st0 b s st rows) (h:if AZ s 15 x=true then P else Q) (k1:∀st',Cx st0 b s st' rows->AZ s 15 x=true->P->K (.ret (.bool true)) st') (k2:∀st',Cx st0 b s st' rows->AZ s 15 x=false->Q->K (.ret (.bool false)) st'):
 PC 311 [pv b d,.str x] st K:=by
 cases e:AZ s 15 x with
 |true=>exact Xb U e λst' c=>k1 st' c e (by rw [if_pos e] at h;exact h)
 |false=>exact cV U e λst' c=>k2 st' c e (by rw [if_neg (by rw [e];decide)] at h;exact h)
theorem EB {own:AH} (h0:ks.contains 0=false):AX enc 151 (λb=>[.ptr b 0,.slice 1 (ints ks) own]) (CX ks):=by
 refine ⟨λ{st0 b s st rows K} U h=>?_⟩
 unfold CX at h
 simp only [Rd.Ag,Rd.Ax] at h
 refine pB Tryz.func151 ?_
 repeat' ((conv=>whnf);first|(refine Ba ?_;intros)|(refine Bb ?_ ?_<;>intro e h)|(refine Bc ?_ ?_<;>intro _)|refine Sz ‹_› (λst1 U=>?_)|refine Od ‹_› ‹_› ‹_› Do (λs1 st1 hz hm U h=>?_)|refine Oe ‹_› ‹_› (by first|exact Lo ‹_›|exact Pb ‹_›|omega) (λs1 st1 hz hm U h=>?_)|refine HE.go ‹_› ‹_› (λn s1 st1 hr hm U h=>?_) (λe s1 st1 U h=>?_)|refine T2 ‹_› ‹_› (λe s1 st1 U h=>?_)|exact B5 (Cx.y ‹_›) ‹_›|exact B5 (Cx.y (Cx.drop ‹_›)) ‹_›|refine Ci (λ_=>?_)|refine Ad (λe1=>?_)|exact ⟨⟨_,_,_,_⟩,⟨‹_›,Rd.Fk ‹_› cb,f8,cb⟩,cb,(by refine ⟨rfl,?_,?_,rfl⟩<;>repeat' (first|exact trivial|exact rfl|refine And.intro ?_ ?_)),St.le_refl _⟩|exact eF ‹_› ‹_› rfl|exact Dn ‹_› ‹_› rfl|exact Dn ‹_› ‹_› Cn|exact Dn (Cx.drop ‹_›) ‹_› rfl|exact Dn (Cx.drop ‹_›) ‹_› Cn|exact B5 ‹_› ‹_›|exact B5 (Cy.drop ‹_›) ‹_›|exact B5 (Cy.drop (Cy.drop ‹_›)) ‹_›|refine WA (λ_=>?_))
 refine V4 (α:=Nat×St) (λx=>[(12,.int .i64 (x.1:Int))]) [0,4,5,10,11] [0,1] (λx=>x.2) (λx=>x.1<=ks.length/\Cx st0 b s x.2 rows/\ks.contains (Ab s).1.kind=(ks.drop x.1).contains (Ab s).1.kind) (λx=>ks.length - x.1) (0,_) ⟨Nat.zero_le _,U,rfl⟩ Yl (St.le_refl _) ?_
 rintro ⟨k,st2⟩ ⟨hk,hc2,hi⟩
 dsimp only at hk hc2 hi |-
 by_cases hlt:k<ks.length
 .obtain ⟨x,hx⟩:∃x,ks[(k:Int).toNat]? =some x:=⟨_,List.getElem?_eq_getElem hlt⟩
  have hx':ks[k]? =some x:=hx
  rw [drop_at hx',List.contains_cons] at hi
  have hx1:=hx
  by_cases e:(Ab s).1.kind=x
  .rw [beq_iff_eq.2 e,Bool.true_or] at hi
   rw [if_pos hi] at h
   have hkd:(Ab s).1.kind≠0:=λz=>by rw [z] at hi;rw [h0] at hi;cases hi
   have U:=hc2
   repeat' ((conv=>whnf);first|refine nf hx AC ?_|(refine Ba ?_;intros)|(refine Bb ?_ ?_<;>intro e h)|(refine Bc ?_ ?_<;>intro _)|refine HE.go U h (λn s1 st1 hr hm U h=>?_) (λe s1 st1 U h=>?_)|exact Dn U h rfl|exact B5 U h)
  .rw [beq_eq_false_iff_ne.2 e,Bool.false_or] at hi
   repeat' ((conv=>whnf);first|refine nf hx AC ?_|(refine Ba ?_;intros)|(refine Bb ?_ ?_<;>intro e h)|(refine Bc ?_ ?_<;>intro _)|fail)
   all_goals conv=>whnf
   all_goals exact ⟨(k+1,st2),⟨hlt,hc2,hi⟩,Nat.sub_lt_sub_left hlt (Nat.lt_succ_self k),Yl,St.le_refl _⟩
 .rw [List.drop_eq_nil_iff.2 AC] at hi
  rw [if_neg (by rw [hi];exact Bool.false_ne_true)] at h
  have U:=hc2
  repeat' ((conv=>whnf);first|(refine Ba ?_;intros)|(refine Bb ?_ ?_<;>intro e h)|(refine Bc ?_ ?_<;>intro _)|refine T2 U h (λe s1 st1 U h=>?_)|exact B5 U h)
theorem nu:AX enc 151 (λb=>[.ptr b 0,.slice 1 [[.int .i64 1],[.int .i64 2],[.int .i64 3],[.int .i64 4]] .full]) (CX [1,2,3,4]):=EB (ks:=[1,2,3,4]) Do
theorem QI:AX enc 344 (λb=>[pv b d]) IE:=by
 refine ⟨λ{st0 b s st rows K} hc h=>?_⟩
 unfold IE at h
 simp only [Rd.Ag,Rd.Ax,Rd.wp_seq,Rd.wp_ret] at h
 refine pB Tryz.func344 ?_
 repeat' ((conv=>whnf);first|exact Dr|(refine Ba ?_;intros)|(refine Ds ?_ ?_ ?_;rotate_left)|(refine Bb ?_ ?_<;>intro e h)|(refine Bc ?_ ?_<;>intro _)|refine Sz ‹_› (λU hc=>?_)|refine Od ‹_› ‹_› ‹_› Do (λs1 U hz hm hc h=>?_)|refine Oe ‹_› ‹_› (by first|exact Lo ‹_›|exact Pb ‹_›|omega) (λs1 U hz hm hc h=>?_)|refine HE.go ‹_› ‹_› (λn s1 U hr hm hc h=>?_) (λe s1 U hc h=>?_)|refine XM.go ‹_› ‹_› (λn s1 U hr hm hc h=>?_) (λe s1 U hc h=>?_)|exact B5 (Cx.y ‹_›) ‹_›|exact B5 (Cx.y (Cx.drop ‹_›)) ‹_›|refine JI ?_|refine fo ?_|refine fp ?_|refine WS ?_|refine fq ?_|refine K0 ?_|refine Ad (λe1=>?_)|exact ⟨⟨_,_,_,_⟩,⟨‹_›,Rd.Fk ‹_› cb,f8,cb⟩,cb,(by refine ⟨rfl,?_,?_,rfl⟩<;>repeat' (first|exact trivial|exact rfl|refine And.intro ?_ ?_)),St.le_refl _⟩|exact eF ‹_› ‹_› rfl|exact Dn ‹_› ‹_› rfl|exact Dn ‹_› ‹_› Cn|exact Dn (Cx.drop ‹_›) ‹_› rfl|exact Dn (Cx.drop ‹_›) ‹_› Cn|exact B5 ‹_› ‹_›|exact B5 (Cy.drop ‹_›) ‹_›|exact B5 (Cy.drop (Cy.drop ‹_›)) ‹_›|refine nu.go hc h (λn s1 U hr hm hc h=>?_) (λe s1 U hc h=>?_)|refine Af [(0,true),(1,true),(2,true),(3,true),(4,false),(5,true),(6,false),(7,false)] [1] GE ?_|with_reducible refine WF ?_)
end
theorem FY (h:P:=by (with_reducible show ∃_,_);first|exact ⟨⟨_,_,_,_⟩,⟨‹_›,Rd.Fk ‹_› cb,f8,cb⟩,cb,Yl,St.le_refl _⟩|exact B5 (Cx.y ‹_›) ‹_›|exact B5 (Cx.y (Cx.drop ‹_›)) ‹_›|exact eF ‹_› ‹_› rfl|exact Dn ‹_› ‹_› rfl|exact Dn ‹_› ‹_› Cn|exact Dn (Cx.drop ‹_›) ‹_› rfl|exact Dn (Cx.drop ‹_›) ‹_› Cn|exact B5 ‹_› ‹_›|exact B5 (Cy.drop ‹_›) ‹_›|exact B5 (Cy.drop (Cy.drop ‹_›)) ‹_›|fail):P:=h
theorem Mg {A:Prop} (k:A) (h:A->P:=by intro k;(with_reducible show Am _ _ _ _ _ _ _);first|exact Cx.Hp ‹_› f9 k|exact Cx.Hp (Cx.push ‹_› _) f9 k|fail):P:=h k
theorem IQ {A:Prop} (k:A) (h:A->P:=by intro k;(with_reducible show PC _ _ _ _);first|((with_reducible show PC 149 _ _ _);exact bX ‹_› ‹_› k)|((with_reducible show PC 149 _ _ _);exact nn ‹_› ‹_› k)|((with_reducible show PC 311 _ _ _);exact Xb ‹_› ‹_› k)|((with_reducible show PC 311 _ _ _);exact cV ‹_› ‹_› k)|((with_reducible show PC 112 _ _ _);exact Sz ‹_› k)|fail):P:=h k
theorem Mw {A:Prop} (k:A) (l:B) (h:A->B->P:=by intro k l;(with_reducible show PC _ _ _ _);first|((with_reducible show PC 149 _ _ _);exact nj ‹_› ‹_› k l)|((with_reducible show PC 311 _ _ _);exact ya ‹_› ‹_› k l)|fail):P:=h k l
theorem Lm {A:Prop} (k:A) (h:A->P:=by intro k;(with_reducible show PC _ _ _ _);first|((with_reducible show PC 150 _ _ _);exact Od ‹_› ‹_› ‹_› Do k)|((with_reducible show PC 150 _ _ _);exact Oe ‹_› ‹_› (by first|exact Lo ‹_›|exact Pb ‹_›|omega) k)|fail):P:=h k
theorem JP {A:Prop} (k:A) (l:B) (h:A->B->P:=by intro k l;(with_reducible show PC _ _ _ _);first|((with_reducible show PC 150 _ _ _);exact HE.go ‹_› ‹_› k l)|((with_reducible show PC 153 _ _ _);exact XM.go ‹_› ‹_› k l)|fail):P:=h k l
theorem lg {A:Prop} (k:A) (h:A->P:=by intro k;(with_reducible show PC _ _ _ _);first|((with_reducible show PC 113 _ _ _);exact T2 ‹_› ‹_› k)|fail):P:=h k
theorem KE {A:Prop} (k:A) (h:A->P:=by intro k;(with_reducible show PC _ _ _ _);first|((with_reducible show PC 369 _ _ _);exact JI k)|((with_reducible show PC 371 _ _ _);exact s8 k)|((with_reducible show PC 270 _ _ _);exact XU k)|((with_reducible show PC 315 _ _ _);exact fo k)|((with_reducible show PC 315 _ _ _);exact fp k)|((with_reducible show PC 315 _ _ _);exact WS k)|((with_reducible show PC 315 _ _ _);exact fq k)|((with_reducible show PC 315 _ _ _);exact K0 k)|((with_reducible show PC 347 _ _ _);exact xc k)|fail):P:=h k
theorem yx {t:Tk} (h:JH t=true):t.kind≠21:=(Pb h).2
theorem RI:Rd.A4 IE:=Rd.A4.look λs v s' h=>by
 split at h
 .rename_i U
  exact Rd.A4.at (λv s' e=>Ig e (yx U)) h
 .exact Rd.A4.seq (ME Do) s v s' h
section
variable {st0 st:St} {b d:Nat} {s:Ae} {rows:List (AH×List Nd)} {K:AB->St->Prop}
attribute [local irreducible] Go.Aw.Am
theorem pK {br:Bool} {U:Rd Nd} (ho:AX enc 370 (λb=>[pv b d]) U):rl (λp own=>.BM [.slice 6 (p.1.map AP) own,.bool p.2]) (·.1) 346 (λb=>[pv b d,.bool br]) (Pw U br):=by
 refine ⟨λ{st0 b s st rows K} hc h=>?_⟩
 unfold Pw at h
 refine pB Tryz.func346 ?_
 have hmu:=hc.mu
 repeat' ((conv=>whnf);(first|refine Ba ?_|refine Bb ?_ ?_|refine Bc ?_ ?_|refine XO ?_ ?_|fail)<;>intros)
 refine CS (λl own=>[(4,.slice 6 (l.map AP) own)]) (λ_ _=>[]) [1,2] [0] (λl own=>(own,l)::rows) (λl=>l.length) .full (Cx.push ‹_› []) ‹_› i7 Yl ?_
 intro l s1 st1 own1 hc h hl hm1
 simp only [pC,Rd.Ag,Rd.Ax,Rd.wp_seq,Rd.wp_ret,Rd.BJ] at h
 repeat' ((conv=>whnf);(first|refine Ba ?_|refine Bb ?_ ?_|refine Bc ?_ ?_|refine XO ?_ ?_|fail)<;>intros)
 unfold Se at h
 refine CS (λl own=>[(4,.slice 6 (l.map AP) own)]) (λ_ _=>[]) [1,2] [0] (λl own=>(own,l)::rows) (λl=>l.length) own1 ‹_› ‹_› hl Yl ?_
 intro l2 s2 st2 own2 hc h hl hm2
 simp only [cF,Rd.Ag,Rd.Ax,Rd.wp_seq,Rd.wp_ret,Rd.BJ] at h
 cases br
 .simp only [Bool.false_eq_true,if_false] at h
  repeat' ((conv=>whnf);(first|refine Ba ?_|refine Bb ?_ ?_|refine Bc ?_ ?_|refine XO ?_ ?_|refine IQ ?_|refine Mw ?_ ?_|refine Lm ?_|refine JP ?_ ?_|exact FY|refine KE ?_|refine Mg ?_|refine Ad ?_|refine ho.go ‹_› ‹_› ?_ ?_|refine QI.vP RI ‹_› ‹_› ?_ ?_)<;>intros)
 .simp only [if_true] at h
  repeat' ((conv=>whnf);(first|refine Ba ?_|refine Bb ?_ ?_|refine Bc ?_ ?_|refine XO ?_ ?_|refine IQ ?_|refine Mw ?_ ?_|refine Lm ?_|refine JP ?_ ?_|exact FY|refine KE ?_|refine Mg ?_|refine Ad ?_|refine ho.go ‹_› ‹_› ?_ ?_|refine QI.vP RI ‹_› ‹_› ?_ ?_)<;>intros)
end
section
variable {st:St} {R:AB->St->Prop}
attribute [local irreducible] Go.Aw.Am
theorem dx {deep:Int} {A:Ae->Rs} (U:¬deep<1->DR 358 (if 100<deep then 100 else deep) A):DQ 318 deep A:=by
 intro s hm st R h
 refine pB Tryz.func318 ?_
 repeat' ((conv=>whnf);first|(refine Br ?_;intros)|(refine Bs ?_ ?_<;>intro _)|refine Ni (s:=s) (q:=A s) (λhd=>U hd s hm) ?_)
 all_goals exact BR rfl h
theorem rJ {deep:Int} {A:Ae->Rs} (U:¬deep<1->DR 390 (if 100<deep then 100 else deep) A):DQ 412 deep A:=by
 intro s hm st R h
 refine pB Tryz.func412 ?_
 repeat' ((conv=>whnf);first|(refine Br ?_;intros)|(refine Bs ?_ ?_<;>intro _)|refine Ni (s:=s) (q:=A s) (λhd=>U hd s hm) ?_)
 all_goals exact BR rfl h
theorem yh {deep:Int} {A:Ae->Rs} (U:¬deep<1->DR 357 (if 100<deep then 100 else deep) A):DQ 317 deep A:=by
 intro s hm st R h
 refine pB Tryz.func317 ?_
 repeat' ((conv=>whnf);first|(refine Br ?_;intros)|(refine Bs ?_ ?_<;>intro _)|refine Ni (s:=s) (q:=A s) (λhd=>U hd s hm) ?_)
 all_goals exact BR rfl h
theorem sP {deep:Int} {A:Ae->Rs} (U:¬deep<1->DR 366 (if 100<deep then 100 else deep) A):DQ 329 deep A:=by
 intro s hm st R h
 refine pB Tryz.func329 ?_
 repeat' ((conv=>whnf);first|(refine Br ?_;intros)|(refine Bs ?_ ?_<;>intro _)|refine Ni (s:=s) (q:=A s) (λhd=>U hd s hm) ?_)
 all_goals exact BR rfl h
end
def M1 (Y:Ae->Rs) (n:Nd) (s:Ae):Ls:=match Y s with
 | .inl e=>.inl e
 | .inr q=>CE Y [n,q.1] q.2
def k8 (st:St) (b:Nat) (R:AB->St->Prop):Ls->Prop
 | .inr (l,s')=>∀st' U,Io st st' b s'->U.BS st'->R (.ret (.slice 6 (l.map AP) U)) (U.st st' (l.length*6))
 | .inl (e,s')=>∀st',Io st st' b s'->R (.Cd (fault e)) st'
theorem U1 {s:Ae} (h:AZ s 15 [44]=true) (U:Y (Ab s).2.1=.inr (n,s')) (hm:mu s'<mu s):CE Y l s=CE Y (l++[Be (Ab s).1,n]) s':=by
 rw [CE,if_pos h,U]
 dsimp only
 rw [if_pos hm]
section
variable {st:St} {R:AB->St->Prop}
attribute [local irreducible] Go.Aw.Am
theorem vo (hY:DQ 318 d Y) (h0:d=0->∀s,Y s=.inl (2,s)) (hB:Fh Y) (hF:A4 Y) {n1:Nd} {s:Ae} {x:Int} (hx:x=(d:Int)) (hm:mu s<=100000000) (hs:Has st b s) (h:k8 st b R (M1 Y n1 s)):
 PC 422 [.ptr b 0,.slice 6 [AP n1] .full,.int .i64 x] st R:=by
 refine pB Tryz.func422 ?_
 unfold M1 at h
 have hn1:[n1].length+1<=1000000000:=by show 1+1<=1000000000;decide
 repeat' ((conv=>whnf);first|(refine Br ?_;intros)|(refine Bs ?_ ?_<;>intro _)|refine Gm (λ_=>?_) ?_|refine RX hx hY h0 hB hm hs (Eo (λn2 s2 U st2 h2=>?_) (λe2 s2 U st2 h2=>?_))|refine Pp (l:=[n1]) (x:=n2) (own:=.full) trivial hn1 (λown1 ho1=>?_))
 .rw [U] at h
  have hd2:=hF _ _ _ U
  dsimp only at h
  refine J6 (α:=List Nd×Ae×St×AH) (λx=>[(1,.slice 6 (x.1.map AP) x.2.2.2)]) [0,2,6] (λx=>[]) [] (λx=>x.2.2.2.st x.2.2.1 (x.1.length*6))
   (λx=>x.2.2.2.BS x.2.2.1/\Io st x.2.2.1 b x.2.1/\x.1.length+2*mu x.2.1<=400000000/\mu x.2.1<=mu s/\CE Y x.1 x.2.1=CE Y [n1,n2] s2) (λx=>mu x.2.1) ([n1]++[n2],s2,st2,own1)
   ⟨ho1,h2,by show 2+2*mu s2<=_;omega,by show mu s2<=_;omega,rfl⟩ Yl (St.le_refl _) ?_
  rintro ⟨l,s3,st3,own⟩ ⟨j1,j2,j5,j6,j7⟩
  dsimp only at j1 j2 j5 j6 j7
  have hm3:mu s3<=100000000:=AC
  have hb3:=FH hm3
  have hl3:Has (st3.Aa b (Dg s3)) b s3:=.inl (St.Aj ..)
  have g3:own.BS (st3.Aa b (Dg s3)):=Jo j1 j2.1
  have hn:l.length+2<=1000000000:=AC
  have hm4:AZ s3 15 [44]=true->mu (Ab s3).2.1<=100000000:=λe=>by have:=C8 e Do Do;omega
  repeat' ((conv=>whnf);first|(refine Br ?_;intros)|(refine Bs ?_ ?_<;>intro _)|refine Gm (λ_=>?_) ?_|refine xt j2.1 hb3 ?_|refine Gi (hl3.hw own _) hb3 (S8 g3 hl3 (HD ‹_› Do) (λst4 h4 g4=>?_))|refine RX hx hY h0 hB (hm4 ‹_›) (h4.1.hw own _) (FW g4 h4.1 (GP (λn5 s5 hq5 st5 h5 g5=>?_) (λe5 s5 hq5 st5 h5 g5=>?_)))|refine lk (l:=l) (x:=Be (Ab s3).1) (y:=n5) g5 hn (λown' ho'=>?_))
  all_goals conv=>whnf
  .have hp:AZ s3 15 [44]=true:=FS
   have hd:=hF _ _ _ hq5
   have hd3:=C8 hp Do Do
   have hd4:mu s5<mu s3:=AC
   have hu:=(A3 (st:=st3) (b:=b) (s:=s3)).trans (h4.trans h5)
   refine ⟨(l++[Be (Ab s3).1,n5],s5,st5,own'),⟨ho',j2.trans hu,?_,by show mu s5<=_;omega,?_⟩,hd4,Yl,St.le_refl _⟩
   .show (l++[Be (Ab s3).1,n5]).length+2*mu s5<=_
    rw [List.length_append]
    show l.length+2+2*mu s5<=_
    omega
   .show CE Y (l++[Be (Ab s3).1,n5]) s5=_
    rw [<-j7,U1 (l:=l) hp hq5 hd4]
  .have hp:AZ s3 15 [44]=true:=FS
   have hu:=(A3 (st:=st3) (b:=b) (s:=s3)).trans (h4.trans h5)
   have hr:CE Y l s3=.inl (e5,s5):=by rw [CE,if_pos hp,hq5]
   rw [<-j7,hr] at h
   exact EV (AH.BZ g5) rfl (h st5 (j2.trans hu))
  .have hr:CE Y l s3=.inr (l,s3):=by rw [CE,if_neg (Bool.eq_false_iff.1 ‹_›)]
   rw [<-j7,hr] at h
   exact fin (h _ own (j2.trans A3) g3) rfl
 .rw [U] at h
  exact fin (h st2 h2) rfl
end
end Go.Proofs.Z
