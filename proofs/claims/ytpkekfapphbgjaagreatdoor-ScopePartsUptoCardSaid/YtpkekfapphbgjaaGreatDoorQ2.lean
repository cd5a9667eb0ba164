/-
  Parts of a proof: lemmas that the last text uses.
-/
import Derived.Test.YtpkekfapphbgjaaGreatDoorQ1
import Derived.IntWalk
import Derived.Shelf.Strings.Builder1
import Derived.Shelf.Strings.Builder2
import Derived.Shelf.Strings.OnBuilder
import Derived.Shelf.Strings.Trim
import Derived.Shelf.Small.Utf8
import Derived.Shelf.Small.Strs
import Derived.Shelf.Strings.Search1
import Derived.Shelf.Strings.Search2
import Derived.Shelf.Strings.Search3
import Derived.Shelf.LaysM
import Derived.Shelf.Strings.Shaped
import Derived.Shelf.GgClosure.StringsIndexFunc
import Derived.Ground.GgwProg
import Derived.Shelf.GgClosure.StringsIndexFuncTop
import Derived.Shelf.GgClosure.StringsRunes
import Derived.Shelf.Strings.Prefix
import Derived.Shelf.Strings.Fields
import Derived.Shelf.Strings.SplitShaped
import Derived.Shelf.Unicode.Latin
import Derived.Shelf.Unicode.Decode
import Derived.Shelf.Strings.Runes
import Derived.Shelf.Strings.AsciiSet
import Derived.Shelf.Unicode.DecodeSlow
import Derived.Shelf.Unicode.DecodeAny
import Derived.Shelf.Unicode.Is16White
import Derived.Shelf.Unicode.IsSpaceAny
import Derived.Shelf.Unicode.DecodeLast
import Derived.Shelf.Unicode.Is16Any
import Derived.Shelf.Unicode.Is32Any
import Derived.Shelf.Unicode.ExclAny
import Derived.Shelf.Strings.FuncGrows
import Derived.Shelf.Slices.Turned
import Derived.Ground.Names2Prog
import Derived.Shelf.Slices.Clone
import Derived.Ground.SlgnProg
import Derived.Shelf.SlicesE.Clone
import Derived.Test.YtpkekfapphbgjaaGreatDoorProg
import Derived.Below
set_option linter.unusedVariables false
set_option linter.unusedSimpArgs false
set_option maxHeartbeats 16000000
variable {s t x o w r:List UInt8} {k c i base:Int} {l:List Go.Aw.Nd} {n:Go.Aw.Nd} {Y:Go.Proofs.Z.Aj->Go.Proofs.Z.Rs} {s':Go.Proofs.Z.Aj} {m b d pos frm j:Nat} {K:Go.Aw.V->Go.Aw.St->Prop} {R:Go.Aw.Au->Go.Aw.St->Prop} {f:Go.FuncId} {p:Go.Aw.Nd->Bool} {kinds:List Int} {I:Go.Aw.Mem} {P:Prop} {ih:(Go.Aw.AG->Go.Aw.Env->Go.Aw.St->Prop)->Go.Aw.Env->Go.Aw.St->Prop} {Q:Go.Aw.AG->Go.Aw.Env->Go.Aw.St->Prop} {env:Go.Aw.Env} {α β:Type}
namespace Go.Proofs.Z
open Go Go.Aw
def mu (s:Aj):Nat:=4*(s.Ay.length - s.pos.toNat)+s.DN.length+(2 - s.wait.toNat)
theorem xm (s:Aj):s.DN.length<=mu s:=by unfold mu;omega
theorem JF {s:Aj} (h:s.DN≠[]):(FW s).DN.length+1=s.DN.length:=by
 have:0<s.DN.length:=List.length_pos_iff.2 h
 simp only [FW,List.length_dropLast]
 omega
theorem aI {s:Aj} {t:Tk} (h:s.Ay[s.pos.toNat]? =some t):s.pos.toNat<s.Ay.length:=(List.getElem?_eq_some_iff.1 h).1
theorem lZ {s:Aj} (h:(EY s).2.2=0):mu (EY s).2.1<=mu s/\((EY s).1.kind≠21->mu (EY s).2.1<mu s):=by
 unfold EY at h |-
 split
 .exact ⟨Nat.le_refl _,λe=>absurd rfl e⟩
 .split
  .rename_i U e2
   have:=JF U
   refine ⟨?_,λ_=>?_⟩<;>simp only [mu,FW] at* <;>omega
  .rename_i U e2
   rw [if_neg U,if_neg e2] at h
   cases h
theorem kS {t:Tk} {s:Aj} (h0:0<=s.pos) (h1:0<=s.wait) (h2:s.wait<2) (U:s.Ay[s.pos.toNat]? =some t):mu (Gq t s).2<mu s:=by
 have:=aI U
 unfold Gq
 split
 .rename_i e;simp only [mu];rw [e,show Int.toNat 2=2 from rfl,show Int.toNat 1=1 from rfl];omega
 .split
  .simp only [mu,NZ,List.length_append,List.length_singleton];omega
  .simp only [mu];omega
theorem sQ {t:Tk} {s:Aj} (h0:0<=s.pos) (h2:s.wait<=2) (U:s.Ay[s.pos.toNat]? =some t):mu (D7 t s).2<mu s:=by
 have:=aI U
 unfold D7
 split
 .rename_i e
  have:=JF (UW e.1)
  simp only [mu,FW] at *;omega
 .split<;>(simp only [mu];omega)
theorem ld {t:Tk} {s:Aj} (h0:0<=s.pos) (ht:s.Ay[s.pos.toNat]? =some t) (h:(CL t s).2.2=0):mu (CL t s).2.1<mu s:=by
 have:=aI ht
 unfold CL at h |-
 split
 .simp only [mu,NZ,List.length_append,List.length_singleton];omega
 .rename_i e1
  rw [if_neg e1] at h
  split
  .rename_i e2
   rw [if_pos e2] at h
   split
   .rename_i U;rw [if_pos U] at h;cases h
   .rename_i U
    have:=JF (s:=s) (λe=>U (.inl e))
    simp only [mu,FW] at *;omega
  .simp only [mu];omega
theorem Y2:∀(n:Nat) (s:Aj),0<=s.pos->0<=s.wait->s.wait<=2->(DQ n s).2.2=0->mu (DQ n s).2.1<=mu s/\((DQ n s).1.kind≠21->mu (DQ n s).2.1<mu s)
 |0,s,h0,h1,h2,h=>lZ h
 |n+1,s,h0,h1,h2,h=>by
  unfold DQ at h |-
  cases U:s.Ay[s.pos.toNat]? with
  |none=>rw [U] at h;exact lZ h
  |some t=>
   rw [U] at h
   dsimp only at h |-
   split
   .rename_i e
    have:=kS h0 h1 e.2 U
    exact ⟨Nat.le_of_lt this,λ_=>this⟩
   .rename_i e1
    rw [if_neg e1] at h
    have hl:=sQ h0 h2 U
    split
    .rename_i e2
     rw [if_pos e2] at h
     split
     .rename_i e3
      rw [if_pos e3] at h
      have hz:=FB e3
      have:=Y2 n (D7 t s).2 (by rw [hz];show 0<=s.pos+1;omega) (by rw [hz];exact Int.le_refl _) (by rw [hz];show (0:Int)<=2;decide) h
      exact ⟨AC,λe=>by omega⟩
     .exact ⟨Nat.le_of_lt hl,λ_=>hl⟩
    .rename_i e2
     rw [if_neg e2] at h
     have:=ld h0 U h
     exact ⟨Nat.le_of_lt this,λ_=>this⟩
theorem Fv {s:Aj} (h:(Ac s).2.2=0):mu (Ac s).2.1<=mu s/\((Ac s).1.kind≠21->mu (Ac s).2.1<mu s):=by
 unfold Ac at h |-
 cases U:LR s with
 |false=>rw [U] at h;cases h
 |true=>
  rw [U,if_pos rfl] at h
  rw [if_pos rfl]
  unfold LR at U
  simp only [Bool.and_eq_true,decide_eq_true_eq] at U
  exact Y2 _ s AC AC AC h
theorem dS {s:Aj} (h:¬(EY s).2.2=0):(EY s).1=fB:=by
 unfold EY at h |-
 split
 .rename_i e;rw [if_pos e] at h;exact absurd rfl h
 .rename_i e;rw [if_neg e] at h
  split
  .rename_i e;rw [if_pos e] at h;exact absurd rfl h
  .rfl
theorem gv {t:Tk} {s:Aj} (h:¬(CL t s).2.2=0):(CL t s).1=fB:=by
 unfold CL at h |-
 split
 .rename_i e;rw [if_pos e] at h;exact absurd rfl h
 .rename_i e;rw [if_neg e] at h
  split
  .rename_i e;rw [if_pos e] at h
   split
   .rfl
   .rename_i e;rw [if_neg e] at h;exact absurd rfl h
  .rename_i e;rw [if_neg e] at h;exact absurd rfl h
theorem UD:∀(n:Nat) (s:Aj),¬(DQ n s).2.2=0->(DQ n s).1=fB
 |0,s,h=>dS h
 |n+1,s,h=>by
  unfold DQ at h |-
  cases U:s.Ay[s.pos.toNat]? with
  |none=>rw [U] at h;exact dS h
  |some t=>
   rw [U] at h
   dsimp only at h |-
   split
   .rename_i e;rw [if_pos e] at h;exact absurd rfl h
   .rename_i e;rw [if_neg e] at h
    split
    .rename_i e;rw [if_pos e] at h
     split
     .rename_i e;rw [if_pos e] at h;exact UD n _ h
     .rename_i e;rw [if_neg e] at h;exact absurd rfl h
    .rename_i e;rw [if_neg e] at h;exact gv h
theorem Y4 {s:Aj} (h:¬(Ac s).2.2=0):(Ac s).1=fB:=by
 unfold Ac at h |-
 cases U:LR s with
 |false=>rfl
 |true=>rw [U,if_pos rfl] at h;rw [if_pos rfl];exact UD _ _ h
theorem F6 {s:Aj} (h:Bq s k x=true) (U:k≠0):(Ac s).2.2=0:=by
 apply Classical.byContradiction
 intro e
 unfold Bq at h
 rw [Y4 e] at h
 simp only [fB,Bool.and_eq_true,beq_iff_eq] at h
 exact U h.1.symm
theorem Eh {s:Aj} (h:Bq s k x=true) (hk:k≠0) (U:k≠21):mu (Ac s).2.1<mu s:=by
 refine (Fv (F6 h hk)).2 λe=>?_
 unfold Bq at h
 simp only [Bool.and_eq_true,beq_iff_eq] at h
 exact U (h.1.symm.trans e)
abbrev Ls:=Sum (Int×Aj) (List Nd×Aj)
def Db (s:Aj):Rs:=if (Ac s).2.2=0 then .inr (BA (Ac s).1,(Ac s).2.1) else .inl ((Ac s).2.2,s)
def fY (s:Aj):Rs:=.inl (Ve s,s)
def Md (s:Aj) (k:Int) (x:List UInt8):Rs:=if Bq s k x then Db s else fY s
def Eo (t:Tk):Bool:=t.kind==2||t.kind==4||t.kind==1||(t.kind==15&&(t.text==[40]||t.text==[91]))
def Ar (k:Int) (l:List Nd):Nd:=.mk k 0 [] 0 0 l
def Ha (A:Aj->Rs) (l:List Nd) (s:Aj):Ls:=
 if Eo (Ac s).1 then match A s with
  | .inl e=>.inl e
  | .inr p=>if mu p.2<mu s then Ha A (l++[p.1]) p.2 else .inl (2,s)
 else .inr (l,s)
termination_by mu s
def Hb (A:Aj->Rs) (s:Aj):Rs:=
 match A s with
 | .inl e=>.inl e
 | .inr p=>match Ha A [p.1] p.2 with
   | .inl e=>.inl e
   | .inr q=>if q.1.length=1 then .inr (p.1,q.2) else .inr (Ar 39 q.1,q.2)
def HD (A:Aj->Rs) (l:List Nd) (s:Aj):Ls:=
 if Bq s 10 [45,62] then match Hb A (Ac s).2.1 with
  | .inl e=>.inl e
  | .inr p=>if mu p.2<mu s then HD A (l++[BA (Ac s).1,p.1]) p.2 else .inl (2,s)
 else .inr (l,s)
termination_by mu s
def Ek (A:Aj->Rs) (n:Nd) (s:Aj):Rs:=
 match HD A [n] s with
 | .inl e=>.inl e
 | .inr q=>if q.1.length=1 then .inr (n,q.2) else .inr (Ar 37 q.1,q.2)
def EG (A:Aj->Rs) (s:Aj):Rs:=
 match Hb A s with
 | .inl e=>.inl e
 | .inr p=>Ek A p.1 p.2
def He (A:Aj->Rs) (s:Aj):Rs:=
 match Hb A s with
 | .inl e=>.inl e
 | .inr p=>if Bq p.2 10 [61,62] then match EG A (Ac p.2).2.1 with
    | .inl e=>.inl e
    | .inr q=>.inr (Ar 38 [p.1,BA (Ac p.2).1,q.1],q.2)
   else Ek A p.1 p.2
def CQ (Y:Aj->Rs) (l:List Nd) (s:Aj):Ls:=
 if Bq s 15 [44] then match Y (Ac s).2.1 with
  | .inl e=>.inl e
  | .inr p=>if mu p.2<mu s then CQ Y (l++[BA (Ac s).1,p.1]) p.2 else .inl (2,s)
 else .inr (l,s)
termination_by mu s
def DV (l:List Nd) (s:Aj):List Nd×Aj:=
 if Bq s 15 [44] then if mu (Ac s).2.1<mu s then DV (l++[BA (Ac s).1]) (Ac s).2.1 else (l,s) else (l,s)
termination_by mu s
def IY (k:Int) (l:List Nd) (s:Aj) (x:List UInt8):Rs:=match Md s 15 x with
 | .inl e=>.inl e
 | .inr p=>.inr (Ar k (l++[p.1]),p.2)
def G9 (Y:Aj->Rs) (s:Aj):Rs:=
 match Db s with
 | .inl e=>.inl e
 | .inr p=>
   if Bq p.2 10 [45,62] then IY 3 [p.1,BA (Ac p.2).1] (Ac p.2).2.1 [41]
   else if Bq p.2 15 [41] then IY 3 [p.1] p.2 [41]
   else if Bq p.2 15 [44] then IY 3 (DV [p.1] p.2).1 (DV [p.1] p.2).2 [41]
   else match Y p.2 with
    | .inl e=>.inl e
    | .inr q=>match CQ Y [p.1,q.1] q.2 with
      | .inl e=>.inl e
      | .inr r=>IY (if 2<r.1.length then 5 else 4) r.1 r.2 [41]
def Fy (Y:Aj->Rs) (s:Aj):Rs:=
 match Db s with
 | .inl e=>.inl e
 | .inr p=>
   if Bq p.2 15 [93] then .inr (Ar 3 [p.1,BA (Ac p.2).1],(Ac p.2).2.1)
   else match Y p.2 with
    | .inl e=>.inl e
    | .inr q=>IY 6 [p.1,q.1] q.2 [93]
def DP (Y:Aj->Rs) (s:Aj):Rs:=
 if Eo (Ac s).1 then if (Ac s).1.kind=15 then if (Ac s).1.text=[40] then G9 Y s else Fy Y s else Db s else fY s
def DT:Nat->Aj->Rs
 |0,s=>.inl (2,s)
 |d+1,s=>EG (DP (DT d)) s
def E8 (A:Aj->Rs):Prop:=∀s e s',A s=.inl (e,s')->e≠0
def A6 (A:Aj->Rs):Prop:=∀s n s',A s=.inr (n,s')->mu s'<mu s
theorem Vf (s:Aj):Ve s≠0:=by
 unfold Ve
 omega
theorem IQ:E8 Db:=λs e s' h=>by
 unfold Db at h
 grind
theorem X1:E8 fY:=λs e s' h=>by unfold fY at h;cases h;exact Vf s
theorem fZ:E8 (λs=>Md s k x):=λs e s' h=>by
 unfold Md at h
 dsimp only at h
 split at h
 .exact IQ _ _ _ h
 .exact X1 _ _ _ h
theorem Kw:E8 (λs=>IY k l s x):=λs e s' h=>by
 unfold IY at h
 dsimp only at h
 split at h
 .rename_i U hw
  cases h
  exact fZ _ _ _ hw
 grind
theorem pb {A:Aj->Rs} (hA:E8 A) (l:List Nd) (s:Aj):∀e s',Ha A l s=.inl (e,s')->e≠0:=by
 fun_induction Ha A l s with
 |case1 l s U e1 h2=>intro e s' h;cases h;exact hA _ _ _ h2
 |case2 l s U p h2 h3 ih=>exact ih
 |case3 l s U p h2 h3=>simp_all
 |case4 l s U=>simp_all
theorem M0 {A:Aj->Rs} (hA:E8 A):E8 (Hb A):=λs e s' h=>by
 unfold Hb at h
 split at h
 .rename_i U;cases h;exact hA _ _ _ U
 .split at h
  .rename_i U;cases h;exact pb hA _ _ _ _ U
  grind
theorem kH {A:Aj->Rs} (hA:E8 A) (l:List Nd) (s:Aj):∀e s',HD A l s=.inl (e,s')->e≠0:=by
 fun_induction HD A l s with
 |case1 l s U e1 h2=>intro e s' h;cases h;exact M0 hA _ _ _ h2
 |case2 l s U p h2 h3 ih=>exact ih
 |case3 l s U p h2 h3=>simp_all
 |case4 l s U=>simp_all
theorem PG {A:Aj->Rs} (hA:E8 A):E8 (Ek A n):=λs e s' h=>by
 unfold Ek at h
 split at h
 .rename_i U;cases h;exact kH hA _ _ _ _ U
 grind
theorem Mm {A:Aj->Rs} (U:E8 A):E8 (EG A):=λs e s' h=>by
 unfold EG at h
 split at h
 .rename_i h1;cases h;exact M0 U _ _ _ h1
 .exact PG U _ _ _ h
theorem Ua {A:Aj->Rs} (hA:E8 A):E8 (He A):=λs e s' h=>by
 unfold He at h
 split at h
 .rename_i U;cases h;exact M0 hA _ _ _ U
 .split at h
  .split at h
   .rename_i U;cases h;exact Mm hA _ _ _ U
   grind
  .exact PG hA _ _ _ h
theorem dd (hY:E8 Y) (l:List Nd) (s:Aj):∀e s',CQ Y l s=.inl (e,s')->e≠0:=by
 fun_induction CQ Y l s with
 |case1 l s U e1 h2=>intro e s' h;cases h;exact hY _ _ _ h2
 |case2 l s U p h2 h3 ih=>exact ih
 |case3 l s U p h2 h3=>simp_all
 |case4 l s U=>simp_all
theorem aK (hY:E8 Y):E8 (G9 Y):=λs e s' h=>by
 unfold G9 at h
 split at h
 .rename_i U;cases h;exact IQ _ _ _ U
 .split at h
  .exact Kw _ _ _ h
  .split at h
   .exact Kw _ _ _ h
   .split at h
    .exact Kw _ _ _ h
    .split at h
     .rename_i U;cases h;exact hY _ _ _ U
     .split at h
      .rename_i U;cases h;exact dd hY _ _ _ _ U
      .exact Kw _ _ _ h
theorem X2 (hY:E8 Y):E8 (Fy Y):=λs e s' h=>by
 unfold Fy at h
 split at h
 .rename_i U;cases h;exact IQ _ _ _ U
 .split at h
  .cases h
  .split at h
   .rename_i U;cases h;exact hY _ _ _ U
   .exact Kw _ _ _ h
theorem Hz (U:E8 Y):E8 (DP Y):=λs e s' h=>by
 unfold DP at h
 split at h
 .split at h
  .split at h
   .exact aK U _ _ _ h
   .exact X2 U _ _ _ h
  .exact IQ _ _ _ h
 .exact X1 _ _ _ h
theorem FG:∀d,E8 (DT d)
 |0=>λs e s' h=>by cases h;decide
 |d+1=>Mm (Hz (FG d))
theorem Q4 {s:Aj} (h:Db s=.inr (n,s')):mu s'<=mu s/\((Ac s).1.kind≠21->mu s'<mu s):=by
 unfold Db at h
 split at h
 .rename_i e;cases h;exact Fv e
 grind
theorem uI {s:Aj} (hk:k≠0) (U:k≠21) (h:Md s k x=.inr (n,s')):mu s'<mu s:=by
 unfold Md at h
 split at h
 .rename_i e
  unfold Db at h
  rw [if_pos (F6 e hk)] at h
  cases h
  exact Eh e hk U
 .cases h
theorem R7 {s:Aj} (h:IY k l s x=.inr (n,s')):mu s'<mu s:=by
 unfold IY at h
 split at h
 .cases h
 .rename_i U;cases h;exact uI Do Do U
theorem Pf {s:Aj} (U:Eo (Ac s).1=true) (h:Db s=.inr (n,s')):mu s'<mu s:=by
 refine (Q4 h).2 λe=>?_
 unfold Eo at U
 simp_all
theorem tJ {A:Aj->Rs} (l:List Nd) (s:Aj):∀q s',Ha A l s=.inr (q,s')->mu s'<=mu s:=by
 fun_induction Ha A l s with
 |case1 l s U e1 h2=>simp_all
 |case2 l s U p h2 h3 ih=>grind
 |case3 l s U p h2 h3=>simp_all
 |case4 l s U=>simp_all
theorem FH {A:Aj->Rs} (hA:A6 A):A6 (Hb A):=λs n s' h=>by
 unfold Hb at h
 split at h
 .cases h
 .rename_i U
  have:=hA _ _ _ U
  split at h
  .cases h
  .rename_i h2
   have:=tJ _ _ _ _ h2
   grind
theorem qM {A:Aj->Rs} (l:List Nd) (s:Aj):∀q s',HD A l s=.inr (q,s')->mu s'<=mu s:=by
 fun_induction HD A l s with
 |case1 l s U e1 h2=>simp_all
 |case2 l s U p h2 h3 ih=>grind
 |case3 l s U p h2 h3=>simp_all
 |case4 l s U=>simp_all
theorem T7 {A:Aj->Rs} {m:Nd} {s:Aj} (h:Ek A n s=.inr (m,s')):mu s'<=mu s:=by
 unfold Ek at h
 split at h
 .cases h
 .rename_i U
  have:=qM _ _ _ _ U
  grind
theorem GS {A:Aj->Rs} (hA:A6 A):A6 (EG A):=λs n s' h=>by
 unfold EG at h
 split at h
 .cases h
 .rename_i U
  have:=FH hA _ _ _ U
  have:=T7 h
  omega
theorem U0 (l:List Nd) (s:Aj):∀q s',CQ Y l s=.inr (q,s')->mu s'<=mu s:=by
 fun_induction CQ Y l s with
 |case1 l s U e1 h2=>simp_all
 |case2 l s U p h2 h3 ih=>grind
 |case3 l s U p h2 h3=>simp_all
 |case4 l s U=>simp_all
theorem gy (l:List Nd) (s:Aj):mu (DV l s).2<=mu s:=by
 fun_induction DV l s with
 |case1 l s U h2 ih=>omega
 |case2 l s U h2=>simp_all
 |case3 l s U=>simp_all
theorem o7 (hY:A6 Y) {s:Aj} (hs:Eo (Ac s).1=true) (h:G9 Y s=.inr (n,s')):mu s'<mu s:=by
 unfold G9 at h
 split at h
 .cases h
 .rename_i h1
  have:=Pf hs h1
  split at h
  .rename_i U
   have:=Eh U Do Do
   have:=R7 h
   omega
  .split at h
   .have:=R7 h;omega
   .split at h
    .have:=R7 h
     have:=gy [‹Nd×Aj›.1] ‹Nd×Aj›.2
     omega
    .split at h
     .cases h
     .rename_i U
      have:=hY _ _ _ U
      split at h
      .cases h
      .rename_i h3
       have:=U0 _ _ _ _ h3
       have:=R7 h
       omega
theorem js (hY:A6 Y) {s:Aj} (hs:Eo (Ac s).1=true) (h:Fy Y s=.inr (n,s')):mu s'<mu s:=by
 unfold Fy at h
 split at h
 .cases h
 .rename_i h1
  have:=Pf hs h1
  split at h
  .rename_i U
   have:=Eh U Do Do
   grind
  .split at h
   .cases h
   .rename_i U
    have:=hY _ _ _ U
    have:=R7 h
    omega
theorem BM (hY:A6 Y):A6 (DP Y):=λs n s' h=>by
 unfold DP at h
 split at h
 .rename_i U
  split at h
  .split at h
   .exact o7 hY U h
   .exact js hY U h
  .exact Pf U h
 .cases h
theorem Bw:∀d,A6 (DT d)
 |0=>λs n s' h=>by cases h
 |d+1=>GS (BM (Bw d))
theorem D8 {st:St} {K:Au->St->Prop} {q:Rs} (h:∀n s',q=.inr (n,s')->∀st',H5 st st' b s'->K (.ret (enc n)) st') (k:∀e s',q=.inl (e,s')->∀st',H5 st st' b s'->K (.B1 (fault e)) st'):Fb st b K q:=by
 match q with
 | .inr (n,s')=>exact h n s' rfl
 | .inl (e,s')=>exact k e s' rfl
theorem Has.hw {st:St} {s:Aj} (h:Has st b s) (own:AE) (n:Nat):Has (own.st st n) b s:=by
 cases own with
 |any=>exact h
 |full=>exact h
 |tok t=>exact h
theorem fF {own:AE} {st st':St} {n:Nat} {s:Aj} (hg:own.BD st) (hh:Has st b s) (hu:H5 (own.st st n) st' b s'):∃U,st'=own.st U n/\H5 st U b s'/\own.BD U:=by
 obtain ⟨h1,cs,e⟩:=hu
 cases own with
 |any=>exact hg.elim
 |full=>exact ⟨st',rfl,⟨h1,cs,e⟩,trivial⟩
 |tok t=>
  refine ⟨st.Aa b cs,e,⟨?_,cs,rfl⟩,?_,?_⟩
  .rw [e] at h1;exact h1
  .have:b≠t:=by
    rintro rfl
    have h2:st.box b=none:=hg.1
    rcases hh with k|⟨_,_,_,_,_,k⟩<;>(rw [h2] at k;cases k)
   rw [St.Ak this];exact hg.1
  .exact hg.2
def kx (own:AE) (n:Nat) (st:St) (b:Nat) (R:Au->St->Prop):Rs->Prop
 | .inr (x,s')=>∀st',H5 st st' b s'->own.BD st'->R (.ret (enc x)) (own.st st' n)
 | .inl (e,s')=>∀st',H5 st st' b s'->own.BD st'->R (.B1 (fault e)) (own.st st' n)
theorem FN {own:AE} {n:Nat} {st:St} {s:Aj} {q:Rs} (hg:own.BD st) (hh:Has st b s) (h:kx own n st b R q):Fb (own.st st n) b R q:=by
 refine D8 (λx s' e st' hu=>?_) (λx s' e st' hu=>?_)
 .obtain ⟨U,rfl,h2,h3⟩:=fF hg hh hu
  subst e
  exact h U h2 h3
 .obtain ⟨U,rfl,h2,h3⟩:=fF hg hh hu
  subst e
  exact h U h2 h3
section
variable {st:St} {R:Au->St->Prop}
attribute [local irreducible] Go.Aw.Am
theorem ZQ {t:Tk} (h:R (.ret (.bool (Eo t))) st):PC 391 [F0 t] st R:=by
 refine pB Tryz.func391 ?_
 repeat' ((conv=>whnf);first|(refine AA ?_;intros)|(refine AB ?_ ?_<;>intro _)|fail)
 all_goals conv=>whnf
 all_goals (refine Av h ?_;clear h;simp_all [Eo])
def Dq (f:FuncId) (d:Int) (A:Aj->Rs):Prop:=∀s,mu s<=100000000->Reads f s d (A s)
theorem FC {s:Aj} (h:mu s<=100000000):s.DN.length<=500000000:=by have:=xm s;omega
theorem Gf {s:Aj} (U:Has st b s) (hb:s.DN.length<=500000000) (h:Fb st b R (Db s)):PC 150 [.ptr b 0] st R:=by
 unfold Db at h
 refine ML U hb (λe=>?_) (λe=>?_)
 .rw [if_pos e] at h;exact h
 .rw [if_neg e] at h;exact h _ A5
theorem yn {s:Aj} (U:Has st b s) (hb:s.DN.length<=500000000) (h:∀st',H5 st st' b s->R (.B1 (fault (Ve s))) st'):PC 113 [.ptr b 0] st R:=kO U hb (h _ A5)
theorem TD {s:Aj} (hs:Has st b s) (hb:s.DN.length<=500000000) (h:Fb st b R (Md s k x)):PC 153 [.ptr b 0,.int .i64 k,.str x] st R:=by
 unfold Md Db at h
 refine qn hs hb (λU e2=>?_) (λU e2=>?_) (λU=>?_)
 .rw [if_pos U,if_pos e2] at h;exact h
 .rw [if_pos U,if_neg e2] at h;exact h _ A5
 .rw [if_neg (by rw [U];decide)] at h;exact h _ A5
theorem vZ {d:Int} (hr:Dq 410 d (G9 Y)) (hsq:Dq 411 d (Fy Y)):Dq 390 d (DP Y):=by
 intro s hm b st R hs h
 refine pB Tryz.func390 ?_
 have hb:=FC hm
 have hl:Has (st.Aa b (CS s)) b s:=.inl (St.Ah ..)
 unfold DP at h
 repeat' ((conv=>whnf);first|(refine AA ?_;intros)|(refine AB ?_ ?_<;>intro _)|refine G8 hs hb ?_|refine ZQ ?_|refine Gf hl hb (D8 (λn s' hq st' U=>?_) (λe s' hq st' U=>?_))|refine yn hl hb (λst' U=>?_)|refine hr s hm b _ _ hl (D8 (λn s' hq st' U=>?_) (λe s' hq st' U=>?_))|refine hsq s hm b _ _ hl (D8 (λn s' hq st' U=>?_) (λe s' hq st' U=>?_)))
 all_goals repeat (first|rw [if_pos ‹_›] at h|rw [if_neg ‹_›] at h|rw [if_neg (Bool.eq_false_iff.1 ‹_›)] at h)
 all_goals first
  |exact fin (h st' (A5.trans U)) rfl
  |(rw [hq] at h;exact AY rfl (h st' (A5.trans U)))
  |(rw [hq] at h;exact fin (h st' (A5.trans U)) rfl)
 all_goals trace_state
end
theorem T6 {new:List Nd} {own:AE} {st:St} (h:own.BD st) (hb:l.length+new.length<=1000000000)
 (k:∀U:AE,U.BD st->K (.slice 6 (BL (l++new)) U) (U.st st ((l++new).length*6))):Am 6 72 (BL l) own (BL new) (own.st st (l.length*6)) K:=by
 have hw:(BL new).map (·.map V.JB)=BL new:=by
  rw [BK,List.map_map]
  refine List.map_congr_left λx _=>?_
  rfl
 have hsc:((BL new).all λv=>v.all V.sc)=true:=by
  rw [BK,List.all_map,List.all_eq_true]
  intro x _
  rfl
 have:=EI (sz:=6) (bytes:=72) (es:=BL l) (new:=BL new) (K:=K) h (by rw [CR,CR];omega) (by rw [CR,CR];simp only [DG];omega) hsc (λU ho=>by
  have:=k U ho
  rw [CR,CR,hw,<-Yk,<-List.length_append]
  omega)
 rw [CR] at this
 omega
theorem Oo {x:Nd} {own:AE} {st:St} (h:own.BD st) (hb:l.length+1<=1000000000)
 (k:∀U:AE,U.BD st->K (.slice 6 (BL (l++[x])) U) (U.st st ((l++[x]).length*6))):Am 6 72 (BL l) own [Ax x] (own.st st (l.length*6)) K:=by
 have:=T6 (l:=l) (new:=[x]) h hb k
 rw [BK [x]] at this
 grind
theorem dt {x:Nd} {own:AE} {st:St} (h:own.BD st) (hb:l.length+1<=1000000000)
 (k:∀U:AE,U.BD st->K (.slice 6 (BL (l++[x])) U) (U.st st ((l++[x]).length*6))):Am 6 72 (l.map Ax) own [Ax x] (own.st st (l.length*6)) K:=by
 rw [<-BK]
 exact Oo h hb k
theorem UI {K:Int->Prop} (h:d<=1000000) (k:K (d:Int)):∃r,r=IntKind.i64.wrap (((d+1:Nat):Int) - 1)/\K r:=by
 refine ⟨d,?_,k⟩
 rw [show ((d+1:Nat):Int) - 1=(d:Int) by omega,LM AC AC]
section
variable {st:St} {R:Au->St->Prop}
attribute [local irreducible] Go.Aw.Am
theorem XA {K:Au->St->Prop} {q:Rs} {x:Int} (e:q=.inl (x,s')) (h:∀st',H5 st st' b s'->K (.B1 (fault x)) st'):Fb st b K q:=by subst e;exact h
theorem GF {own:AE} {st:St} {K:Au->St->Prop} {q:Rs} (h:∀n s',q=.inr (n,s')->∀st',H5 st st' b s'->own.BD st'->K (.ret (enc n)) (own.st st' m)) (k:∀e s',q=.inl (e,s')->∀st',H5 st st' b s'->own.BD st'->K (.B1 (fault e)) (own.st st' m)):kx own m st b K q:=by
 match q with
 | .inr (n,s')=>exact h n s' rfl
 | .inl (e,s')=>exact k e s' rfl
theorem Hw {K:Au->St->Prop} {q:Rs} {x:Nd} (e:q=.inr (x,s')) (h:∀st',H5 st st' b s'->K (.ret (enc x)) st'):Fb st b K q:=by subst e;exact h
def Dp (f:FuncId) (d:Int) (A:Aj->Rs):Prop:=∀s,mu s<=100000000->∀(st:St) (R:Au->St->Prop),R (.ret (Ki (Ck s d (A s)))) st->PC f [DD s,.int .i64 d] st R
theorem wM {A:Aj->Rs} (hf:Dp f d A) (h0:d=0->∀s,A s=.inl (2,s)) (hA:E8 A) {s:Aj} (hm:mu s<=100000000) (hs:Has st b s) (h:Fb st b R (A s)):
 PC 110 [.ptr b 0,.func f [] [],.int .i64 d] st R:=by
 by_cases hd:(d:Int)<1
 .have hz:d=0:=AC
  rw [h0 hz s] at h
  refine Sk (n:=Gg) (s':=s) (e:=2) (λst R k=>hf s hm st R ?_) hs (λe=>by cases e) (λ_=>h)
  unfold Ck;rw [if_pos hd];exact k
 .cases U:A s with
  |inr p=>
   rw [U] at h
   refine Sk (n:=p.1) (s':=p.2) (e:=0) (λst R k=>hf s hm st R ?_) hs (λ_=>h) (λe=>absurd rfl e)
   unfold Ck;rw [if_neg hd,U];exact k
  |inl p=>
   rw [U] at h
   have hne:=hA s p.1 p.2 U
   refine Sk (n:=Gg) (s':=p.2) (e:=p.1) (λst R k=>hf s hm st R ?_) hs (λe=>absurd e hne) (λ_=>h)
   unfold Ck;rw [if_neg hd,U];exact k
theorem Sl {x:Int} {A:Aj->Rs} (hx:x=(d:Int)) (hf:Dp f d A) (U:d=0->∀s,A s=.inl (2,s)) (hA:E8 A) {s:Aj} (hm:mu s<=100000000) (hs:Has st b s) (h:Fb st b R (A s)):
 PC 110 [.ptr b 0,.func f [] [],.int .i64 x] st R:=by subst hx;exact wM hf U hA hm hs h
theorem pM (hd:d<=1000000) (hY:Dp 318 d Y) (h0:d=0->∀s,Y s=.inl (2,s)) (hB:E8 Y) (hF:A6 Y):Dq 411 ((d+1:Nat):Int) (Fy Y):=by
 intro s hm b st R hs h
 refine pB Tryz.func411 ?_
 have hb:=FC hm
 unfold Fy at h
 cases U:Db s with
 |inl q=>
  rw [U] at h
  obtain ⟨e,s'⟩:=q
  repeat' ((conv=>whnf);first|(refine AA ?_;intros)|(refine AB ?_ ?_<;>intro _)|refine Gf hs hb (XA U (λst1 h1=>?_)))
  all_goals exact fin (h st1 h1) rfl
 |inr q=>
  obtain ⟨n1,s1⟩:=q
  rw [U] at h
  have hm1:mu s1<=100000000:=by have:=(Q4 U).1;omega
  have hb1:=FC hm1
  repeat' ((conv=>whnf);first|(refine AA ?_;intros)|(refine AB ?_ ?_<;>intro _)|refine Gf hs hb (Hw U (λst1 h1=>?_))|refine bJ h1.1 hb1 ?_)
  .have hp:Bq s1 15 [93]=true:=FS
   have hl1:Has (st1.Aa b (CS s1)) b s1:=.inl (St.Ah ..)
   have hq2:Db s1=.inr (BA (Ac s1).1,(Ac s1).2.1):=by unfold Db;rw [if_pos (F6 hp Do)]
   dsimp only at h
   rw [if_pos hp] at h
   have hn1:[n1].length+1<=1000000000:=by show 1+1<=1000000000;decide
   repeat' ((conv=>whnf);first|(refine AA ?_;intros)|(refine AB ?_ ?_<;>intro _)|refine Gf hl1 hb1 (Hw hq2 (λst2 h2=>?_))|refine dt (l:=[n1]) (x:=BA (Ac s1).1) (own:=.full) trivial hn1 (λown1 ho1=>?_))
   all_goals exact EJ (AE.Bz ho1) rfl (h st2 (h1.trans (A5.trans h2)))
  .have hp:Bq s1 15 [93]=false:=FS
   have hl1:Has (st1.Aa b (CS s1)) b s1:=.inl (St.Ah ..)
   dsimp only at h
   rw [if_neg i7] at h
   have hn1:[n1].length+1<=1000000000:=by show 1+1<=1000000000;decide
   have hn2:∀n2:Nd,([n1]++[n2]).length+1<=1000000000:=λ_=>by simp_all
   repeat' ((conv=>whnf);first|(refine AA ?_;intros)|(refine AB ?_ ?_<;>intro _)|refine Sl AC hY h0 hB hm1 hl1 (D8 (λn2 s2 hq2 st2 h2=>?_) (λe2 s2 hq2 st2 h2=>?_))|refine dt (l:=[n1]) (x:=n2) (own:=.full) trivial hn1 (λown1 ho1=>?_)|refine TD (h2.1.hw own1 _) (FC (Nat.le_trans (Nat.le_of_lt (hF _ _ _ hq2)) hm1)) (FN ho1 h2.1 (GF (λn3 s3 hq3 st3 h3 hg3=>?_) (λe3 s3 hq3 st3 h3 hg3=>?_)))|refine Oo (l:=[n1]++[n2]) (x:=n3) hg3 (hn2 n2) (λown2 ho2=>?_))
   all_goals rw [hq2] at h
   .unfold IY at h
    dsimp only at h
    rw [hq3] at h
    exact EJ (AE.Bz ho2) rfl (h st3 (((h1.trans A5).trans h2).trans h3))
   .unfold IY at h
    dsimp only at h
    rw [hq3] at h
    exact EJ (AE.Bz hg3) rfl (h st3 (((h1.trans A5).trans h2).trans h3))
   .exact fin (h st2 ((h1.trans A5).trans h2)) rfl
end
theorem PF {x:Nd} {own:AE} {st:St} (h:own.BD st) (hb:l.length+1<=1000000000)
 (k:∀U:AE,U.BD st->K (.slice 6 ((l++[x]).map Ax) U) (U.st st ((l++[x]).length*6))):Am 6 72 (l.map Ax) own [Ax x] (own.st st (l.length*6)) K:=by
 rw [<-BK]
 exact Oo h hb (by simpa only [BK] using k)
theorem Cd {own:AE}:Au.ret (enc (Ar k l))=(Au.ret (.agg [.int .i64 k,.int .i64 0,.str [],.int .i64 0,.int .i64 0,.slice 6 (l.map Ax) own])).wk:=by
 rw [<-BK];rfl
theorem tI {A:Aj->Rs} {s:Aj} (h:Eo (Ac s).1=true) (U:A s=.inr (n,s')) (hm:mu s'<mu s):Ha A l s=Ha A (l++[n]) s':=by
 rw [Ha,if_pos h,U]
 dsimp only
 rw [if_pos hm]
section
variable {st:St} {R:Au->St->Prop}
attribute [local irreducible] Go.Aw.Am
theorem B9 {K:Nat->Prop} (k:l.length<4611686018427387904->K l.length):∀m,m=(l.map Ax).length->m<DG->K m:=λm U h=>by
 rw [List.length_map] at U;subst U;exact k h
theorem W6 {own:AE} {st:St} {n:Nat} {cs:List V}:(own.st st n).Aa b cs=own.st (st.Aa b cs) n:=by cases own<;>rfl
theorem xn {own:AE} {n:Nat} {s:Aj} (hg:own.BD st) (U:Has st b s) (hb:s.DN.length<=500000000) (h:R (.ret (F0 (Ac s).1)) (own.st (st.Aa b (CS s)) n)):PC 112 [.ptr b 0] (own.st st n) R:=
 G8 (U.hw own n) hb (by rw [W6];exact h)
theorem Ja {own:AE} {s:Aj} {cs:List V} (U:own.BD st) (hs:Has st b s):own.BD (st.Aa b cs):=by
 cases own with
 |any=>exact U
 |full=>trivial
 |tok t=>
  have:b≠t:=by
   rintro rfl
   have h2:st.box b=none:=U.1
   rcases hs with k|⟨_,_,_,_,_,k⟩<;>(rw [h2] at k;cases k)
  exact ⟨by rw [St.Ak this];exact U.1,U.2⟩
theorem xk {n1:Nd} {K:List V->Prop} (h:l.length=Int.toNat 1) (j:l.length=1->l=[n1]) (k:K (Ax n1)):(0:Int)<=0/\∃e,(l.map Ax)[Int.toNat 0]? =some e/\K e:=
 ⟨Int.le_refl _,Ax n1,by rw [j h];rfl,k⟩
theorem xE {d:Int} {A:Aj->Rs} (ha:Dq 390 d A) (hF:A6 A):Dq 357 d (Hb A):=by
 intro s hm b st R hs h
 refine pB Tryz.func357 ?_
 unfold Hb at h
 cases U:A s with
 |inl q=>
  obtain ⟨e,s1⟩:=q
  rw [U] at h
  repeat' ((conv=>whnf);first|(refine AA ?_;intros)|(refine AB ?_ ?_<;>intro _)|refine ha s hm b _ _ hs (XA U (λst1 h1=>?_)))
  all_goals exact fin (h st1 h1) rfl
 |inr q=>
  obtain ⟨n1,s1⟩:=q
  rw [U] at h
  have hf1:=hF _ _ _ U
  dsimp only at h
  repeat' ((conv=>whnf);first|(refine AA ?_;intros)|(refine AB ?_ ?_<;>intro _)|refine ha s hm b _ _ hs (Hw U (λst1 h1=>?_)))
  refine Dc (α:=List Nd×Aj×St×AE) (λx=>[(5,.slice 6 (x.1.map Ax) x.2.2.2)]) [0,1,4] (λx=>[]) [0] (λx=>x.2.2.2.st x.2.2.1 (x.1.length*6))
   (λx=>x.2.2.2.BD x.2.2.1/\H5 st x.2.2.1 b x.2.1/\x.1≠[]/\x.1.length+mu x.2.1<=200000000/\mu x.2.1<=mu s1/\Ha A x.1 x.2.1=Ha A [n1] s1/\(x.1.length=1->x.1=[n1])) (λx=>mu x.2.1) ([n1],s1,st1,.full)
   ⟨trivial,h1,GT,by show 1+mu s1<=_;omega,Nat.le_refl _,rfl,λ_=>rfl⟩ Yl (St.le_refl _) ?_
  rintro ⟨l,s2,st2,own⟩ ⟨j1,j2,j3,j4,j5,j6,j7⟩
  dsimp only at j1 j2 j3 j4 j5 j6 j7
  have hm2:mu s2<=100000000:=AC
  have hb2:=FC hm2
  have hl3:Has (st2.Aa b (CS s2)) b s2:=.inl (St.Ah ..)
  have g3:own.BD (st2.Aa b (CS s2)):=Ja j1 j2.1
  have u3:H5 st (st2.Aa b (CS s2)) b s2:=j2.trans A5
  have hn:l.length+1<=1000000000:=AC
  repeat' ((conv=>whnf);first|(refine AA ?_;intros)|(refine AB ?_ ?_<;>intro _)|refine xn j1 j2.1 hb2 ?_|refine ZQ ?_|refine ha s2 hm2 b _ _ (hl3.hw own _) (FN g3 hl3 (GF (λn2 s4 hq2 st4 h4 g4=>?_) (λe2 s4 hq2 st4 h4 g4=>?_)))|refine PF (l:=l) g4 hn (λown' ho'=>?_)|refine B9 (λ_=>?_)|refine xk ‹_› j7 ?_)
  .have hd:=hF _ _ _ hq2
   refine ⟨(l++[n2],s4,st4,own'),⟨ho',u3.trans h4,GT,by show (l++[n2]).length+mu s4<=_;rw [List.length_append,List.length_singleton];omega,by show mu s4<=_;omega,?_,?_⟩,hd,Yl,St.le_refl _⟩
   .show Ha A (l++[n2]) s4=_
    rw [<-j6,tI (l:=l) ‹_› hq2 hd]
   .intro e
    have:=List.length_pos_iff.2 j3
    have e:(l++[n2]).length=1:=e
    rw [List.length_append,List.length_singleton] at e
    omega
  .have hr:Ha A l s2=.inl (e2,s4):=by rw [Ha,if_pos ‹_›,hq2]
   rw [<-j6,hr] at h
   exact EJ (AE.Bz g4) rfl (h st4 (u3.trans h4))
  .have hr:Ha A l s2=.inr (l,s2):=by rw [Ha,if_neg (Bool.eq_false_iff.1 ‹_›)]
   rw [<-j6,hr] at h
   dsimp only at h
   rw [if_pos ‹_›] at h
   exact EJ (AE.Bz g3) rfl (h _ u3)
  .have hr:Ha A l s2=.inr (l,s2):=by rw [Ha,if_neg (Bool.eq_false_iff.1 ‹_›)]
   rw [<-j6,hr] at h
   dsimp only at h
   rw [if_neg ‹_›] at h
   exact EJ (AE.Bz g3) Cd (h _ u3)
end
theorem kE {x y:Nd} {own:AE} {st:St} (h:own.BD st) (hb:l.length+2<=1000000000)
 (k:∀U:AE,U.BD st->K (.slice 6 ((l++[x,y]).map Ax) U) (U.st st ((l++[x,y]).length*6))):Am 6 72 (l.map Ax) own [Ax x,Ax y] (own.st st (l.length*6)) K:=by
 rw [<-BK]
 have:=T6 (l:=l) (new:=[x,y]) h hb (by simpa only [BK] using k)
 rw [BK [x,y]] at this
 grind
theorem qL {A:Aj->Rs} {s:Aj} (h:Bq s 10 [45,62]=true) (U:Hb A (Ac s).2.1=.inr (n,s')) (hm:mu s'<mu s):HD A l s=HD A (l++[BA (Ac s).1,n]) s':=by
 rw [HD,if_pos h,U]
 simp_all
theorem Ka {s:Aj} (h:Bq s k x=true) (U:k≠0):Db s=.inr (BA (Ac s).1,(Ac s).2.1):=by unfold Db;rw [if_pos (F6 h U)]
section
variable {st:St} {R:Au->St->Prop}
attribute [local irreducible] Go.Aw.Am
theorem wN {own:AE} {n:Nat} {s:Aj} (U:Has st b s) (hb:s.DN.length<=500000000) (h:R (.ret (.bool (Bq s k x))) (own.st (st.Aa b (CS s)) n)):PC 149 [.ptr b 0,.int .i64 k,.str x] (own.st st n) R:=
 bJ (U.hw own n) hb (by rw [W6];exact h)
theorem Tu {own:AE} {n:Nat} {st:St} {s:Aj} {q:Rs} {x:Nd} (U:own.BD st) (hh:Has st b s) (e:q=.inr (x,s')) (h:∀st',H5 st st' b s'->own.BD st'->R (.ret (enc x)) (own.st st' n)):Fb (own.st st n) b R q:=
 FN U hh (by subst e;exact h)
def av (f:FuncId) (d:Int) (A:Nd->Aj->Rs):Prop:=∀n s,mu s<=100000000->∀(b:Nat) (st:St) (R:Au->St->Prop),Has st b s->Fb st b R (A n s)->PC f [.ptr b 0,enc n,.int .i64 d] st R
theorem XU {d:Int} {A:Aj->Rs} (hr:Dq 357 d (Hb A)) (hF:A6 A):av 392 d (Ek A):=by
 intro n1 s1 hm b st R hs h
 refine pB Tryz.func392 ?_
 unfold Ek at h
 repeat' ((conv=>whnf);first|(refine AA ?_;intros)|(refine AB ?_ ?_<;>intro _)|fail)
 refine Dc (α:=List Nd×Aj×St×AE) (λx=>[(7,.slice 6 (x.1.map Ax) x.2.2.2)]) [0,2,4,6] (λx=>[]) [0,1] (λx=>x.2.2.2.st x.2.2.1 (x.1.length*6))
  (λx=>x.2.2.2.BD x.2.2.1/\Has x.2.2.1 b x.2.1/\(∃s0,H5 st x.2.2.1 b s0\/x.2.2.1=st)/\x.1≠[]/\x.1.length+2*mu x.2.1<=400000000/\mu x.2.1<=mu s1/\HD A x.1 x.2.1=HD A [n1] s1) (λx=>mu x.2.1) ([n1],s1,st,.full)
  ⟨trivial,hs,⟨s1,.inr rfl⟩,GT,by grind,Nat.le_refl _,rfl⟩ Yl (St.le_refl _) ?_
 rintro ⟨l,s2,U,own⟩ ⟨j1,j2,j3,j4,j5,j6,j7⟩
 dsimp only at j1 j2 j3 j4 j5 j6 j7
 have hm2:mu s2<=100000000:=AC
 have hb2:=FC hm2
 have hl3:Has (U.Aa b (CS s2)) b s2:=.inl (St.Ah ..)
 have g3:own.BD (U.Aa b (CS s2)):=Ja j1 j2
 have up:∀{st4 s4},H5 U st4 b s4->H5 st st4 b s4:=λ{st4 s4} hu=>by
  obtain ⟨s0,h3|h3⟩:=j3
  .exact h3.trans hu
  simp_all
 have hn:l.length+2<=1000000000:=AC
 have hm4:Bq s2 10 [45,62]=true->mu (Ac s2).2.1<=100000000:=λe=>by have:=Eh e Do Do;omega
 repeat' ((conv=>whnf);first|(refine AA ?_;intros)|(refine AB ?_ ?_<;>intro _)|refine wN j2 hb2 ?_|refine Gf (hl3.hw own _) hb2 (Tu g3 hl3 (Ka ‹_› Do) (λst4 h4 g4=>?_))|refine hr _ (hm4 ‹_›) b _ _ (h4.1.hw own _) (FN g4 h4.1 (GF (λn2 s5 hq2 st5 h5 g5=>?_) (λe2 s5 hq2 st5 h5 g5=>?_)))|refine kE (l:=l) (x:=BA (Ac s2).1) (y:=n2) g5 hn (λown' ho'=>?_)|refine B9 (λ_=>?_))
 .have hp:Bq s2 10 [45,62]=true:=FS
  have hd:=FH hF _ _ _ hq2
  have hd2:=Eh hp Do Do
  have hd3:mu s5<mu s2:=AC
  have hu:=(A5 (st:=U) (b:=b) (s:=s2)).trans (h4.trans h5)
  refine ⟨(l++[BA (Ac s2).1,n2],s5,st5,own'),⟨ho',h5.1,⟨s5,.inl (up hu)⟩,GT,?_,by grind,?_⟩,hd3,Yl,St.le_refl _⟩
  .grind
  .show HD A (l++[BA (Ac s2).1,n2]) s5=_
   rw [<-j7,qL (l:=l) hp hq2 hd3]
 .have hp:Bq s2 10 [45,62]=true:=FS
  have hu:=(A5 (st:=U) (b:=b) (s:=s2)).trans (h4.trans h5)
  have hr:HD A l s2=.inl (e2,s5):=by rw [HD,if_pos hp,hq2]
  rw [<-j7,hr] at h
  exact EJ (AE.Bz g5) rfl (h st5 (up hu))
 .have hr:HD A l s2=.inr (l,s2):=by rw [HD,if_neg (Bool.eq_false_iff.1 AC)]
  rw [<-j7,hr] at h
  dsimp only at h
  rw [if_pos (by grind)] at h
  exact EJ (AE.Bz g3) rfl (h _ (up A5))
 .have hr:HD A l s2=.inr (l,s2):=by rw [HD,if_neg (Bool.eq_false_iff.1 AC)]
  rw [<-j7,hr] at h
  dsimp only at h
  rw [if_neg (by grind)] at h
  exact EJ (AE.Bz g3) Cd (h _ (up A5))
theorem uJ {d:Int} {A:Aj->Rs} (hr:Dq 357 d (Hb A)) (ha:av 392 d (Ek A)) (hF:A6 A):Dq 358 d (EG A):=by
 intro s hm b st R hs h
 refine pB Tryz.func358 ?_
 unfold EG at h
 have hm1:∀{n1 s1},Hb A s=.inr (n1,s1)->mu s1<=100000000:=λe=>by have:=FH hF _ _ _ e;omega
 repeat' ((conv=>whnf);first|(refine AA ?_;intros)|(refine AB ?_ ?_<;>intro _)|refine hr s hm b _ _ hs (D8 (λn1 s1 U st1 h1=>?_) (λe1 s1 U st1 h1=>?_))|refine ha n1 s1 (hm1 U) b _ _ h1.1 (D8 (λn2 s2 hq2 st2 h2=>?_) (λe2 s2 hq2 st2 h2=>?_)))
 all_goals rw [U] at h
 all_goals dsimp only at h
 .rw [hq2] at h;exact AY rfl (h st2 (h1.trans h2))
 .rw [hq2] at h;exact fin (h st2 (h1.trans h2)) rfl
 .exact fin (h st1 h1) rfl
end
abbrev Er:={e:Int // e≠0}
abbrev Rv (α:Type):=Sum (Er×Aj) (α×Aj)
structure Rd (α:Type) where
 run:Aj->Rv α
 le:∀s v s',run s=.inr (v,s')->mu s'<=mu s
namespace Rd
variable {α β γ σ:Type}
theorem ext' {a b:Rd α} (h:∀s,a.run s=b.run s):a=b:=by
 obtain ⟨U,l1⟩:=a
 obtain ⟨r2,l2⟩:=b
 obtain rfl:U=r2:=funext h
 rfl
def ret (v:α):Rd α:=⟨λs=>.inr (v,s),λs U s' h=>by simp_all⟩
def seq (m:Rd α) (k:α->Rd β):Rd β:=⟨λs=>match m.run s with
 | .inl e=>.inl e
 | .inr p=>(k p.1).run p.2,λs v s' h=>by
 cases U:m.run s with
 |inl e=>simp_all
 |inr p=>rw [U] at h;exact Nat.le_trans ((k p.1).le _ _ _ h) (m.le _ _ _ U)⟩
def fail (e:Er):Rd α:=⟨λs=>.inl (e,s),λs v s' h=>by cases h⟩
def Ee (t:Aj) (e:Er):Rd α:=⟨λ_=>.inl (e,t),λs v s' h=>by cases h⟩
def look (f:Aj->Rd α):Rd α:=⟨λs=>(f s).run s,λs v s' h=>(f s).le _ _ _ h⟩
def iter (body:σ->Rd (Sum σ β)) (x:σ) (s:Aj):Rv β:=
 match (body x).run s with
 | .inl e=>.inl e
 | .inr (.inr y,s')=>.inr (y,s')
 | .inr (.inl U,s')=>if mu s'<mu s then iter body U s' else .inl (⟨2,Do⟩,s)
termination_by mu s
theorem ep (body:σ->Rd (Sum σ β)) (x:σ) (s:Aj):∀v s',iter body x s=.inr (v,s')->mu s'<=mu s:=by
 fun_induction iter body x s with
 |case1 x s e h=>simp_all
 |case2 x s y s1 h=>intro v s' h';cases h';exact (body x).le _ _ _ h
 |case3 x s x' s1 h U ih=>grind
 |case4 x s x' s1 h U=>simp_all
def loop (body:σ->Rd (Sum σ β)) (x:σ):Rd β:=⟨iter body x,ep body x⟩
theorem nK {body:σ->Rd (Sum σ β)} {w:σ->Nat} {w':β->Nat} {c:Nat} (h1:∀x s U s',(body x).run s=.inr (.inl U,s')->w U<=w x+4) (h2:∀x s y s',(body x).run s=.inr (.inr y,s')->w' y<=w x+c) (x:σ) (s:Aj):
 ∀y s',(loop body x).run s=.inr (y,s')->w' y+4*mu s'<=w x+c+4*mu s:=by
 show ∀y s',iter body x s=.inr (y,s')->_
 fun_induction iter body x s with
 |case1 x s e h=>simp_all
 |case2 x s y s1 h=>intro y s' h';cases h';have:=h2 _ _ _ _ h;have:=(body x).le _ _ _ h;omega
 |case3 x s U s1 h hlt ih=>grind
 |case4 x s U s1 h hlt=>simp_all
def wp (m:Rd α) (s:Aj) (Q:α->Aj->Prop) (E:Er->Aj->Prop):Prop:=match m.run s with
 | .inl p=>E p.1 p.2
 | .inr p=>Q p.1 p.2
theorem wp_ret {v:α} {s:Aj} {Q:α->Aj->Prop} {E:Er->Aj->Prop}:wp (ret v) s Q E=Q v s:=rfl
theorem wp_seq {m:Rd α} {k:α->Rd β} {s:Aj} {Q:β->Aj->Prop} {E:Er->Aj->Prop}:wp (seq m k) s Q E=wp m s (λv s'=>wp (k v) s' Q E) E:=by
 unfold wp seq
 grind
theorem Ep {e:Er} {s:Aj} {Q:α->Aj->Prop} {E:Er->Aj->Prop}:wp (fail e) s Q E=E e s:=rfl
theorem HB {e:Er} {s t:Aj} {Q:α->Aj->Prop} {E:Er->Aj->Prop}:wp (Ee t e) s Q E=E e t:=rfl
theorem Aq {f:Aj->Rd α} {s:Aj} {Q:α->Aj->Prop} {E:Er->Aj->Prop}:wp (look f) s Q E=wp (f s) s Q E:=rfl
theorem AK {c:Prop} [Decidable c] {a b:Rd α} {s:Aj} {Q:α->Aj->Prop} {E:Er->Aj->Prop}:wp (if c then a else b) s Q E=if c then wp a s Q E else wp b s Q E:=by grind
def again (body:σ->Rd (Sum σ β)) (s:Aj) (Q:β->Aj->Prop) (E:Er->Aj->Prop):Sum σ β->Aj->Prop
 | .inr y,s'=>Q y s'
 | .inl x,s'=>if mu s'<mu s then wp (loop body x) s' Q E else E ⟨2,Do⟩ s
theorem wp_loop {body:σ->Rd (Sum σ β)} {x:σ} {s:Aj} {Q:β->Aj->Prop} {E:Er->Aj->Prop}:wp (loop body x) s Q E=wp (body x) s (again body s Q E) E:=by
 have e:(loop body x).run s=match (body x).run s with
  | .inl e=>.inl e
  | .inr (.inr y,s')=>.inr (y,s')
  | .inr (.inl x',s')=>if mu s'<mu s then (loop body x').run s' else .inl (⟨2,Do⟩,s):=by
  show iter body x s=_
  rw [iter]
  rfl
 unfold wp
 rw [e]
 cases hb:(body x).run s with
 |inl p=>rfl
 |inr p=>
  obtain ⟨r,s'⟩:=p
  cases r with
  |inr y=>rfl
  |inl x'=>
   dsimp only [again]
   by_cases U:mu s'<mu s
   .rw [if_pos U,if_pos U];rfl
   grind
theorem Bv {body:σ->Rd (Sum σ β)} {s:Aj} {Q:β->Aj->Prop} {E:Er->Aj->Prop} {y:β}:again body s Q E (.inr y) s'=Q y s':=rfl
theorem Fc {body:σ->Rd (Sum σ β)} {s:Aj} {Q:β->Aj->Prop} {E:Er->Aj->Prop} {x:σ} (h:again body s Q E (.inl x) s') (U:mu s'<mu s):wp (loop body x) s' Q E:=by
 have h:if mu s'<mu s then wp (loop body x) s' Q E else E ⟨2,Do⟩ s:=h
 simp_all
theorem wp_mono {m:Rd α} {s:Aj} {Q Q':α->Aj->Prop} {E E':Er->Aj->Prop} (h:wp m s Q E) (hq:∀v s',m.run s=.inr (v,s')->Q v s'->Q' v s') (U:∀e s',m.run s=.inl (e,s')->E e s'->E' e s'):wp m s Q' E':=by
 unfold wp at h |-
 grind
theorem U4 {m:Rd α} {s:Aj} {Q:α->Aj->Prop} {E:Er->Aj->Prop} (hq:∀v s',m.run s=.inr (v,s')->Q v s') (U:∀e s',m.run s=.inl (e,s')->E e s'):wp m s Q E:=by
 unfold wp
 grind
def A6 (m:Rd α):Prop:=∀s v s',m.run s=.inr (v,s')->mu s'<mu s
theorem A6.seq {m:Rd α} {k:α->Rd β} (h:A6 m):A6 (seq m k):=λs v s' e=>by
 unfold Rd.seq at e
 dsimp only at e
 split at e
 .cases e
 .exact Nat.lt_of_le_of_lt ((k _).le _ _ _ e) (h _ _ _ ‹_›)
theorem A6.at {m:Rd α} {k:α->Rd β} {s s':Aj} {v:β} (h:∀v s',m.run s=.inr (v,s')->mu s'<mu s) (e:(Rd.seq m k).run s=.inr (v,s')):mu s'<mu s:=by
 unfold Rd.seq at e
 dsimp only at e
 split at e
 .cases e
 .exact Nat.lt_of_le_of_lt ((k _).le _ _ _ e) (h _ _ ‹_›)
theorem A6.fail {e:Er}:A6 (fail e:Rd α):=λs v s' h=>by cases h
theorem A6.Ee {t:Aj} {e:Er}:A6 (Ee t e:Rd α):=λs v s' h=>by cases h
theorem A6.look {f:Aj->Rd α} (h:∀s v s',(f s).run s=.inr (v,s')->mu s'<mu s):A6 (look f):=λs v s' e=>h s v s' e
theorem A6.ite {c:Prop} [Decidable c] {a b:Rd α} (U:A6 a) (h2:A6 b):A6 (if c then a else b):=by grind
end Rd
def JR (A:Aj->Rs) (hle:∀s v s',A s=.inr (v,s')->mu s'<=mu s):Rd Nd:=⟨λs=>match A s with
 | .inl p=>if h:p.1=0 then .inl (⟨2,Do⟩,p.2) else .inl (⟨p.1,h⟩,p.2)
 | .inr p=>.inr p,λs v s' h=>by
 grind⟩
theorem Za {A:Aj->Rs} {hle:∀s v s',A s=.inr (v,s')->mu s'<=mu s} (U:E8 A) {s:Aj} {e:Int} (h:A s=.inl (e,s')):(JR A hle).run s=.inl (⟨e,U _ _ _ h⟩,s'):=by
 unfold JR
 grind
theorem WW {A:Aj->Rs} {hle:∀s v s',A s=.inr (v,s')->mu s'<=mu s} {s:Aj} {p:Nd×Aj} (h:A s=.inr p):(JR A hle).run s=.inr p:=by
 unfold JR
 simp_all
def AR:Rd Nd:=JR Db λs v s' h=>(Q4 h).1
def Ow {α:Type}:Rd α:=⟨λs=>.inl (⟨Ve s,Vf s⟩,s),λs v s' h=>by cases h⟩
def Bx (k:Int) (x:List UInt8):Rd Nd:=.look λs=>if Bq s k x=true then AR else Ow
def Dl (ks:List Int):Rd Nd:=.look λs=>if ks.contains (Ac s).1.kind=true then AR else Ow
def K1:Rd Unit:=.seq AR λ_=>.ret ()
theorem pS {s:Aj} (h:Bq s k x=true) (U:k≠0):AR.run s=.inr (BA (Ac s).1,(Ac s).2.1):=WW (Ka h U)
theorem C6 {s:Aj} (h:(Ac s).2.2=0):AR.run s=.inr (BA (Ac s).1,(Ac s).2.1):=WW (by unfold Db;simp_all)
theorem Ju {s:Aj} (h:¬(Ac s).2.2=0):AR.run s=.inl (⟨(Ac s).2.2,h⟩,s):=by
 have e:Db s=.inl ((Ac s).2.2,s):=by unfold Db;rw [if_neg h]
 exact Za IQ e
theorem HZ {s:Aj} {v:Nd} (h:AR.run s=.inr (v,s')) (U:(Ac s).1.kind≠21):mu s'<mu s:=by
 by_cases e:(Ac s).2.2=0
 .rw [C6 e] at h;cases h;exact (Fv e).2 U
 .rw [Ju e] at h;cases h
theorem Io {s:Aj} (h:(Ac s).1.kind≠0):(Ac s).2.2=0:=by
 apply Classical.byContradiction
 intro e
 rw [Y4 e] at h
 exact h rfl
theorem Mq (U:k≠21):Rd.A6 (Bx k x):=Rd.A6.look λs v s' h=>by
 split at h
 .rename_i hi
  refine HZ h λe=>U ?_
  unfold Bq at hi
  simp_all
 .cases h
theorem bg {ks:List Int} (U:ks.contains 21=false):Rd.A6 (Dl ks):=Rd.A6.look λs v s' h=>by
 split at h
 .rename_i hi
  exact HZ h λe=>by simp_all
 .cases h
abbrev MU (f:FuncId) (args:List V) (st:St) (R:Au->St->Prop):Prop:=Ba Tryz.prog f args st R
def JM (x:Int):List Int->Int->Int
 |[],_=> -1
 |y::r,i=>if x=y then i else JM x r (i+1)
theorem Si {x:Int}:∀{l:List Int} {i:Int},0<=i->(0<=JM x l i↔l.contains x=true)
 |[],i,h=>by simp [JM]
 |y::r,i,h=>by
  simp only [JM]
  split
  .simp_all
  .rename_i e
   rw [Si AC]
   simp [e]
theorem mM {x:Int} {st:St} {own:AE} (h:R (.ret (.int .i64 (JM x kinds 0))) st):MU 364 [.slice 1 (ints kinds) own,.int .i64 x] st R:=by
 refine pB Tryz.func364 ?_
 have hlen:(ints kinds).length=kinds.length:=by simp [ints]
 intro m hm hl
 rw [hlen] at hm
 subst hm
 conv=>whnf
 refine ⟨Nat,λk=>{tmps:=[(8,.int .i64 k),(7,.int .i64 kinds.length),(0,.slice 1 (ints kinds) own),(1,.int .i64 x)],boxes:=[],Bs:=0,sz:=19,gl:=[]},λ_=>st,
  λk=>k<=kinds.length/\JM x kinds 0=JM x (kinds.drop k) k,λk=>kinds.length - k,0,⟨Nat.zero_le _,rfl⟩,⟨rfl,⟨rfl,rfl,rfl,rfl,rfl,rfl,rfl,rfl,trivial⟩,trivial,rfl⟩,St.le_refl _,?_⟩
 rintro k ⟨hk,hi⟩
 refine Wh (λh1=>?_) (λh1=>?_)
 .have U:k<kinds.length:=AC
  have he:(ints kinds)[(k:Int).toNat]? =some [.int .i64 kinds[k]]:=by simp [ints,U]
  refine ⟨AC,_,he,?_⟩
  have hd:JM x (kinds.drop k) k=if x=kinds[k] then (k:Int) else JM x (kinds.drop (k+1)) (k+1):=by
   rw [List.drop_eq_getElem_cons U];rfl
  refine Wg (λh2=>?_) (λh2=>?_)
  .exact fin h i7
  .refine ⟨((k+1:Nat):Int),?_,?_⟩
   .simp only [DG] at hl
    rw [LM AC AC];rfl
   .refine ⟨k+1,⟨U,?_⟩,by grind,⟨rfl,⟨rfl,rfl,rfl,rfl,rfl,rfl,rfl,rfl,trivial⟩,trivial,rfl⟩,St.le_refl _⟩
    simp_all
 .refine fin h ?_
  have:k=kinds.length:=AC
  rw [hi,this,List.drop_length];rfl
section
variable {st:St} {R:Au->St->Prop}
theorem PH {x:Int} {own:AE} (h:R (.ret (.bool (kinds.contains x))) st):MU 325 [.slice 1 (ints kinds) own,.int .i64 x] st R:=by
 refine pB Tryz.func325 ?_
 refine mM ?_
 have key:=Si (x:=x) (l:=kinds) (i:=0) AC
 refine Wh (λU=>?_) (λU=>?_)
 .exact Av h (key.1 U)
 .refine Av h ?_
  simp_all
def D6 (n:Nd) (kinds:List Int):Bool:=n.kind==1&&kinds.contains n.form
theorem Jd {own:AE} (h:R (.ret (.bool (D6 n kinds))) st):MU 380 [enc n,.slice 1 (ints kinds) own] st R:=by
 refine pB Tryz.func380 ?_
 unfold D6 at h
 repeat' ((conv=>whnf);first|(refine LY ?_;intros)|(refine LZ ?_ ?_<;>intro _)|refine PH ?_)
 all_goals exact Av h i7
def Jq (n:Nd) (k:Int) (t:List UInt8):Bool:=D6 n [k]&&n.text==t
theorem J6 (h:R (.ret (.bool (Jq n k t))) st):MU 381 [enc n,.int .i64 k,.str t] st R:=by
 refine pB Tryz.func381 ?_
 unfold Jq at h
 repeat' ((conv=>whnf);first|(refine LY ?_;intros)|(refine LZ ?_ ?_<;>intro _)|refine Jd (kinds:=[k]) ?_)
 all_goals exact Av h i7
def C9 (n:Nd) (o s:List UInt8):Option (List Nd):=
 if 2<=n.kids.length/\n.kids[0]?.any (Jq · 15 o)=true/\n.kids[n.kids.length - 1]?.any (Jq · 15 s)=true then some ((n.kids.take (n.kids.length - 1)).drop 1) else none
theorem I7 (U:∀l,C9 n o s=some l->R (.ret (.Bp [.slice 6 (BL l) .any,.bool true])) st)
 (hn:C9 n o s=none->R (.ret (.Bp [.slice 6 [] .any,.bool false])) st):MU 376 [enc n,.str o,.str s] st R:=by
 refine pB Tryz.func376 ?_
 repeat' ((conv=>whnf);first|(refine LY ?_;intros)|(refine LZ ?_ ?_<;>intro _)|refine J6 ?_)
 .exact VF (hn (by simp [C9];omega)) rfl
 all_goals
  have e:((n.kids.length:Int) - 1).toNat=n.kids.length - 1:=AC
  simp only [e,Int.toNat_zero,Int.reduceToNat] at *
  first
   |exact VF (U _ (by simp_all [C9];omega)) rfl
   |exact VF (hn (by simp_all [C9])) rfl
theorem bD (h:C9 n o s=some l):l.length+2=n.kids.length:=by
 simp only [C9] at h
 grind
theorem VK (U:∀l,C9 n o s=some l->l.length+2=n.kids.length->R (.ret (.Bp [.slice 6 (BL l) .any,.bool true])) st)
 (hn:C9 n o s=none->R (.ret (.Bp [.slice 6 [] .any,.bool false])) st):MU 376 [enc n,.str o,.str s] st R:=
 I7 (λl h=>U l h (bD h)) hn
def PD:Nd:=.mk 0 0 [] 0 0 []
def QO (n:Nd):Bool:=D6 n [6,8]||Jq n 10 [58]
theorem YW (h:R (.ret (.bool (QO n))) st):MU 407 [enc n] st R:=by
 refine pB Tryz.func407 ?_
 repeat' ((conv=>whnf);first|(refine LY ?_;intros)|(refine LZ ?_ ?_<;>intro _)|refine Jd (kinds:=[6,8]) ?_|refine J6 ?_)
 all_goals conv=>whnf
 all_goals (refine Av h ?_;clear h;simp_all [QO])
def OY (n:Nd):Option Nd:=if n.kind=3 then (match C9 n [40] [41] with|some l=>if l.length=1 then l[0]? else none|none=>none) else none
theorem Y0 (U:∀x,OY n=some x->R (.ret (.Bp [enc x,.bool true])) st) (hn:OY n=none->R (.ret (.Bp [enc PD,.bool false])) st):MU 402 [enc n] st R:=by
 refine pB Tryz.func402 ?_
 repeat' ((conv=>whnf);first|(refine LY ?_;intros)|(refine LZ ?_ ?_<;>intro _)|refine I7 (λl hl=>?_) (λhl=>?_))
 all_goals conv=>whnf
 all_goals first
  |exact AY rfl (U _ (by clear U hn;simp_all [OY]))
  |exact AY rfl (hn (by clear U hn;simp_all [OY]))
def GG (n:Nd):Option (List UInt8):=
 if D6 n [1] then some n.text else match OY n with|some x=>if D6 x [5] then some x.text else none|none=>none
theorem MP (U:∀t,GG n=some t->R (.ret (.Bp [.str t,.bool true])) st) (hn:GG n=none->R (.ret (.Bp [.str [],.bool false])) st):MU 377 [enc n] st R:=by
 refine pB Tryz.func377 ?_
 repeat' ((conv=>whnf);first|(refine LY ?_;intros)|(refine LZ ?_ ?_<;>intro _)|refine Y0 (λl hl=>?_) (λhl=>?_)|refine Jd (kinds:=[1]) ?_|refine Jd (kinds:=[5]) ?_)
 all_goals conv=>whnf
 all_goals first
  |exact AY rfl (U _ (by clear U hn;simp_all [GG]))
  |exact AY rfl (hn (by clear U hn;simp_all [GG]))
def SH (n:Nd):Bool:=D6 n [2,4]||(match OY n with|some x=>QO x|none=>false)
theorem V5 (h:R (.ret (.bool (SH n))) st):MU 385 [enc n] st R:=by
 refine pB Tryz.func385 ?_
 repeat' ((conv=>whnf);first|(refine LY ?_;intros)|(refine LZ ?_ ?_<;>intro _)|refine Y0 (λl U=>?_) (λU=>?_)|refine Jd (kinds:=[2,4]) ?_|refine YW ?_)
 all_goals conv=>whnf
 all_goals (refine Av h ?_;clear h;simp_all [SH])
def Ec (n:Nd):Nd×Bool:=
 if n.kind=18 then (if n.kids.length=1 then ((n.kids[0]?.getD PD),false) else if n.kids.length=3 then (match C9 n [96] [96] with|some l=>((l[0]?.getD PD),true)|none=>(PD,false)) else (PD,false)) else (PD,false)
theorem PW (h:R (.ret (.Bp [enc (Ec n).1,.bool (Ec n).2])) st):MU 403 [enc n] st R:=by
 refine pB Tryz.func403 ?_
 repeat' ((conv=>whnf);first|(refine LY ?_;intros)|(refine LZ ?_ ?_<;>intro _)|refine VK (λl U hk=>?_) (λU=>?_))
 all_goals conv=>whnf
 all_goals refine AY ?_ h
 all_goals clear h
 all_goals simp_all [Ec]
 all_goals rfl
def V6 (n:Nd):Bool:=if (Ec n).2 then D6 (Ec n).1 [2,4] else QO (Ec n).1
theorem eA (h:R (.ret (.bool (V6 n))) st):MU 408 [enc n] st R:=by
 refine pB Tryz.func408 ?_
 repeat' ((conv=>whnf);first|(refine LY ?_;intros)|(refine LZ ?_ ?_<;>intro _)|refine PW ?_|refine Jd (kinds:=[2,4]) ?_|refine YW ?_)
 all_goals conv=>whnf
 all_goals (refine Av h ?_;clear h;simp_all [V6])
def Rq (n:Nd):Option (List UInt8):=
 if (if (Ec n).2 then D6 (Ec n).1 [1] else D6 (Ec n).1 [5]) then some (Ec n).1.text else none
theorem rf (U:∀t,Rq n=some t->R (.ret (.Bp [.str t,.bool true])) st) (hn:Rq n=none->R (.ret (.Bp [.str [],.bool false])) st):MU 378 [enc n] st R:=by
 refine pB Tryz.func378 ?_
 repeat' ((conv=>whnf);first|(refine LY ?_;intros)|(refine LZ ?_ ?_<;>intro _)|refine PW ?_|refine Jd (kinds:=[1]) ?_|refine Jd (kinds:=[5]) ?_)
 all_goals conv=>whnf
 all_goals first
  |exact AY rfl (U _ (by clear U hn;simp_all [Rq]))
  |exact AY rfl (hn (by clear U hn;simp_all [Rq]))
def CX (f:FuncId) (p:Nd->Bool) (x:Nd):Prop:=∀(st:St) (R:Au->St->Prop),R (.ret (.bool (p x))) st->MU f [enc x] st R
def JW (p:Nd->Bool):Bool->List Nd->Bool
 |_,[]=>true
 |b,x::r=>(if b then Jq x 15 [44] else p x)&&JW p (!b) r
def N1 (p:Nd->Bool) (l:List Nd):Bool:=l.length % 2==1&&JW p false l
theorem cC {k:Nat} {x:Nd} (h:l[k]? =some x):
 JW p (k % 2==1) (l.drop k)=((if k % 2=1 then Jq x 15 [44] else p x)&&JW p ((k+1) % 2==1) (l.drop (k+1))):=by
 rw [drop_at h,JW]
 have:(!(k % 2==1))=((k+1) % 2==1):=by
  rcases Nat.mod_two_eq_zero_or_one k with e|e
  .grind
  .grind
 grind
theorem Zf (U:∀x ∈ l,CX f p x) (h:R (.ret (.bool (N1 p l))) st):MU 405 [.slice 6 (BL l) .any,.func f [] []] st R:=by
 refine pB Tryz.func405 ?_
 repeat' ((conv=>whnf);first|(refine LY ?_;intros)|(refine LZ ?_ ?_<;>intro _)|refine J6 ?_)
 .conv=>whnf
  refine Av h ?_
  have:=Kb.1 ‹_›
  simp [N1,this]
 .refine KO 13 [11,12,1] l.length (λk=>k<=l.length/\(JW p false l=JW p (k % 2==1) (l.drop k))) ⟨Nat.zero_le _,rfl⟩ Yl ?_
  rintro k ⟨hk,hi⟩
  repeat' ((conv=>whnf);first|(refine LY ?_;intros)|(refine LZ ?_ ?_<;>intro _)|refine J6 ?_|refine U _ ‹_› _ _ ?_)
  all_goals conv=>whnf
  all_goals simp only [Kb,Pq,Int.toNat_natCast] at *
  all_goals try (have e:=cC (p:=p) ‹l[k]? =some _›;rw [e] at hi;clear e)
  all_goals try omega
  all_goals first
   |(refine ⟨k+1,⟨AC,?_⟩,AC,Yl,St.le_refl _⟩;clear h;simp_all)
   |(refine Av h ?_;clear h;simp_all [N1])
  rw [List.drop_eq_nil_of_le AC];rfl
def CG (p:Nd->Bool):List Nd->Int->Int
 |[],_=> -1
 |y::r,i=>if p y then i else CG p r (i+1)
theorem HS {p:Nd->Bool}:∀{l:List Nd} {i:Int},0<=i->(0<=CG p l i↔l.any p=true)
 |[],i,h=>by simp [CG]
 |y::r,i,h=>by
  simp only [CG,List.any_cons]
  split
  .simp_all
  .rename_i e
   rw [HS AC]
   simp [e]
theorem VT {st:St}
 (U:∀x ∈ l,CX f p x) (h:R (.ret (.int .i64 (CG p l 0))) st):MU 365 [.slice 6 (BL l) .any,.func f [] []] st R:=by
 refine pB Tryz.func365 ?_
 repeat' ((conv=>whnf);first|(refine LY ?_;intros)|(refine LZ ?_ ?_<;>intro _)|refine J6 ?_)
 refine KO 8 [6,7,0,1] l.length (λk=>k<=l.length/\(CG p l 0=CG p (l.drop k) k)) ⟨Nat.zero_le _,rfl⟩ Yl ?_
 rintro k ⟨hk,hi⟩
 repeat' ((conv=>whnf);first|(refine LY ?_;intros)|(refine LZ ?_ ?_<;>intro _)|refine U _ ‹_› _ _ ?_)
 all_goals conv=>whnf
 all_goals try (have e:=drop_at ‹l[Int.toNat k]? =some _›;rw [Int.toNat_natCast] at e;rw [e,CG] at hi;clear e)
 all_goals first
  |(refine ⟨k+1,⟨AC,?_⟩,AC,Yl,St.le_refl _⟩;clear h;simp_all)
  |(refine fin h ?_;clear h;simp_all;done)
  |(refine fin h ?_;rw [hi,List.drop_eq_nil_of_le AC];rfl)
theorem Kh (hf:∀x ∈ l,CX f p x) (h:R (.ret (.bool (l.any p))) st):MU 327 [.slice 6 (BL l) .any,.func f [] []] st R:=by
 refine pB Tryz.func327 ?_
 refine VT hf ?_
 have key:=HS (p:=p) (l:=l) (i:=0) AC
 refine Wh (λU=>?_) (λU=>?_)
 .exact Av h (key.1 U)
 .refine Av h ?_
  simp_all
theorem sn {x:Nd}:CX 404 (λx=> !Jq x 15 [44]) x:=by
 intro st R h
 refine pB Tryz.func404 ?_
 repeat' ((conv=>whnf);first|(refine LY ?_;intros)|(refine LZ ?_ ?_<;>intro _)|refine J6 ?_)
 all_goals conv=>whnf
 all_goals (refine Av h ?_;clear h;simp_all)
def mJ (n:Nd):Bool:=
 (GG n).isSome||SH n||(match C9 n [91] [93] with|some l=>l.isEmpty|none=>match C9 n [40] [41] with|some l=> !l.any λx=> !Jq x 15 [44]|none=>false)
theorem wJ (h:R (.ret (.bool (mJ n))) st):MU 382 [enc n] st R:=by
 refine pB Tryz.func382 ?_
 repeat' ((conv=>whnf);first|(refine LY ?_;intros)|(refine LZ ?_ ?_<;>intro _)|refine MP (λl U=>?_) (λU=>?_)|refine V5 ?_|refine I7 (λl U=>?_) (λU=>?_)|refine Kh (λx _=>sn) ?_)
 all_goals conv=>whnf
 all_goals (refine Av h ?_;clear h;simp_all [mJ])
end
section
variable {st:St} {R:Au->St->Prop}
theorem Mz (h:C9 n o s=some l):∀x ∈ l,x ∈ n.kids:=by
 simp only [C9] at h
 grind
def HE (p:Nd->Bool) (n:Nd) (o s:List UInt8) (least:Int) (one:Bool):Bool:=
 match C9 n o s with
 |some l=>decide (2*least - 1<=(l.length:Int))&&(!one||l.length==1)&&N1 p l
 |none=>false
theorem X7 {least:Int} {one:Bool} (h0:0<=least) (h1:least<=10) (hp:∀x ∈ n.kids,CX 352 p x)
 (h:R (.ret (.bool (HE p n o s least one))) st):MU 383 [enc n,.str o,.str s,.int .i64 least,.bool one] st R:=by
 cases one
 all_goals refine pB Tryz.func383 ?_
 repeat' ((conv=>whnf);first|(refine LY ?_;intros)|(refine LZ ?_ ?_<;>intro _)|refine I7 (λl U=>?_) (λU=>?_)|refine Zf (λx hx=>hp x (Mz ‹_› x hx)) ?_)
 all_goals conv=>whnf
 all_goals (refine Av h ?_;clear h;simp_all [HE])
 all_goals (intros;omega)
def fQ (q:Nd->Bool):List Nd->Bool
 |[]=>true
 |x::r=>q x&&fQ q r
def M4 (p:Nd->Bool) (x:Nd):Bool:= !(x.kind==11)&& !(x.kind==17)&&p x
def M3 (p:Nd->Bool) (l:List Nd):Bool:=fQ (M4 p) l&&decide (0<l.length)
theorem X5 (U:∀x ∈ l,CX 352 p x) (h:R (.ret (.bool (M3 p l))) st):MU 375 [.slice 6 (BL l) .any] st R:=by
 refine pB Tryz.func375 ?_
 repeat' ((conv=>whnf);first|(refine LY ?_;intros)|(refine LZ ?_ ?_<;>intro _)|refine J6 ?_)
 refine KO 7 [5,6,0] l.length (λk=>k<=l.length/\fQ (M4 p) l=fQ (M4 p) (l.drop k)) ⟨Nat.zero_le _,rfl⟩ Yl ?_
 rintro k ⟨hk,hi⟩
 repeat' ((conv=>whnf);first|(refine LY ?_;intros)|(refine LZ ?_ ?_<;>intro _)|refine U _ ‹_› _ _ ?_)
 all_goals conv=>whnf
 all_goals try (have e:=drop_at ‹l[Int.toNat k]? =some _›;rw [Int.toNat_natCast] at e;rw [e,fQ] at hi;clear e)
 all_goals first
  |(refine ⟨k+1,⟨AC,?_⟩,AC,Yl,St.le_refl _⟩;clear h;simp_all [M4];done)
  |(refine Av h ?_;clear h;simp_all [M3,M4];done)
  |(refine Av h ?_;clear h;rw [List.drop_eq_nil_of_le AC] at hi;simp_all [M3,fQ];done)
  |skip
def bt (p:Nd->Bool) (n:Nd):Bool:=
 n.kind==13&&n.kids.length==3&&n.kids[0]?.any (D6 · [1,3])&&n.kids[1]?.any (Jq · 10 [61])&&n.kids[2]?.any p
theorem rU (U:∀x ∈ n.kids,CX 352 p x):CX 406 (bt p) n:=by
 intro st R h
 refine pB Tryz.func406 ?_
 repeat' ((conv=>whnf);first|(refine LY ?_;intros)|(refine LZ ?_ ?_<;>intro _)|refine Jd (kinds:=[1,3]) ?_|refine J6 ?_|refine U _ ‹_› _ _ ?_)
 all_goals conv=>whnf
 all_goals (refine Av h ?_;clear h;simp_all [bt])
def QW (p:Nd->Bool) (n:Nd):Bool:=
 decide (3<=n.kids.length)&&n.kids[0]?.any SH&&(match C9 (.mk 0 0 [] 0 0 (n.kids.drop 1)) [123] [125] with|some l=>l.isEmpty||N1 (bt p) l|none=>false)
theorem oU (hp:∀x ∈ n.kids,∀y ∈ x.kids,CX 352 p y) (h:R (.ret (.bool (QW p n))) st):MU 384 [enc n] st R:=by
 refine pB Tryz.func384 ?_
 repeat' ((conv=>whnf);first|(refine LY ?_;intros)|(refine LZ ?_ ?_<;>intro _)|refine V5 ?_|refine I7 (n:=.mk 0 0 [] 0 0 _) (λl U=>?_) (λU=>?_)|refine Zf (λx hx=>rU (hp x (List.mem_of_mem_drop (i:=1) (l:=n.kids) (Mz (n:=.mk 0 0 [] 0 0 (n.kids.drop 1)) ‹_› x hx)))) ?_)
 all_goals conv=>whnf
 all_goals (refine Av h ?_;clear h;try simp only [Int.toNat_zero,Int.toNat_one] at *;simp_all [QW])
 all_goals first
  |omega
  |(have:¬3<=n.kids.length:=by omega
    simp [QW,this])
def J5 (p:Nd->Bool):Nat->List Nd->Bool
 |2,[]=>true
 |_,[]=>false
 |0,x::r=>if x.kind=19 then J5 p 1 r else (!(x.kind==17)&&p x)&&J5 p 2 r
 |1,x::r=>D6 x [11,12]&&J5 p 2 r
 |_,x::r=>V6 x&&J5 p 0 r
theorem vr {k:Nat} {x:Nd} (h:l[k]? =some x):J5 p 0 (l.drop k)=if x.kind=19 then J5 p 1 (l.drop (k+1)) else (!(x.kind==17)&&p x)&&J5 p 2 (l.drop (k+1)):=by
 rw [drop_at h];rfl
theorem vt {k:Nat} {x:Nd} (h:l[k]? =some x):J5 p 1 (l.drop k)=(D6 x [11,12]&&J5 p 2 (l.drop (k+1))):=by
 rw [drop_at h];rfl
theorem fk {k:Nat} {x:Nd} (h:l[k]? =some x):J5 p 2 (l.drop k)=(V6 x&&J5 p 0 (l.drop (k+1))):=by
 rw [drop_at h];rfl
theorem P1 {k s:Nat} (h:l.length<=k):J5 p s (l.drop k)=(s==2):=by
 rw [List.drop_eq_nil_of_le h]
 match s with
 |0=>rfl
 |1=>rfl
 |2=>rfl
 |s+3=>rfl
theorem tn0:(0:Int).toNat=0:=rfl
theorem tn1:((0:Int)+1).toNat=1:=rfl
theorem tn2:((0:Int)+1+1).toNat=2:=rfl
theorem tn3 {k:Nat}:((k:Int)+1).toNat=k+1:=AC
theorem tn4 {k:Nat}:((k:Int)+1+1).toNat=k+2:=AC
theorem pf (U:∀x ∈ l,CX 352 p x) (h:R (.ret (.bool (J5 p 0 l))) st):MU 386 [.slice 6 (BL l) .any] st R:=by
 refine pB Tryz.func386 ?_
 conv=>whnf
 refine ⟨Nat,λ_=>0,λk=>{tmps:=[(3,.int .i64 k),(0,.slice 6 (BL l) .any)],boxes:=[],Bs:=0,sz:=57,gl:=[]},λ_=>st,
  λk=>k<=l.length/\J5 p 0 l=J5 p 0 (l.drop k),λk=>l.length - k,?_,?_⟩
 .have hi:J5 p 0 l=J5 p 0 (l.drop 0):=rfl
  repeat' ((conv=>whnf);first|(refine LY ?_;intros)|(refine LZ ?_ ?_<;>intro _)|refine Jd (kinds:=[11,12]) ?_|refine eA ?_|refine U _ ‹_› _ _ ?_)
  all_goals conv=>whnf
  all_goals try simp only [tn0,tn1,tn2,tn3,tn4,Int.toNat_natCast,Nat.zero_add,Nat.reduceAdd] at *
  all_goals try (have e:=vr (p:=p) ‹l[0]? =some _›;rw [e] at hi;clear e)
  all_goals (try have e1:=vt (p:=p) ‹l[1]? =some _›)
  all_goals (try have e2:=fk (p:=p) ‹l[1]? =some _›)
  all_goals (try have e3:=fk (p:=p) ‹l[2]? =some _›)
  all_goals (try have f0:=P1 (p:=p) (s:=0) (l:=l) (k:=0) AC)
  all_goals (try have f1:=P1 (p:=p) (s:=1) (l:=l) (k:=1) AC)
  all_goals (try have f2:=P1 (p:=p) (s:=2) (l:=l) (k:=1) AC)
  all_goals (try have f3:=P1 (p:=p) (s:=2) (l:=l) (k:=2) AC)
  all_goals try simp only [Nat.zero_add,Nat.reduceAdd] at *
  all_goals first
   |(refine Av h ?_;clear h;clear U;simp_all;done)
   |(refine ⟨3,(by first|trivial|rfl),⟨AC,?_⟩,Yl,St.le_refl _⟩;clear h;clear U;simp_all;done)
   |(refine ⟨2,(by first|trivial|rfl),⟨AC,?_⟩,Yl,St.le_refl _⟩;clear h;clear U;simp_all;done)
 .rintro k ⟨hk,hi⟩
  refine ⟨_,rfl,?_⟩
  repeat' ((conv=>whnf);first|(refine LY ?_;intros)|(refine LZ ?_ ?_<;>intro _)|refine Jd (kinds:=[11,12]) ?_|refine eA ?_|refine U _ ‹_› _ _ ?_)
  all_goals conv=>whnf
  all_goals try simp only [tn0,tn1,tn2,tn3,tn4,Int.toNat_natCast,Nat.zero_add,Nat.reduceAdd] at *
  all_goals try (have e:=vr (p:=p) ‹l[k]? =some _›;rw [e] at hi;clear e)
  all_goals (try have e1:=vt (p:=p) ‹l[k+1]? =some _›)
  all_goals (try have e2:=fk (p:=p) ‹l[k+1]? =some _›)
  all_goals (try have e3:=fk (p:=p) ‹l[k+2]? =some _›)
  all_goals (try have f0:=P1 (p:=p) (s:=0) (l:=l) (k:=k) AC)
  all_goals (try have f1:=P1 (p:=p) (s:=1) (l:=l) (k:=k+1) AC)
  all_goals (try have f2:=P1 (p:=p) (s:=2) (l:=l) (k:=k+1) AC)
  all_goals (try have f3:=P1 (p:=p) (s:=2) (l:=l) (k:=k+2) AC)
  all_goals try simp only [Nat.zero_add,Nat.reduceAdd] at *
  all_goals first
   |(refine Av h ?_;clear h;clear U;simp_all;done)
   |(refine ⟨k+3,(by first|trivial|rfl),⟨AC,?_⟩,AC,Yl,St.le_refl _⟩;clear h;clear U;simp_all;done)
   |(refine ⟨k+2,(by first|trivial|rfl),⟨AC,?_⟩,AC,Yl,St.le_refl _⟩;clear h;clear U;simp_all;done)
end
section
variable {st:St} {R:Au->St->Prop}
def NN (p:Nd->Bool) (n:Nd):Bool:=
 if n.kind=1 then D6 n [1,2,4,11,12,13,14]
 else if n.kind=14 then n.kids.length==1&&n.kids[0]?.any (Jq · 9 [95])
 else if n.kind=3 then mJ n
 else if n.kind=15 then n.kids.length==3&&n.kids[0]?.any (D6 · [1])&&n.kids[1]?.any (Jq · 10 [64])&&n.kids[2]?.any p
 else if n.kind=16 then n.kids.length==2&&n.kids[0]?.any (Jq · 10 [126])&&n.kids[1]?.any p
 else if n.kind=4 then HE p n [40] [41] 1 true
 else if n.kind=5 then HE p n [40] [41] 2 false
 else if n.kind=6 then HE p n [91] [93] 1 false
 else if n.kind=12 then QW p n
 else if n.kind=11 then decide (0<n.kids.length)&&n.kids[0]?.any SH&&M3 p (n.kids.drop 1)
 else if n.kind=17 then decide (1<n.kids.length)&&J5 p 0 n.kids
 else false
theorem nO (hp:∀x,x.size<n.size->CX 352 p x):CX 352 (NN p) n:=by
 intro st R h
 have U:∀x ∈ n.kids,CX 352 p x:=λx hx=>hp x (Cp hx)
 have hkk:∀x ∈ n.kids,∀y ∈ x.kids,CX 352 p y:=λx hx y hy=>hp y (Nat.lt_trans (Cp hy) (Cp hx))
 have hd:∀x ∈ n.kids.drop 1,CX 352 p x:=λx hx=>U x (List.mem_of_mem_drop hx)
 refine pB Tryz.func352 ?_
 repeat' ((conv=>whnf);first|(refine LY ?_;intros)|(refine LZ ?_ ?_<;>intro _)|refine Jd (kinds:=[1,2,4,11,12,13,14]) ?_|refine J6 ?_|refine wJ ?_|refine Jd (kinds:=[1]) ?_|refine U _ ‹_› _ _ ?_|refine X7 (p:=p) Do Do U ?_|refine oU hkk ?_|refine V5 ?_|refine X5 hd ?_|refine pf U ?_)
 all_goals conv=>whnf
 all_goals (refine Av h ?_;clear h hp U hkk hd;try simp only [Int.toNat_zero,Int.toNat_one,Int.reduceToNat] at *)
 all_goals first
  |(simp_all [NN];done)
  |(have:1<n.kids.length:=by omega
    simp_all [NN];done)
  |(have:¬1<n.kids.length:=by omega
    simp_all [NN];intros;omega)
def sU:Nat->Nd->Bool
 |0,_=>false
 |k+1,n=>NN (sU k) n
theorem size_pos (n:Nd):0<n.size:=by cases n;rw [Nd.size];omega
theorem cc:∀(k:Nat) (n:Nd),n.size<=k->CX 352 (sU k) n
 |0,n,h=>by have:=size_pos n;omega
 |k+1,n,h=>nO λx U=>cc k x AC
def fp (p:Nd->Bool) (l:List Nd):Bool:=if l.length=1 then l[0]?.any (λx=> !(x.kind==17)&&p x) else J5 p 0 l
theorem pF (U:∀x ∈ l,CX 352 p x) (h:R (.ret (.bool (fp p l))) st):MU 379 [.slice 6 (BL l) .any] st R:=by
 refine pB Tryz.func379 ?_
 repeat' ((conv=>whnf);first|(refine LY ?_;intros)|(refine LZ ?_ ?_<;>intro _)|refine U _ ‹_› _ _ ?_|refine pf U ?_)
 all_goals conv=>whnf
 all_goals (refine Av h ?_;clear h U;try simp only [Int.toNat_zero,Int.toNat_one,Int.reduceToNat] at *)
 all_goals first
  |(simp_all [fp];done)
  |skip
def HA (p:Nd->Bool) (l:List Nd):Nat->List Nd->List UInt8×Bool
 |_,[]=>([],false)
 |i,x::r=>match Rq x with
  |some t=>(t,fp p (l.take i)&&fp p (l.drop (i+1)))
  |none=>HA p l (i+1) r
def Dj (p:Nd->Bool) (q:Nd->List UInt8×Bool) (n:Nd):List UInt8×Bool:=
 if n.kind=11 then
  if 2<=n.kids.length then (if M3 p (n.kids.drop 1) then (match n.kids[0]? with
   |none=>([],false)
   |some f=>if f.kind=4 then (match C9 f [40] [41] with|some l=>if l.length=1 then (match l[0]? with|some x=>q x|none=>([],false)) else ([],false)|none=>([],false))
    else match GG f with|some t=>(t,true)|none=>([],false)) else ([],false)) else ([],false)
 else if n.kind=17 then HA p n.kids 0 n.kids
 else ([],false)
theorem mn {f:List UInt8×Bool} {b:Bool} (h:f=(t,b)):Au.ret (.Bp [.str f.1,.bool f.2])=(Au.ret (.Bp [.str t,.bool b])).wk:=by subst h;rfl
def aw (q:Nd->List UInt8×Bool) (x:Nd):Prop:=∀(st:St) (R:Au->St->Prop),R (.ret (.Bp [.str (q x).1,.bool (q x).2])) st->MU 351 [enc x] st R
theorem TQ {q:Nd->List UInt8×Bool} (hp:∀x,x.size<n.size->CX 352 p x) (hq:∀x,x.size<n.size->aw q x):aw (Dj p q) n:=by
 intro st R h
 have hk:∀x ∈ n.kids,CX 352 p x:=λx U=>hp x (Cp U)
 have hd:∀x ∈ n.kids.drop 1,CX 352 p x:=λx U=>hk x (List.mem_of_mem_drop U)
 refine pB Tryz.func351 ?_
 repeat' ((conv=>whnf);first|(refine LY ?_;intros)|(refine LZ ?_ ?_<;>intro _)|refine X5 hd ?_|refine I7 (λl hl=>?_) (λhl=>?_)|refine MP (λl hl=>?_) (λhl=>?_)|refine hq _ (Nat.lt_trans (Cp (Mz ‹_› _ ‹_›)) (Cp ‹_›)) _ _ ?_)
 all_goals try (refine QM 63 [1,61,62] [0] n.kids.length (λk=>k<=n.kids.length/\HA p n.kids 0 n.kids=HA p n.kids k (n.kids.drop k)) ⟨Nat.zero_le _,rfl⟩ Yl ?_;rintro k ⟨hkl,hi⟩)
 repeat' ((conv=>whnf);first|(refine LY ?_;intros)|(refine LZ ?_ ?_<;>intro _)|refine rf (λl hl=>?_) (λhl=>?_)|refine pF (λx U=>hk x (List.mem_of_mem_take (List.mem_of_mem_drop U))) ?_|refine pF (λx U=>hk x (List.mem_of_mem_drop U)) ?_)
 all_goals conv=>whnf
 all_goals first
  |refine AY ?_ h
  |(refine ⟨k+1,⟨AC,?_⟩,AC,Yl,St.le_refl _⟩)
  |skip
 all_goals clear h hp hq hk hd
 all_goals try (have e:=drop_at ‹n.kids[Int.toNat k]? =some _›;rw [Int.toNat_natCast] at e;rw [e,HA] at hi;clear e)
 all_goals try simp only [Int.toNat_zero,Int.toNat_one,Int.reduceToNat,Int.toNat_natCast] at *
 all_goals first
  |(simp_all;done)
  |refine mn ?_
 .have:¬2<=n.kids.length:=AC
  simp [Dj, *]
 all_goals try have g:2<=n.kids.length:=AC
 .rename_i x _ _ y _ _ _
  have e:Dj p q n=q y:=by simp_all [Dj]
  rw [e];exact Prod.ext rfl ‹_›
 .rename_i x _ _ y _ _ _
  have e:Dj p q n=q y:=by simp_all [Dj]
  rw [e];exact Prod.ext rfl ‹_›
 all_goals try (rw [List.drop_eq_nil_of_le AC,HA] at hi)
 all_goals simp_all [Dj]
def rY:Nat->Nd->List UInt8×Bool
 |0,_=>([],false)
 |k+1,n=>Dj (sU k) (rY k) n
theorem Sd:∀(k:Nat) (n:Nd),n.size<=k->aw (rY k) n
 |0,n,h=>by have:=size_pos n;omega
 |k+1,n,h=>TQ (λx U=>cc k x AC) λx U=>Sd k x AC
end
section
variable {st:St} {R:Au->St->Prop}
def Kj (n:Nd):Bool:=sU n.size n
theorem ca:CX 352 Kj n:=λst R h=>cc n.size n (Nat.le_refl _) st R h
def aN (n:Nd):Int:=if Kj n then 0 else 120
theorem lr (h:R (.ret (.int .i64 (aN n))) st):MU 421 [enc n] st R:=by
 refine pB Tryz.func421 ?_
 repeat' ((conv=>whnf);first|(refine LY ?_;intros)|(refine LZ ?_ ?_<;>intro _)|refine ca _ _ ?_)
 all_goals conv=>whnf
 all_goals (refine fin h ?_;clear h;simp_all [aN])
def bV (n:Nd):Int×List UInt8×Int:=
 if (rY n.size n).2 then (1,(rY n.size n).1,0) else if Kj n then (2,[],0) else (0,[],120)
theorem mq {f:Int×List UInt8×Int} {b:Int} (h:f=(b,t,c)):Au.ret (.Bp [.int .i64 f.1,.str f.2.1,.int .i64 f.2.2])=(Au.ret (.Bp [.int .i64 b,.str t,.int .i64 c])).wk:=by subst h;rfl
theorem yO (h:R (.ret (.Bp [.int .i64 (bV n).1,.str (bV n).2.1,.int .i64 (bV n).2.2])) st):MU 313 [enc n] st R:=by
 refine pB Tryz.func313 ?_
 repeat' ((conv=>whnf);first|(refine LY ?_;intros)|(refine LZ ?_ ?_<;>intro _)|refine Sd _ n (Nat.le_refl _) _ _ ?_|refine ca _ _ ?_)
 all_goals conv=>whnf
 all_goals (refine AY ?_ h;clear h;refine mq ?_;simp_all [bV])
def Gv (q:Nd->List (List UInt8)) (field:Bool):Nat->List Nd->List (List UInt8)
 |_,[]=>[]
 |i,x::r=>(if 0<i\/field=false then q x else [])++Gv q field (i+1) r
def CU (q:Nd->List (List UInt8)) (n:Nd):List (List UInt8):=
 match GG n with
 |some s=>[s]
 |none=>if n.kind=18\/n.kind=19 then [] else Gv q (n.kind==13) 0 n.kids
def aA (q:Nd->List (List UInt8)) (x:Nd):Prop:=∀(l:List (List UInt8)) (own:AE) (st:St) (R:Au->St->Prop),l.length+(q x).length<=1000000000->own.BD st->
 (∀U:AE,U.BD st->R (.ret (.slice 1 (strs (l++q x)) U)) (U.st st (l++q x).length))->MU 399 [.slice 1 (strs l) own,enc x] (own.st st l.length) R
attribute [local irreducible] Go.Aw.Am
theorem cn {q:Nd->List (List UInt8)} (hq:∀x,x.size<n.size->aA q x):aA (CU q) n:=by
 intro l own st R hb ho h
 refine pB Tryz.func399 ?_
 repeat' ((conv=>whnf);first|(refine LY ?_;intros)|(refine LZ ?_ ?_<;>intro _)|refine MP (λt ht=>?_) (λht=>?_)|refine P9 (new:=[_]) ho ?_ (λown' ho'=>?_))
 .have e:CU q n=[t]:=by simp [CU,ht]
  rw [e] at hb;exact hb
 .conv=>whnf
  have e:CU q n=[t]:=by simp [CU,ht]
  rw [e] at h
  exact fin (h own' ho') rfl
 .conv=>whnf
  have e:CU q n=[]:=by simp [CU, *]
  rw [e,List.append_nil] at h
  exact fin (h own ho) rfl
 .conv=>whnf
  have e:CU q n=[]:=by simp [CU, *]
  rw [e,List.append_nil] at h
  exact fin (h own ho) rfl
 .have e:CU q n=Gv q (n.kind==13) 0 n.kids:=by simp [CU, *]
  rw [e] at h hb
  conv=>whnf
  refine V4 (α:=Nat×AE×List (List UInt8)) (λx=>[(31,.int .i64 (x.1:Int)),(0,.slice 1 (strs x.2.2) x.2.1)]) [3,29,30] [0] (λx=>AE.st st x.2.2.length x.2.1)
   (λx=>x.1<=n.kids.length/\AE.BD st x.2.1/\l++Gv q (n.kind==13) 0 n.kids=x.2.2++Gv q (n.kind==13) x.1 (n.kids.drop x.1)) (λx=>n.kids.length - x.1) (0,own,l) ⟨Nat.zero_le _,ho,rfl⟩ Yl (St.le_refl _) ?_
  rintro ⟨k,own1,U⟩ ⟨hk,ho1,hi⟩
  simp only at hk ho1 hi
  have hlen:=congrArg List.length hi
  simp only [List.length_append] at hlen
  repeat' ((conv=>whnf);first|(refine LY ?_;intros)|(refine LZ ?_ ?_<;>intro _)|refine hq _ (Cp ‹_›) U own1 st _ ?_ ho1 (λown2 ho2=>?_))
  all_goals try conv=>whnf
  all_goals try (have e:=drop_at ‹n.kids[_]? =some _›;simp only [Int.toNat_natCast] at e;rw [e,Gv] at hi hlen;clear e)
  all_goals simp only [Int.toNat_natCast] at *
  .rw [if_pos (.inl AC)] at hlen
   rw [List.length_append] at hlen
   show U.length+_<=1000000000
   omega
  .refine ⟨(k+1,own2,U++_),⟨by show k+1<=_;omega,ho2,?_⟩,by show _ - (k+1)<_ - k;omega,Yl,St.le_refl _⟩
   rw [if_pos (.inl AC)] at hi
   rw [hi,List.append_assoc]
  .refine ⟨(k+1,own1,U),⟨by show k+1<=_;omega,ho1,?_⟩,by show _ - (k+1)<_ - k;omega,Yl,St.le_refl _⟩
   rw [if_neg (by rintro (g|g)<;>first|omega|simp_all)] at hi
   rw [hi];rfl
  .have g:(n.kind==13)=false:=i7
   rw [if_pos (.inr g),List.length_append] at hlen
   show U.length+_<=1000000000
   omega
  .refine ⟨(k+1,own2,U++_),⟨by show k+1<=_;omega,ho2,?_⟩,by show _ - (k+1)<_ - k;omega,Yl,St.le_refl _⟩
   have g:(n.kind==13)=false:=i7
   rw [if_pos (.inr g)] at hi
   rw [hi,List.append_assoc]
  .rw [List.drop_eq_nil_of_le AC,Gv,List.append_nil] at hi
   rw [hi] at h
   exact fin (h own1 ho1) rfl
def IJ:Nat->Nd->List (List UInt8)
 |0,_=>[]
 |k+1,n=>CU (IJ k) n
theorem Y1:∀(k:Nat) (n:Nd),n.size<=k->aA (IJ k) n
 |0,n,h=>by have:=size_pos n;omega
 |k+1,n,h=>cn λx U=>Y1 k x AC
def G6 (n:Nd):List (List UInt8)×Int:=if Kj n then (IJ n.size n,0) else ([],120)
theorem iK (hb:(IJ n.size n).length<=1000000000) (h:R (.ret (.Bp [.slice 1 (strs (G6 n).1) .any,.int .i64 (G6 n).2])) st):MU 372 [enc n] st R:=by
 refine pB Tryz.func372 ?_
 repeat' ((conv=>whnf);first|(refine LY ?_;intros)|(refine LZ ?_ ?_<;>intro _)|refine ca _ _ ?_|refine Y1 _ n (Nat.le_refl _) [] .full st _ ?_ trivial (λown2 U=>?_))
 all_goals try conv=>whnf
 .show 0+_<=_
  omega
 .have e:G6 n=(IJ n.size n,0):=by simp_all [G6]
  rw [e] at h
  exact ⟨_,st,.inr rfl,AE.Bz U,h⟩
 .have e:G6 n=([],120):=by simp_all [G6]
  rw [e] at h
  exact AY rfl h
end
section
variable {st:St} {R:Au->St->Prop}
theorem UP:∀{l:List Nd},l.length<=AD l
 |[]=>Nat.le_refl _
 |x::r=>by have:=UP (l:=r);have:=size_pos x;rw [AD,List.length_cons];omega
theorem Jr (n:Nd):n.kids.length<n.size:=by
 cases n with
 |mk a b c d e ks=>rw [Nd.size];have:=UP (l:=ks);show ks.length<_;omega
end
theorem SL {q:Nd->List (List UInt8)} {b:Bool}:∀{l:List Nd} {i:Nat},(∀x ∈ l,(q x).length<=x.size)->(Gv q b i l).length<=AD l
 |[],_,_=>by simp [Gv,AD]
 |x::r,i,h=>by
  have:=SL (b:=b) (l:=r) (i:=i+1) λy hy=>h y (List.mem_cons_of_mem _ hy)
  have:=h x List.mem_cons_self
  rw [Gv,List.length_append,AD]
  grind
theorem SM:∀{k:Nat} {n:Nd},(IJ k n).length<=n.size
 |0,n=>Nat.zero_le _
 |k+1,n=>by
  rw [IJ,CU]
  have:=size_pos n
  split
  .grind
  .split
   .simp
   .have:=SL (b:=n.kind==13) (l:=n.kids) (i:=0) (q:=IJ k) λx _=>SM
    cases n with
    |mk a b c d e ks=>rw [Nd.size];show (Gv _ _ 0 ks).length<=_;have:(Gv (IJ k) (a==13) 0 ks).length<=AD ks:=this;show (Gv (IJ k) (a==13) 0 ks).length<=_;omega
section
variable {st:St} {R:Au->St->Prop}
theorem nX (U:n.size<=1000000000) (h:R (.ret (.Bp [.slice 1 (strs (G6 n).1) .any,.int .i64 (G6 n).2])) st):MU 372 [enc n] st R:=
 iK (Nat.le_trans SM U) h
theorem lX {f:Int} {l:Int} {ks:List Nd}:enc (.mk k f t l c ks)=.agg [.int .i64 k,.int .i64 f,.str t,.int .i64 l,.int .i64 c,.slice 6 (ks.map Ax) .any]:=by
 rw [enc,Ax,BK];rfl
end
end Go.Proofs.Z
namespace Go.Proofs
open Go.Shelf
open Go.RowKit in
open Go.RowKit in
def Tryz.YM:Go.Shelf.Ren:=⟨λ|160=>119|232=>159|231=>158|227=>160|234=>162|233=>161|236=>164|235=>163|228=>194|271=>196|151=>195|197=>68|120=>241|152=>240|260=>117|137=>294|119=>295|224=>252|225=>251|217=>250|266=>299|n=>n,λ|9=>9|4=>4|3=>3|5=>5|117=>226|116=>225|0=>0|124=>229|21=>21|105=>105|46=>219|119=>218|139=>222|138=>221|n=>n,λ|3=>1|4=>2|n=>n⟩
theorem Tryz.sI:Go.Proofs.Lays.n160 Tryz.prog Tryz.YM:={
 mixed:=EQ
 f119:=Tryz.func295.trans (congrArg some EQ)
 f120:=Tryz.func241.trans (congrArg some EQ)
 f137:=Tryz.func294.trans (congrArg some EQ)
 f151:=Tryz.func195.trans (congrArg some EQ)
 f152:=Tryz.func240.trans (congrArg some EQ)
 f160:=Tryz.func119.trans (congrArg some EQ)
 f197:=Tryz.func68.trans (congrArg some EQ)
 f217:=Tryz.func250.trans (congrArg some EQ)
 f224:=Tryz.func252.trans (congrArg some EQ)
 f225:=Tryz.func251.trans (congrArg some EQ)
 f227:=Tryz.func160.trans (congrArg some EQ)
 f228:=Tryz.func194.trans (congrArg some EQ)
 f231:=Tryz.func158.trans (congrArg some EQ)
 f232:=Tryz.func159.trans (congrArg some EQ)
 f233:=Tryz.func161.trans (congrArg some EQ)
 f234:=Tryz.func162.trans (congrArg some EQ)
 f235:=Tryz.func163.trans (congrArg some EQ)
 f236:=Tryz.func164.trans (congrArg some EQ)
 f260:=Tryz.func117.trans (congrArg some EQ)
 f266:=Tryz.func299.trans (congrArg some EQ)
 f271:=Tryz.func196.trans (congrArg some EQ)
 t0:=Tryz.underlying0
 a0:=Tryz.isAgg0
 z0:=Tryz.sizeOf0
 v0:=Tryz.zeroValue0
 t3:=Tryz.underlying3
 a3:=Tryz.isAgg3
 z3:=Tryz.sizeOf3
 v3:=Tryz.zeroValue3
 t4:=Tryz.underlying4
 a4:=Tryz.isAgg4
 z4:=Tryz.sizeOf4
 v4:=Tryz.zeroValue4
 t5:=Tryz.underlying5
 a5:=Tryz.isAgg5
 z5:=Tryz.sizeOf5
 v5:=Tryz.zeroValue5
 t9:=Tryz.underlying9
 a9:=Tryz.isAgg9
 z9:=Tryz.sizeOf9
 v9:=Tryz.zeroValue9
 t21:=Tryz.underlying21
 a21:=Tryz.isAgg21
 z21:=Tryz.sizeOf21
 v21:=Tryz.zeroValue21
 t46:=Tryz.underlying219
 a46:=Tryz.isAgg219
 z46:=Tryz.sizeOf219
 v46:=Tryz.zeroValue219
 t105:=Tryz.underlying105
 a105:=Tryz.isAgg105
 z105:=Tryz.sizeOf105
 v105:=Tryz.zeroValue105
 t116:=Tryz.underlying225
 a116:=Tryz.isAgg225
 z116:=Tryz.sizeOf225
 t117:=Tryz.underlying226
 a117:=Tryz.isAgg226
 z117:=Tryz.sizeOf226
 v117:=Tryz.zeroValue226
 t119:=Tryz.underlying218
 a119:=Tryz.isAgg218
 z119:=Tryz.sizeOf218
 t124:=Tryz.underlying229
 a124:=Tryz.isAgg229
 z124:=Tryz.sizeOf229
 v124:=Tryz.zeroValue229
 t138:=Tryz.underlying221
 a138:=Tryz.isAgg221
 z138:=Tryz.sizeOf221
 v138:=Tryz.zeroValue221
 t139:=Tryz.underlying222
 a139:=Tryz.isAgg222
 z139:=Tryz.sizeOf222
 v139:=Tryz.zeroValue222
 g3:=EQ
 g4:=by kernel_rfl}
open Go.RowKit in
theorem Tryz.strings_Trim_one (s:ByteArray) (c:UInt8) (U:c.toNat<128) (w:World) (hs:s.size<=9223372036854775807):
 Calls Tryz.prog 119 #[.string s,.string ⟨#[c]⟩] w λe w'=>e=.returned (.string ⟨(Lib.trimB s.data.toList c).toArray⟩)/\(w'=w\/w'=w.drew):=Any.strings_Trim_one Tryz.sI s c U w hs
def Tryz.YJ:Go.Shelf.Ren:=⟨λ|137=>294|217=>250|266=>299|n=>n,λ|9=>9|5=>5|3=>3|n=>n,λ|n=>n⟩
theorem Tryz.sF:Go.Proofs.Lays.n137 Tryz.prog Tryz.YJ:={
 mixed:=EQ
 f137:=Tryz.func294.trans (congrArg some EQ)
 f217:=Tryz.func250.trans (congrArg some EQ)
 f266:=Tryz.func299.trans (congrArg some EQ)
 t3:=Tryz.underlying3
 a3:=Tryz.isAgg3
 z3:=Tryz.sizeOf3
 v3:=Tryz.zeroValue3
 t5:=Tryz.underlying5
 a5:=Tryz.isAgg5
 z5:=Tryz.sizeOf5
 v5:=Tryz.zeroValue5
 t9:=Tryz.underlying9
 a9:=Tryz.isAgg9
 z9:=Tryz.sizeOf9
 v9:=Tryz.zeroValue9}
open Go.RowKit in
theorem Tryz.strings_IndexByte (s:ByteArray) (c:Int) (w:World):
 Calls Tryz.prog 294 #[.string s,.int .u8 c] w λe w'=>e=.returned (.int .i64 (Lib.indexByte s.data.toList c.toNat.toUInt8))/\w'=w:=Any.strings_IndexByte Tryz.sF s c w
def Tryz.YK:Go.Shelf.Ren:=⟨λ|144=>125|143=>168|219=>204|217=>250|225=>251|224=>252|267=>253|266=>299|314=>300|n=>n,λ|9=>9|4=>4|3=>3|5=>5|46=>219|146=>307|51=>306|n=>n,λ|1=>3|n=>n⟩
theorem Tryz.sG:Go.Proofs.Lays.n144 Tryz.prog Tryz.YK:={
 mixed:=EQ
 f143:=Tryz.func168.trans (congrArg some EQ)
 f144:=Tryz.func125.trans (congrArg some EQ)
 f217:=Tryz.func250.trans (congrArg some EQ)
 f219:=Tryz.func204.trans (congrArg some EQ)
 f224:=Tryz.func252.trans (congrArg some EQ)
 f225:=Tryz.func251.trans (congrArg some EQ)
 f266:=Tryz.func299.trans (congrArg some EQ)
 f267:=Tryz.func253.trans (congrArg some EQ)
 f314:=Tryz.func300.trans (congrArg some EQ)
 t3:=Tryz.underlying3
 a3:=Tryz.isAgg3
 z3:=Tryz.sizeOf3
 v3:=Tryz.zeroValue3
 t4:=Tryz.underlying4
 a4:=Tryz.isAgg4
 z4:=Tryz.sizeOf4
 v4:=Tryz.zeroValue4
 t5:=Tryz.underlying5
 a5:=Tryz.isAgg5
 z5:=Tryz.sizeOf5
 v5:=Tryz.zeroValue5
 t9:=Tryz.underlying9
 a9:=Tryz.isAgg9
 z9:=Tryz.sizeOf9
 v9:=Tryz.zeroValue9
 t46:=Tryz.underlying219
 a46:=Tryz.isAgg219
 z46:=Tryz.sizeOf219
 v46:=Tryz.zeroValue219
 t51:=Tryz.underlying306
 a51:=Tryz.isAgg306
 z51:=Tryz.sizeOf306
 v51:=Tryz.zeroValue306
 t146:=Tryz.underlying307
 a146:=Tryz.isAgg307
 z146:=Tryz.sizeOf307
 v146:=Tryz.zeroValue307
 g1:=by kernel_rfl}
open Go.RowKit Go.Lib in
theorem Tryz.strings_Contains (s sub:ByteArray) (m:Int) (w:World) (hs:s.size<4294967281) (U:w.cell? ⟨3,0,none⟩=some (.int .i64 m)):
 Calls Tryz.prog 125 #[.string s,.string sub] w λe w'=>e=.returned (.bool (Lib.contains s.data.toList sub.data.toList))/\w'=w:=Any.strings_Contains Tryz.sG s sub m w hs U
def Tryz.V0:Go.Shelf.Ren:=⟨λ|15=>44|20=>69|n=>n,λ|9=>9|23=>64|3=>3|4=>4|0=>0|21=>21|n=>n,λ|n=>n⟩
theorem Tryz.ni:Go.Proofs.LaysGw.n15 Tryz.prog Tryz.V0:={
 mixed:=EQ
 f15:=Tryz.func44.trans (congrArg some EQ)
 f20:=Tryz.func69.trans (congrArg some EQ)
 t0:=Tryz.underlying0
 a0:=Tryz.isAgg0
 z0:=Tryz.sizeOf0
 v0:=Tryz.zeroValue0
 i0:=EQ
 t3:=Tryz.underlying3
 a3:=Tryz.isAgg3
 z3:=Tryz.sizeOf3
 v3:=Tryz.zeroValue3
 i3:=EQ
 t4:=Tryz.underlying4
 a4:=Tryz.isAgg4
 z4:=Tryz.sizeOf4
 v4:=Tryz.zeroValue4
 i4:=EQ
 t9:=Tryz.underlying9
 a9:=Tryz.isAgg9
 z9:=Tryz.sizeOf9
 v9:=Tryz.zeroValue9
 i9:=EQ
 t21:=Tryz.underlying21
 a21:=Tryz.isAgg21
 z21:=Tryz.sizeOf21
 v21:=Tryz.zeroValue21
 i21:=EQ
 t23:=Tryz.underlying64
 a23:=Tryz.isAgg64
 z23:=Tryz.sizeOf64
 v23:=Tryz.zeroValue64
 i23:=by kernel_rfl}
def Tryz.bP:Go.Shelf.Ren:=⟨λ|99=>73|206=>118|n=>n,λ|9=>9|4=>4|3=>3|n=>n,λ|n=>n⟩
theorem Tryz.wT:Go.Proofs.Lays.n99 Tryz.prog Tryz.bP:={
 mixed:=EQ
 f99:=Tryz.func73.trans (congrArg some EQ)
 f206:=Tryz.func118.trans (congrArg some EQ)
 t3:=Tryz.underlying3
 a3:=Tryz.isAgg3
 z3:=Tryz.sizeOf3
 v3:=Tryz.zeroValue3
 t4:=Tryz.underlying4
 a4:=Tryz.isAgg4
 z4:=Tryz.sizeOf4
 v4:=Tryz.zeroValue4
 t9:=Tryz.underlying9
 a9:=Tryz.isAgg9
 z9:=Tryz.sizeOf9
 v9:=Tryz.zeroValue9}
open Go.RowKit Go.Lib in
theorem Tryz.strings_HasPrefix (s p:ByteArray) (w:World):
 Calls Tryz.prog 73 #[.string s,.string p] w λe w'=>e=.returned (.bool (Lib.hasPrefix s.data.toList p.data.toList))/\w'=w:=Any.strings_HasPrefix Tryz.wT s p w
def Tryz.YL:Go.Shelf.Ren:=⟨λ|157=>214|229=>258|199=>259|261=>302|311=>335|312=>336|n=>n,λ|9=>9|31=>79|3=>3|5=>5|4=>4|119=>218|0=>0|40=>64|152=>309|21=>21|154=>311|51=>306|141=>313|196=>330|193=>327|198=>333|49=>331|194=>328|201=>336|226=>347|46=>219|227=>348|n=>n,λ|0=>4|6=>5|n=>n⟩
theorem Tryz.sH:Go.Proofs.Lays.n157 Tryz.prog Tryz.YL:={
 mixed:=EQ
 f157:=Tryz.func214.trans (congrArg some EQ)
 f199:=Tryz.func259.trans (congrArg some EQ)
 f229:=Tryz.func258.trans (congrArg some EQ)
 f261:=Tryz.func302.trans (congrArg some EQ)
 f311:=Tryz.func335.trans (congrArg some EQ)
 f312:=Tryz.func336.trans (congrArg some EQ)
 t0:=Tryz.underlying0
 a0:=Tryz.isAgg0
 z0:=Tryz.sizeOf0
 v0:=Tryz.zeroValue0
 t3:=Tryz.underlying3
 a3:=Tryz.isAgg3
 z3:=Tryz.sizeOf3
 v3:=Tryz.zeroValue3
 t4:=Tryz.underlying4
 a4:=Tryz.isAgg4
 z4:=Tryz.sizeOf4
 v4:=Tryz.zeroValue4
 t5:=Tryz.underlying5
 a5:=Tryz.isAgg5
 z5:=Tryz.sizeOf5
 v5:=Tryz.zeroValue5
 t9:=Tryz.underlying9
 a9:=Tryz.isAgg9
 z9:=Tryz.sizeOf9
 v9:=Tryz.zeroValue9
 t21:=Tryz.underlying21
 a21:=Tryz.isAgg21
 z21:=Tryz.sizeOf21
 v21:=Tryz.zeroValue21
 t31:=Tryz.underlying79
 a31:=Tryz.isAgg79
 z31:=Tryz.sizeOf79
 v31:=Tryz.zeroValue79
 t40:=Tryz.underlying64
 a40:=Tryz.isAgg64
 z40:=Tryz.sizeOf64
 v40:=Tryz.zeroValue64
 t46:=Tryz.underlying219
 a46:=Tryz.isAgg219
 z46:=Tryz.sizeOf219
 v46:=Tryz.zeroValue219
 t49:=Tryz.underlying331
 a49:=Tryz.isAgg331
 z49:=Tryz.sizeOf331
 v49:=Tryz.zeroValue331
 t51:=Tryz.underlying306
 a51:=Tryz.isAgg306
 z51:=Tryz.sizeOf306
 v51:=Tryz.zeroValue306
 t119:=Tryz.underlying218
 a119:=Tryz.isAgg218
 z119:=Tryz.sizeOf218
 t141:=Tryz.underlying313
 a141:=Tryz.isAgg313
 z141:=Tryz.sizeOf313
 v141:=Tryz.zeroValue313
 t152:=Tryz.underlying309
 a152:=Tryz.isAgg309
 z152:=Tryz.sizeOf309
 v152:=Tryz.zeroValue309
 t154:=Tryz.underlying311
 a154:=Tryz.isAgg311
 z154:=Tryz.sizeOf311
 v154:=Tryz.zeroValue311
 t193:=Tryz.underlying327
 a193:=Tryz.isAgg327
 z193:=Tryz.sizeOf327
 v193:=Tryz.zeroValue327
 t194:=Tryz.underlying328
 a194:=Tryz.isAgg328
 z194:=Tryz.sizeOf328
 v194:=Tryz.zeroValue328
 t196:=Tryz.underlying330
 a196:=Tryz.isAgg330
 z196:=Tryz.sizeOf330
 v196:=Tryz.zeroValue330
 t198:=Tryz.underlying333
 a198:=Tryz.isAgg333
 z198:=Tryz.sizeOf333
 v198:=Tryz.zeroValue333
 t201:=Tryz.underlying336
 a201:=Tryz.isAgg336
 z201:=Tryz.sizeOf336
 v201:=Tryz.zeroValue336
 t226:=Tryz.underlying347
 a226:=Tryz.isAgg347
 z226:=Tryz.sizeOf347
 v226:=Tryz.zeroValue347
 t227:=Tryz.underlying348
 a227:=Tryz.isAgg348
 z227:=Tryz.sizeOf348
 v227:=Tryz.zeroValue348
 g0:=EQ
 g6:=by kernel_rfl}
open Go.RowKit Go.Lib in
theorem Tryz.strings_Fields (s : ByteArray) (w : World) (hs : s.size < 4294967281) (U : ∀ (j : Nat) b, s.data.toList[j]? = some b -> b.toNat < 128) (htab : Lib.TabIs Tryz.prog w "strings.asciiSpace" .u8 Lib.asciiSpaceTab) :
 Calls Tryz.prog 214 #[.string s] w λe w'=>
  e=.returned (.slice (some ⟨w.heap.size,0,none⟩) (Lib.fields s.data.toList).length (Lib.fields s.data.toList).length)/\w'=w.alloc (.cells ((Lib.fields s.data.toList).map λl=>Value.string ⟨l.toArray⟩).toArray 9):=Any.strings_Fields Tryz.sH EQ EQ s w hs U htab
def Tryz.YN:Go.Shelf.Ren:=⟨λ|197=>68|260=>117|n=>n,λ|9=>9|21=>21|3=>3|4=>4|5=>5|105=>105|119=>218|0=>0|46=>219|139=>222|138=>221|n=>n,λ|3=>1|4=>2|n=>n⟩
theorem Tryz.sJ:Go.Proofs.Lays.n197 Tryz.prog Tryz.YN:={
 mixed:=EQ
 f197:=Tryz.func68.trans (congrArg some EQ)
 f260:=Tryz.func117.trans (congrArg some EQ)
 t0:=Tryz.underlying0
 a0:=Tryz.isAgg0
 z0:=Tryz.sizeOf0
 v0:=Tryz.zeroValue0
 t3:=Tryz.underlying3
 a3:=Tryz.isAgg3
 z3:=Tryz.sizeOf3
 v3:=Tryz.zeroValue3
 t4:=Tryz.underlying4
 a4:=Tryz.isAgg4
 z4:=Tryz.sizeOf4
 v4:=Tryz.zeroValue4
 t5:=Tryz.underlying5
 a5:=Tryz.isAgg5
 z5:=Tryz.sizeOf5
 v5:=Tryz.zeroValue5
 t9:=Tryz.underlying9
 a9:=Tryz.isAgg9
 z9:=Tryz.sizeOf9
 v9:=Tryz.zeroValue9
 t21:=Tryz.underlying21
 a21:=Tryz.isAgg21
 z21:=Tryz.sizeOf21
 v21:=Tryz.zeroValue21
 t46:=Tryz.underlying219
 a46:=Tryz.isAgg219
 z46:=Tryz.sizeOf219
 v46:=Tryz.zeroValue219
 t105:=Tryz.underlying105
 a105:=Tryz.isAgg105
 z105:=Tryz.sizeOf105
 v105:=Tryz.zeroValue105
 t119:=Tryz.underlying218
 a119:=Tryz.isAgg218
 z119:=Tryz.sizeOf218
 t138:=Tryz.underlying221
 a138:=Tryz.isAgg221
 z138:=Tryz.sizeOf221
 v138:=Tryz.zeroValue221
 t139:=Tryz.underlying222
 a139:=Tryz.isAgg222
 z139:=Tryz.sizeOf222
 v139:=Tryz.zeroValue222
 g3:=EQ
 g4:=by kernel_rfl}
open Go.RowKit Go.Lib in
theorem Tryz.utf8_DecodeRuneInString (s:ByteArray) (w:World) (U:Lib.Utf8Tabs 1 2 w):
 Calls Tryz.prog 68 #[.string s] w λe w'=>e=.returned (.tuple #[.int .i32 (Lib.decodeGo s).1,.int .i64 (Lib.decodeGo s).2])/\Below w.heap.size w w':=Any.utf8_DecodeRuneInString Tryz.sJ s w U
open Go.RowKit Go.Lib in
theorem Tryz.strings_IndexFunc_grows (g:Nat) (U:Array Value) (eg:∀args w,(callFunc g args).run Tryz.prog w=.ok (.enter g args) w) (p:Nat->Bool) (s:ByteArray) (w:World) (hp:PredGrows Tryz.prog g U p w):
 Calls Tryz.prog 44 #[.string s,.func (.func g) #[] U] w λe w'=>e=.returned (.int .i64 (Lib.idxFunc p true s))/\Below w.heap.size w w':=Any.strings_IndexFunc_grows Tryz.ni g U eg p s w hp
end Go.Proofs
namespace Go.Aw
open Go
theorem Cv.below {st:St} {w w':World} (h:Cv I st w) (b:RowKit.Below w.heap.size w w'):Fr I st w I st w'/\Cv I st w':=by
 refine ⟨⟨b.os,b.tape,b.output,b.size,λx hx _ _=>b.block x hx,Mem.le_refl _,λ_ _ h k=>absurd h k,λ_ h k=>absurd h k,λ_ h=>.inr h⟩,?_,?_,?_,h.Iz,?_,h.T0⟩
 .intro x o v e
  have e:=h.cell x o v e
  rw [Hi (b.block x (MD e))];exact e
 .intro x n e
  obtain ⟨c,ty,U,h2⟩:=h.shape x n e
  exact ⟨c,ty,by rw [b.block x (Gt U)];exact U,h2⟩
 .intro x cs e
  obtain ⟨vs,ty,U,h2⟩:=h.box x cs e
  exact ⟨vs,ty,by rw [b.block x (Gt U)];exact U,h2⟩
 .intro x n e
  exact ⟨Nat.lt_of_lt_of_le (h.hw x n e).1 b.size,(h.hw x n e).2⟩
theorem Dh {P:Program} {args:List V} {st:St} (hf:Plain P f) (v:V)
 (h:∀(I:Mem) (w:World) (U:List Value),Cv I st w->Ao I args U->Calls P f U.toArray w λe w'=>(∃c,e=.returned c/\AM I v c)/\RowKit.Below w.heap.size w w')
 (k:R (.ret v) st):Ba P f args st R:=
 ⟨λI w U hs ha=>(h I w U hs ha).mono λe w' ⟨⟨c,he,hc⟩,hb⟩=>⟨I,st,.ret v,(hs.below hb).1,(hs.below hb).2,by subst he;exact hc,k⟩,hf⟩
theorem Cv.row {st:St} {w:World} (h:Cv I st w) (vs:List Value) (ty:TypeId):
 Fr I st w (I.add w.heap.size 0 vs vs.length) st (w.alloc (.cells vs.toArray ty))/\Cv (I.add w.heap.size 0 vs vs.length) st (w.alloc (.cells vs.toArray ty))/\I.le (I.add w.heap.size 0 vs vs.length):=by
 have hr:Rel [] I st w I (λ_=>none) {tmps:=[],boxes:=[],Bs:=0,sz:=0,gl:=[]} st {tmps:=#[],defers:=[]} w:=
  NU h rfl (λt v e=>by cases e) rfl rfl
 have h1:=hr.newRow vs [] ty
 rw [List.append_nil,List.length_nil,Nat.add_zero] at h1
 have U:=h1.Hs (St.Fk (St.le_refl st) (DF h).2 vs.length)
 exact ⟨U.fr,U.s,U.fr.le⟩
theorem oW {n:Nat} (l:List (List UInt8)) (hl:∀x ∈ l,x.length<DG) (hn:l.length<DG)
 (hle:I.le (I.add b 0 (l.map λx=>Value.string ⟨x.toArray⟩) n)):
 AM (I.add b 0 (l.map λx=>Value.string ⟨x.toArray⟩) n) (.slice 1 (l.map λx=>[.str x]) .any) (.slice (some ⟨b,0,none⟩) l.length l.length):=by
 simp only [AM]
 refine ⟨some ⟨b,0,none⟩,l.length,GT,GT,i7,Do,trivial,.inr rfl,?_⟩
 refine Cq.add _ (l.map λx=>Value.string ⟨x.toArray⟩) 0 ?_ hle (λj c U=>Mem.Mi U)
 clear hle hn
 induction l with
 |nil=>rfl
 |cons a r ih=>
  simp only [List.map_cons,Cc]
  refine ⟨[Value.string ⟨a.toArray⟩],r.map λx=>Value.string ⟨x.toArray⟩,rfl,rfl,?_,ih λx hx=>hl x (List.mem_cons_of_mem _ hx)⟩
  simp only [Ao,AM]
  simp_all
end Go.Aw
namespace Go.Proofs.Z
open Go Go.Aw
def Ya (s:List UInt8):Int×Int:=match s with
 |[]=>(65533,0)
 |a::r=>(((AU (a::r)).1:Nat),((AU (a::r)).2:Nat))
theorem PI (s:List UInt8):(((Lib.decodeGo ⟨s.toArray⟩).1:Nat):Int)=(Ya s).1/\(((Lib.decodeGo ⟨s.toArray⟩).2:Nat):Int)=(Ya s).2:=by
 cases s with
 |nil=>exact ⟨rfl,rfl⟩
 |cons a r=>
  have U:¬(⟨(a::r).toArray⟩:ByteArray).size=0:=by show ¬(a::r).toArray.size=0;simp
  unfold Lib.decodeGo
  rw [if_neg U,Vq GT,List.drop_zero]
  exact ⟨rfl,rfl⟩
section
variable {st:St} {R:Au->St->Prop}
theorem uX (h:R (.ret (.Bp [.int .i32 (Ya s).1,.int .i64 (Ya s).2])) st):PC 68 [.str s] st R:=by
 refine Dh ⟨_,Tryz.func68,Do,Do⟩ _ (λI w cargs U ha=>?_) h
 simp only [Ao,AM] at ha
 obtain ⟨c,r,rfl,⟨rfl,hl⟩,rfl⟩:=ha
 refine (Tryz.utf8_DecodeRuneInString ⟨s.toArray⟩ w ⟨λi hi=>U.cell _ _ _ (U.T0.first i hi),λi hi=>⟨U.cell _ _ _ (U.T0.accept i hi).1,U.cell _ _ _ (U.T0.accept i hi).2⟩⟩).mono λe w' ⟨he,hb⟩=>⟨⟨_,he,?_⟩,hb⟩
 rw [(PI s).1,(PI s).2]
 simp only [AM,Ao]
 exact ⟨_,rfl,_,_,rfl,rfl,_,_,rfl,rfl,rfl⟩
theorem Jk {p:List UInt8} (h:R (.ret (.bool (p.isPrefixOf s))) st):PC 73 [.str s,.str p] st R:=by
 refine Dh ⟨_,Tryz.func73,Do,Do⟩ _ (λI w U hs ha=>?_) h
 simp only [Ao,AM] at ha
 obtain ⟨c,r,rfl,⟨rfl,hl⟩,c2,r2,rfl,⟨rfl,hl2⟩,rfl⟩:=ha
 refine (Tryz.strings_HasPrefix ⟨s.toArray⟩ ⟨p.toArray⟩ w).mono λe w' ⟨he,hw⟩=>⟨⟨_,he,?_⟩,hw ▸ RowKit.Below.refl _ _⟩
 simp only [AM]
 rfl
theorem xU {c:UInt8} (hc:c.toNat<128) (h:R (.ret (.str (Lib.trimB s c))) st):PC 119 [.str s,.str [c]] st R:=by
 refine Dh ⟨_,Tryz.func119,Do,Do⟩ _ (λI w U hs ha=>?_) h
 simp only [Ao,AM] at ha
 obtain ⟨c1,r,rfl,⟨rfl,hl⟩,c2,r2,rfl,⟨rfl,hl2⟩,rfl⟩:=ha
 have hsz:(⟨s.toArray⟩:ByteArray).size<=9223372036854775807:=by show s.toArray.size<=_;unfold DG at hl;simp;omega
 refine (Tryz.strings_Trim_one ⟨s.toArray⟩ c hc w hsz).mono λe w' ⟨he,hw⟩=>⟨⟨_,he,?_⟩,?_⟩
 .simp only [AM]
  refine ⟨trivial,?_⟩
  have:(Lib.trimB s c).length<=s.length:=by
   unfold Lib.trimB Lib.trimLeftB Lib.trimRightB
   refine Nat.le_trans (List.dropWhile_sublist _).length_le ?_
   rw [List.length_reverse]
   refine Nat.le_trans (List.dropWhile_sublist _).length_le ?_
   simp
  unfold DG at hl |-;omega
 .rcases hw with rfl|rfl
  .exact RowKit.Below.refl _ _
  .exact (RowKit.Below.refl _ _).drew
theorem wg {c:UInt8} (h:R (.ret (.int .i64 (Lib.indexByte s c))) st):PC 294 [.str s,.int .u8 c.toNat] st R:=by
 refine Dh ⟨_,Tryz.func294,Do,Do⟩ _ (λI w U hs ha=>?_) h
 simp only [Ao,AM] at ha
 obtain ⟨c1,r,rfl,⟨rfl,hl⟩,c2,r2,rfl,rfl,rfl⟩:=ha
 refine (Tryz.strings_IndexByte ⟨s.toArray⟩ c.toNat w).mono λe w' ⟨he,hw⟩=>⟨⟨_,he,?_⟩,hw ▸ RowKit.Below.refl _ _⟩
 simp [AM]
theorem aQ (hz:s.length<4294967281) (h:R (.ret (.bool (Lib.contains s t))) st):PC 125 [.str s,.str t] st R:=by
 refine Dh ⟨_,Tryz.func125,Do,Do⟩ _ (λI w U hs ha=>?_) h
 simp only [Ao,AM] at ha
 obtain ⟨c1,r,rfl,⟨rfl,hl⟩,c2,r2,rfl,⟨rfl,hl2⟩,rfl⟩:=ha
 obtain ⟨m,hm⟩:=hs.T0.maxLen
 refine (Tryz.strings_Contains ⟨s.toArray⟩ ⟨t.toArray⟩ m w (by show s.toArray.size<_;simpa using hz) (hs.cell _ _ _ hm)).mono λe w' ⟨he,hw⟩=>⟨⟨_,he,?_⟩,hw ▸ RowKit.Below.refl _ _⟩
 simp [AM]
end
end Go.Proofs.Z
namespace Go.Aw
open Go
noncomputable def Env.Mk (env:Env) (U:List (Nat×V)) (bx:List (Nat×List V)) (keep kb:List Nat):Env:=match env with
 |⟨ts,bs,n,sz,gl⟩=>⟨Env.ts ⟨ts,bs,n,sz,gl⟩ U keep,List.rec (motive:=λ_=>List (Nat×List V)) (Env.bx ⟨ts,bs,n,sz,gl⟩ kb) (λp _ ih=>p::ih) bx,n,sz,gl⟩
theorem SG {st:St} (f:α->List (Nat×V)) (g:α->List (Nat×List V)) (keep kb:List Nat) (S:α->St) (J:α->Prop) (U:α->Nat) (x0:α) (h0:J x0)
 (he:(env.Mk (f x0) (g x0) keep kb).E4 env) (hs:St.le (S x0) st)
 (hb:∀x,J x->ih (BW (λenv' st'=>∃y,J y/\U y<U x/\(env.Mk (f y) (g y) keep kb).E4 env'/\St.le (S y) st') Q) (env.Mk (f x) (g x) keep kb) (S x)):
 ∃(α:Type) (E:α->Env) (S:α->St) (J:α->Prop) (U:α->Nat) (x0:α),J x0/\(E x0).E4 env/\St.le (S x0) st/\
  ∀x,J x->ih (BW (λenv' st'=>∃y,J y/\U y<U x/\(E y).E4 env'/\St.le (S y) st') Q) (E x) (S x):=
 ⟨α,λk=>env.Mk (f k) (g k) keep kb,S,J,U,x0,h0,he,hs,hb⟩
theorem bY {st:St} (f:α->β->List (Nat×V)) (g:α->β->List (Nat×List V)) (keep kb:List Nat) (S:α->β->St) (J:α->β->Prop) (U:α->β->Nat) (x0:α) (y0:β) (h0:J x0 y0)
 (he:(env.Mk (f x0 y0) (g x0 y0) keep kb).E4 env) (hs:St.le (S x0 y0) st)
 (hb:∀x y,J x y->ih (BW (λenv' st'=>∃p:α×β,J p.1 p.2/\U p.1 p.2<U x y/\(env.Mk (f p.1 p.2) (g p.1 p.2) keep kb).E4 env'/\St.le (S p.1 p.2) st') Q) (env.Mk (f x y) (g x y) keep kb) (S x y)):
 ∃(α:Type) (E:α->Env) (S:α->St) (J:α->Prop) (U:α->Nat) (x0:α),J x0/\(E x0).E4 env/\St.le (S x0) st/\
  ∀x,J x->ih (BW (λenv' st'=>∃y,J y/\U y<U x/\(E y).E4 env'/\St.le (S y) st') Q) (E x) (S x):=
 ⟨α×β,λp=>env.Mk (f p.1 p.2) (g p.1 p.2) keep kb,λp=>S p.1 p.2,λp=>J p.1 p.2,λp=>U p.1 p.2,(x0,y0),h0,he,hs,λp h=>hb p.1 p.2 h⟩
theorem V3 {st:St} {γ:Type} (f:α->β->γ->List (Nat×V)) (g:α->β->γ->List (Nat×List V)) (keep kb:List Nat) (S:α->β->γ->St) (J:α->β->γ->Prop) (U:α->β->γ->Nat) (x0:α) (y0:β) (z0:γ) (h0:J x0 y0 z0)
 (he:(env.Mk (f x0 y0 z0) (g x0 y0 z0) keep kb).E4 env) (hs:St.le (S x0 y0 z0) st)
 (hb:∀x y z,J x y z->ih (BW (λenv' st'=>∃p:α×β×γ,J p.1 p.2.1 p.2.2/\U p.1 p.2.1 p.2.2<U x y z/\(env.Mk (f p.1 p.2.1 p.2.2) (g p.1 p.2.1 p.2.2) keep kb).E4 env'/\St.le (S p.1 p.2.1 p.2.2) st') Q) (env.Mk (f x y z) (g x y z) keep kb) (S x y z)):
 ∃(α:Type) (E:α->Env) (S:α->St) (J:α->Prop) (U:α->Nat) (x0:α),J x0/\(E x0).E4 env/\St.le (S x0) st/\
  ∀x,J x->ih (BW (λenv' st'=>∃y,J y/\U y<U x/\(E y).E4 env'/\St.le (S y) st') Q) (E x) (S x):=
 ⟨α×β×γ,λp=>env.Mk (f p.1 p.2.1 p.2.2) (g p.1 p.2.1 p.2.2) keep kb,λp=>S p.1 p.2.1 p.2.2,λp=>J p.1 p.2.1 p.2.2,λp=>U p.1 p.2.1 p.2.2,(x0,y0,z0),h0,he,hs,λp h=>hb p.1 p.2.1 p.2.2 h⟩
theorem B5 {k:IntKind} {a b:Int} (e:a=b):Au.ret (.int k a)=Au.ret (.int k b):=by rw [e]
theorem WJ {n:Nat} {p:Prop} (k:n<4611686018427387904->p):n<DG->p:=k
theorem WK {l:List UInt8} {K:Nat->Nat->Prop} (k:∀c m,(c,m)=AU l->K c m):∀c m,(c,m)=AU l->K c m:=k
theorem WN {a:Int} {K:List UInt8->Prop} (U:0<=a) (h1:a<=s.length) (k:K (s.drop a.toNat)):
 (0<=a/\a<=(s.length:Int)/\(s.length:Int)<=s.length)/\∀s',s'=(s.take (s.length:Int).toNat).drop a.toNat->K s':=
 ⟨⟨U,h1,Int.le_refl _⟩,λs' e=>by
   simp_all⟩
theorem WO {b:Int} {K:List UInt8->Prop} (U:0<=b) (h1:b<=s.length) (k:K (s.take b.toNat)):
 ((0:Int)<=0/\0<=b/\b<=s.length)/\∀s',s'=(s.take b.toNat).drop (0:Int).toNat->K s':=
 ⟨⟨Int.le_refl _,U,h1⟩,λs' e=>by
   simp_all⟩
theorem WP {a b:Int} {K:List UInt8->Prop} (U:0<=a) (h1:a<=b) (h2:b<=s.length) (k:K ((s.take b.toNat).drop a.toNat)):
 (0<=a/\a<=b/\b<=s.length)/\∀s',s'=(s.take b.toNat).drop a.toNat->K s':=⟨⟨U,h1,h2⟩,λs' e=>e ▸ k⟩
theorem WM {K:UInt8->Prop} (U:0<=i) (h1:i<s.length) (k:∀e,s[i.toNat]? =some e->K e):0<=i/\∃e,s[i.toNat]? =some e/\K e:=i7
theorem WL {e:UInt8} {K:UInt8->Prop} (h:s[i.toNat]? =some e) (U:0<=i) (k:K e):0<=i/\∃e,s[i.toNat]? =some e/\K e:=⟨U,e,h,k⟩
theorem DA (h:P:=by with_reducible first|(show _/\_;first|exact Wa)|(show Bn _ _ _;first|exact Wb|exact Wc)|fail):P:=h
theorem B7 {A:Prop} (k:A) (h:A->P:=by intro k;with_reducible first|(show _/\_;first|exact Wd EQ k|exact Wm ‹_› AC k|exact Wn AC AC k|exact Wo AC AC k|exact Wp AC AC AC k|exact Wr Do AC AC k|exact Ws Do k|exact WB ‹_› AC k|exact WC AC AC k|exact WD AC AC k|exact WE AC AC AC k|exact WL ‹_› AC k|exact WM AC AC k|exact WN AC AC k|exact WO AC AC k|exact WP AC AC AC k)|(show Bn _ _ _;first|exact Wt H9 k|exact Wu H9 k|exact Wv AC k|exact Ww AC k|exact Wi k|exact Wj k)|(intro x y z;exact Wl k x y z)|(intro x y z;exact Wz k x y z)|(intro x y z;exact WA k x y z)|(intro x;exact WJ k x)|(intro x y z;exact WK k x y z)|(show Exists _;first|exact Wq AC AC k)|fail):P:=h k
theorem DB {B C:V->Prop} (k:V) (l:B k) (m:C k) (h:∀k,B k->C k->P:=by intro k l m;with_reducible first|(show Exists _;first|exact We k l m|exact W8 GE k l m|exact W0 GE k l m|exact W9 k l m)|fail):P:=h k l m
theorem B8 {A B:Prop} (k:A) (l:B) (h:A->B->P:=by intro k l;with_reducible first|(show Bn _ _ _;first|exact Wf Do k l|exact Wg k l|exact Wh k l|exact Wk k l)|fail):P:=h k l
theorem Yc4 {A B:Prop} (k:A) (l:B) (h:A->B->P:=by intro k l;with_reducible first|(intro x y;exact Wx k l x y)|(intro x y;exact Wy k l x y)|fail):P:=h k l
def Hg (c:Int):Int:=
 if c=40\/c=41\/c=44\/c=59\/c=91\/c=93\/c=96\/c=123\/c=125 then 6
 else if c=34\/c=39 then 7
 else if 32<c/\c<127 then 5
 else 0
def M5 (c:Int):Int:=
 if c=215\/c=247 then 5
 else if 223<=c/\c<=255\/945<=c/\c<=969 then 2
 else if 192<=c/\c<=222\/913<=c/\c<=937/\c≠930 then 3
 else if c<160\/c=173\/55296<=c/\c<=57343\/1114111<c then 0
 else if 160<c/\c<=191\/8592<=c/\c<=8959 then 5
 else 8
def AP (c:Int):Int:=
 if c=32\/9<=c/\c<=13 then 1
 else if 48<=c/\c<=57 then 4
 else if 97<=c/\c<=122\/c=95 then 2
 else if 65<=c/\c<=90 then 3
 else if c<128 then Hg c else M5 c
def BS (c base:Int):Int:=
 let v:=if 48<=c/\c<=57 then c - 48 else if 97<=c/\c<=102 then c - 87 else if 65<=c/\c<=70 then c - 55 else 16
 if base<2\/16<base\/base<=v then -1 else v
theorem Ev (l:List UInt8):1<=(AU l).2:=by
 unfold AU
 grind
theorem Hj {l:List UInt8} (h:l≠[]):(AU l).2<=l.length:=by
 cases l with
 |nil=>simp_all
 |cons a l=>
  have U:∀k:Nat,(match l[k]? with|some b=>b.toNat / 64==2|none=>false)=true->k+2<=(a::l).length:=λk e=>by grind
  unfold AU
  grind
def BB (p:Nat×Nat->Bool) (l:List UInt8):Nat:=
 match l with
 |[]=>0
 |a::r=>if p (AU (a::r)) then (AU (a::r)).2+BB p ((a::r).drop (AU (a::r)).2) else 0
termination_by l.length
decreasing_by
 have:=Ev (a::r)
 grind
theorem EU (p:Nat×Nat->Bool):BB p []=0:=by rw [BB]
theorem CC {p:Nat×Nat->Bool} {l:List UInt8} (h:l≠[]) (U:p (AU l)=true):BB p l=(AU l).2+BB p (l.drop (AU l).2):=by
 cases l with
 |nil=>simp_all
 |cons a r=>rw [BB,if_pos U]
theorem Fq {p:Nat×Nat->Bool} {l:List UInt8} (U:p (AU l)=false):BB p l=0:=by
 cases l with
 |nil=>exact EU p
 |cons a r=>rw [BB,if_neg i7]
theorem K2 (p:Nat×Nat->Bool) (l:List UInt8):BB p l<=l.length:=by
 fun_induction BB p l with
 |case1=>omega
 |case2 a r h U=>
  have:=Hj (l:=a::r) GT
  grind
 |case3 a r h=>omega
theorem cV (p:Nat×Nat->Bool) (l:List UInt8) (h:BB p l<l.length):p (AU (l.drop (BB p l)))=false:=by
 fun_induction BB p l with
 |case1=>simp at h
 |case2 a r U ih=>
  rw [List.length_drop] at ih
  have:=Hj (l:=a::r) GT
  rw [<-List.drop_drop]
  grind
 |case3 a r U=>simp_all
def B3 (p:Int->Bool) (l:List UInt8):Nat:=BB (λd=>p (d.1:Nat)) l
theorem US (p:Int->Bool):B3 p []=0:=EU _
theorem jq {p:Int->Bool} {l:List UInt8} (h:l≠[]) (U:p ((AU l).1:Nat)=true):B3 p l=(AU l).2+B3 p (l.drop (AU l).2):=CC h U
theorem Tm {p:Int->Bool} {l:List UInt8} (U:p ((AU l).1:Nat)=false):B3 p l=0:=Fq U
theorem Gc (p:Int->Bool) (l:List UInt8):B3 p l<=l.length:=K2 _ l
theorem Tn (p:Int->Bool) (l:List UInt8) (h:B3 p l<l.length):p ((AU (l.drop (B3 p l))).1:Nat)=false:=cV _ l h
theorem rune_le {c:Nat} (h:pos<t.length) (hd:(c,m)=AU (t.drop pos)):pos+m<=t.length/\1<=m:=by
 have U:=Ev (t.drop pos)
 have h2:=Hj (l:=t.drop pos) (λe=>by have:=congrArg List.length e;grind)
 grind
theorem Q2 {p:Nat×Nat->Bool} {c n:Nat} (h:pos<t.length) (hd:(c,m)=AU (t.drop pos)) (U:p (c,m)=true) (hi:n=pos+BB p (t.drop pos)):n=pos+m+BB p (t.drop (pos+m)):=by
 rw [hi,CC (λe=>by have:=congrArg List.length e;grind) i7,<-hd,List.drop_drop]
 grind
theorem Xt {p:Nat×Nat->Bool} {c n:Nat} (hd:(c,m)=AU (t.drop pos)) (U:p (c,m)=false) (hi:n=pos+BB p (t.drop pos)):n=pos:=by
 rw [hi,Fq i7];rfl
theorem To {p:Nat×Nat->Bool} {n:Nat} (h:¬pos<t.length) (hi:n=pos+BB p (t.drop pos)):n=pos:=by
 rw [hi,List.drop_eq_nil_iff.2 AC,EU];rfl
def Dk (d:Nat×Nat):Bool:= !(d.1==65533&&d.2==1)
end Go.Aw
namespace Go.Proofs.Z
open Go Go.Aw
def NS (s:List UInt8) (i:Int):Int×Int:=if i<0\/s.length<=i then (0,0) else Ya (s.drop i.toNat)
def tL (s:List UInt8) (i U:Int):Int:=if i<0\/s.length<i then 0 else i+B3 (λc=>AP c==U) (s.drop i.toNat)
def Nb (s:List UInt8):Int×Int:=if BB Dk s<s.length then (BB Dk s,10) else (s.length,0)
theorem UC (h:i<0\/s.length<=i):NS s i=(0,0):=if_pos h
theorem NT (h:0<=i) (k:i<s.length):NS s i=Ya (s.drop i.toNat):=if_neg AC
theorem pq (h:i<0\/s.length<i):tL s i k=0:=if_pos h
theorem QX (h:0<=i) (U:i<=s.length):tL s i k=i+B3 (λc=>AP c==k) (s.drop i.toNat):=if_neg AC
theorem dI (h:s≠[]):Ya s=((((AU s).1:Nat):Int),(((AU s).2:Nat):Int)):=by
 cases s with
 |nil=>exact absurd rfl h
 |cons a r=>rfl
theorem QC {c:Nat} (h:pos<s.length) (hd:(c,m)=AU (s.drop pos)):Ya (s.drop (pos:Int).toNat)=((c:Int),(m:Int)):=by
 rw [show (pos:Int).toNat=pos by omega,dI (λe=>by have:=congrArg List.length e;rw [List.length_drop,List.length_nil] at this;omega),<-hd]
theorem lu (h:pos<s.length) (k:BB Dk s=pos):Nb s=(((pos:Nat):Int),10):=by
 unfold Nb;rw [k,if_pos h]
theorem rk (h:¬pos<s.length) (k:BB Dk s=pos):Nb s=((s.length:Int),0):=by
 unfold Nb;rw [k,if_neg h]
section
variable {st:St} {R:Au->St->Prop}
theorem xa (h:R (.ret (.int .i64 (Hg c))) st):PC 70 [.int .i32 c] st R:=by
 refine pB Tryz.func70 ?_
 repeat' ((conv=>whnf);first|(refine B7 ?_;intros)|(refine B8 ?_ ?_<;>intro _)|fail)
 all_goals exact fin h (B5 (by unfold Hg;(repeat' split)<;>first|omega|rfl))
theorem kV (h:R (.ret (.int .i64 (M5 c))) st):PC 71 [.int .i32 c] st R:=by
 refine pB Tryz.func71 ?_
 repeat' ((conv=>whnf);first|(refine B7 ?_;intros)|(refine B8 ?_ ?_<;>intro _)|fail)
 all_goals exact fin h (B5 (by unfold M5;(repeat' split)<;>first|omega|rfl))
theorem Ld (h:R (.ret (.int .i64 (AP c))) st):PC 46 [.int .i32 c] st R:=by
 refine pB Tryz.func46 ?_
 repeat' ((conv=>whnf);first|(refine B7 ?_;intros)|(refine B8 ?_ ?_<;>intro _)|refine xa ?_|refine kV ?_)
 all_goals exact fin h (B5 (by unfold AP;(repeat' split)<;>first|omega|rfl))
theorem oh (U:s.length<4611686018427387904) (h:R (.ret (.Bp [.int .i32 (NS s i).1,.int .i64 (NS s i).2])) st):PC 105 [.str s,.int .i64 i] st R:=by
 refine pB Tryz.func105 ?_
 repeat' ((conv=>whnf);first|(refine B7 ?_;intros)|(refine B8 ?_ ?_<;>intro _)|refine uX ?_)
 all_goals exact fin h (by first|rw [UC AC]|rw [NT AC AC])
theorem vz (hl:s.length<4611686018427387904) (h:R (.ret (.int .i64 (tL s i k))) st):PC 72 [.str s,.int .i64 i,.int .i64 k] st R:=by
 refine pB Tryz.func72 ?_
 repeat' ((conv=>whnf);first|(refine B7 ?_;intros)|(refine B8 ?_ ?_<;>intro _)|refine Ld ?_)
 all_goals try exact fin h (B5 (pq AC))
 have hlen:(s.drop i.toNat).length=s.length - i.toNat:=List.length_drop
 generalize ht:s.drop i.toNat=t at hlen
 refine SG (α:=Nat) (λ_=>[]) (λpos=>[(0,[.Ql t pos])]) [0,1,2,20] [] (λ_=>st) (λpos=>pos<=t.length/\B3 (λc=>AP c==k) t=pos+B3 (λc=>AP c==k) (t.drop pos)) (λpos=>t.length - pos) 0 ⟨Nat.zero_le _,GT⟩ Yl (St.le_refl _) ?_
 rintro pos ⟨hp,hi⟩
 repeat' ((conv=>whnf);first|(refine B7 ?_;intros)|(refine B8 ?_ ?_<;>intro _)|refine Ld ?_)
 .rename_i U c m hd hk
  have hr:=rune_le U hd
  conv=>whnf
  exact ⟨pos+m,⟨hr.1,Q2 U hd (beq_iff_eq.2 hk) hi⟩,AC,Yl,St.le_refl _⟩
 .rename_i U c m hd hk
  have:=Xt (p:=λd=>AP (d.1:Nat)==k) hd (beq_eq_false_iff_ne.2 hk) hi
  exact fin h (B5 (by rw [QX AC AC,ht,this]))
 .rename_i U hls
  have:=To U hi
  exact fin h (B5 (by rw [QX AC AC,ht,this];omega))
theorem Vl (h:R (.ret (.Bp [.int .i64 (Nb s).1,.int .i64 (Nb s).2])) st):PC 43 [.str s] st R:=by
 refine pB Tryz.func43 ?_
 repeat' ((conv=>whnf);first|(refine B7 ?_;intros)|(refine B8 ?_ ?_<;>intro _)|fail)
 refine SG (α:=Nat) (λ_=>[]) (λpos=>[(0,[.Ql s pos])]) [0,9] [] (λ_=>st) (λpos=>pos<=s.length/\BB Dk s=pos+BB Dk (s.drop pos)) (λpos=>s.length - pos) 0 ⟨Nat.zero_le _,GT⟩ Yl (St.le_refl _) ?_
 rintro pos ⟨hp,hi⟩
 repeat' ((conv=>whnf);first|(refine B7 ?_;intros)|(refine B8 ?_ ?_<;>intro _)|refine uX ?_)
 .rename_i U c m hd hc hm
  rw [QC U hd] at hm
  have hk:=Xt hd (by simp only [Dk];have h1:c=65533:=hc;have h2:m=1:=Int.ofNat.inj hm;rw [h1,h2];rfl) hi
  exact fin h (by rw [lu U hk])
 .rename_i U c m hd hc hm
  rw [QC U hd] at hm
  have hr:=rune_le U hd
  conv=>whnf
  exact ⟨pos+m,⟨hr.1,Q2 U hd (by simp only [Dk];have:¬m=1:=λe=>hm (by subst e;rfl);simp [this]) hi⟩,AC,Yl,St.le_refl _⟩
 .rename_i U c m hd hc
  have hr:=rune_le U hd
  conv=>whnf
  exact ⟨pos+m,⟨hr.1,Q2 U hd (by simp only [Dk];have:¬c=65533:=hc;simp [this]) hi⟩,AC,Yl,St.le_refl _⟩
 .rename_i U hls
  exact fin h (by rw [rk U (To U hi)])
end
end Go.Proofs.Z
namespace Go.Aw
open Go
def A1:List UInt8->Int
 |[]=> -1
 |a::_=>(a.toNat:Nat)
theorem mH (l:List UInt8): -1<=A1 l/\A1 l<=255:=by
 cases l with
 |nil=>exact ⟨Do,Do⟩
 |cons a r=>have:=a.toNat_lt;simp only [A1];omega
def H3 (l:List UInt8):Nat:=if A1 l=13/\A1 (l.drop 1)=10 then 2 else if A1 l=13\/A1 l=10\/A1 l=12 then 1 else 0
def ZR (Cg:Int):Int:=(Cg - 1) / 8*8+9
def A3 (l:List UInt8):Nat:=if 0<H3 l then H3 l else (AU l).2
def E1 (l:List UInt8) (line:Int):Int:=if 0<H3 l then line+1 else line
def Gd (l:List UInt8) (Cg:Int):Int:=if 0<H3 l then 1 else if A1 l=9 then ZR Cg else Cg+1
theorem Eg {i:Nat} {e:UInt8} (h:s[i]? =some e):A1 (s.drop i)=(e.toNat:Nat):=by rw [drop_at h];rfl
theorem HP {i:Nat} (h:s.length<=i):A1 (s.drop i)= -1:=by rw [List.drop_eq_nil_iff.2 h];rfl
theorem cq (l:List UInt8):H3 l<=l.length:=by
 rcases l with _|⟨a,_|⟨b,r⟩⟩
 .decide
 .have e:¬(A1 [a]=13/\A1 ([a].drop 1)=10):=λh=>absurd (show (-1:Int)=10 from h.2) Do
  unfold H3
  rw [if_neg e,List.length_singleton]
  by_cases h:A1 [a]=13\/A1 [a]=10\/A1 [a]=12
  .rw [if_pos h];omega
  .rw [if_neg h];omega
 .unfold H3
  simp only [List.length_cons]
  by_cases U:A1 (a::b::r)=13/\A1 ((a::b::r).drop 1)=10
  .rw [if_pos U];omega
  .rw [if_neg U]
   by_cases h:A1 (a::b::r)=13\/A1 (a::b::r)=10\/A1 (a::b::r)=12
   .rw [if_pos h];omega
   .rw [if_neg h];omega
theorem Ge {l:List UInt8} (h:l≠[]):A3 l<=l.length/\1<=A3 l:=by
 unfold A3
 split
 .exact ⟨cq l,FS⟩
 .exact ⟨Hj h,Ev l⟩
theorem fy (s:List UInt8) (pos:Nat):¬pos<s.length\/(pos+A3 (s.drop pos)<=s.length/\1<=A3 (s.drop pos)):=by
 by_cases h:pos<s.length
 .have:=Ge (l:=s.drop pos) (λe=>by have:=congrArg List.length e;rw [List.length_drop,List.length_nil] at this;omega)
  rw [List.length_drop] at this
  exact .inr ⟨AC,this.2⟩
 .exact .inl h
end Go.Aw
namespace Go.Proofs.Z
open Go Go.Aw
def spot (pos:Nat) (line Cg:Int):V:=.agg [.int .i64 pos,.int .i64 line,.int .i64 Cg]
theorem Tp {p:Nat} {p' l l' U:Int} (e1:(p:Int)=p') (e2:l=l') (e3:c=U):Au.ret (spot p l c)=Au.ret (.agg [.int .i64 p',.int .i64 l',.int .i64 U]):=by subst e1;subst e2;subst e3;rfl
section
variable {st:St} {R:Au->St->Prop}
theorem eE {c:Nat} (U:s.length<4611686018427387904) (hx:NS s i=((c:Int),(m:Int))) (h:R (.ret (.Bp [.int .i32 c,.int .i64 m])) st):PC 105 [.str s,.int .i64 i] st R:=oh U (by rw [hx];exact h)
theorem UB (hl:s.length<4611686018427387904) (hp:pos<s.length) (h:R (.ret (.int .i64 (H3 (s.drop pos):Nat))) st):PC 104 [.str s,.int .i64 pos] st R:=by
 obtain ⟨e,U⟩:∃e,s[pos]? =some e:=⟨s[pos],List.getElem?_eq_getElem hp⟩
 have he':s[(pos:Int).toNat]? =some e:=U
 have h0:=Eg U
 have h1:A1 ((s.drop pos).drop 1)=A1 (s.drop (pos+1)):=by rw [List.drop_drop]
 refine pB Tryz.func104 ?_
 repeat' ((conv=>whnf);first|(refine B7 ?_;intros)|(refine B8 ?_ ?_<;>intro _)|fail)
 all_goals try have h2:=Eg (show s[pos+1]? =some _ by assumption)
 all_goals try have h3:=HP (s:=s) (i:=pos+1) AC
 all_goals exact fin h (B5 (by unfold H3;rw [h1];(repeat' split)<;>omega))
theorem xM {Cg:Int} (U:1<=Cg) (h1:Cg<=4000000000000000000) (h:R (.ret (.int .i64 (ZR Cg))) st):PC 106 [.int .i64 Cg] st R:=by
 refine pB Tryz.func106 ?_
 repeat' ((conv=>whnf);first|(refine B7 ?_;intros)|(refine B8 ?_ ?_<;>intro _)|fail)
 exact fin h (B5 (by unfold ZR;omega))
theorem eU {line Cg:Int} (hl:s.length<4611686018427387904) (hp:pos<s.length) (h0:1<=line) (h1:line<=4000000000000000000) (h2:1<=Cg) (h3:Cg<=4000000000000000000)
 (h:R (.ret (spot (pos+A3 (s.drop pos)) (E1 (s.drop pos) line) (Gd (s.drop pos) Cg))) st):PC 63 [.str s,spot pos line Cg] st R:=by
 obtain ⟨e,he⟩:∃e,s[pos]? =some e:=⟨s[pos],List.getElem?_eq_getElem hp⟩
 have he':s[(pos:Int).toNat]? =some e:=he
 have hh:=Eg he
 have hn:=cq (s.drop pos)
 rw [List.length_drop] at hn
 rcases hd:AU (s.drop pos) with ⟨c,m⟩
 have hr:=rune_le hp hd.symm
 have hx:NS s pos=((c:Int),(m:Int)):=by rw [NT AC AC,QC hp hd.symm]
 refine pB Tryz.func63 ?_
 repeat' ((conv=>whnf);first|(refine B7 ?_;intros)|(refine B8 ?_ ?_<;>intro _)|refine UB hl hp ?_|refine eE hl hx ?_|refine xM h2 h3 ?_)
 .have U:0<H3 (s.drop pos):=AC
  exact fin h (Tp (by unfold A3;rw [if_pos U];omega) (by unfold E1;rw [if_pos U]) (by unfold Gd;rw [if_pos U]))
 .have U:¬0<H3 (s.drop pos):=AC
  exact fin h (Tp (by unfold A3;rw [if_neg U,hd];omega) (by unfold E1;rw [if_neg U]) (by unfold Gd;rw [if_neg U,if_pos AC]))
 .have U:¬0<H3 (s.drop pos):=AC
  exact fin h (Tp (by unfold A3;rw [if_neg U,hd];omega) (by unfold E1;rw [if_neg U]) (by unfold Gd;rw [if_neg U,if_neg AC]))
end
end Go.Proofs.Z
namespace Go.Aw
open Go
def B0 (l:List UInt8) (k:Nat) (p:Int×Int):Int×Int:=
 match l with
 |[]=>p
 |a::r=>if k<A3 (a::r) then p else B0 ((a::r).drop (A3 (a::r))) (k - A3 (a::r)) (E1 (a::r) p.1,Gd (a::r) p.2)
termination_by l.length
decreasing_by
 have:=Ge (l:=a::r) GT
 simp only [List.length_drop,List.length_cons]
 omega
theorem GH (k:Nat) (p:Int×Int):B0 [] k p=p:=by rw [B0]
theorem FE {l:List UInt8} {k:Nat} {p:Int×Int} (h:k<A3 l):B0 l k p=p:=by
 cases l with
 |nil=>exact GH k p
 |cons a r=>rw [B0,if_pos h]
theorem EF {l:List UInt8} {k:Nat} {p:Int×Int} (U:l≠[]) (h:¬k<A3 l):B0 l k p=B0 (l.drop (A3 l)) (k - A3 l) (E1 l p.1,Gd l p.2):=by
 cases l with
 |nil=>exact absurd rfl U
 |cons a r=>rw [B0,if_neg h]
theorem FF {l:List UInt8} {p:Int×Int}:B0 l 0 p=p:=by
 cases l with
 |nil=>exact GH 0 p
 |cons a r=>exact FE (Ge GT).2
theorem Vx (h:pos<s.length):s.drop pos≠[]:=λe=>by
 have:=congrArg List.length e;rw [List.length_drop,List.length_nil] at this;omega
theorem TB {k:Nat} {line Cg:Int} (h:pos<s.length) (U:¬pos+k<pos+A3 (s.drop pos)):
 B0 (s.drop pos) k (line,Cg)=B0 (s.drop (pos+A3 (s.drop pos))) (k - A3 (s.drop pos)) (E1 (s.drop pos) line,Gd (s.drop pos) Cg):=by
 rw [EF (Vx h) AC,List.drop_drop]
theorem Xv (l:List UInt8) (line:Int):line<=E1 l line/\E1 l line<=line+1:=by unfold E1;split<;>omega
theorem Q3 (l:List UInt8) {Cg:Int} (h:1<=Cg):1<=Gd l Cg/\Gd l Cg<=Cg+8:=by
 unfold Gd ZR
 by_cases U:0<H3 l
 .rw [if_pos U];omega
 .rw [if_neg U]
  by_cases h2:A1 l=9
  .rw [if_pos h2];omega
  .rw [if_neg h2];omega
end Go.Aw
namespace Go.Proofs.Z
open Go Go.Aw
section
variable {st:St} {R:Au->St->Prop}
theorem yW {k:Nat} (hl:s.length<=100000000) (hk:k<=s.length) (h:R (.ret (.Bp [.int .i64 (B0 s k (1,1)).1,.int .i64 (B0 s k (1,1)).2,.int .i64 0])) st):PC 39 [.str s,.int .i64 k] st R:=by
 refine pB Tryz.func39 ?_
 repeat' ((conv=>whnf);first|exact DA|(refine B7 ?_;intros)|(refine DB ?_ ?_ ?_;rotate_left)|(refine B8 ?_ ?_<;>intro _)|with_reducible refine WF ?_)
 refine V3 (α:=Nat) (β:=Int) (γ:=Int) (λ_ _ _=>[]) (λpos line Cg=>[(0,[.int .i64 (pos:Int),.int .i64 line,.int .i64 Cg])]) [0,1,7] [] (λ_ _ _=>st)
  (λpos line Cg=>pos<=k/\1<=line/\line<=1+(pos:Int)/\1<=Cg/\Cg<=1+8*(pos:Int)/\B0 s k (1,1)=B0 (s.drop pos) (k - pos) (line,Cg)) (λpos _ _=>k - pos) 0 1 1 ⟨AC,AC,AC,AC,AC,rfl⟩ Yl (St.le_refl _) ?_
 rintro pos line Cg ⟨h1,h2,h3,h4,h5,U⟩
 have hr:=fy s pos
 have hL:=Xv (s.drop pos) line
 have hC:=Q3 (s.drop pos) h4
 repeat' ((conv=>whnf);first|exact DA|(refine B7 ?_;intros)|(refine DB ?_ ?_ ?_;rotate_left)|(refine B8 ?_ ?_<;>intro _)|refine eU AC AC AC AC AC AC ?_|with_reducible refine WF ?_)
 .exact fin h (by rw [U,FE AC])
 .conv=>whnf
  exact ⟨(pos+A3 (s.drop pos),E1 (s.drop pos) line,Gd (s.drop pos) Cg),⟨So,So,So,So,So,by dsimp only;rw [U,TB AC AC,Nat.sub_sub]⟩,So,Yl,St.le_refl _⟩
 .have hz:k - pos=0:=AC
  exact fin h (by rw [U,hz,FF])
theorem uK {U:Int} (hl:s.length<=100000000) (h0:1<=U) (h1:U<=2147483648) (h:R (.ret (.Bp [.int .i64 (B0 s s.length (1,U)).2,.int .i64 0])) st):PC 121 [.str s,.int .i64 U] st R:=by
 refine pB Tryz.func121 ?_
 repeat' ((conv=>whnf);first|(refine B7 ?_;intros)|(refine B8 ?_ ?_<;>intro _)|fail)
 refine V3 (α:=Nat) (β:=Int) (γ:=Int) (λ_ _ _=>[]) (λpos line Cg=>[(0,[.int .i64 (pos:Int),.int .i64 line,.int .i64 Cg])]) [0,6] [] (λ_ _ _=>st)
  (λpos line Cg=>pos<=s.length/\1<=line/\line<=1+(pos:Int)/\1<=Cg/\Cg<=U+8*(pos:Int)/\B0 s s.length (1,U)=B0 (s.drop pos) (s.length - pos) (line,Cg)) (λpos _ _=>s.length - pos) 0 1 U ⟨AC,AC,AC,AC,AC,rfl⟩ Yl (St.le_refl _) ?_
 rintro pos line Cg ⟨h1,h2,h3,h4,h5,h6⟩
 have hr:=fy s pos
 have hL:=Xv (s.drop pos) line
 have hC:=Q3 (s.drop pos) h4
 repeat' ((conv=>whnf);first|(refine B7 ?_;intros)|(refine B8 ?_ ?_<;>intro _)|refine eU AC AC AC AC AC AC ?_)
 .conv=>whnf
  exact ⟨(pos+A3 (s.drop pos),E1 (s.drop pos) line,Gd (s.drop pos) Cg),⟨So,So,So,So,So,by dsimp only;rw [h6,TB AC AC,Nat.sub_sub]⟩,So,Yl,St.le_refl _⟩
 .have hz:s.length - pos=0:=AC
  exact fin h (by rw [h6,hz,FF])
end
end Go.Proofs.Z
namespace Go.Aw
open Go
theorem w7 {st:St} {γ δ:Type} (f:α->β->γ->δ->List (Nat×V)) (g:α->β->γ->δ->List (Nat×List V)) (keep kb:List Nat) (S:α->β->γ->δ->St) (J:α->β->γ->δ->Prop) (U:α->β->γ->δ->Nat) (x0:α) (y0:β) (z0:γ) (u0:δ) (h0:J x0 y0 z0 u0)
 (he:(env.Mk (f x0 y0 z0 u0) (g x0 y0 z0 u0) keep kb).E4 env) (hs:St.le (S x0 y0 z0 u0) st)
 (hb:∀x y z u,J x y z u->ih (BW (λenv' st'=>∃p:α×β×γ×δ,J p.1 p.2.1 p.2.2.1 p.2.2.2/\U p.1 p.2.1 p.2.2.1 p.2.2.2<U x y z u/\(env.Mk (f p.1 p.2.1 p.2.2.1 p.2.2.2) (g p.1 p.2.1 p.2.2.1 p.2.2.2) keep kb).E4 env'/\St.le (S p.1 p.2.1 p.2.2.1 p.2.2.2) st') Q) (env.Mk (f x y z u) (g x y z u) keep kb) (S x y z u)):
 ∃(α:Type) (E:α->Env) (S:α->St) (J:α->Prop) (U:α->Nat) (x0:α),J x0/\(E x0).E4 env/\St.le (S x0) st/\
  ∀x,J x->ih (BW (λenv' st'=>∃y,J y/\U y<U x/\(E y).E4 env'/\St.le (S y) st') Q) (E x) (S x):=
 ⟨α×β×γ×δ,λp=>env.Mk (f p.1 p.2.1 p.2.2.1 p.2.2.2) (g p.1 p.2.1 p.2.2.1 p.2.2.2) keep kb,λp=>S p.1 p.2.1 p.2.2.1 p.2.2.2,λp=>J p.1 p.2.1 p.2.2.1 p.2.2.2,λp=>U p.1 p.2.1 p.2.2.1 p.2.2.2,(x0,y0,z0,u0),h0,he,hs,λp h=>hb p.1 p.2.1 p.2.2.1 p.2.2.2 h⟩
def DY (s:List UInt8) (frm pos:Nat):List (List UInt8):=
 if h:pos<s.length then
  if 0<H3 (s.drop pos) then (s.take pos).drop frm::DY s (pos+H3 (s.drop pos)) (pos+H3 (s.drop pos)) else DY s frm (pos+1)
 else [s.drop frm]
termination_by s.length - pos
decreasing_by all_goals omega
theorem yR {a b:Int} {K:Int->Prop} (h:¬a<b) (k:K a):∃r,r=(if a<b then b else a)/\K r:=⟨a,(if_neg h).symm,k⟩
theorem yS {a b:Int} {K:Int->Prop} (h:a<b) (k:K b):∃r,r=(if a<b then b else a)/\K r:=⟨b,(if_pos h).symm,k⟩
theorem kF {l:List (List UInt8)} {own:AE} {st:St} (h:own.BD st) (hb:l.length<=999999999)
 (k:∀U:AE,U.BD st->K (.slice 1 (strs (l++[x])) U) (U.st st (l++[x]).length)):Am 1 16 (strs l) own [[.str x]] (own.st st l.length) K:=
 P9 (new:=[x]) h i7 k
theorem iy (h:pos<s.length) (k:0<H3 (s.drop pos)):DY s frm pos=(s.take pos).drop frm::DY s (pos+H3 (s.drop pos)) (pos+H3 (s.drop pos)):=by
 rw [DY,dif_pos h,if_pos k]
theorem iw (h:pos<s.length) (k:¬0<H3 (s.drop pos)):DY s frm pos=DY s frm (pos+1):=by
 rw [DY,dif_pos h,if_neg k]
theorem bW (h:¬pos<s.length):DY s frm pos=[s.drop frm]:=by
 rw [DY,dif_neg h]
end Go.Aw
namespace Go.Proofs.Z
open Go Go.Aw
section
variable {st:St} {R:Au->St->Prop}
attribute [local irreducible] Go.Aw.Am
theorem ey (hl:s.length<=100000000) (h:∀own:AE,own.BD st->R (.ret (.slice 1 (strs (DY s 0 0)) own)) (own.st st (DY s 0 0).length)):PC 120 [.str s] st R:=by
 refine pB Tryz.func120 ?_
 repeat' ((conv=>whnf);first|(refine B7 ?_;intros)|(refine B8 ?_ ?_<;>intro _)|refine Yc4 (λ_=>?_) ?_|fail)
 refine w7 (α:=Nat) (β:=Nat) (γ:=List (List UInt8)) (δ:=AE) (λpos frm l own=>[(5,.int .i64 (pos:Int)),(4,.int .i64 (frm:Int)),(3,.slice 1 (strs l) own)]) (λ_ _ _ _=>[]) [0] [] (λ_ _ l own=>own.st st l.length)
  (λpos frm l own=>frm<=pos/\pos<=s.length/\l.length<=pos/\own.BD st/\DY s 0 0=l++DY s frm pos) (λpos _ _ _=>s.length - pos) 0 0 [] .full ⟨AC,AC,GT,trivial,rfl⟩ Yl (St.le_refl _) ?_
 rintro pos frm l own ⟨h1,h2,h3,h4,h5⟩
 have hn:=cq (s.drop pos)
 rw [List.length_drop] at hn
 repeat' ((conv=>whnf);first|(refine B7 ?_;intros)|(refine B8 ?_ ?_<;>intro _)|refine Yc4 (λ_=>?_) ?_|refine UB AC AC ?_|refine yR AC ?_|refine yS AC ?_|refine kF h4 AC (λU ho=>?_))
 .conv=>whnf
  exact ⟨(pos+H3 (s.drop pos),pos+H3 (s.drop pos),l++[(s.take pos).drop frm],U),⟨Nat.le_refl _,AC,by grind,ho,by dsimp only;rw [h5,iy AC AC,List.append_assoc];rfl⟩,AC,Yl,St.le_refl _⟩
 .conv=>whnf
  exact ⟨(pos+1,frm,l,own),⟨by grind,AC,by grind,h4,by dsimp only;rw [h5,iw AC AC]⟩,AC,Yl,St.le_refl _⟩
 .exact fin (by have:=h U ho;rw [h5,bW AC] at this;grind) rfl
end
end Go.Proofs.Z
namespace Go.Aw
open Go
def y8:List (List UInt8):=[[95],[99,97,115,101],[99,108,97,115,115],[100,97,116,97],[100,101,102,97,117,108,116],[100,101,114,105,118,105,110,103],[100,111],[101,108,115,101],[102,111,114,101,105,103,110],[105,102],[105,109,112,111,114,116],[105,110],[105,110,102,105,120],[105,110,102,105,120,108],[105,110,102,105,120,114],[105,110,115,116,97,110,99,101],[108,101,116],[109,111,100,117,108,101],[110,101,119,116,121,112,101],[111,102],[116,104,101,110],[116,121,112,101],[119,104,101,114,101]]
def nN:List (List UInt8):=[[46,46],[58],[58,58],[61],[92],[124],[60,45],[45,62],[64],[126],[61,62]]
def xC (w:List UInt8):Bool:=y8.contains w
def ZU (w:List UInt8):Int:=if nN.contains w then 10 else if A1 w=58 then 6 else 5
def IF (c:Int):Bool:=AP c==2||AP c==3||AP c==4||c==39
def L8 (l:List UInt8):Nat:=B3 IF l
def HM (l:List UInt8):Int:=match l with
 |[]=>0
 |a::r=>AP ((AU (a::r)).1:Nat)
def Bo (l:List UInt8):Int×Nat:=
 if HM l=6 then (15,1)
 else if HM l=5 then (ZU (l.take (B3 (λc=>AP c==5) l)),B3 (λc=>AP c==5) l)
 else if HM l=3 then (2,L8 l)
 else if HM l=2 then (if xC (l.take (L8 l)) then 9 else 1,L8 l)
 else (0,0)
def Jm (k:Int):Int:=if k=1 then 3 else if k=2 then 4 else if k=5 then 7 else if k=6 then 8 else 0
theorem Dd (c:UInt8) (l:List UInt8):[c].isPrefixOf l=decide (A1 l=(c.toNat:Nat)):=by
 cases l with
 |nil=>exact (decide_eq_false (λe=>by have h:(-1:Int)=(c.toNat:Nat):=e;omega)).symm
 |cons a r=>
  show (c==a&&true)=decide (((a.toNat:Nat):Int)=(c.toNat:Nat))
  rw [Bool.and_true,Bool.eq_iff_iff,beq_iff_eq,decide_eq_true_iff]
  exact ⟨λe=>by rw [e],λe=>UInt8.toNat_inj.1 AC⟩
end Go.Aw
namespace Go.Proofs.Z
open Go Go.Aw
section
variable {st:St} {R:Au->St->Prop}
theorem cK (h:R (.ret (.bool (xC w))) st):PC 249 [.str w] st R:=by
 refine pB Tryz.func249 ?_
 repeat' ((conv=>whnf);first|(refine B7 ?_;intros)|(refine B8 ?_ ?_<;>intro _)|fail)
 all_goals exact fin h (congrArg (λb=>Au.ret (V.bool b)) (by first|(subst_vars;decide)|(simp only [xC,y8];simp_all)))
theorem jy (h:R (.ret (.int .i64 (ZU w))) st):PC 247 [.str w] st R:=by
 refine pB Tryz.func247 ?_
 repeat' ((conv=>whnf);first|(refine B7 ?_;intros)|(refine B8 ?_ ?_<;>intro _)|refine Jk ?_)
 all_goals try rename_i U
 all_goals try rw [Dd,decide_eq_true_eq] at U
 all_goals try rw [Dd,decide_eq_false_iff_not] at U
 all_goals exact fin h (B5 (by first|(subst_vars;decide)|(have U:A1 w=58:=U;simp only [ZU,nN];simp_all)|(have U:¬A1 w=58:=U;simp only [ZU,nN];simp_all)))
theorem qo (h:R (.ret (.bool (IF c))) st):PC 298 [.int .i32 c] st R:=by
 refine pB Tryz.func298 ?_
 repeat' ((conv=>whnf);first|(refine B7 ?_;intros)|(refine B8 ?_ ?_<;>intro _)|refine Ld ?_)
 all_goals exact fin h (congrArg (λb=>Au.ret (V.bool b)) (by simp only [IF];simp_all))
theorem Zj (h:R (.ret (.int .i64 (Jm k))) st):PC 203 [.int .i64 k] st R:=by
 refine pB Tryz.func203 ?_
 repeat' ((conv=>whnf);first|(refine B7 ?_;intros)|(refine B8 ?_ ?_<;>intro _)|fail)
 all_goals exact fin h (B5 (by unfold Jm;(repeat' split)<;>omega))
end
theorem PK (s:List UInt8):HM s=if (NS s 0).2=0 then 0 else AP (NS s 0).1:=by
 cases s with
 |nil=>rw [UC GT];rfl
 |cons a r=>
  have U:=Ev (a::r)
  rw [NT AC GT,show (0:Int).toNat=0 from rfl,List.drop_zero,dI GT,if_neg So]
  rfl
section
variable {st:St} {R:Au->St->Prop}
theorem xf (hl:s.length<4611686018427387904) (h:R (.ret (.str (s.take (L8 s)))) st):PC 248 [.str s] st R:=by
 refine pB Tryz.func248 ?_
 repeat' ((conv=>whnf);first|(refine B7 ?_;intros)|(refine B8 ?_ ?_<;>intro _)|fail)
 refine SG (α:=Nat) (λ_=>[]) (λpos=>[(0,[.Ql s pos])]) [0,6] [] (λ_=>st) (λpos=>pos<=s.length/\L8 s=pos+B3 IF (s.drop pos)) (λpos=>s.length - pos) 0 ⟨Nat.zero_le _,by simp [L8]⟩ Yl (St.le_refl _) ?_
 rintro pos ⟨hp,hi⟩
 repeat' ((conv=>whnf);first|(refine B7 ?_;intros)|(refine B8 ?_ ?_<;>intro _)|refine qo ?_)
 .rename_i U c m hd hk
  have hr:=rune_le U hd
  conv=>whnf
  exact ⟨pos+m,⟨hr.1,Q2 U hd hk hi⟩,AC,Yl,St.le_refl _⟩
 .rename_i U c m hd hk
  have:=Xt (p:=λd=>IF (d.1:Nat)) hd hk hi
  exact fin h (by rw [this];rfl)
 .rename_i U
  have:=To U hi
  exact fin h (by rw [this,List.take_of_length_le AC])
theorem rW (U:s.length<4611686018427387904) (h:R (.ret (.int .i64 (HM s))) st):PC 246 [.str s] st R:=by
 refine pB Tryz.func246 ?_
 repeat' ((conv=>whnf);first|(refine B7 ?_;intros)|(refine B8 ?_ ?_<;>intro _)|refine oh U ?_|refine Ld ?_)
 .exact fin h (B5 (by rw [PK,if_pos ‹_›]))
 .exact fin h (B5 (by rw [PK,if_neg ‹_›]))
end
theorem zT:tL s 0 k=(B3 (λc=>AP c==k) s:Nat):=by
 rw [QX AC AC];simp
theorem gS (h:¬HM s=0):0<s.length:=by
 cases s with
 |nil=>exact absurd rfl h
 |cons a r=>simp
section
variable {st:St} {R:Au->St->Prop}
theorem vA (U:s.length<4611686018427387904) (h:R (.ret (.int .i64 (B3 (λc=>AP c==k) s:Nat))) st):PC 72 [.str s,.int .i64 0,.int .i64 k] st R:=vz U (by rw [zT];exact h)
theorem eT (U:s.length<4611686018427387904) (h:R (.ret (.Bp [.int .i64 (Bo s).1,.str (s.take (Bo s).2)])) st):PC 202 [.str s] st R:=by
 have hr:=Gc (λc=>AP c==5) s
 have hne:HM s=0\/0<s.length:=by
  by_cases h0:HM s=0
  .exact .inl h0
  .exact .inr (gS h0)
 refine pB Tryz.func202 ?_
 repeat' ((conv=>whnf);first|exact DA|(refine B7 ?_;intros)|(refine DB ?_ ?_ ?_;rotate_left)|(refine B8 ?_ ?_<;>intro _)|refine rW U ?_|refine vA U ?_|refine jy ?_|refine xf U ?_|refine cK ?_|with_reducible refine WF ?_)
 .exact fin h (by unfold Bo;rw [if_pos ‹_›];rfl)
 .exact fin h (by unfold Bo;rw [if_neg AC,if_pos AC];rfl)
 .exact fin h (by unfold Bo;rw [if_neg AC,if_neg AC,if_pos AC])
 .exact fin h (by unfold Bo;rw [if_neg AC,if_neg AC,if_neg AC,if_pos AC,if_pos ‹_›])
 .exact fin h (by unfold Bo;rw [if_neg AC,if_neg AC,if_neg AC,if_pos AC,if_neg i7])
 .exact fin h (by unfold Bo;rw [if_neg AC,if_neg AC,if_neg AC,if_neg AC];rfl)
end
end Go.Proofs.Z
namespace Go.Aw
open Go
def It (s:List UInt8) (n:Nat) (k:Int):Int×Nat:=
 if h:n<s.length then
  if (k=2\/k=4)/\A1 (s.drop n)=46/\Jm (Bo (s.drop (n+1))).1≠0 then It s (n+1+(Bo (s.drop (n+1))).2) (Jm (Bo (s.drop (n+1))).1) else (k,n)
 else (k,n)
termination_by s.length - n
decreasing_by omega
def BJ (s:List UInt8):Int×Nat:=It s (Bo s).2 (Bo s).1
theorem ZA {n:Nat} (h:¬(n<s.length/\(k=2\/k=4)/\A1 (s.drop n)=46/\Jm (Bo (s.drop (n+1))).1≠0)):It s n k=(k,n):=by
 rw [It]
 split
 .rw [if_neg (λe=>h ⟨FS,e⟩)]
 .rfl
theorem pA {n:Nat} (h:n<s.length) (e:(k=2\/k=4)/\A1 (s.drop n)=46/\Jm (Bo (s.drop (n+1))).1≠0):It s n k=It s (n+1+(Bo (s.drop (n+1))).2) (Jm (Bo (s.drop (n+1))).1):=by
 rw [It,dif_pos h,if_pos e]
def Kv (s:List UInt8) (n:Nat) (k a:Int):Int:=
 if h:n<s.length/\(k=2\/k=4)/\A1 (s.drop n)=46/\Jm (Bo (s.drop (n+1))).1≠0 then Kv s (n+1+(Bo (s.drop (n+1))).2) (Jm (Bo (s.drop (n+1))).1) (n+1) else a
termination_by s.length - n
def U9 (s:List UInt8):Int:=Kv s (Bo s).2 (Bo s).1 0
theorem fP {n:Nat} {a:Int} (h:¬(n<s.length/\(k=2\/k=4)/\A1 (s.drop n)=46/\Jm (Bo (s.drop (n+1))).1≠0)):Kv s n k a=a:=by rw [Kv,dif_neg h]
theorem fO {n:Nat} {a:Int} (h:n<s.length) (e:(k=2\/k=4)/\A1 (s.drop n)=46/\Jm (Bo (s.drop (n+1))).1≠0):Kv s n k a=Kv s (n+1+(Bo (s.drop (n+1))).2) (Jm (Bo (s.drop (n+1))).1) (n+1):=by rw [Kv,dif_pos ⟨h,e⟩]
theorem jv (w:List UInt8):ZU w=10\/ZU w=6\/ZU w=5:=by
 unfold ZU
 (repeat' split)<;>simp
theorem Zh (s:List UInt8):(Bo s).1≠3/\(Bo s).1≠4/\(Bo s).1≠7/\(Bo s).1≠8:=by
 have h:=jv (s.take (B3 (λc=>AP c==5) s))
 unfold Bo
 (repeat' split)<;>first|omega|(dsimp only;omega)
theorem Lv (s:List UInt8):(Bo s).2<=s.length:=by
 have hf:HM s=0\/0<s.length:=by
  cases s with
  |nil=>exact .inl rfl
  |cons a r=>exact .inr GT
 have U:=Gc (λc=>AP c==5) s
 have h2:L8 s<=s.length:=Gc _ s
 unfold Bo
 (repeat' split)<;>first|omega|(dsimp only;omega)
end Go.Aw
namespace Go.Proofs.Z
open Go Go.Aw
section
variable {st:St} {R:Au->St->Prop}
theorem yt {n:Nat} (U:w.length=n) (h:R (.ret (.bool (decide (A1 (s.drop n)=46)))) st):PC 73 [.str (s.drop ((w.length:Nat):Int).toNat),.str [46]] st R:=by
 refine Jk ?_
 rw [Dd,U,show ((n:Nat):Int).toNat=n by omega]
 exact h
theorem oM {n:Nat} (hl:s.length<=100000000) (U:w.length=n) (h:R (.ret (.Bp [.int .i64 (Bo (s.drop (n+1))).1,.str ((s.drop (n+1)).take (Bo (s.drop (n+1))).2)])) st):PC 202 [.str (s.drop (((w.length:Nat):Int)+1).toNat)] st R:=by
 rw [U,show (((n:Nat):Int)+1).toNat=n+1 by omega]
 exact eT IR h
theorem tU {v:List UInt8} {n:Nat} {K:List UInt8->Prop} (U:w.length=n) (h2:v.length=m) (h:n+1+m<=s.length) (k:K (s.take (n+1+m))):
 ((0:Int)<=0/\0<=((w.length:Nat):Int)+1+((v.length:Nat):Int)/\((w.length:Nat):Int)+1+((v.length:Nat):Int)<=s.length)/\∀s',s'=(s.take (((w.length:Nat):Int)+1+((v.length:Nat):Int)).toNat).drop (0:Int).toNat->K s':=by
 subst U;subst h2
 refine WO AC AC ?_
 rw [show (((w.length:Nat):Int)+1+((v.length:Nat):Int)).toNat=w.length+1+v.length by omega]
 exact k
theorem lG (s:List UInt8) (n:Nat):¬A1 (s.drop n)=46\/n<s.length:=by
 by_cases h:n<s.length
 .exact .inr h
 .rw [HP AC];exact .inl Do
theorem aj (hl:s.length<=100000000) (h:∀a:Int,U9 s=a->0<=a->a<=(BJ s).2->((BJ s).1=3\/(BJ s).1=4\/(BJ s).1=7\/(BJ s).1=8->1<=a)->R (.ret (.Bp [.int .i64 (BJ s).1,.str (s.take (BJ s).2),.int .i64 a])) st):PC 167 [.str s] st R:=by
 refine pB Tryz.func167 ?_
 repeat' ((conv=>whnf);first|exact DA|(refine B7 ?_;intros)|(refine DB ?_ ?_ ?_;rotate_left)|(refine B8 ?_ ?_<;>intro _)|refine eT AC ?_|with_reducible refine WF ?_)
 have hk0:=Zh s
 refine V3 (α:=Nat) (β:=Int) (γ:=Int) (λn k a=>[(2,.int .i64 k),(3,.str (s.take n)),(4,.int .i64 a)]) (λ_ _ _=>[]) [0] [] (λ_ _ _=>st) (λn k a=>n<=s.length/\BJ s=It s n k/\U9 s=Kv s n k a/\0<=a/\a<=n/\(k=3\/k=4\/k=7\/k=8->1<=a)) (λn _ _=>s.length - n) (Bo s).2 (Bo s).1 0 ⟨Lv s,rfl,rfl,Int.le_refl _,AC,λe=>by omega⟩ Yl (St.le_refl _) ?_
 rintro n k a ⟨h1,h2,h3,h4,h5,h6⟩
 have U:(s.take n).length=n:=NE
 have hp:=Lv (s.drop (n+1))
 rw [List.length_drop] at hp
 have hdl:=lG s n
 have ht2:((s.drop (n+1)).take (Bo (s.drop (n+1))).2).length=(Bo (s.drop (n+1))).2:=by rw [List.length_take,List.length_drop];omega
 repeat' ((conv=>whnf);first|with_reducible refine tU U ht2 AC ?_|exact DA|(refine B7 ?_;intros)|(refine DB ?_ ?_ ?_;rotate_left)|(refine B8 ?_ ?_<;>intro _)|refine yt U ?_|refine oM hl U ?_|refine Zj ?_|with_reducible refine WF ?_)
 all_goals first
  |exact fin (by have h:=h a;rw [h2,h3,ZA AC,fP AC] at h;exact h rfl h4 h5 h6) rfl
  |(conv=>whnf
    exact ⟨(n+1+(Bo (s.drop (n+1))).2,Jm (Bo (s.drop (n+1))).1,(((s.take n).length:Nat):Int)+1),⟨So,by dsimp only;rw [h2,pA AC ⟨AC,AC,AC⟩],by dsimp only;rw [h3,fO AC ⟨AC,AC,AC⟩,U],So,So,λ_=>by dsimp only;omega⟩,So,Yl,St.le_refl _⟩)
theorem uL (U:s.length<=100000000) (h:∀ahead:Int,R (.ret (.Bp [.int .i64 (BJ s).1,.str (s.take (BJ s).2),.int .i64 ahead])) st):PC 167 [.str s] st R:=aj U λa _ _ _ _=>h a
end
end Go.Proofs.Z
namespace Go.Aw
open Go
def H2 (s:List UInt8) (pos:Nat):Int×Int:=if (BJ (s.drop pos)).1=0 then (0,0) else ((BJ (s.drop pos)).1,(pos+(BJ (s.drop pos)).2:Nat))
theorem pC {n:Nat} (h:n<=s.length):(It s n k).2<=s.length:=by
 fun_induction It s n k with
 |case1 n k hn U ih=>
  have:=Lv (s.drop (n+1))
  rw [List.length_drop] at this
  exact ih AC
 |case2 n k hn U=>exact h
 |case3 n k hn=>exact h
theorem TF (s:List UInt8):(BJ s).2<=s.length:=pC (Lv s)
end Go.Aw
namespace Go.Proofs.Z
open Go Go.Aw
section
variable {st:St} {R:Au->St->Prop}
theorem qs (hl:s.length<=100000000) (hp:pos<s.length) (h:R (.ret (.Bp [.int .i64 (H2 s pos).1,.int .i64 (H2 s pos).2])) st):PC 124 [.str s,.int .i64 pos] st R:=by
 have ht:((s.drop pos).take (BJ (s.drop pos)).2).length=(BJ (s.drop pos)).2:=by rw [List.length_take];have:=TF (s.drop pos);omega
 have hw:=TF (s.drop pos)
 rw [List.length_drop] at hw
 have U:(s.drop pos).length<=100000000:=IR
 refine pB Tryz.func124 ?_
 repeat' ((conv=>whnf);first|(refine B7 ?_;intros)|(refine B8 ?_ ?_<;>intro _)|refine uL U (λ_=>?_))
 .exact fin h (by unfold H2;rw [if_pos ‹_›];simp_all)
 .exact fin h (by unfold H2;rw [if_neg ‹_›];simp only [];rw [show (pos:Int).toNat=pos by omega] at *;rw [ht];rfl)
end
end Go.Proofs.Z
namespace Go.Aw
open Go
def BP (base:Int):List UInt8->Nat
 |[]=>0
 |a::r=>if BS ((a.toNat:Nat):Int) base<0 then 0 else BP base r+1
def EW (l:List UInt8):Int:=if A1 (l.drop 1)=111\/A1 (l.drop 1)=79 then 8 else if A1 (l.drop 1)=120\/A1 (l.drop 1)=88 then 16 else 10
def CB (l:List UInt8):Int×Nat:=if A1 l=48/\EW l≠10/\BP (EW l) (l.drop 2)≠0 then (EW l,2) else (10,0)
def Ma (l:List UInt8):Nat:=if A1 l=43\/A1 l=45 then 1 else 0
def Np (l:List UInt8):Nat:=
 if (A1 l=101\/A1 l=69)/\BP 10 (l.drop (1+Ma (l.drop 1)))≠0 then 1+Ma (l.drop 1)+BP 10 (l.drop (1+Ma (l.drop 1))) else 0
def IZ (l:List UInt8):Nat:=if A1 l=46/\BP 10 (l.drop 1)≠0 then 1+BP 10 (l.drop 1) else 0
def E5 (l:List UInt8):Int×Nat:=
 if (CB l).1≠10 then (11,2+BP (CB l).1 (l.drop 2))
 else if BP 10 l=0 then (0,0)
 else
  (if 0<IZ (l.drop (BP 10 l))\/0<Np (l.drop (BP 10 l+IZ (l.drop (BP 10 l)))) then 12 else 11,
    BP 10 l+IZ (l.drop (BP 10 l))+Np (l.drop (BP 10 l+IZ (l.drop (BP 10 l)))))
theorem Cb {l:List UInt8} {k:Nat} (h:0<=A1 (l.drop k)):k<l.length:=by
 by_cases U:k<l.length
 .exact U
 .rw [List.drop_eq_nil_iff.2 AC] at h;exact absurd h Do
theorem FY {a:UInt8} (h:a.toNat<128):AU (a::r)=(a.toNat,1):=by
 unfold AU;simp_all
theorem QD {a:UInt8} (h:¬a.toNat<128):128<=(AU (a::r)).1:=by
 unfold AU;grind
theorem IV (h:128<=c):BS c base<0:=by
 have U:(if 48<=c/\c<=57 then c - 48 else if 97<=c/\c<=102 then c - 87 else if 65<=c/\c<=70 then c - 55 else 16)=16:=by
  rw [if_neg AC,if_neg AC,if_neg AC]
 unfold BS;grind
theorem ET (base:Int) (l:List UInt8):BP base l<=l.length:=by
 induction l with
 |nil=>exact Nat.le_refl _
 |cons a r U=>unfold BP;grind
theorem N8 {c:Nat} (h:pos<s.length) (hd:(c,m)=AU (s.drop pos)) (k:¬BS (c:Int) base<0):m=1/\BP base (s.drop pos)=BP base (s.drop (pos+1))+1:=by
 rw [List.drop_eq_getElem_cons h] at hd |-
 by_cases hb:s[pos].toNat<128
 .rw [FY hb] at hd
  injection hd with U h2
  subst U;subst h2
  exact ⟨rfl,by rw [BP,if_neg k]⟩
 .have:=QD (r:=s.drop (pos+1)) hb
  rw [<-hd] at this
  exact absurd (IV (c:=(c:Int)) (base:=base) AC) k
theorem Is {c:Nat} (h:pos<s.length) (hd:(c,m)=AU (s.drop pos)) (k:BS (c:Int) base<0):BP base (s.drop pos)=0:=by
 rw [List.drop_eq_getElem_cons h] at hd |-
 by_cases hb:s[pos].toNat<128
 .rw [FY hb] at hd
  injection hd with U h2
  subst U
  rw [BP,if_pos k]
 .rw [BP,if_pos (IV AC)]
theorem LB (h:s.length<=pos):BP base (s.drop pos)=0:=by rw [List.drop_eq_nil_iff.2 h];rfl
theorem Yx (l:List UInt8):IZ l<=l.length:=by
 have:=ET 10 (l.drop 1)
 rw [List.length_drop] at this
 unfold IZ;grind
theorem dW (l:List UInt8):Np l<=l.length:=by
 have:=ET 10 (l.drop (1+Ma (l.drop 1)))
 rw [List.length_drop] at this
 unfold Np;grind
theorem WV (l:List UInt8):(E5 l).2<=l.length:=by
 have h1:=ET 10 l
 have U:=ET (CB l).1 (l.drop 2)
 have h3:=Yx (l.drop (BP 10 l))
 have h4:=dW (l.drop (BP 10 l+IZ (l.drop (BP 10 l))))
 rw [List.length_drop] at U h3 h4
 have h5:(CB l).1≠10->2<=l.length:=λe=>by
  unfold CB at e
  split at e
  .rename_i hc
   have:=ET (EW l) (l.drop 2)
   grind
  omega
 unfold E5
 grind
theorem gQ {a:Int} {K:Int->Prop} (U: -2147483648<=a) (h2:a<=2147483647) (k:K a):∃r,r=IntKind.i32.wrap a/\K r:=⟨a,(IntWalk.i32_in _ ⟨U,h2⟩).symm,k⟩
end Go.Aw
namespace Go.Proofs.Z
open Go Go.Aw
section
variable {st:St} {R:Au->St->Prop}
theorem Nj {b:Int} (h:R (.ret (.int .i64 (BS c b))) st):PC 242 [.int .i32 c,.int .i64 b] st R:=by
 refine pB Tryz.func242 ?_
 repeat' ((conv=>whnf);first|(refine B7 ?_;intros)|(refine B8 ?_ ?_<;>intro _)|refine gQ AC AC ?_)
 all_goals exact fin h (B5 (by unfold BS;dsimp only;(repeat' split)<;>omega))
theorem vu {b:Int} (hl:s.length<4611686018427387904) (h:R (.ret (.int .i64 (BP b s:Nat))) st):PC 198 [.str s,.int .i64 b] st R:=by
 refine pB Tryz.func198 ?_
 repeat' ((conv=>whnf);first|(refine B7 ?_;intros)|(refine B8 ?_ ?_<;>intro _)|fail)
 refine SG (α:=Nat) (λ_=>[]) (λpos=>[(0,[.Ql s pos])]) [0,1,8] [] (λ_=>st) (λpos=>pos<=s.length/\BP b s=pos+BP b (s.drop pos)) (λpos=>s.length - pos) 0 ⟨Nat.zero_le _,GT⟩ Yl (St.le_refl _) ?_
 rintro pos ⟨hp,hi⟩
 repeat' ((conv=>whnf);first|(refine B7 ?_;intros)|(refine B8 ?_ ?_<;>intro _)|refine Nj ?_)
 .rename_i U c m hd hk
  have:=Is U hd hk
  exact fin h (B5 AC)
 .rename_i U c m hd hk
  obtain ⟨e1,e2⟩:=N8 U hd hk
  conv=>whnf
  exact ⟨pos+m,⟨AC,by grind⟩,AC,Yl,St.le_refl _⟩
 .rename_i U hls
  have:=LB (base:=b) (s:=s) (pos:=pos) AC
  exact fin h (B5 AC)
end
end Go.Proofs.Z
namespace Go.Aw
open Go
theorem dz {l:List UInt8} (h:A1 (l.drop 1)=111\/A1 (l.drop 1)=79):EW l=8:=if_pos h
theorem X3 {l:List UInt8} (h:A1 (l.drop 1)=120\/A1 (l.drop 1)=88):EW l=16:=by unfold EW;rw [if_neg AC,if_pos h]
theorem kP {l:List UInt8} (h:A1 (l.drop 1)≠111/\A1 (l.drop 1)≠79/\A1 (l.drop 1)≠120/\A1 (l.drop 1)≠88):EW l=10:=by unfold EW;rw [if_neg AC,if_neg AC]
theorem kQ (l:List UInt8):EW l=8\/EW l=16\/EW l=10:=by
 unfold EW
 split
 .exact .inl rfl
 .split
  .exact .inr (.inl rfl)
  .exact .inr (.inr rfl)
theorem Lw {l:List UInt8} {b:Int} (h:A1 l=48) (hb:EW l=b) (hn:b≠10) (U:BP b (l.drop 2)≠0):CB l=(b,2):=by
 subst hb
 exact if_pos ⟨h,hn,U⟩
theorem N2 {l:List UInt8} (h:A1 l≠48\/EW l=10\/BP (EW l) (l.drop 2)=0):CB l=(10,0):=if_neg AC
theorem N3 (l:List UInt8):CB l=(10,0)\/(CB l=(8,2)/\EW l=8)\/(CB l=(16,2)/\EW l=16):=by
 by_cases h:A1 l=48/\EW l≠10/\BP (EW l) (l.drop 2)≠0
 .rcases kQ l with hb|hb|hb
  .exact .inr (.inl ⟨Lw h.1 hb Do (hb ▸ h.2.2),hb⟩)
  .exact .inr (.inr ⟨Lw h.1 hb Do (hb ▸ h.2.2),hb⟩)
  .exact absurd hb h.2.1
 .exact .inl (if_neg h)
theorem fu {l:List UInt8} (h:A1 l=43\/A1 l=45):Ma l=1:=if_pos h
theorem ft {l:List UInt8} (h:¬(A1 l=43\/A1 l=45)):Ma l=0:=if_neg h
theorem rR {l:List UInt8} (h:¬(A1 l=101\/A1 l=69)):Np l=0:=if_neg λe=>h e.1
theorem mg {l:List UInt8} (h:A1 l=101\/A1 l=69) (hk:1+Ma (l.drop 1)=j) (U:BP 10 (l.drop j)=0):Np l=0:=by
 subst hk
 exact if_neg λe=>e.2 U
theorem mh {l:List UInt8} (h:A1 l=101\/A1 l=69) (hk:1+Ma (l.drop 1)=j) (U:BP 10 (l.drop j)≠0):Np l=j+BP 10 (l.drop j):=by
 subst hk
 exact if_pos ⟨h,U⟩
end Go.Aw
namespace Go.Proofs.Z
open Go Go.Aw
section
variable {st:St} {R:Au->St->Prop}
theorem ph {n:Nat} {b:Int} (U:s.length<=4611686018427387903) (h:R (.ret (.int .i64 (BP b (s.drop n):Nat))) st):PC 198 [.str (s.drop (n:Int).toNat),.int .i64 b] st R:=
 vu IR h
theorem cF (hl:s.length<=4611686018427387903) (h:R (.ret (.Bp [.int .i64 (CB s).1,.int .i64 (CB s).2])) st):PC 197 [.str s] st R:=by
 refine pB Tryz.func197 ?_
 repeat' ((conv=>whnf);first|(refine B7 ?_;intros)|(refine B8 ?_ ?_<;>intro _)|refine ph (n:=2) hl ?_)
 all_goals try have U:=Eg (show s[0]? =some _ by assumption)
 all_goals try rw [List.drop_zero] at U
 all_goals try have h1:=Eg (show s[1]? =some _ by assumption)
 all_goals try have h1:=HP (s:=s) (i:=1) AC
 all_goals first
  |exact fin h (by rw [N2 (.inl AC)];rfl)
  |exact fin h (by rw [N2 (.inr (.inl (kP AC)))];rfl)
  |exact fin h (by rw [N2 (.inr (.inr (by rw [dz AC];assumption)))];rfl)
  |exact fin h (by rw [N2 (.inr (.inr (by rw [X3 AC];assumption)))];rfl)
  |exact fin h (by rw [Lw AC (dz AC) Do ‹_›];rfl)
  |exact fin h (by rw [Lw AC (X3 AC) Do ‹_›];rfl)
theorem aY (hl:s.length<=4611686018427387903) (h:R (.ret (.int .i64 (Np s:Nat))) st):PC 199 [.str s] st R:=by
 refine pB Tryz.func199 ?_
 by_cases U:s=[]
 .subst U
  repeat' ((conv=>whnf);first|(refine B7 ?_;intros)|(refine B8 ?_ ?_<;>intro _)|fail)
  .exact fin h rfl
  .rename_i hn;exact absurd rfl hn
 have hlen:=List.length_pos_iff.2 U
 have r1:BP 10 (s.drop 1)<=s.length:=Nat.le_trans (ET 10 _) IR
 have r2:BP 10 (s.drop 2)<=s.length:=Nat.le_trans (ET 10 _) IR
 repeat' ((conv=>whnf);first|(refine B7 ?_;intros)|(refine B8 ?_ ?_<;>intro _)|refine ph (n:=1) hl ?_|refine ph (n:=2) hl ?_)
 all_goals try have h0:=Eg (show s[0]? =some _ by assumption)
 all_goals try rw [List.drop_zero] at h0
 all_goals try have h1:=Eg (show s[1]? =some _ by assumption)
 all_goals try have h1:=HP (s:=s) (i:=1) AC
 all_goals first
  |(have e:=rR (l:=s) AC;exact fin h (B5 AC))
  |(have e:=mg (l:=s) (j:=1) AC (by rw [ft AC]) ‹_›;exact fin h (B5 AC))
  |(have e:=mh (l:=s) (j:=1) AC (by rw [ft AC]) ‹_›;exact fin h (B5 AC))
  |(have e:=mg (l:=s) (j:=2) AC (by rw [fu AC]) ‹_›;exact fin h (B5 AC))
  |(have e:=mh (l:=s) (j:=2) AC (by rw [fu AC]) ‹_›;exact fin h (B5 AC))
end
end Go.Proofs.Z
namespace Go.Proofs.Z
open Go Go.Aw
open Rd (ret seq fail Ee look loop)
def K8 (base:Int):List UInt8->Int->Int×Int
 |[],v=>(v,0)
 |a::r,v=>if (4611686018427387904 - BS (a.toNat:Nat) base) / base<v then (0,3) else K8 base r (v*base+BS (a.toNat:Nat) base)
def EH (s:List UInt8):Int×Int:=if (E5 s).1=11/\(E5 s).2=s.length then K8 (CB s).1 (s.drop (CB s).2) 0 else (0,40)
def L9 (t:Tk):Bool:=t.kind==19||(t.kind==15&&t.text==[59])
def FU (t:Tk):Bool:=t.kind==1||t.kind==2||t.kind==3||t.kind==4||t.kind==11||t.kind==12||t.kind==13||t.kind==14||
 (t.kind==9&&t.text==[95])||(t.kind==10&&t.text==[126])||(t.kind==15&&(t.text==[40]||t.text==[91]))
abbrev uF:List UInt8:=[108,101,116]
abbrev z7:List UInt8:=[105,102]
abbrev ql:List UInt8:=[99,97,115,101]
abbrev z6:List UInt8:=[100,111]
abbrev wIn:List UInt8:=[105,110]
abbrev wOf:List UInt8:=[111,102]
abbrev zm:List UInt8:=[116,104,101,110]
abbrev zk:List UInt8:=[101,108,115,101]
abbrev Ke:List UInt8:=[119,104,101,114,101]
def GJ (t:Tk):Bool:=(t.kind==9&&(t.text==uF||t.text==z7||t.text==ql||t.text==z6))||(t.kind==10&&t.text==[92])||(t.kind==5&&t.text==[45])||FU t
def My (t:Tk):Bool:=t.kind==9&&(t.text==[105,110,102,105,120,108]||t.text==[105,110,102,105,120,114]||t.text==[105,110,102,105,120])
def Pg (t:Tk):Bool:=t.kind==5||t.kind==6||t.kind==7||t.kind==8||(t.kind==10&&t.text==[58])
def Sj (t:Tk):Bool:=Pg t||(t.kind==15&&t.text==[96])
def SV (k:Int) (l:List Nd):Nd:=if l.length=1 then l.headD Gg else Ar k l
def Ic:Er:=⟨2,Do⟩
def Ie:Er:=⟨120,Do⟩
def Z3 (n:Nd):Bool:=(n.kind==1||n.kind==3)&&((G6 n).2==0&&(G6 n).1.length==1)
def DX (m:Rd Nd) (may:Nd->Bool):Rd Nd:=.look λs0=>.seq m λn=>if may n=true then .ret n else .Ee s0 Ie
def Jh:Rd Nd:=.look λs=>if Pg (Ac s).1=true then .seq AR λt=>.ret (Ar 18 [t])
 else .seq (Bx 15 [96]) λo=>.seq (Dl [1,2,3,4]) λn=>.seq (Bx 15 [96]) λc=>.ret (Ar 18 [o,n,c])
def cg (l:List Nd):Rd (Sum (List Nd) (List Nd)):=.look λs=>if Bq s 5 [45]=true then .seq AR λt=>.ret (.inl (l++[Ar 19 [t]])) else .ret (.inr l)
def cj (l:List Nd):Rd (List Nd):=.loop cg l
def o9 (U:Rd Nd) (br:Bool) (l:List Nd):Rd (Sum (List Nd) (List Nd×Bool)):=.seq (cj l) λl=>.seq U λn=>.look λs=>
 if Sj (Ac s).1=true then .seq Jh λo=>
  if br=true then .look λs=>if Bq s 15 [41]=true then .ret (.inr (l++[n]++[o],true)) else .ret (.inl (l++[n]++[o]))
  else .ret (.inl (l++[n]++[o]))
 else .ret (.inr (l++[n],false))
def Ul (U:Rd Nd) (br:Bool):Rd (List Nd×Bool):=.loop (o9 U br) []
def cz (U:Rd Nd):Rd Nd:=.seq (Ul U false) λp=>.ret (SV 17 p.1)
def Pv (full:Rd Nd) (n:Nd):Rd Nd:=.look λs=>if Bq s 10 [58,58]=true then .seq AR λc=>.seq full λt=>.ret (Ar 22 [n,c,t]) else .ret n
def gR (U full:Rd Nd):Rd Nd:=.seq (cz U) λn=>Pv full n
structure E9 where
 atom:Rd Nd
 exp:Rd Nd
 ops:Rd Nd
 decls:Rd Nd
 stmts:Rd Nd
 alts:Rd Nd
 Ff:Nd->Rd Nd
 list:Nd->Rd Nd
def OV (L:E9) (lt block:Nd):Rd Nd:=.seq (Bx 9 wIn) λi=>.seq L.exp λe=>.ret (Ar 24 [lt,block,i,e])
def sK (L:E9):Rd Nd:=.seq AR λt=>.seq L.decls λb=>OV L t b
def QK (atom:Rd Nd) (l:List Nd):Rd (Sum (List Nd) (List Nd)):=.seq (DX atom Kj) λn=>.ret (.inl (l++[n]))
def VZ (atom:Rd Nd) (l:List Nd):Rd (Sum (List Nd) (List Nd)):=
 if ((l.length:Int)==1)=true then QK atom l else .look λs=>if FU (Ac s).1=true then QK atom l else .ret (.inr l)
def NJ (L:E9) (atom:Rd Nd):Rd Nd:=.seq AR λb=>.seq (.loop (VZ atom) [b]) λl=>.seq (Bx 10 [45,62]) λa=>.seq L.exp λe=>.ret (Ar 23 (l++[a]++[e]))
def fo (w:List UInt8):Rd Unit:=.look λs=>if L9 (Ac s).1=true then (if Bq (Ac s).2.1 9 w=true then K1 else .ret ()) else .ret ()
def PX (L:E9) (l:List Nd) (w:List UInt8):Rd (List Nd):=.seq (fo w) λ_=>.seq (Bx 9 w) λa=>.seq L.exp λe=>.ret (l++[a]++[e])
def M9 (L:E9):Rd Nd:=.seq AR λi=>.seq L.exp λc=>.seq (PX L [i,c] zm) λl=>.seq (PX L l zk) λl=>.ret (Ar 25 l)
def dC (L:E9):Rd Nd:=.seq AR λc=>.seq L.exp λe=>.seq (Bx 9 wOf) λo=>.seq L.alts λa=>.ret (Ar 26 ([c,e,o]++[a]))
def Hq (b:Nd):Bool:=match b.kids.getLast? with
 |none=>true
 |some x=>x.kind==32||x.kind==33
def Tq (L:E9):Rd Nd:=.seq AR λd=>.seq L.stmts λb=>if Hq b=true then .fail Ie else .ret (Ar 27 [d,b])
def aJ (atom:Rd Nd) (l:List Nd):Rd (Sum (List Nd) (List Nd)):=.look λs=>if FU (Ac s).1=true then .seq atom λn=>.ret (.inl (l++[n])) else .ret (.inr l)
def Ot (atom:Rd Nd):Rd Nd:=.seq atom λn=>.seq (.loop (aJ atom) [n]) λl=>.ret (SV 11 l)
def Ji (L:E9) (atom:Rd Nd):Rd Nd:=.look λs=>
 if ((Ac s).1.kind==10)=true then (if ((Ac s).1.text==[92])=true then NJ L atom else Ot atom)
 else if ((Ac s).1.kind==9)=true then
  (if ((Ac s).1.text==uF)=true then sK L
  else if ((Ac s).1.text==z7)=true then M9 L
  else if ((Ac s).1.text==ql)=true then dC L
  else if ((Ac s).1.text==z6)=true then Tq L
  else Ot atom)
 else Ot atom
def Vn (l:List Nd):Rd (Sum (List Nd) (List Nd)):=.look λs=>if Bq s 15 [44]=true then .seq AR λc=>.ret (.inl (l++[c])) else .ret (.inr l)
def YA (o:Nd):Rd Nd:=.seq (.loop Vn [o]) λl=>.seq (Bx 15 [41]) λc=>.ret (Ar 3 (l++[c]))
def S6 (L:E9) (o:Nd):Rd Nd:=.look λs=>if Sj (Ac s).1=true then
 (if Bq s 5 [45]=true then L.Ff o else .seq Jh λp=>.seq L.ops λe=>.seq (Bx 15 [41]) λc=>.ret (Ar 10 [o,p,e,c]))
 else L.Ff o
def Xh (L:E9) (o:Nd):Rd Nd:=.look λs=>if Pg (Ac s).1=true then
 (if Bq (Ac s).2.1 15 [41]=true then .seq AR λp=>.seq AR λc=>.ret (Ar 3 [o,p,c]) else S6 L o)
 else S6 L o
def S7 (L:E9):Rd Nd:=.seq AR λo=>.look λs=>if Bq s 15 [41]=true then YA o else if Bq s 15 [44]=true then YA o else Xh L o
def Oc (L:E9):Rd Nd:=.seq AR λo=>.look λs=>if Bq s 15 [93]=true then .seq AR λc=>.ret (Ar 3 [o,c]) else L.list o
def Ub (L:E9):Rd Nd:=.look λs=>if FU (Ac s).1=true then
 (if ((Ac s).1.kind==15)=true then (if ((Ac s).1.text==[40])=true then S7 L else Oc L)
 else if ((Ac s).1.kind==9)=true then .seq AR λw=>.ret (Ar 14 [w])
 else if ((Ac s).1.kind==10)=true then .seq AR λw=>.seq L.atom λa=>.ret (Ar 16 [w,a])
 else .seq AR λn=>if ((Ac s).1.kind==1)=true then .look λs=>if Bq s 10 [64]=true then .seq AR λw=>.seq L.atom λa=>.ret (Ar 15 [n,w,a]) else .ret n
  else .ret n)
 else Ow
def VD (L:E9) (l:List Nd):Rd (Sum (List Nd) (List Nd)):=.seq (Dl [1,3]) λU=>.seq (Bx 10 [61]) λq=>.seq L.exp λe=>.look λs=>
 if Bq s 15 [44]=true then .seq AR λc=>.ret (.inl (l++[Ar 13 [U,q,e]]++[c])) else .ret (.inr (l++[Ar 13 [U,q,e]]))
def Xe (L:E9) (l:List Nd):Rd (Sum (List Nd) (List Nd)):=.look λs=>if Bq s 15 [125]=true then (if 2<(l.length:Int) then VD L l else .ret (.inr l)) else VD L l
def LA (L:E9) (n:Nd):Rd Nd:=.seq AR λb=>.seq (.loop (Xe L) [n,b]) λl=>.seq (Bx 15 [125]) λc=>.ret (Ar 12 (l++[c]))
def kM (L:E9) (n:Nd):Rd (Sum Nd Nd):=.look λs=>if Bq s 15 [123]=true then .seq (LA L n) λn=>.ret (.inl n) else .ret (.inr n)
def MX (L:E9):Rd Nd:=.seq (Ub L) λn=>.loop (kM L) n
def db (exp:Rd Nd) (p:Int×List Nd):Rd (Sum (Int×List Nd) (Int×List Nd)):=.look λs=>if Bq s 15 [44]=true then .seq AR λc=>.seq exp λe=>.ret (.inl (5,p.2++[c]++[e])) else .ret (.inr p)
def Fz (U full exp:Rd Nd) (o:Nd):Rd Nd:=.seq (Ul U true) λp=>if p.2=true then
 .seq AR λc=>.ret (Ar 9 [o,SV 17 (p.1.take (p.1.length - 1)),p.1.getLastD Gg,c])
 else .seq (Pv full (SV 17 p.1)) λe=>.seq (.loop (db exp) (4,[o,e])) λq=>.seq (Bx 15 [41]) λc=>.ret (Ar q.1 (q.2++[c]))
def O3 (stmt:Rd Nd) (l:List Nd):Rd (Sum (List Nd) (List Nd)):=.look λs=>if Bq s 15 [44]=true then .seq AR λc=>.seq stmt λt=>.ret (.inl (l++[c]++[t])) else .ret (.inr l)
def Gx (stmt:Rd Nd) (l:List Nd):Rd (List Nd):=.seq (Bx 10 [124]) λb=>.seq stmt λt=>.loop (O3 stmt) (l++[b]++[t])
def ez (exp:Rd Nd) (l:List Nd):Rd (Sum (List Nd) (Int×List Nd)):=.look λs=>if Bq s 15 [44]=true then .seq AR λc=>.seq exp λe=>.ret (.inl (l++[c]++[e])) else .ret (.inr (6,l))
def nH (exp:Rd Nd) (l:List Nd):Rd (Sum (List Nd) (Int×List Nd)):=if (l.length:Int)<5 then
 .look λs=>if Bq s 10 [46,46]=true then .seq AR λd=>.look λs=>if Bq s 15 [93]=true then .ret (.inr (7,l++[d])) else .seq exp λe=>.ret (.inr (7,l++[d]++[e]))
  else ez exp l
 else ez exp l
def SE (exp stmt:Rd Nd) (o:Nd):Rd Nd:=.seq exp λe=>.look λs=>if Bq s 10 [124]=true then
 .seq (Gx stmt [o,e]) λl=>.seq (Bx 15 [93]) λc=>.ret (Ar 8 (l++[c]))
 else .seq (.loop (nH exp) [o,e]) λq=>.seq (Bx 15 [93]) λc=>.ret (Ar q.1 (q.2++[c]))
def X6 (exp:Rd Nd) (n:Nd):Rd Nd:=.look λs=>if Bq s 10 [60,45]=true then (if Kj n=true then .seq AR λa=>.seq exp λe=>.ret (Ar 32 [n,a,e]) else .fail Ie) else .ret n
def UT (L:E9) (exp:Rd Nd):Rd Nd:=.look λs=>if Bq s 9 uF=true then
 .seq AR λt=>.seq L.decls λb=>.look λs=>if Bq s 9 wIn=true then .seq (OV L t b) λn=>X6 exp n else .ret (Ar 33 [t,b])
 else .seq exp λn=>X6 exp n
def Sg (exp stmt:Rd Nd) (m:List UInt8) (l:List Nd):Rd (Sum (List Nd) (List Nd)):=.seq (Gx stmt []) λg=>.seq (Bx 10 m) λq=>.seq exp λe=>.ret (.inl (l++[Ar 30 (g++[q]++[e])]))
def VP (exp stmt:Rd Nd) (m:List UInt8) (l:List Nd):Rd (Sum (List Nd) (List Nd)):=if ((l.length:Int)==0)=true then Sg exp stmt m l
 else if ((l.headD Gg).kind==30)=true then .look λs=>if Bq s 10 [124]=true then Sg exp stmt m l else .ret (.inr l)
 else .ret (.inr l)
def oZ (L:E9) (exp stmt:Rd Nd) (m:List UInt8) (l:List Nd):Rd Nd:=.seq (.loop (VP exp stmt m) l) λl=>.look λs=>if Bq s 9 Ke=true then
 .seq AR λw=>.seq L.decls λb=>.ret (Ar 29 (l++[Ar 31 [w,b]]))
 else .ret (Ar 29 l)
def cL (L:E9) (exp stmt:Rd Nd) (m:List UInt8):Rd Nd:=.look λs=>if Bq s 10 m=true then .seq AR λa=>.seq exp λe=>oZ L exp stmt m ([]++[a,e])
 else if Bq s 10 [124]=true then oZ L exp stmt m [] else Ow
def fR (L:E9) (ops exp stmt:Rd Nd):Rd Nd:=.seq ops λn=>if Kj n=true then .seq (cL L exp stmt [45,62]) λr=>.ret (Ar 28 [n,r]) else .fail Ie
def OD (n:Nd):Bool:=(EH n.text).2==0&&decide ((EH n.text).1<=9)
def JY (n:Nd):Bool:=match n.kids[n.kids.length / 2]? with
 |some x=> !(x.form==7||x.form==8||x.form==3||x.form==4)
 |none=>false
def VI (l:List Nd):Rd (Sum (List Nd) (List Nd)):=.look λs=>if Bq s 15 [44]=true then .seq AR λc=>.seq (DX Jh JY) λo=>.ret (.inl (l++[c]++[o])) else .ret (.inr l)
def Nv (l:List Nd):Rd Nd:=.seq (DX Jh JY) λo=>.seq (.loop VI (l++[o])) λl=>.ret (Ar 35 l)
def Nw:Rd Nd:=.seq AR λf=>.look λs=>if ((Ac s).1.kind==11)=true then .seq (DX AR OD) λd=>Nv ([f]++[d]) else Nv [f]
def xK (atom:Rd Nd) (l:List Nd):Rd (Sum (List Nd) (List Nd)):=.look λs=>if Bq s 15 [44]=true then .seq AR λc=>.seq (DX atom Z3) λo=>.ret (.inl (l++[c]++[o])) else .ret (.inr l)
def ji (atom full:Rd Nd) (n:Nd):Rd Nd:=if Z3 n=true then .seq (.loop (xK atom) [n]) λl=>.seq (Bx 10 [58,58]) λc=>.seq full λt=>.ret (Ar 34 (l++[c]++[t])) else .fail Ie
def Ui (L:E9) (atom ops exp stmt full:Rd Nd):Rd Nd:=.look λs=>if My (Ac s).1=true then Nw
 else .seq ops λn=>.look λs=>if Bq s 15 [44]=true then ji atom full n else if Bq s 10 [58,58]=true then ji atom full n
  else if ((bV n).2.2==0)=true then .seq (cL L exp stmt [61]) λr=>.ret (Ar 36 [n,r]) else .fail Ie
def CY (s:Aj):Aj×Bool:=if LR s=true/\¬s.wait=1/\¬G2 s=0 then (FW s,true) else (Fs,false)
theorem Oz {s:Aj} (h:(CY s).2=true):mu (CY s).1<=mu s:=by
 unfold CY at h |-
 split
 .rename_i U
  have hne:s.DN≠[]:=λe=>U.2.2 (by unfold G2;rw [e];rfl)
  have:=JF hne
  simp only [mu,FW] at *
  omega
 .rename_i U;rw [if_neg U] at h;cases h
def Oy:Rd Unit:=⟨λs=>if (CY s).2=true then .inr ((),(CY s).1) else .inl (⟨Ve s,Vf s⟩,s),λs v s' h=>by
 split at h
 .cases h;exact Oz ‹_›
 .cases h⟩
def Xn (_:Unit):Rd (Sum Unit Unit):=.look λs=>if L9 (Ac s).1=true then .seq K1 λ_=>.ret (.inl ()) else .ret (.inr ())
def Tc:Rd Unit:=.loop Xn ()
def JI (f:Bool) (U:Bool):Rd Bool:=.look λs=>if (if f then Bq s 15 [125] else (Ac s).1.kind==20)=true then .seq K1 λ_=>.ret true
 else if U=true then (if f=true then Ow else .seq Oy λ_=>.ret true) else .ret false
def Vg (starts:Tk->Bool) (item:Rd Nd) (f:Bool) (l:List Nd):Rd (Sum (List Nd) (List Nd)):=.seq Tc λ_=>.look λs=>.seq (JI f (!starts (Ac s).1)) λe=>
 if e=true then .ret (.inr l) else .seq item λn=>.look λs=>.seq (JI f (!L9 (Ac s).1)) λe=>if e=true then .ret (.inr (l++[n])) else .ret (.inl (l++[n]))
def Ed (f:Bool) (l:List Nd):Nd:=.mk 2 (if f then 1 else 0) [] 0 0 l
def FV (starts:Tk->Bool) (item:Rd Nd):Rd Nd:=.look λs=>if ((Ac s).1.kind==18)=true then .seq K1 λ_=>.seq (.loop (Vg starts item false) []) λl=>.ret (Ed false l)
 else .seq (Bx 15 [123]) λ_=>.seq (.loop (Vg starts item true) []) λl=>.ret (Ed true l)
def uU (L:E9):Rd Nd:=MX L
def oE (L:E9):Rd Nd:=Ji L (MX L)
def opsL (L:E9):Rd Nd:=cz (oE L)
def RT (full:Rd Nd) (L:E9):Rd Nd:=gR (oE L) full
def Od (full:Rd Nd) (L:E9):Rd Nd:=UT L (RT full L)
def qJ (full:Rd Nd) (L:E9):Rd Nd:=fR L (opsL L) (RT full L) (Od full L)
def Uh (full:Rd Nd) (L:E9):Rd Nd:=Ui L (MX L) (opsL L) (RT full L) (Od full L) full
def OC (t:Tk):Bool:=GJ t||My t
def zZ (full:Rd Nd) (L:E9):E9 where
 atom:=uU L
 exp:=RT full L
 ops:=opsL L
 decls:=FV OC (Uh full L)
 stmts:=FV GJ (Od full L)
 alts:=FV GJ (qJ full L)
 Ff:=λo=>Fz (oE L) full (RT full L) o
 list:=λo=>SE (RT full L) (Od full L) o
def zO:E9:=⟨.fail Ic,.fail Ic,.fail Ic,.fail Ic,.fail Ic,.fail Ic,λ_=>.fail Ic,λ_=>.fail Ic⟩
theorem RX {A:Aj->Rs} (U:A6 A):A6 (He A):=λs n s' h=>by
 unfold He at h
 split at h
 .cases h
 .rename_i p h1
  have h2:=FH U _ _ _ h1
  split at h
  .rename_i h3
   have h4:=Eh h3 Do Do
   split at h
   .cases h
   .rename_i q h5
    have:=GS U _ _ _ h5
    cases h
    omega
  .have:=T7 h
   omega
def KH (d:Nat):Rd Nd:=JR (He (DP (DT (d - 1)))) λs v s' h=>Nat.le_of_lt (RX (BM (Bw _)) _ _ _ h)
def iC:Nat->E9
 |0=>zO
 |d+1=>zZ (KH (d+1)) (iC d)
end Go.Proofs.Z
namespace Go.Proofs.Z
open Go Go.Aw
def rM (n:Nd) (s:Aj) (e:Int):V:=.agg [.int .i64 n.kind,.int .i64 n.form,.str n.text,.int .i64 n.line,.int .i64 n.Cg,.slice 6 (BL n.kids) .any,
 .slice 4 (AV s.Ay) .any,.int .i64 s.pos,.slice 1 (ints s.DN) .any,.int .i64 s.wait,.int .i64 e]
section
variable {st:St} {R:Au->St->Prop}
attribute [local irreducible] Go.Aw.Am
def lV:Rs->V
 | .inr (n,s)=>rM n s 0
 | .inl (e,s)=>rM Gg s e
end
section
variable {st:St} {R:Au->St->Prop}
attribute [local irreducible] Go.Aw.Am
theorem dc {deep:Int} {A:Aj->Rs} (U:¬deep<1->Dq 358 (if 100<deep then 100 else deep) A):Dp 318 deep A:=by
 intro s hm st R h
 refine pB Tryz.func318 ?_
 repeat' ((conv=>whnf);first|(refine AA ?_;intros)|(refine AB ?_ ?_<;>intro _)|refine Na (s:=s) (q:=A s) (λhd=>U hd s hm) ?_)
 all_goals exact AY rfl h
theorem qO {deep:Int} {A:Aj->Rs} (U:¬deep<1->Dq 390 (if 100<deep then 100 else deep) A):Dp 412 deep A:=by
 intro s hm st R h
 refine pB Tryz.func412 ?_
 repeat' ((conv=>whnf);first|(refine AA ?_;intros)|(refine AB ?_ ?_<;>intro _)|refine Na (s:=s) (q:=A s) (λhd=>U hd s hm) ?_)
 all_goals exact AY rfl h
theorem xD {deep:Int} {A:Aj->Rs} (U:¬deep<1->Dq 357 (if 100<deep then 100 else deep) A):Dp 317 deep A:=by
 intro s hm st R h
 refine pB Tryz.func317 ?_
 repeat' ((conv=>whnf);first|(refine AA ?_;intros)|(refine AB ?_ ?_<;>intro _)|refine Na (s:=s) (q:=A s) (λhd=>U hd s hm) ?_)
 all_goals exact AY rfl h
theorem rX {deep:Int} {A:Aj->Rs} (U:¬deep<1->Dq 366 (if 100<deep then 100 else deep) A):Dp 329 deep A:=by
 intro s hm st R h
 refine pB Tryz.func329 ?_
 repeat' ((conv=>whnf);first|(refine AA ?_;intros)|(refine AB ?_ ?_<;>intro _)|refine Na (s:=s) (q:=A s) (λhd=>U hd s hm) ?_)
 all_goals exact AY rfl h
end
def MO (Y:Aj->Rs) (n:Nd) (s:Aj):Ls:=match Y s with
 | .inl e=>.inl e
 | .inr q=>CQ Y [n,q.1] q.2
def kv (st:St) (b:Nat) (R:Au->St->Prop):Ls->Prop
 | .inr (l,s')=>∀st' U,H5 st st' b s'->U.BD st'->R (.ret (.slice 6 (l.map Ax) U)) (U.st st' (l.length*6))
 | .inl (e,s')=>∀st',H5 st st' b s'->R (.B1 (fault e)) st'
theorem jQ {s:Aj} (h:Bq s 15 [44]=true) (U:Y (Ac s).2.1=.inr (n,s')) (hm:mu s'<mu s):CQ Y l s=CQ Y (l++[BA (Ac s).1,n]) s':=by
 rw [CQ,if_pos h,U]
 dsimp only
 rw [if_pos hm]
section
variable {st:St} {R:Au->St->Prop}
attribute [local irreducible] Go.Aw.Am
theorem uB (hY:Dp 318 d Y) (h0:d=0->∀s,Y s=.inl (2,s)) (hB:E8 Y) (hF:A6 Y) {n1:Nd} {s:Aj} {x:Int} (hx:x=(d:Int)) (hm:mu s<=100000000) (hs:Has st b s) (h:kv st b R (MO Y n1 s)):
 PC 422 [.ptr b 0,.slice 6 [Ax n1] .full,.int .i64 x] st R:=by
 refine pB Tryz.func422 ?_
 unfold MO at h
 have hn1:[n1].length+1<=1000000000:=by show 1+1<=1000000000;decide
 repeat' ((conv=>whnf);first|(refine AA ?_;intros)|(refine AB ?_ ?_<;>intro _)|refine B2 (λ_=>?_) ?_|refine Sl hx hY h0 hB hm hs (D8 (λn2 s2 U st2 h2=>?_) (λe2 s2 U st2 h2=>?_))|refine PF (l:=[n1]) (x:=n2) (own:=.full) trivial hn1 (λown1 ho1=>?_))
 .rw [U] at h
  have hd2:=hF _ _ _ U
  dsimp only at h
  refine Dc (α:=List Nd×Aj×St×AE) (λx=>[(1,.slice 6 (x.1.map Ax) x.2.2.2)]) [0,2,6] (λx=>[]) [] (λx=>x.2.2.2.st x.2.2.1 (x.1.length*6))
   (λx=>x.2.2.2.BD x.2.2.1/\H5 st x.2.2.1 b x.2.1/\x.1.length+2*mu x.2.1<=400000000/\mu x.2.1<=mu s/\CQ Y x.1 x.2.1=CQ Y [n1,n2] s2) (λx=>mu x.2.1) ([n1]++[n2],s2,st2,own1)
   ⟨ho1,h2,by show 2+2*mu s2<=_;omega,by show mu s2<=_;omega,rfl⟩ Yl (St.le_refl _) ?_
  rintro ⟨l,s3,st3,own⟩ ⟨j1,j2,j5,j6,j7⟩
  dsimp only at j1 j2 j5 j6 j7
  have hm3:mu s3<=100000000:=AC
  have hb3:=FC hm3
  have hl3:Has (st3.Aa b (CS s3)) b s3:=.inl (St.Ah ..)
  have g3:own.BD (st3.Aa b (CS s3)):=Ja j1 j2.1
  have hn:l.length+2<=1000000000:=AC
  have hm4:Bq s3 15 [44]=true->mu (Ac s3).2.1<=100000000:=λe=>by have:=Eh e Do Do;omega
  repeat' ((conv=>whnf);first|(refine AA ?_;intros)|(refine AB ?_ ?_<;>intro _)|refine B2 (λ_=>?_) ?_|refine wN j2.1 hb3 ?_|refine Gf (hl3.hw own _) hb3 (Tu g3 hl3 (Ka ‹_› Do) (λst4 h4 g4=>?_))|refine Sl hx hY h0 hB (hm4 ‹_›) (h4.1.hw own _) (FN g4 h4.1 (GF (λn5 s5 hq5 st5 h5 g5=>?_) (λe5 s5 hq5 st5 h5 g5=>?_)))|refine kE (l:=l) (x:=BA (Ac s3).1) (y:=n5) g5 hn (λown' ho'=>?_))
  all_goals conv=>whnf
  .have hp:Bq s3 15 [44]=true:=FS
   have hd:=hF _ _ _ hq5
   have hd3:=Eh hp Do Do
   have hd4:mu s5<mu s3:=AC
   have hu:=(A5 (st:=st3) (b:=b) (s:=s3)).trans (h4.trans h5)
   refine ⟨(l++[BA (Ac s3).1,n5],s5,st5,own'),⟨ho',j2.trans hu,?_,by show mu s5<=_;omega,?_⟩,hd4,Yl,St.le_refl _⟩
   .show (l++[BA (Ac s3).1,n5]).length+2*mu s5<=_
    rw [List.length_append]
    show l.length+2+2*mu s5<=_
    omega
   .show CQ Y (l++[BA (Ac s3).1,n5]) s5=_
    rw [<-j7,jQ (l:=l) hp hq5 hd4]
  .have hp:Bq s3 15 [44]=true:=FS
   have hu:=(A5 (st:=st3) (b:=b) (s:=s3)).trans (h4.trans h5)
   have hr:CQ Y l s3=.inl (e5,s5):=by rw [CQ,if_pos hp,hq5]
   rw [<-j7,hr] at h
   exact EJ (AE.Bz g5) rfl (h st5 (j2.trans hu))
  .have hr:CQ Y l s3=.inr (l,s3):=by rw [CQ,if_neg (Bool.eq_false_iff.1 ‹_›)]
   rw [<-j7,hr] at h
   exact fin (h _ own (j2.trans A5) g3) rfl
 .rw [U] at h
  exact fin (h st2 h2) rfl
end
section
variable {st:St} {R:Au->St->Prop}
attribute [local irreducible] Go.Aw.Am
theorem wO {s:Aj} (e:Bq s k x=true) (U:Has st b s) (hb:s.DN.length<=500000000) (h:R (.ret (.bool true)) (st.Aa b (CS s))):PC 149 [.ptr b 0,.int .i64 k,.str x] st R:=bJ U hb i7
theorem ia {s:Aj} (e:Bq s k x=false) (U:Has st b s) (hb:s.DN.length<=500000000) (h:R (.ret (.bool false)) (st.Aa b (CS s))):PC 149 [.ptr b 0,.int .i64 k,.str x] st R:=bJ U hb i7
theorem Fl {st:St} {s:Aj}:Has (st.Aa b (CS s)) b s:=.inl (St.Ah ..)
theorem gx {s:Aj} (h:Bq s 15 [44]=true):DV l s=DV (l++[BA (Ac s).1]) (Ac s).2.1:=by
 rw [DV,if_pos h,if_pos (Eh h Do Do)]
theorem aP {s:Aj} (h:Bq s 15 [44]=false):DV l s=(l,s):=by
 rw [DV,if_neg i7]
theorem de (l:List Nd) (s:Aj):∀q s',CQ Y l s=.inr (q,s')->q.length+2*mu s'<=l.length+2*mu s:=by
 fun_induction CQ Y l s with
 |case1 l s U e1 h2=>simp_all
 |case2 l s U p h2 h3 ih=>
  grind
 |case3 l s U p h2 h3=>simp_all
 |case4 l s U=>simp_all
theorem jR (hF:A6 Y) {s:Aj} (h:MO Y n s=.inr (l,s')):mu s'<=mu s/\l.length<=2+2*mu s:=by
 unfold MO at h
 split at h
 .cases h
 .rename_i U
  have h2:=hF _ _ _ U
  have h3:=U0 _ _ _ _ h
  have h4:=de _ _ _ _ h
  grind
theorem jD {st:St} {K:Au->St->Prop} {q:Ls} (h:∀l s',q=.inr (l,s')->∀st' U,H5 st st' b s'->U.BD st'->K (.ret (.slice 6 (l.map Ax) U)) (U.st st' (l.length*6)))
 (k:∀e s',q=.inl (e,s')->∀st',H5 st st' b s'->K (.B1 (fault e)) st'):kv st b K q:=by
 match q with
 | .inr (l,s')=>exact h l s' rfl
 | .inl (e,s')=>exact k e s' rfl
theorem tH {x:Int} (hx:x=((d+1:Nat):Int)) (hd:d<=1000000) (hY:Dp 318 d Y) (h0:d=0->∀s,Y s=.inl (2,s)) (hB:E8 Y) (hF:A6 Y):Dq 410 x (G9 Y):=by
 intro s hm b st R hs h
 refine pB Tryz.func410 ?_
 have hb:=FC hm
 unfold G9 at h
 cases hq1:Db s with
 |inl q=>
  rw [hq1] at h
  obtain ⟨e,s'⟩:=q
  repeat' ((conv=>whnf);first|(refine AA ?_;intros)|(refine AB ?_ ?_<;>intro _)|refine Gf hs hb (XA hq1 (λst1 h1=>?_)))
  all_goals exact fin (h st1 h1) rfl
 |inr q=>
  obtain ⟨n1,s1⟩:=q
  rw [hq1] at h
  have hm1:mu s1<=100000000:=by have:=(Q4 hq1).1;omega
  have hb1:=FC hm1
  have hn1:[n1].length+1<=1000000000:=by show 1+1<=1000000000;decide
  dsimp only at h
  cases hA:Bq s1 10 [45,62] with
  |true=>
   rw [if_pos hA] at h
   have hb2:(Ac s1).2.1.DN.length<=500000000:=FC (by have:=Eh hA Do Do;omega)
   have hn2:∀n2:Nd,([n1]++[n2]).length+1<=1000000000:=λ_=>by simp_all
   repeat' ((conv=>whnf);first|(refine AA ?_;intros)|(refine AB ?_ ?_<;>intro _)|refine Gf hs hb (Hw hq1 (λst1 h1=>?_))|refine wO hA h1.1 hb1 ?_|refine Gf Fl hb1 (Hw (Ka hA Do) (λst2 h2=>?_))|refine PF (l:=[n1]) (x:=BA (Ac s1).1) (own:=.full) trivial hn1 (λown1 ho1=>?_)|refine TD (h2.1.hw own1 _) hb2 (FN ho1 h2.1 (GF (λn3 s3 hq3 U h3 hg3=>?_) (λe3 s3 hq3 U h3 hg3=>?_)))|refine PF (l:=[n1]++[BA (Ac s1).1]) (x:=n3) hg3 (hn2 _) (λown2 ho2=>?_))
   all_goals unfold IY at h
   all_goals rw [hq3] at h
   .exact EJ (AE.Bz ho2) Cd (h U ((h1.trans A5).trans (h2.trans h3)))
   .exact EJ (AE.Bz hg3) rfl (h U ((h1.trans A5).trans (h2.trans h3)))
  |false=>
  rw [if_neg i7] at h
  cases hC:Bq s1 15 [41] with
  |true=>
   rw [if_pos hC] at h
   repeat' ((conv=>whnf);first|(refine AA ?_;intros)|(refine AB ?_ ?_<;>intro _)|refine Gf hs hb (Hw hq1 (λst1 h1=>?_))|refine ia hA h1.1 hb1 ?_|refine wO hC Fl hb1 ?_|refine TD Fl hb1 (D8 (λn3 s3 hq3 U h3=>?_) (λe3 s3 hq3 U h3=>?_))|refine PF (l:=[n1]) (x:=n3) (own:=.full) trivial hn1 (λown2 ho2=>?_))
   all_goals unfold IY at h
   all_goals rw [hq3] at h
   .exact EJ (AE.Bz ho2) Cd (h U (((h1.trans A5).trans A5).trans h3))
   .exact fin (h U (((h1.trans A5).trans A5).trans h3)) rfl
  |false=>
  rw [if_neg i7] at h
  cases hE:Bq s1 15 [44] with
  |true=>
   rw [if_pos hE] at h
   repeat' ((conv=>whnf);first|(refine AA ?_;intros)|(refine AB ?_ ?_<;>intro _)|refine Gf hs hb (Hw hq1 (λst1 h1=>?_))|refine ia hA h1.1 hb1 ?_|refine ia hC Fl hb1 ?_|refine wO hE Fl hb1 ?_)
   refine Dc (α:=List Nd×Aj×St×AE) (λx=>[(5,.slice 6 (x.1.map Ax) x.2.2.2)]) [0,1,4,6] (λx=>[]) [0] (λx=>x.2.2.2.st x.2.2.1 (x.1.length*6))
    (λx=>x.2.2.2.BD x.2.2.1/\H5 st x.2.2.1 b x.2.1/\x.1.length+mu x.2.1<=200000000/\mu x.2.1<=mu s1/\DV x.1 x.2.1=DV [n1] s1) (λx=>mu x.2.1) ([n1],s1,_,.full)
    ⟨trivial,((h1.trans A5).trans A5).trans A5,by grind,Nat.le_refl _,rfl⟩ Yl (St.le_refl _) ?_
   rintro ⟨l,s3,U,own⟩ ⟨j1,j2,j5,j6,j7⟩
   dsimp only at j1 j2 j5 j6 j7
   have hm3:mu s3<=100000000:=AC
   have hb3:=FC hm3
   have hl3:Has (U.Aa b (CS s3)) b s3:=.inl (St.Ah ..)
   have g3:own.BD (U.Aa b (CS s3)):=Ja j1 j2.1
   have hn:l.length+1<=1000000000:=AC
   repeat' ((conv=>whnf);first|(refine AA ?_;intros)|(refine AB ?_ ?_<;>intro _)|refine wN j2.1 hb3 ?_|refine Gf (hl3.hw own _) hb3 (Tu g3 hl3 (Ka ‹_› Do) (λst4 h4 g4=>?_))|refine PF (l:=l) (x:=BA (Ac s3).1) g4 hn (λown' ho'=>?_)|refine TD (hl3.hw own _) hb3 (FN g3 hl3 (GF (λn5 s5 hq5 st5 h5 g5=>?_) (λe5 s5 hq5 st5 h5 g5=>?_)))|refine PF (l:=l) (x:=n5) g5 hn (λown' ho'=>?_))
   all_goals conv=>whnf
   .have hp:Bq s3 15 [44]=true:=FS
    have hd3:=Eh hp Do Do
    refine ⟨(l++[BA (Ac s3).1],(Ac s3).2.1,st4,own'),⟨ho',j2.trans (A5.trans h4),?_,by grind,?_⟩,hd3,Yl,St.le_refl _⟩
    .grind
    .show DV (l++[BA (Ac s3).1]) (Ac s3).2.1=_
     rw [<-j7,gx (l:=l) hp]
   all_goals rw [<-j7,aP ‹_›] at h
   all_goals unfold IY at h
   all_goals dsimp only at h
   all_goals rw [hq5] at h
   .exact EJ (AE.Bz ho') Cd (h st5 (j2.trans (A5.trans h5)))
   .exact EJ (AE.Bz g5) rfl (h st5 (j2.trans (A5.trans h5)))
  |false=>
   rw [if_neg i7] at h
   replace h:Fb st b R (match MO Y n1 s1 with
    | .inl e=>(.inl e:Rs)
    | .inr r=>IY (if 2<r.1.length then 5 else 4) r.1 r.2 [41]):=by
    unfold MO
    cases hy:Y s1 with
    |inl e=>simp_all
    |inr q=>grind
   have hbl:∀{l s2},MO Y n1 s1=.inr (l,s2)->s2.DN.length<=500000000/\l.length+1<=1000000000:=λe=>by
    have:=jR hF e
    exact ⟨FC AC,AC⟩
   repeat' ((conv=>whnf);first|(refine AA ?_;intros)|(refine AB ?_ ?_<;>intro _)|refine Gf hs hb (Hw hq1 (λst1 h1=>?_))|refine ia hA h1.1 hb1 ?_|refine ia hC Fl hb1 ?_|refine ia hE Fl hb1 ?_|refine uB hY h0 hB hF (n1:=n1) AC hm1 Fl (jD (λl s2 hq2 st2 own1 h2 g2=>?_) (λe2 s2 hq2 st2 h2=>?_))|refine B9 (λ_=>?_)|refine TD (h2.1.hw own1 _) (hbl hq2).1 (FN g2 h2.1 (GF (λn3 s3 hq3 U h3 hg3=>?_) (λe3 s3 hq3 U h3 hg3=>?_)))|refine PF (l:=l) (x:=n3) hg3 (hbl hq2).2 (λown2 ho2=>?_))
   all_goals rw [hq2] at h
   all_goals dsimp only at h
   all_goals try unfold IY at h
   all_goals try rw [hq3] at h
   all_goals have hu:=(((h1.trans A5).trans A5).trans A5).trans h2
   .rw [if_pos AC] at h
    exact EJ (AE.Bz ho2) Cd (h U (hu.trans h3))
   .exact EJ (AE.Bz hg3) rfl (h U (hu.trans h3))
   .rw [if_neg AC] at h
    exact EJ (AE.Bz ho2) Cd (h U (hu.trans h3))
   .exact EJ (AE.Bz hg3) rfl (h U (hu.trans h3))
   .exact fin (h st2 hu) rfl
end
theorem UZ (h:d=0) (s:Aj):DT d s=.inl (2,s):=by subst h;rfl
theorem XZ (hd:d+1<=1000000) (h:Dp 318 (d:Int) (DT d)):Dq 390 ((d+1:Nat):Int) (DP (DT d)):=
 vZ (tH rfl AC h (λe s=>UZ e s) (FG d) (Bw d)) (pM AC h (λe s=>UZ e s) (FG d) (Bw d))
theorem N9 (hd:d+1<=1000000) (h:Dp 318 (d:Int) (DT d)):Dq 357 ((d+1:Nat):Int) (Hb (DP (DT d))):=
 xE (XZ hd h) (BM (Bw d))
theorem Pz (hd:d+1<=1000000) (h:Dp 318 (d:Int) (DT d)):Dq 358 ((d+1:Nat):Int) (EG (DP (DT d))):=
 uJ (N9 hd h) (XU (N9 hd h) (BM (Bw d))) (BM (Bw d))
theorem K7:∀d:Nat,d<=100->Dp 318 (d:Int) (DT d)
 |0,_=>dc λh=>absurd Do h
 |d+1,hd=>dc λ_=>by
  rw [if_neg AC]
  exact Pz AC (K7 d AC)
def DW (deep:Int):Nat:=(if 100<deep then 100 else deep).toNat
theorem Vu (deep:Int):DW deep<=100:=by unfold DW;split<;>omega
theorem Vt {deep:Int} (h:¬deep<1):(if 100<deep then 100 else deep)=((DW deep - 1+1:Nat):Int):=by unfold DW;split<;>omega
theorem zi {deep:Int}:Dp 318 deep (EG (DP (DT (DW deep - 1)))):=dc λh=>by
 rw [Vt h]
 have:=Vu deep
 exact Pz AC (K7 _ AC)
theorem ym {deep:Int}:Dp 412 deep (DP (DT (DW deep - 1))):=qO λh=>by
 rw [Vt h]
 have:=Vu deep
 exact XZ AC (K7 _ AC)
theorem zS {deep:Int}:Dp 317 deep (Hb (DP (DT (DW deep - 1)))):=xD λh=>by
 rw [Vt h]
 have:=Vu deep
 exact N9 AC (K7 _ AC)
def rn:Rs->Nd
 | .inr p=>p.1
 | .inl _=>Gg
def rs:Rs->Aj
 | .inr p=>p.2
 | .inl p=>p.2
def re:Rs->Int
 | .inr _=>0
 | .inl p=>p.1
theorem lW (q:Rs):lV q=rM (rn q) (rs q) (re q):=by cases q<;>rfl
def U6 (f:FuncId) (d:Int) (A:Aj->Rs):Prop:=∀s,mu s<=100000000->∀(st:St) (R:Au->St->Prop),R (.ret (lV (A s))) st->PC f [DD s,.int .i64 d] st R
theorem U6.e {f:FuncId} {d x:Int} {A:Aj->Rs} (h:U6 f d A) (hx:x=d) {s:Aj} {q:Rs} (e:A s=q) (U:mu s<=100000000) {st:St} {R:Au->St->Prop} (k:R (.ret (lV q)) st):PC f [DD s,.int .i64 x] st R:=by
 subst hx;subst e;exact h s U st R k
theorem U6.q {d x:Int} {A:Aj->Rs} (h:U6 f d A) (hx:x=d) {s:Aj} (U:mu s<=100000000) {st:St} (k:R (.ret (rM (rn (A s)) (rs (A s)) (re (A s)))) st):PC f [DD s,.int .i64 x] st R:=by
 subst hx;exact h s U st R (by rw [lW];exact k)
section
variable {st:St} {R:Au->St->Prop}
attribute [local irreducible] Go.Aw.Am
theorem wE {d:Int} {A:Aj->Rs} (hr:Dq 357 d (Hb A)) (ha:av 392 d (Ek A)) (hw:Dq 358 d (EG A)) (hF:A6 A):Dq 366 d (He A):=by
 intro s hm b st R hs h
 refine pB Tryz.func366 ?_
 unfold He at h
 have hm1:∀{n1 s1},Hb A s=.inr (n1,s1)->mu s1<=100000000:=λe=>by have:=FH hF _ _ _ e;omega
 have hm2:∀{n1 s1},Hb A s=.inr (n1,s1)->Bq s1 10 [61,62]=true->mu (Ac s1).2.1<=100000000:=λe i=>by have:=hm1 e;have:=Eh i Do Do;omega
 repeat' ((conv=>whnf);first|exact BH|(refine AA ?_;intros)|(refine BI ?_ ?_ ?_;rotate_left)|(refine AB ?_ ?_<;>intro _)|refine hr s hm b _ _ hs (D8 (λn1 s1 U st1 h1=>?_) (λe1 s1 U st1 h1=>?_))|refine bJ h1.1 (FC (hm1 U)) ?_|refine ha n1 s1 (hm1 U) b _ _ Fl (D8 (λn2 s2 hq2 st2 h2=>?_) (λe2 s2 hq2 st2 h2=>?_))|refine Ad [(0,true),(1,true),(3,true),(4,true),(2,false),(5,false),(6,true),(7,true),(8,false)] [0] EQ ?_|refine Gf Fl (FC (hm1 U)) (Hw (Ka ‹_› Do) (λst2 h2=>?_))|refine hw (Ac s1).2.1 (hm2 U ‹_›) b _ _ h2.1 (D8 (λn3 s3 hq3 st3 h3=>?_) (λe3 s3 hq3 st3 h3=>?_))|with_reducible refine WF ?_)
 all_goals rw [U] at h
 all_goals dsimp only at h
 .rw [if_pos ‹_›,hq3] at h
  exact EJ (St.le_refl _) (Cd (l:=[n1,BA (Ac s1).1,n3])) (h st3 ((h1.trans A5).trans (h2.trans h3)))
 .rw [if_pos ‹_›,hq3] at h
  intro e'
  exact fin (h st3 ((h1.trans A5).trans (h2.trans h3))) rfl
 .rw [if_neg (Bool.eq_false_iff.1 ‹_›),hq2] at h
  exact AY rfl (h st2 ((h1.trans A5).trans h2))
 .rw [if_neg (Bool.eq_false_iff.1 ‹_›),hq2] at h
  exact fin (h st2 ((h1.trans A5).trans h2)) rfl
 .exact fin (h st1 h1) rfl
theorem mB (hd:d+1<=1000000) (h:Dp 318 (d:Int) (DT d)):Dq 366 ((d+1:Nat):Int) (He (DP (DT d))):=
 wE (N9 hd h) (XU (N9 hd h) (BM (Bw d))) (Pz hd h) (BM (Bw d))
theorem u7 {deep:Int}:Dp 329 deep (He (DP (DT (DW deep - 1)))):=rX λh=>by
 rw [Vt h]
 have:=Vu deep
 exact mB AC (K7 _ AC)
end
end Go.Proofs.Z
namespace Go.Aw
theorem qU {b:Bool} {p q:Prop} (h:b=true) (k:p):Bn b p q:=Wk (λ_=>k) (λe=>by rw [h] at e;cases e)
theorem qT {b:Bool} {p q:Prop} (h:b=false) (k:q):Bn b p q:=Wk (λe=>by rw [h] at e;cases e) (λ_=>k)
theorem WG {l:Int} {p q:Prop} (h:p):Bn (k==k&&(t==t&&(l==l&&(c==c&&true)))) p q:=qU GT h
theorem WH {l:Int} {p q:Prop} (h:q):Bn (!(k==k&&(t==t&&(l==l&&(c==c&&true))))) p q:=qT GT h
theorem WI {l:List Int} {x:Int} {K:List V->Prop} (h:l[i.toNat]? =some x) (U:0<=i) (k:K [.int .i64 x]):0<=i/\∃e,(ints l)[i.toNat]? =some e/\K e:=⟨U,_,by simp [ints,h],k⟩
end Go.Aw
namespace Go.Proofs.Z
open Go Go.Aw
section
variable {st:St} {R:Au->St->Prop}
attribute [local irreducible] Go.Aw.Am
theorem O8:∀(m:Nat) {n:Nd} {st:St} {R:Au->St->Prop},n.size<=m->R (.ret (.bool true)) st->PC 26 [enc n,enc n] st R:=by
 intro m
 induction m with
 |zero=>intro n st R hm h;cases n;rw [Nd.size] at hm;omega
 |succ m ih=>
  intro n st R hm h
  refine pB Tryz.func26 ?_
  repeat' ((conv=>whnf);first|(with_reducible first|refine Wt rfl ?_|refine WG ?_|refine WH ?_|refine WI ‹_› AC ?_|exact Wa|exact Wb|exact Wc|refine Wd EQ ?_|refine We ?_ ?_ ?_|refine W8 GE ?_ ?_ ?_|refine W0 GE ?_ ?_ ?_|refine W9 ?_ ?_ ?_|refine Wt H9 ?_|refine Wu H9 ?_|refine Wv AC ?_|refine Ww AC ?_|refine Wf Do (λ_=>?_) (λ_=>?_)|refine Wg (λ_=>?_) (λ_=>?_)|refine Wh (λ_=>?_) (λ_=>?_)|refine Wi ?_|refine Wj ?_|refine Wk (λ_=>?_) (λ_=>?_)|refine Wl (λ_=>?_)|refine Wm ‹_› AC ?_|refine Wn AC AC (λ_ _ _=>?_)|refine Wq AC AC ?_|refine Wz (λ_=>?_)|refine WA (λ_=>?_)|refine WB ‹_› AC ?_|refine WC AC AC (λ_ _=>?_)|refine WD AC AC (λ_ _=>?_))|with_reducible refine WF ?_)
  refine QM 5 [2,3] [0,1] n.kids.length (λk=>k<=n.kids.length) (Nat.zero_le _) Yl ?_
  intro k hk
  by_cases U:k<n.kids.length
  .obtain ⟨x,hx⟩:∃x,n.kids[(k:Int).toNat]? =some x:=⟨_,List.getElem?_eq_getElem U⟩
   have hxm:x ∈ n.kids:=List.mem_of_getElem? hx
   have hxs:=Cp hxm
   repeat' ((conv=>whnf);first|(with_reducible first|refine Wt rfl ?_|refine WG ?_|refine WH ?_|refine WI ‹_› AC ?_|exact Wa|exact Wb|exact Wc|refine Wd EQ ?_|refine We ?_ ?_ ?_|refine W8 GE ?_ ?_ ?_|refine W0 GE ?_ ?_ ?_|refine W9 ?_ ?_ ?_|refine Wt H9 ?_|refine Wu H9 ?_|refine Wv AC ?_|refine Ww AC ?_|refine Wf Do (λ_=>?_) (λ_=>?_)|refine Wg (λ_=>?_) (λ_=>?_)|refine Wh (λ_=>?_) (λ_=>?_)|refine Wi ?_|refine Wj ?_|refine Wk (λ_=>?_) (λ_=>?_)|refine Wl (λ_=>?_)|refine Wm ‹_› AC ?_|refine Wn AC AC (λ_ _ _=>?_)|refine Wq AC AC ?_|refine Wz (λ_=>?_)|refine WA (λ_=>?_)|refine WB ‹_› AC ?_|refine WC AC AC (λ_ _=>?_)|refine WD AC AC (λ_ _=>?_))|refine ih (n:=x) AC ?_|with_reducible refine WF ?_)
   all_goals conv=>whnf
   all_goals exact ⟨k+1,U,Nat.sub_lt_sub_left U (Nat.lt_succ_self k),Yl,St.le_refl _⟩
  .skip
   repeat' ((conv=>whnf);first|(with_reducible first|refine Wt rfl ?_|refine WG ?_|refine WH ?_|refine WI ‹_› AC ?_|exact Wa|exact Wb|exact Wc|refine Wd EQ ?_|refine We ?_ ?_ ?_|refine W8 GE ?_ ?_ ?_|refine W0 GE ?_ ?_ ?_|refine W9 ?_ ?_ ?_|refine Wt H9 ?_|refine Wu H9 ?_|refine Wv AC ?_|refine Ww AC ?_|refine Wf Do (λ_=>?_) (λ_=>?_)|refine Wg (λ_=>?_) (λ_=>?_)|refine Wh (λ_=>?_) (λ_=>?_)|refine Wi ?_|refine Wj ?_|refine Wk (λ_=>?_) (λ_=>?_)|refine Wl (λ_=>?_)|refine Wm ‹_› AC ?_|refine Wn AC AC (λ_ _ _=>?_)|refine Wq AC AC ?_|refine Wz (λ_=>?_)|refine WA (λ_=>?_)|refine WB ‹_› AC ?_|refine WC AC AC (λ_ _=>?_)|refine WD AC AC (λ_ _=>?_))|with_reducible refine WF ?_)
   all_goals exact fin h rfl
theorem Tb {l:List Tk} {o1 o2:AE} (h:R (.ret (.bool true)) st):PC 21 [.slice 4 (AV l) o1,.slice 4 (AV l) o2] st R:=by
 refine pB Tryz.func21 ?_
 repeat' ((conv=>whnf);first|(with_reducible first|refine Wt rfl ?_|refine WG ?_|refine WH ?_|refine WI ‹_› AC ?_|exact Wa|exact Wb|exact Wc|refine Wd EQ ?_|refine We ?_ ?_ ?_|refine W8 GE ?_ ?_ ?_|refine W0 GE ?_ ?_ ?_|refine W9 ?_ ?_ ?_|refine Wt H9 ?_|refine Wu H9 ?_|refine Wv AC ?_|refine Ww AC ?_|refine Wf Do (λ_=>?_) (λ_=>?_)|refine Wg (λ_=>?_) (λ_=>?_)|refine Wh (λ_=>?_) (λ_=>?_)|refine Wi ?_|refine Wj ?_|refine Wk (λ_=>?_) (λ_=>?_)|refine Wl (λ_=>?_)|refine Wm ‹_› AC ?_|refine Wn AC AC (λ_ _ _=>?_)|refine Wq AC AC ?_|refine Wz (λ_=>?_)|refine WA (λ_=>?_)|refine WB ‹_› AC ?_|refine WC AC AC (λ_ _=>?_)|refine WD AC AC (λ_ _=>?_))|with_reducible refine WF ?_)
 refine QM 5 [0,1] [] l.length (λk=>k<=l.length) (Nat.zero_le _) Yl ?_
 intro k hk
 by_cases U:k<l.length
 .obtain ⟨x,hx⟩:∃x,l[(k:Int).toNat]? =some x:=⟨_,List.getElem?_eq_getElem U⟩
  repeat' ((conv=>whnf);first|(with_reducible first|refine Wt rfl ?_|refine WG ?_|refine WH ?_|refine WI ‹_› AC ?_|exact Wa|exact Wb|exact Wc|refine Wd EQ ?_|refine We ?_ ?_ ?_|refine W8 GE ?_ ?_ ?_|refine W0 GE ?_ ?_ ?_|refine W9 ?_ ?_ ?_|refine Wt H9 ?_|refine Wu H9 ?_|refine Wv AC ?_|refine Ww AC ?_|refine Wf Do (λ_=>?_) (λ_=>?_)|refine Wg (λ_=>?_) (λ_=>?_)|refine Wh (λ_=>?_) (λ_=>?_)|refine Wi ?_|refine Wj ?_|refine Wk (λ_=>?_) (λ_=>?_)|refine Wl (λ_=>?_)|refine Wm ‹_› AC ?_|refine Wn AC AC (λ_ _ _=>?_)|refine Wq AC AC ?_|refine Wz (λ_=>?_)|refine WA (λ_=>?_)|refine WB ‹_› AC ?_|refine WC AC AC (λ_ _=>?_)|refine WD AC AC (λ_ _=>?_))|with_reducible refine WF ?_)
  all_goals conv=>whnf
  all_goals exact ⟨k+1,U,Nat.sub_lt_sub_left U (Nat.lt_succ_self k),Yl,St.le_refl _⟩
 .skip
  repeat' ((conv=>whnf);first|(with_reducible first|refine Wt rfl ?_|refine WG ?_|refine WH ?_|refine WI ‹_› AC ?_|exact Wa|exact Wb|exact Wc|refine Wd EQ ?_|refine We ?_ ?_ ?_|refine W8 GE ?_ ?_ ?_|refine W0 GE ?_ ?_ ?_|refine W9 ?_ ?_ ?_|refine Wt H9 ?_|refine Wu H9 ?_|refine Wv AC ?_|refine Ww AC ?_|refine Wf Do (λ_=>?_) (λ_=>?_)|refine Wg (λ_=>?_) (λ_=>?_)|refine Wh (λ_=>?_) (λ_=>?_)|refine Wi ?_|refine Wj ?_|refine Wk (λ_=>?_) (λ_=>?_)|refine Wl (λ_=>?_)|refine Wm ‹_› AC ?_|refine Wn AC AC (λ_ _ _=>?_)|refine Wq AC AC ?_|refine Wz (λ_=>?_)|refine WA (λ_=>?_)|refine WB ‹_› AC ?_|refine WC AC AC (λ_ _=>?_)|refine WD AC AC (λ_ _=>?_))|with_reducible refine WF ?_)
  all_goals exact fin h rfl
end
mutual
def A7:Nd->List Tk
 | .mk k f t l c ks=>if k=1 then [⟨f,t,l,c⟩] else AF ks
def AF:List Nd->List Tk
 |[]=>[]
 |n::r=>A7 n++AF r
end
theorem Dg:∀{a b:List Nd},AF (a++b)=AF a++AF b
 |[],b=>rfl
 |n::r,b=>by rw [List.cons_append,AF,AF,Dg,List.append_assoc]
theorem NL (t:Tk):A7 (BA t)=[t]:=rfl
theorem F7 (h:¬k=1):A7 (Ar k l)=AF l:=by unfold Ar;rw [A7,if_neg h]
theorem CO:AF [n]=A7 n:=by rw [AF,AF,List.append_nil]
inductive Path:Aj->List Tk->Aj->Prop where
 |nil (s:Aj):Path s [] s
 |cons {s:Aj} {l:List Tk} {t:Aj}:(Ac s).2.2=0->mu (Ac s).2.1<mu s->Path (Ac s).2.1 l t->Path s ((Ac s).1::l) t
theorem Path.trans {s t u:Aj} {l m:List Tk} (h:Path s l t) (k:Path t m u):Path s (l++m) u:=by
 induction h with
 |nil s=>exact k
 |cons U h2 _ ih=>exact .cons U h2 (ih k)
theorem Path.one {s:Aj} (U:(Ac s).2.2=0) (h2:mu (Ac s).2.1<mu s):Path s [(Ac s).1] (Ac s).2.1:=.cons U h2 (.nil _)
theorem Path.is {s:Aj} (h:Bq s k x=true) (U:k≠0) (h1:k≠21):Path s [(Ac s).1] (Ac s).2.1:=.one (F6 h U) (Eh h U h1)
variable {A:Aj->Rs}
theorem pc (l:List Nd) (s:Aj):∀q s',Ha A l s=.inr (q,s')->∃r,q=l++r:=by
 fun_induction Ha A l s with
 |case1 l s U e1 h2=>simp_all
 |case2 l s U p h2 h3 ih=>grind
 |case3 l s U p h2 h3=>simp_all
 |case4 l s U=>simp_all
structure Fx where
 op:List UInt8
 side:Int
 prec:Int
def Fx.cells (f:Fx):List V:=[.str f.op,.int .i64 f.side,.int .i64 f.prec]
def A4 (l:List Fx):List (List V):=l.map Fx.cells
def OR:List Fx:=[⟨[46],2,9⟩,⟨[33,33],1,9⟩,⟨[94],2,8⟩,⟨[94,94],2,8⟩,⟨[42,42],2,8⟩,⟨[42],1,7⟩,⟨[47],1,7⟩,⟨[113,117,111,116],1,7⟩,⟨[114,101,109],1,7⟩,⟨[100,105,118],1,7⟩,⟨[109,111,100],1,7⟩,⟨[43],1,6⟩,⟨[45],1,6⟩,⟨[58],2,5⟩,⟨[43,43],2,5⟩,⟨[61,61],3,4⟩,⟨[47,61],3,4⟩,⟨[60],3,4⟩,⟨[60,61],3,4⟩,⟨[62,61],3,4⟩,⟨[62],3,4⟩,⟨[101,108,101,109],3,4⟩,⟨[110,111,116,69,108,101,109],3,4⟩,⟨[38,38],2,3⟩,⟨[124,124],2,2⟩,⟨[62,62],1,1⟩,⟨[62,62,61],1,1⟩,⟨[61,60,60],2,1⟩,⟨[36],2,0⟩,⟨[36,33],2,0⟩,⟨[115,101,113],2,0⟩]
def iH (f:Fx):Bool:=decide (0<=f.prec)&&decide (f.prec<=9)&&decide (1<=f.side)&&decide (f.side<=3)
def Ns (op:List UInt8):List Fx->Fx
 |[]=>⟨op,1,9⟩
 |f::r=>if f.op=op then f else Ns op r
def dY (op:List UInt8):List Fx->Fx
 |[]=>Ns op OR
 |f::r=>if f.op=op/\iH f=true then f else dY op r
def PJ (env:List Fx) (op:List UInt8):Fx:=dY op env.reverse
def Hc (s:List UInt8):Option (List UInt8):=if s.take (BJ s).2=s then
 (if 3<=(BJ s).1/\(BJ s).1<=4\/7<=(BJ s).1/\(BJ s).1<=8 then some (s.drop (U9 s).toNat)
 else if 1<=(BJ s).1/\(BJ s).1<=2\/5<=(BJ s).1/\(BJ s).1<=6 then some s else none)
 else none
def Je (n:Nd):Option (List UInt8):=if n.kind=18/\(n.kids.length=1\/n.kids.length=3) then
 (match n.kids[n.kids.length / 2]? with
 |some x=>if x.kind=1 then (match Hc x.text with
   |some t=>some t
   |none=>if x.form=10/\x.text=[58] then some x.text else none) else none
 |none=>none)
 else none
def EA:Bool->List Nd->Bool
 |op,[]=> !op
 |true,n::r=>if n.kind=19 then EA true r else if n.kind=18 then false else EA false r
 |false,n::r=>match Je n with|some _=>EA true r|none=>false
def VG (env:List Fx) (n:Nd):Fx:=PJ env ((Je n).getD [])
mutual
def CM (env:List Fx):Nat->Fx->List Nd->Option (Nd×List Nd)
 |0,_,_=>none
 |_+1,_,[]=>none
 |k+1,o,n::r=>if n.kind=19 then
   (if 6<=o.prec then none else match CM env k ⟨[],1,6⟩ r with
     |some p=>ED env k o (Ar 21 [n,p.1]) p.2
     |none=>none)
  else ED env k o n r
def ED (env:List Fx):Nat->Fx->Nd->List Nd->Option (Nd×List Nd)
 |0,_,_,_=>none
 |_+1,_,n,[]=>some (n,[])
 |k+1,o,n,p::r=>
  if o.prec=(VG env p).prec/\(o.side≠(VG env p).side\/o.side=3) then none
  else if (VG env p).prec<o.prec\/o.prec=(VG env p).prec/\o.side=1 then some (n,p::r)
  else match CM env k (VG env p) r with
   |some q=>ED env k o (Ar 20 [n,p,q.1]) q.2
   |none=>none
end
def O0 (env:List Fx) (n:Nd):Sum Int Nd:=if n.kind=17 then (if EA true n.kids=true then (match CM env (2*n.kids.length+2) ⟨[],3, -1⟩ n.kids with
 |some p=>.inr p.1
 |none=>.inl 160) else .inl 120)
 else .inr n
def EZ (n:Nd):Int:=if n.kind=1/\n.form=9 then (if n.text=[105,110,102,105,120,108] then 1 else if n.text=[105,110,102,105,120,114] then 2 else if n.text=[105,110,102,105,120] then 3 else 0) else 0
def JV (side prec:Int):Bool->List Nd->List Fx->Option (List Fx)
 |_,[],l=>some l
 |false,n::r,l=>match Je n with|some t=>JV side prec true r (l++[⟨t,side,prec⟩])|none=>none
 |true,n::r,l=>if n.kind=1/\n.form=15/\n.text=[44] then JV side prec false r l else none
def JU (side prec:Int) (l:List Nd):Sum Int (List Fx):=if l.length % 2=0 then .inl 120 else match JV side prec false l [] with|some l=>.inr l|none=>.inl 120
def Ks (n:Nd):Sum Int (List Fx):=match n.kids with
 |a::b::r=>if n.kind=35/\EZ a≠0 then
   (if b.kind=1/\b.form=11 then (if (EH b.text).2=0/\(EH b.text).1<=9 then JU (EZ a) (EH b.text).1 r else .inl 120) else JU (EZ a) 9 (b::r))
  else .inl 120
 |_=>.inl 120
abbrev Ft:=Int×Int×Int
def pL (n:Nd):Int×Int:=match A7 n with|t::_=>(t.line,t.Cg)|[]=>(0,0)
def yl (n:Nd) (e:Int):Ft:=(e,(pL n).1,(pL n).2)
def XR (frm:Nat):List Fx->List Fx->Option (List Fx)
 |[],env=>some env
 |f::r,env=>if (env.drop frm).any (λg=>g.op==f.op)=true then none else XR frm r (env++[f])
def E2 (frm:Nat):List Nd->List Fx->Sum Ft (List Fx)
 |[],env=>.inr env
 |n::r,env=>if n.kind=35 then (match Ks n with
   | .inl e=>.inl (yl n e)
   | .inr l=>match XR frm l env with
     |none=>.inl (yl n 161)
     |some env=>E2 frm r env)
  else E2 frm r env
def Ei (n:Nd) (i:Nat):List Nd:=match n.kids[i]? with|some b=>if b.kind=2 then b.kids else []|none=>[]
def GW (n:Nd):List Nd:=match n.kids.getLast? with|some b=>if b.kind=2 then b.kids else []|none=>[]
def Hd (n:Nd):List Nd:=match n.kids.getLast? with|some w=>if w.kind=31 then GW w else []|none=>[]
def E3 (frm:Nat):List Nd->List Fx->Sum Ft (List Fx)
 |[],env=>.inr env
 |c::r,env=>if c.kind=44 then (match E2 frm (Hd c) env with| .inl e=>.inl e| .inr env=>E3 frm r env) else E3 frm r env
def HG:List Nd->List Fx->Sum Ft (List Fx)
 |[],env=>.inr env
 |c::r,env=>if c.kind=33 then (match E2 env.length (Ei c 1) env with| .inl e=>.inl e| .inr env=>HG r env) else HG r env
def Dz (env:List Fx) (n:Nd):Sum Ft (List Fx):=
 if n.kind=53 then (match E2 env.length (GW n) env with| .inl e=>.inl e| .inr out=>E3 env.length (GW n) out)
 else if n.kind=24 then E2 env.length (Ei n 1) env
 else if n.kind=29 then E2 env.length (Hd n) env
 else if n.kind=8 then HG (n.kids.drop 2) env
 else .inr env
def FD (k parent:Int):Bool:=k==30||k==8||(k==2&&parent==27)
def Gl (k parent:Int) (i:Nat) (n:Nd) (here:List Fx):Sum Ft (List Fx):=if FD k parent=true/\n.kind=33/\(k≠8\/2<=i) then E2 here.length (Ei n 1) here else .inr here
def OI (env:List Fx) (n:Nd):Sum Ft Nd:=match O0 env n with| .inl e=>.inl (yl n e)| .inr t=>.inr t
mutual
def CP:List Fx->Int->Nd->Sum Ft Nd
 |env,parent,.mk k f t l c ks=>match Dz env (.mk k f t l c ks) with
  | .inl e=>.inl e
  | .inr all=>match CI all k parent 0 (if k=8 then env else all) ks with
    | .inl e=>.inl e
    | .inr ks=>OI all (.mk k f t l c ks)
def CI:List Fx->Int->Int->Nat->List Fx->List Nd->Sum Ft (List Nd)
 |_,_,_,_,_,[]=>.inr []
 |all,k,parent,i,here,n::r=>match Gl k parent i n here with
  | .inl e=>.inl e
  | .inr here=>match CP (if k=8/\i<2 then all else here) k n with
    | .inl e=>.inl e
    | .inr m=>match CI all k parent (i+1) here r with
      | .inl e=>.inl e
      | .inr U=>.inr (m::U)
end
def D1 (n:Nd):Nd×Ft:=match CP [] 0 n with| .inr t=>(t,0,0,0)| .inl e=>(Gg,e)
end Go.Proofs.Z
