/-
  Parts of a proof: lemmas that the last text uses.
-/
import Derived.Test.YtpaiiicnhgoijaaGreatDoorK1
import Derived.Shelf.Strings.Trim
import Derived.Shelf.Small.Utf8
import Derived.Shelf.Small.Strs
import Derived.Shelf.Strings.Search1
import Derived.Shelf.Strings.Search2
import Derived.Shelf.Strings.Search3
import Derived.Shelf.LaysM
import Derived.Shelf.Strings.Shaped
import Derived.Shelf.GgClosure.StringsIndexFunc
import Derived.Ground.GgwProg
import Derived.Shelf.GgClosure.StringsIndexFuncTop
import Derived.Shelf.GgClosure.StringsRunes
import Derived.Shelf.Strings.Prefix
import Derived.Shelf.Strings.Fields
import Derived.Shelf.Strings.SplitShaped
import Derived.Shelf.Unicode.Latin
import Derived.Shelf.Unicode.Decode
import Derived.Shelf.Strings.Runes
import Derived.Shelf.Strings.AsciiSet
import Derived.Shelf.Unicode.DecodeSlow
import Derived.Shelf.Unicode.DecodeAny
import Derived.Shelf.Unicode.Is16White
import Derived.Shelf.Unicode.IsSpaceAny
import Derived.Shelf.Unicode.DecodeLast
import Derived.Shelf.Unicode.Is16Any
import Derived.Shelf.Unicode.Is32Any
import Derived.Shelf.Unicode.ExclAny
import Derived.Shelf.Strings.FuncGrows
import Derived.Shelf.Slices.Turned
import Derived.Ground.Names2Prog
import Derived.Shelf.Slices.Clone
import Derived.Ground.SlgnProg
import Derived.Shelf.SlicesE.Clone
import Derived.Test.YtpaiiicnhgoijaaGreatDoorProg
import Derived.Below
import Derived.IntWalk
set_option linter.unusedVariables false
set_option linter.unusedSimpArgs false
set_option maxHeartbeats 16000000
variable {s t x w r o:List UInt8} {k i base:Int} {l new:List Go.Aw.Nd} {A Y:Go.Proofs.Z.Af->Go.Proofs.Z.Rs} {n:Go.Aw.Nd} {s':Go.Proofs.Z.Af} {m b d c pos j:Nat} {K R:Go.Aw.Ay->Go.Aw.St->Prop} {f:Go.FuncId} {cs args:List Go.Aw.V} {p:Go.Aw.Nd->Bool} {I:Go.Aw.Mem} {P B:Prop} {ih:(Go.Aw.AE->Go.Aw.Env->Go.Aw.St->Prop)->Go.Aw.Env->Go.Aw.St->Prop} {Q:Go.Aw.AE->Go.Aw.Env->Go.Aw.St->Prop} {env:Go.Aw.Env} {α β:Type} {mk:Nat->List Go.Aw.V} {st0:Go.Aw.St} {rows:List (Go.Aw.AB×List Go.Aw.Nd)} {kinds:List Int}
namespace Go.Proofs.Z
open Go Go.Aw
def mu (s:Af):Nat:=4*(s.AD.length - s.pos.toNat)+s.Ca.length+(2 - s.wait.toNat)
theorem nQ (s:Af):s.Ca.length<=mu s:=by unfold mu;omega
theorem HX {s:Af} (h:s.Ca≠[]):(DV s).Ca.length+1=s.Ca.length:=by
 have:0<s.Ca.length:=List.length_pos_iff.2 h
 simp only [DV,List.length_dropLast]
 omega
theorem Vj {s:Af} {t:Tk} (h:s.AD[s.pos.toNat]? =some t):s.pos.toNat<s.AD.length:=(List.getElem?_eq_some_iff.1 h).1
theorem dh {s:Af} (h:(EW s).2.2=0):mu (EW s).2.1<=mu s/\((EW s).1.kind≠21->mu (EW s).2.1<mu s):=by
 unfold EW at h |-
 split
 .exact ⟨Nat.le_refl _,λe=>absurd rfl e⟩
 .split
  .rename_i U e2
   have:=HX U
   refine ⟨?_,λ_=>?_⟩<;>simp only [mu,DV] at* <;>omega
  .rename_i U e2
   rw [if_neg U,if_neg e2] at h
   cases h
theorem cp {t:Tk} {s:Af} (h0:0<=s.pos) (h1:0<=s.wait) (h2:s.wait<2) (U:s.AD[s.pos.toNat]? =some t):mu (Fj t s).2<mu s:=by
 have:=Vj U
 unfold Fj
 split
 .rename_i e;simp only [mu];rw [e,show Int.toNat 2=2 from rfl,show Int.toNat 1=1 from rfl];omega
 .split
  .simp only [mu,JH,List.length_append,List.length_singleton];omega
  .simp only [mu];omega
theorem jN {t:Tk} {s:Af} (h0:0<=s.pos) (h2:s.wait<=2) (U:s.AD[s.pos.toNat]? =some t):mu (CO t s).2<mu s:=by
 have:=Vj U
 unfold CO
 split
 .rename_i e
  have:=HX (MB e.1)
  simp only [mu,DV] at *;omega
 .split<;>(simp only [mu];omega)
theorem cz {t:Tk} {s:Af} (h0:0<=s.pos) (ht:s.AD[s.pos.toNat]? =some t) (h:(ET t s).2.2=0):mu (ET t s).2.1<mu s:=by
 have:=Vj ht
 unfold ET at h |-
 split
 .simp only [mu,JH,List.length_append,List.length_singleton];omega
 .rename_i e1
  rw [if_neg e1] at h
  split
  .rename_i e2
   rw [if_pos e2] at h
   split
   .rename_i U;rw [if_pos U] at h;cases h
   .rename_i U
    have:=HX (s:=s) (λe=>U (.inl e))
    simp only [mu,DV] at *;omega
  .simp only [mu];omega
theorem TX:∀(n:Nat) (s:Af),0<=s.pos->0<=s.wait->s.wait<=2->(Ec n s).2.2=0->mu (Ec n s).2.1<=mu s/\((Ec n s).1.kind≠21->mu (Ec n s).2.1<mu s)
 |0,s,h0,h1,h2,h=>dh h
 |n+1,s,h0,h1,h2,h=>by
  unfold Ec at h |-
  cases U:s.AD[s.pos.toNat]? with
  |none=>rw [U] at h;exact dh h
  |some t=>
   rw [U] at h
   dsimp only at h |-
   split
   .rename_i e
    have:=cp h0 h1 e.2 U
    exact ⟨Nat.le_of_lt this,λ_=>this⟩
   .rename_i e1
    rw [if_neg e1] at h
    have hl:=jN h0 h2 U
    split
    .rename_i e2
     rw [if_pos e2] at h
     split
     .rename_i e3
      rw [if_pos e3] at h
      have hz:=EG e3
      have:=TX n (CO t s).2 (by rw [hz];show 0<=s.pos+1;omega) (by rw [hz];exact Int.le_refl _) (by rw [hz];show (0:Int)<=2;decide) h
      exact ⟨AC,λe=>by omega⟩
     .exact ⟨Nat.le_of_lt hl,λ_=>hl⟩
    .rename_i e2
     rw [if_neg e2] at h
     have:=cz h0 U h
     exact ⟨Nat.le_of_lt this,λ_=>this⟩
theorem DZ {s:Af} (h:(Ab s).2.2=0):mu (Ab s).2.1<=mu s/\((Ab s).1.kind≠21->mu (Ab s).2.1<mu s):=by
 unfold Ab at h |-
 cases U:IJ s with
 |false=>rw [U] at h;cases h
 |true=>
  rw [U,if_pos rfl] at h
  rw [if_pos rfl]
  unfold IJ at U
  simp only [Bool.and_eq_true,decide_eq_true_eq] at U
  exact TX _ s AC AC AC h
theorem X1 {s:Af} (h:¬(EW s).2.2=0):(EW s).1=gx:=by
 unfold EW at h |-
 split
 .rename_i e;rw [if_pos e] at h;exact absurd rfl h
 .rename_i e;rw [if_neg e] at h
  split
  .rename_i e;rw [if_pos e] at h;exact absurd rfl h
  .rfl
theorem Zl {t:Tk} {s:Af} (h:¬(ET t s).2.2=0):(ET t s).1=gx:=by
 unfold ET at h |-
 split
 .rename_i e;rw [if_pos e] at h;exact absurd rfl h
 .rename_i e;rw [if_neg e] at h
  split
  .rename_i e;rw [if_pos e] at h
   split
   .rfl
   .rename_i e;rw [if_neg e] at h;exact absurd rfl h
  .rename_i e;rw [if_neg e] at h;exact absurd rfl h
theorem QJ:∀(n:Nat) (s:Af),¬(Ec n s).2.2=0->(Ec n s).1=gx
 |0,s,h=>X1 h
 |n+1,s,h=>by
  unfold Ec at h |-
  cases U:s.AD[s.pos.toNat]? with
  |none=>rw [U] at h;exact X1 h
  |some t=>
   rw [U] at h
   dsimp only at h |-
   split
   .rename_i e;rw [if_pos e] at h;exact absurd rfl h
   .rename_i e;rw [if_neg e] at h
    split
    .rename_i e;rw [if_pos e] at h
     split
     .rename_i e;rw [if_pos e] at h;exact QJ n _ h
     .rename_i e;rw [if_neg e] at h;exact absurd rfl h
    .rename_i e;rw [if_neg e] at h;exact Zl h
theorem TZ {s:Af} (h:¬(Ab s).2.2=0):(Ab s).1=gx:=by
 unfold Ab at h |-
 cases U:IJ s with
 |false=>rfl
 |true=>rw [U,if_pos rfl] at h;rw [if_pos rfl];exact QJ _ _ h
theorem FX {s:Af} (h:Ba s k x=true) (U:k≠0):(Ab s).2.2=0:=by
 apply Classical.byContradiction
 intro e
 unfold Ba at h
 rw [TZ e] at h
 simp only [gx,Bool.and_eq_true,beq_iff_eq] at h
 exact U h.1.symm
theorem DM {s:Af} (h:Ba s k x=true) (hk:k≠0) (U:k≠21):mu (Ab s).2.1<mu s:=by
 refine (DZ (FX h hk)).2 λe=>?_
 unfold Ba at h
 simp only [Bool.and_eq_true,beq_iff_eq] at h
 exact U (h.1.symm.trans e)
abbrev Ls:=Sum (Int×Af) (List Nd×Af)
def CY (s:Af):Rs:=if (Ab s).2.2=0 then .inr (Bp (Ab s).1,(Ab s).2.1) else .inl ((Ab s).2.2,s)
def Zc (s:Af):Rs:=.inl (Om s,s)
def IE (s:Af) (k:Int) (x:List UInt8):Rs:=if Ba s k x then CY s else Zc s
def DF (t:Tk):Bool:=t.kind==2||t.kind==4||t.kind==1||(t.kind==15&&(t.text==[40]||t.text==[91]))
def Ar (k:Int) (l:List Nd):Nd:=.mk k 0 [] 0 0 l
def GO (A:Af->Rs) (l:List Nd) (s:Af):Ls:=
 if DF (Ab s).1 then match A s with
  | .inl e=>.inl e
  | .inr p=>if mu p.2<mu s then GO A (l++[p.1]) p.2 else .inl (2,s)
 else .inr (l,s)
termination_by mu s
def Hs (A:Af->Rs) (s:Af):Rs:=
 match A s with
 | .inl e=>.inl e
 | .inr p=>match GO A [p.1] p.2 with
   | .inl e=>.inl e
   | .inr q=>if q.1.length=1 then .inr (p.1,q.2) else .inr (Ar 39 q.1,q.2)
def Hw (A:Af->Rs) (l:List Nd) (s:Af):Ls:=
 if Ba s 10 [45,62] then match Hs A (Ab s).2.1 with
  | .inl e=>.inl e
  | .inr p=>if mu p.2<mu s then Hw A (l++[Bp (Ab s).1,p.1]) p.2 else .inl (2,s)
 else .inr (l,s)
termination_by mu s
def Ey (A:Af->Rs) (n:Nd) (s:Af):Rs:=
 match Hw A [n] s with
 | .inl e=>.inl e
 | .inr q=>if q.1.length=1 then .inr (n,q.2) else .inr (Ar 37 q.1,q.2)
def Fc (A:Af->Rs) (s:Af):Rs:=
 match Hs A s with
 | .inl e=>.inl e
 | .inr p=>Ey A p.1 p.2
def G0 (A:Af->Rs) (s:Af):Rs:=
 match Hs A s with
 | .inl e=>.inl e
 | .inr p=>if Ba p.2 10 [61,62] then match Fc A (Ab p.2).2.1 with
    | .inl e=>.inl e
    | .inr q=>.inr (Ar 38 [p.1,Bp (Ab p.2).1,q.1],q.2)
   else Ey A p.1 p.2
def C3 (Y:Af->Rs) (l:List Nd) (s:Af):Ls:=
 if Ba s 15 [44] then match Y (Ab s).2.1 with
  | .inl e=>.inl e
  | .inr p=>if mu p.2<mu s then C3 Y (l++[Bp (Ab s).1,p.1]) p.2 else .inl (2,s)
 else .inr (l,s)
termination_by mu s
def DJ (l:List Nd) (s:Af):List Nd×Af:=
 if Ba s 15 [44] then if mu (Ab s).2.1<mu s then DJ (l++[Bp (Ab s).1]) (Ab s).2.1 else (l,s) else (l,s)
termination_by mu s
def IH (k:Int) (l:List Nd) (s:Af) (x:List UInt8):Rs:=match IE s 15 x with
 | .inl e=>.inl e
 | .inr p=>.inr (Ar k (l++[p.1]),p.2)
def Hr (Y:Af->Rs) (s:Af):Rs:=
 match CY s with
 | .inl e=>.inl e
 | .inr p=>
   if Ba p.2 10 [45,62] then IH 3 [p.1,Bp (Ab p.2).1] (Ab p.2).2.1 [41]
   else if Ba p.2 15 [41] then IH 3 [p.1] p.2 [41]
   else if Ba p.2 15 [44] then IH 3 (DJ [p.1] p.2).1 (DJ [p.1] p.2).2 [41]
   else match Y p.2 with
    | .inl e=>.inl e
    | .inr q=>match C3 Y [p.1,q.1] q.2 with
      | .inl e=>.inl e
      | .inr r=>IH (if 2<r.1.length then 5 else 4) r.1 r.2 [41]
def FH (Y:Af->Rs) (s:Af):Rs:=
 match CY s with
 | .inl e=>.inl e
 | .inr p=>
   if Ba p.2 15 [93] then .inr (Ar 3 [p.1,Bp (Ab p.2).1],(Ab p.2).2.1)
   else match Y p.2 with
    | .inl e=>.inl e
    | .inr q=>IH 6 [p.1,q.1] q.2 [93]
def DD (Y:Af->Rs) (s:Af):Rs:=
 if DF (Ab s).1 then if (Ab s).1.kind=15 then if (Ab s).1.text=[40] then Hr Y s else FH Y s else CY s else Zc s
def Dz:Nat->Af->Rs
 |0,s=>.inl (2,s)
 |d+1,s=>Fc (DD (Dz d)) s
def EC (A:Af->Rs):Prop:=∀s e s',A s=.inl (e,s')->e≠0
def A2 (A:Af->Rs):Prop:=∀s n s',A s=.inr (n,s')->mu s'<mu s
theorem KM (s:Af):Om s≠0:=by
 unfold Om
 omega
theorem Hx:EC CY:=λs e s' h=>by
 unfold CY at h
 grind
theorem SZ:EC Zc:=λs e s' h=>by unfold Zc at h;cases h;exact KM s
theorem Zd:EC (λs=>IE s k x):=λs e s' h=>by
 unfold IE at h
 dsimp only at h
 split at h
 .exact Hx _ _ _ h
 .exact SZ _ _ _ h
theorem IQ:EC (λs=>IH k l s x):=λs e s' h=>by
 unfold IH at h
 dsimp only at h
 split at h
 .rename_i U hw
  cases h
  exact Zd _ _ _ hw
 grind
theorem fE (hA:EC A) (l:List Nd) (s:Af):∀e s',GO A l s=.inl (e,s')->e≠0:=by
 fun_induction GO A l s with
 |case1 l s U e1 h2=>intro e s' h;cases h;exact hA _ _ _ h2
 |case2 l s U p h2 h3 ih=>exact ih
 |case3 l s U p h2 h3=>simp_all
 |case4 l s U=>simp_all
theorem KO (hA:EC A):EC (Hs A):=λs e s' h=>by
 unfold Hs at h
 split at h
 .rename_i U;cases h;exact hA _ _ _ U
 .split at h
  .rename_i U;cases h;exact fE hA _ _ _ _ U
  grind
theorem ca (hA:EC A) (l:List Nd) (s:Af):∀e s',Hw A l s=.inl (e,s')->e≠0:=by
 fun_induction Hw A l s with
 |case1 l s U e1 h2=>intro e s' h;cases h;exact KO hA _ _ _ h2
 |case2 l s U p h2 h3 ih=>exact ih
 |case3 l s U p h2 h3=>simp_all
 |case4 l s U=>simp_all
theorem MO (hA:EC A):EC (Ey A n):=λs e s' h=>by
 unfold Ey at h
 split at h
 .rename_i U;cases h;exact ca hA _ _ _ _ U
 grind
theorem Kn (U:EC A):EC (Fc A):=λs e s' h=>by
 unfold Fc at h
 split at h
 .rename_i h1;cases h;exact KO U _ _ _ h1
 .exact MO U _ _ _ h
theorem Qo (hA:EC A):EC (G0 A):=λs e s' h=>by
 unfold G0 at h
 split at h
 .rename_i U;cases h;exact KO hA _ _ _ U
 .split at h
  .split at h
   .rename_i U;cases h;exact Kn hA _ _ _ U
   grind
  .exact MO hA _ _ _ h
theorem Xu (hY:EC Y) (l:List Nd) (s:Af):∀e s',C3 Y l s=.inl (e,s')->e≠0:=by
 fun_induction C3 Y l s with
 |case1 l s U e1 h2=>intro e s' h;cases h;exact hY _ _ _ h2
 |case2 l s U p h2 h3 ih=>exact ih
 |case3 l s U p h2 h3=>simp_all
 |case4 l s U=>simp_all
theorem Vm (hY:EC Y):EC (Hr Y):=λs e s' h=>by
 unfold Hr at h
 split at h
 .rename_i U;cases h;exact Hx _ _ _ U
 .split at h
  .exact IQ _ _ _ h
  .split at h
   .exact IQ _ _ _ h
   .split at h
    .exact IQ _ _ _ h
    .split at h
     .rename_i U;cases h;exact hY _ _ _ U
     .split at h
      .rename_i U;cases h;exact Xu hY _ _ _ _ U
      .exact IQ _ _ _ h
theorem S0 (hY:EC Y):EC (FH Y):=λs e s' h=>by
 unfold FH at h
 split at h
 .rename_i U;cases h;exact Hx _ _ _ U
 .split at h
  .cases h
  .split at h
   .rename_i U;cases h;exact hY _ _ _ U
   .exact IQ _ _ _ h
theorem Gi (U:EC Y):EC (DD Y):=λs e s' h=>by
 unfold DD at h
 split at h
 .split at h
  .split at h
   .exact Vm U _ _ _ h
   .exact S0 U _ _ _ h
  .exact Hx _ _ _ h
 .exact SZ _ _ _ h
theorem EJ:∀d,EC (Dz d)
 |0=>λs e s' h=>by cases h;decide
 |d+1=>Kn (Gi (EJ d))
theorem N8 {s:Af} (h:CY s=.inr (n,s')):mu s'<=mu s/\((Ab s).1.kind≠21->mu s'<mu s):=by
 unfold CY at h
 split at h
 .rename_i e;cases h;exact DZ e
 grind
theorem lv {s:Af} (hk:k≠0) (U:k≠21) (h:IE s k x=.inr (n,s')):mu s'<mu s:=by
 unfold IE at h
 split at h
 .rename_i e
  unfold CY at h
  rw [if_pos (FX e hk)] at h
  cases h
  exact DM e hk U
 .cases h
theorem OV {s:Af} (h:IH k l s x=.inr (n,s')):mu s'<mu s:=by
 unfold IH at h
 split at h
 .cases h
 .rename_i U;cases h;exact lv Do Do U
theorem Mz {s:Af} (U:DF (Ab s).1=true) (h:CY s=.inr (n,s')):mu s'<mu s:=by
 refine (N8 h).2 λe=>?_
 unfold DF at U
 simp_all
theorem kA (l:List Nd) (s:Af):∀q s',GO A l s=.inr (q,s')->mu s'<=mu s:=by
 fun_induction GO A l s with
 |case1 l s U e1 h2=>simp_all
 |case2 l s U p h2 h3 ih=>grind
 |case3 l s U p h2 h3=>simp_all
 |case4 l s U=>simp_all
theorem Fm (hA:A2 A):A2 (Hs A):=λs n s' h=>by
 unfold Hs at h
 split at h
 .cases h
 .rename_i U
  have:=hA _ _ _ U
  split at h
  .cases h
  .rename_i h2
   have:=kA _ _ _ _ h2
   grind
theorem ik (l:List Nd) (s:Af):∀q s',Hw A l s=.inr (q,s')->mu s'<=mu s:=by
 fun_induction Hw A l s with
 |case1 l s U e1 h2=>simp_all
 |case2 l s U p h2 h3 ih=>grind
 |case3 l s U p h2 h3=>simp_all
 |case4 l s U=>simp_all
theorem Qm {m:Nd} {s:Af} (h:Ey A n s=.inr (m,s')):mu s'<=mu s:=by
 unfold Ey at h
 split at h
 .cases h
 .rename_i U
  have:=ik _ _ _ _ U
  grind
theorem GY (hA:A2 A):A2 (Fc A):=λs n s' h=>by
 unfold Fc at h
 split at h
 .cases h
 .rename_i U
  have:=Fm hA _ _ _ U
  have:=Qm h
  omega
theorem Q2 (l:List Nd) (s:Af):∀q s',C3 Y l s=.inr (q,s')->mu s'<=mu s:=by
 fun_induction C3 Y l s with
 |case1 l s U e1 h2=>simp_all
 |case2 l s U p h2 h3 ih=>grind
 |case3 l s U p h2 h3=>simp_all
 |case4 l s U=>simp_all
theorem Zp (l:List Nd) (s:Af):mu (DJ l s).2<=mu s:=by
 fun_induction DJ l s with
 |case1 l s U h2 ih=>omega
 |case2 l s U h2=>simp_all
 |case3 l s U=>simp_all
theorem fB (hY:A2 Y) {s:Af} (hs:DF (Ab s).1=true) (h:Hr Y s=.inr (n,s')):mu s'<mu s:=by
 unfold Hr at h
 split at h
 .cases h
 .rename_i h1
  have:=Mz hs h1
  split at h
  .rename_i U
   have:=DM U Do Do
   have:=OV h
   omega
  .split at h
   .have:=OV h;omega
   .split at h
    .have:=OV h
     have:=Zp [‹Nd×Af›.1] ‹Nd×Af›.2
     omega
    .split at h
     .cases h
     .rename_i U
      have:=hY _ _ _ U
      split at h
      .cases h
      .rename_i h3
       have:=Q2 _ _ _ _ h3
       have:=OV h
       omega
theorem aP (hY:A2 Y) {s:Af} (hs:DF (Ab s).1=true) (h:FH Y s=.inr (n,s')):mu s'<mu s:=by
 unfold FH at h
 split at h
 .cases h
 .rename_i h1
  have:=Mz hs h1
  split at h
  .rename_i U
   have:=DM U Do Do
   grind
  .split at h
   .cases h
   .rename_i U
    have:=hY _ _ _ U
    have:=OV h
    omega
theorem BT (hY:A2 Y):A2 (DD Y):=λs n s' h=>by
 unfold DD at h
 split at h
 .rename_i U
  split at h
  .split at h
   .exact fB hY U h
   .exact aP hY U h
  .exact Mz U h
 .cases h
theorem BB:∀d,A2 (Dz d)
 |0=>λs n s' h=>by cases h
 |d+1=>GY (BT (BB d))
theorem Dx {st:St} {q:Rs} (h:∀n s',q=.inr (n,s')->∀st',GR st st' b s'->K (.ret (enc n)) st') (k:∀e s',q=.inl (e,s')->∀st',GR st st' b s'->K (.BU (fault e)) st'):El st b K q:=by
 match q with
 | .inr (n,s')=>exact h n s' rfl
 | .inl (e,s')=>exact k e s' rfl
theorem Has.hw {st:St} {s:Af} (h:Has st b s) (own:AB) (n:Nat):Has (own.st st n) b s:=by
 cases own with
 |any=>exact h
 |full=>exact h
 |tok t=>exact h
theorem Y0 {own:AB} {st st':St} {n:Nat} {s:Af} (hg:own.BG st) (hh:Has st b s) (hu:GR (own.st st n) st' b s'):∃U,st'=own.st U n/\GR st U b s'/\own.BG U:=by
 obtain ⟨h1,cs,e⟩:=hu
 cases own with
 |any=>exact hg.elim
 |full=>exact ⟨st',rfl,⟨h1,cs,e⟩,trivial⟩
 |tok t=>
  refine ⟨st.Aa b cs,e,⟨?_,cs,rfl⟩,?_,?_⟩
  .rw [e] at h1;exact h1
  .have:b≠t:=by
    rintro rfl
    have h2:st.box b=none:=hg.1
    rcases hh with k|⟨_,_,_,_,_,k⟩<;>(rw [h2] at k;cases k)
   rw [St.As this];exact hg.1
  .exact hg.2
def bS (own:AB) (n:Nat) (st:St) (b:Nat) (R:Ay->St->Prop):Rs->Prop
 | .inr (x,s')=>∀st',GR st st' b s'->own.BG st'->R (.ret (enc x)) (own.st st' n)
 | .inl (e,s')=>∀st',GR st st' b s'->own.BG st'->R (.BU (fault e)) (own.st st' n)
theorem EN {own:AB} {n:Nat} {st:St} {s:Af} {q:Rs} (hg:own.BG st) (hh:Has st b s) (h:bS own n st b R q):El (own.st st n) b R q:=by
 refine Dx (λx s' e st' hu=>?_) (λx s' e st' hu=>?_)
 .obtain ⟨U,rfl,h2,h3⟩:=Y0 hg hh hu
  subst e
  exact h U h2 h3
 .obtain ⟨U,rfl,h2,h3⟩:=Y0 hg hh hu
  subst e
  exact h U h2 h3
section
variable {st:St} {R:Ay->St->Prop}
attribute [local irreducible] Go.Aw.Ag
theorem UA {t:Tk} (h:R (.ret (.bool (DF t))) st):PC 363 [Ei t] st R:=by
 refine pB Tryz.func363 ?_
 repeat' ((conv=>whnf);first|(refine Bg ?_;intros)|(refine Bh ?_ ?_<;>intro _)|fail)
 all_goals conv=>whnf
 all_goals (refine Ao h ?_;clear h;simp_all [DF])
def C0 (f:FuncId) (d:Int) (A:Af->Rs):Prop:=∀s,mu s<=100000000->Reads f s d (A s)
theorem C2 {s:Af} (h:mu s<=100000000):s.Ca.length<=500000000:=by have:=nQ s;omega
theorem Fb {s:Af} (U:Has st b s) (hb:s.Ca.length<=500000000) (h:El st b R (CY s)):PC 121 [.ptr b 0] st R:=by
 unfold CY at h
 refine KD U hb (λe=>?_) (λe=>?_)
 .rw [if_pos e] at h;exact h
 .rw [if_neg e] at h;exact h _ AU
theorem oQ {s:Af} (U:Has st b s) (hb:s.Ca.length<=500000000) (h:∀st',GR st st' b s->R (.BU (fault (Om s))) st'):PC 171 [.ptr b 0] st R:=cg U hb (h _ AU)
theorem PX {s:Af} (hs:Has st b s) (hb:s.Ca.length<=500000000) (h:El st b R (IE s k x)):PC 118 [.ptr b 0,.int .i64 k,.str x] st R:=by
 unfold IE CY at h
 refine gN hs hb (λU e2=>?_) (λU e2=>?_) (λU=>?_)
 .rw [if_pos U,if_pos e2] at h;exact h
 .rw [if_pos U,if_neg e2] at h;exact h _ AU
 .rw [if_neg (by rw [U];decide)] at h;exact h _ AU
theorem mJ {d:Int} (hr:C0 404 d (Hr Y)) (hsq:C0 405 d (FH Y)):C0 362 d (DD Y):=by
 intro s hm b st R hs h
 refine pB Tryz.func362 ?_
 have hb:=C2 hm
 have hl:Has (st.Aa b (CB s)) b s:=.inl (St.Al ..)
 unfold DD at h
 repeat' ((conv=>whnf);first|(refine Bg ?_;intros)|(refine Bh ?_ ?_<;>intro _)|refine FZ hs hb ?_|refine UA ?_|refine Fb hl hb (Dx (λn s' hq st' U=>?_) (λe s' hq st' U=>?_))|refine oQ hl hb (λst' U=>?_)|refine hr s hm b _ _ hl (Dx (λn s' hq st' U=>?_) (λe s' hq st' U=>?_))|refine hsq s hm b _ _ hl (Dx (λn s' hq st' U=>?_) (λe s' hq st' U=>?_)))
 all_goals repeat (first|rw [if_pos ‹_›] at h|rw [if_neg ‹_›] at h|rw [if_neg (Bool.eq_false_iff.1 ‹_›)] at h)
 all_goals first
  |exact fin (h st' (AU.trans U)) rfl
  |(rw [hq] at h;exact Be rfl (h st' (AU.trans U)))
  |(rw [hq] at h;exact fin (h st' (AU.trans U)) rfl)
 all_goals trace_state
end
theorem Ql {own:AB} {st:St} {K:V->St->Prop} (h:own.BG st) (hb:l.length+new.length<=1000000000)
 (k:∀U:AB,U.BG st->K (.slice 6 (Cp (l++new)) U) (U.st st ((l++new).length*6))):Ag 6 72 (Cp l) own (Cp new) (own.st st (l.length*6)) K:=by
 have hw:(Cp new).map (·.map V.IM)=Cp new:=by
  rw [BJ,List.map_map]
  refine List.map_congr_left λx _=>?_
  rfl
 have hsc:((Cp new).all λv=>v.all V.sc)=true:=by
  rw [BJ,List.all_map,List.all_eq_true]
  intro x _
  rfl
 have:=F3 (sz:=6) (bytes:=72) (es:=Cp l) (new:=Cp new) (K:=K) h (by rw [Cz,Cz];omega) (by rw [Cz,Cz];simp only [EF];omega) hsc (λU ho=>by
  have:=k U ho
  rw [Cz,Cz,hw,<-Tj,<-List.length_append]
  omega)
 rw [Cz] at this
 omega
theorem L3 {x:Nd} {own:AB} {st:St} {K:V->St->Prop} (h:own.BG st) (hb:l.length+1<=1000000000)
 (k:∀U:AB,U.BG st->K (.slice 6 (Cp (l++[x])) U) (U.st st ((l++[x]).length*6))):Ag 6 72 (Cp l) own [Az x] (own.st st (l.length*6)) K:=by
 have:=Ql (l:=l) (new:=[x]) h hb k
 rw [BJ [x]] at this
 grind
theorem XF {x:Nd} {own:AB} {st:St} {K:V->St->Prop} (h:own.BG st) (hb:l.length+1<=1000000000)
 (k:∀U:AB,U.BG st->K (.slice 6 (Cp (l++[x])) U) (U.st st ((l++[x]).length*6))):Ag 6 72 (l.map Az) own [Az x] (own.st st (l.length*6)) K:=by
 rw [<-BJ]
 exact L3 h hb k
theorem QO {K:Int->Prop} (h:d<=1000000) (k:K (d:Int)):∃r,r=IntKind.i64.wrap (((d+1:Nat):Int) - 1)/\K r:=by
 refine ⟨d,?_,k⟩
 rw [show ((d+1:Nat):Int) - 1=(d:Int) by omega,JV AC AC]
section
variable {st:St} {R:Ay->St->Prop}
attribute [local irreducible] Go.Aw.Ag
theorem SI {q:Rs} {x:Int} (e:q=.inl (x,s')) (h:∀st',GR st st' b s'->K (.BU (fault x)) st'):El st b K q:=by subst e;exact h
theorem Fw {own:AB} {st:St} {q:Rs} (h:∀n s',q=.inr (n,s')->∀st',GR st st' b s'->own.BG st'->K (.ret (enc n)) (own.st st' m)) (k:∀e s',q=.inl (e,s')->∀st',GR st st' b s'->own.BG st'->K (.BU (fault e)) (own.st st' m)):bS own m st b K q:=by
 match q with
 | .inr (n,s')=>exact h n s' rfl
 | .inl (e,s')=>exact k e s' rfl
theorem Ge {q:Rs} {x:Nd} (e:q=.inr (x,s')) (h:∀st',GR st st' b s'->K (.ret (enc x)) st'):El st b K q:=by subst e;exact h
def CZ (f:FuncId) (d:Int) (A:Af->Rs):Prop:=∀s,mu s<=100000000->∀(st:St) (R:Ay->St->Prop),R (.ret (K4 (Ce s d (A s)))) st->PC f [Bn s,.int .i64 d] st R
theorem nv (hf:CZ f d A) (h0:d=0->∀s,A s=.inl (2,s)) (hA:EC A) {s:Af} (hm:mu s<=100000000) (hs:Has st b s) (h:El st b R (A s)):
 PC 84 [.ptr b 0,.func f [] [],.int .i64 d] st R:=by
 by_cases hd:(d:Int)<1
 .have hz:d=0:=AC
  rw [h0 hz s] at h
  refine VP (n:=FN) (s':=s) (e:=2) (λst R k=>hf s hm st R ?_) hs (λe=>by cases e) (λ_=>h)
  unfold Ce;rw [if_pos hd];exact k
 .cases U:A s with
  |inr p=>
   rw [U] at h
   refine VP (n:=p.1) (s':=p.2) (e:=0) (λst R k=>hf s hm st R ?_) hs (λ_=>h) (λe=>absurd rfl e)
   unfold Ce;rw [if_neg hd,U];exact k
  |inl p=>
   rw [U] at h
   have hne:=hA s p.1 p.2 U
   refine VP (n:=FN) (s':=p.2) (e:=p.1) (λst R k=>hf s hm st R ?_) hs (λe=>absurd e hne) (λ_=>h)
   unfold Ce;rw [if_neg hd,U];exact k
theorem O5 {x:Int} (hx:x=(d:Int)) (hf:CZ f d A) (U:d=0->∀s,A s=.inl (2,s)) (hA:EC A) {s:Af} (hm:mu s<=100000000) (hs:Has st b s) (h:El st b R (A s)):
 PC 84 [.ptr b 0,.func f [] [],.int .i64 x] st R:=by subst hx;exact nv hf U hA hm hs h
theorem ga (hd:d<=1000000) (hY:CZ 220 d Y) (h0:d=0->∀s,Y s=.inl (2,s)) (hB:EC Y) (hF:A2 Y):C0 405 ((d+1:Nat):Int) (FH Y):=by
 intro s hm b st R hs h
 refine pB Tryz.func405 ?_
 have hb:=C2 hm
 unfold FH at h
 cases U:CY s with
 |inl q=>
  rw [U] at h
  obtain ⟨e,s'⟩:=q
  repeat' ((conv=>whnf);first|(refine Bg ?_;intros)|(refine Bh ?_ ?_<;>intro _)|refine Fb hs hb (SI U (λst1 h1=>?_)))
  all_goals exact fin (h st1 h1) rfl
 |inr q=>
  obtain ⟨n1,s1⟩:=q
  rw [U] at h
  have hm1:mu s1<=100000000:=by have:=(N8 U).1;omega
  have hb1:=C2 hm1
  repeat' ((conv=>whnf);first|(refine Bg ?_;intros)|(refine Bh ?_ ?_<;>intro _)|refine Fb hs hb (Ge U (λst1 h1=>?_))|refine VS h1.1 hb1 ?_)
  .have hp:Ba s1 15 [93]=true:=FS
   have hl1:Has (st1.Aa b (CB s1)) b s1:=.inl (St.Al ..)
   have hq2:CY s1=.inr (Bp (Ab s1).1,(Ab s1).2.1):=by unfold CY;rw [if_pos (FX hp Do)]
   dsimp only at h
   rw [if_pos hp] at h
   have hn1:[n1].length+1<=1000000000:=by show 1+1<=1000000000;decide
   repeat' ((conv=>whnf);first|(refine Bg ?_;intros)|(refine Bh ?_ ?_<;>intro _)|refine Fb hl1 hb1 (Ge hq2 (λst2 h2=>?_))|refine XF (l:=[n1]) (x:=Bp (Ab s1).1) (own:=.full) trivial hn1 (λown1 ho1=>?_))
   all_goals exact DH (AB.Bu ho1) rfl (h st2 (h1.trans (AU.trans h2)))
  .have hp:Ba s1 15 [93]=false:=FS
   have hl1:Has (st1.Aa b (CB s1)) b s1:=.inl (St.Al ..)
   dsimp only at h
   rw [if_neg ke] at h
   have hn1:[n1].length+1<=1000000000:=by show 1+1<=1000000000;decide
   have hn2:∀n2:Nd,([n1]++[n2]).length+1<=1000000000:=λ_=>by simp_all
   repeat' ((conv=>whnf);first|(refine Bg ?_;intros)|(refine Bh ?_ ?_<;>intro _)|refine O5 AC hY h0 hB hm1 hl1 (Dx (λn2 s2 hq2 st2 h2=>?_) (λe2 s2 hq2 st2 h2=>?_))|refine XF (l:=[n1]) (x:=n2) (own:=.full) trivial hn1 (λown1 ho1=>?_)|refine PX (h2.1.hw own1 _) (C2 (Nat.le_trans (Nat.le_of_lt (hF _ _ _ hq2)) hm1)) (EN ho1 h2.1 (Fw (λn3 s3 hq3 st3 h3 hg3=>?_) (λe3 s3 hq3 st3 h3 hg3=>?_)))|refine L3 (l:=[n1]++[n2]) (x:=n3) hg3 (hn2 n2) (λown2 ho2=>?_))
   all_goals rw [hq2] at h
   .unfold IH at h
    dsimp only at h
    rw [hq3] at h
    exact DH (AB.Bu ho2) rfl (h st3 (((h1.trans AU).trans h2).trans h3))
   .unfold IH at h
    dsimp only at h
    rw [hq3] at h
    exact DH (AB.Bu hg3) rfl (h st3 (((h1.trans AU).trans h2).trans h3))
   .exact fin (h st2 ((h1.trans AU).trans h2)) rfl
end
theorem MM {x:Nd} {own:AB} {st:St} {K:V->St->Prop} (h:own.BG st) (hb:l.length+1<=1000000000)
 (k:∀U:AB,U.BG st->K (.slice 6 ((l++[x]).map Az) U) (U.st st ((l++[x]).length*6))):Ag 6 72 (l.map Az) own [Az x] (own.st st (l.length*6)) K:=by
 rw [<-BJ]
 exact L3 h hb (by simpa only [BJ] using k)
theorem BK {own:AB}:Ay.ret (enc (Ar k l))=(Ay.ret (.agg [.int .i64 k,.int .i64 0,.str [],.int .i64 0,.int .i64 0,.slice 6 (l.map Az) own])).wk:=by
 rw [<-BJ];rfl
theorem kz {s:Af} (h:DF (Ab s).1=true) (U:A s=.inr (n,s')) (hm:mu s'<mu s):GO A l s=GO A (l++[n]) s':=by
 rw [GO,if_pos h,U]
 dsimp only
 rw [if_pos hm]
section
variable {st:St} {R:Ay->St->Prop}
attribute [local irreducible] Go.Aw.Ag
theorem BP {K:Nat->Prop} (k:l.length<4611686018427387904->K l.length):∀m,m=(l.map Az).length->m<EF->K m:=λm U h=>by
 rw [List.length_map] at U;subst U;exact k h
theorem Yx {own:AB} {st:St} {n:Nat}:(own.st st n).Aa b cs=own.st (st.Aa b cs) n:=by cases own<;>rfl
theorem nR {own:AB} {n:Nat} {s:Af} (hg:own.BG st) (U:Has st b s) (hb:s.Ca.length<=500000000) (h:R (.ret (Ei (Ab s).1)) (own.st (st.Aa b (CB s)) n)):PC 83 [.ptr b 0] (own.st st n) R:=
 FZ (U.hw own n) hb (by rw [Yx];exact h)
theorem HD {own:AB} {s:Af} (U:own.BG st) (hs:Has st b s):own.BG (st.Aa b cs):=by
 cases own with
 |any=>exact U
 |full=>trivial
 |tok t=>
  have:b≠t:=by
   rintro rfl
   have h2:st.box b=none:=U.1
   rcases hs with k|⟨_,_,_,_,_,k⟩<;>(rw [h2] at k;cases k)
  exact ⟨by rw [St.As this];exact U.1,U.2⟩
theorem nP {n1:Nd} {K:List V->Prop} (h:l.length=Int.toNat 1) (j:l.length=1->l=[n1]) (k:K (Az n1)):(0:Int)<=0/\∃e,(l.map Az)[Int.toNat 0]? =some e/\K e:=
 ⟨Int.le_refl _,Az n1,by rw [j h];rfl,k⟩
theorem n9 {d:Int} (ha:C0 362 d A) (hF:A2 A):C0 296 d (Hs A):=by
 intro s hm b st R hs h
 refine pB Tryz.func296 ?_
 unfold Hs at h
 cases U:A s with
 |inl q=>
  obtain ⟨e,s1⟩:=q
  rw [U] at h
  repeat' ((conv=>whnf);first|(refine Bg ?_;intros)|(refine Bh ?_ ?_<;>intro _)|refine ha s hm b _ _ hs (SI U (λst1 h1=>?_)))
  all_goals exact fin (h st1 h1) rfl
 |inr q=>
  obtain ⟨n1,s1⟩:=q
  rw [U] at h
  have hf1:=hF _ _ _ U
  dsimp only at h
  repeat' ((conv=>whnf);first|(refine Bg ?_;intros)|(refine Bh ?_ ?_<;>intro _)|refine ha s hm b _ _ hs (Ge U (λst1 h1=>?_)))
  refine Mi (α:=List Nd×Af×St×AB) (λx=>[(5,.slice 6 (x.1.map Az) x.2.2.2)]) [0,1,4] (λx=>[]) [0] (λx=>x.2.2.2.st x.2.2.1 (x.1.length*6))
   (λx=>x.2.2.2.BG x.2.2.1/\GR st x.2.2.1 b x.2.1/\x.1≠[]/\x.1.length+mu x.2.1<=200000000/\mu x.2.1<=mu s1/\GO A x.1 x.2.1=GO A [n1] s1/\(x.1.length=1->x.1=[n1])) (λx=>mu x.2.1) ([n1],s1,st1,.full)
   ⟨trivial,h1,GT,by show 1+mu s1<=_;omega,Nat.le_refl _,rfl,λ_=>rfl⟩ Yl (St.le_refl _) ?_
  rintro ⟨l,s2,st2,own⟩ ⟨j1,j2,j3,j4,j5,j6,j7⟩
  dsimp only at j1 j2 j3 j4 j5 j6 j7
  have hm2:mu s2<=100000000:=AC
  have hb2:=C2 hm2
  have hl3:Has (st2.Aa b (CB s2)) b s2:=.inl (St.Al ..)
  have g3:own.BG (st2.Aa b (CB s2)):=HD j1 j2.1
  have u3:GR st (st2.Aa b (CB s2)) b s2:=j2.trans AU
  have hn:l.length+1<=1000000000:=AC
  repeat' ((conv=>whnf);first|(refine Bg ?_;intros)|(refine Bh ?_ ?_<;>intro _)|refine nR j1 j2.1 hb2 ?_|refine UA ?_|refine ha s2 hm2 b _ _ (hl3.hw own _) (EN g3 hl3 (Fw (λn2 s4 hq2 st4 h4 g4=>?_) (λe2 s4 hq2 st4 h4 g4=>?_)))|refine MM (l:=l) g4 hn (λown' ho'=>?_)|refine BP (λ_=>?_)|refine nP ‹_› j7 ?_)
  .have hd:=hF _ _ _ hq2
   refine ⟨(l++[n2],s4,st4,own'),⟨ho',u3.trans h4,GT,by show (l++[n2]).length+mu s4<=_;rw [List.length_append,List.length_singleton];omega,by show mu s4<=_;omega,?_,?_⟩,hd,Yl,St.le_refl _⟩
   .show GO A (l++[n2]) s4=_
    rw [<-j6,kz (l:=l) ‹_› hq2 hd]
   .intro e
    have:=List.length_pos_iff.2 j3
    have e:(l++[n2]).length=1:=e
    rw [List.length_append,List.length_singleton] at e
    omega
  .have hr:GO A l s2=.inl (e2,s4):=by rw [GO,if_pos ‹_›,hq2]
   rw [<-j6,hr] at h
   exact DH (AB.Bu g4) rfl (h st4 (u3.trans h4))
  .have hr:GO A l s2=.inr (l,s2):=by rw [GO,if_neg (Bool.eq_false_iff.1 ‹_›)]
   rw [<-j6,hr] at h
   dsimp only at h
   rw [if_pos ‹_›] at h
   exact DH (AB.Bu g3) rfl (h _ u3)
  .have hr:GO A l s2=.inr (l,s2):=by rw [GO,if_neg (Bool.eq_false_iff.1 ‹_›)]
   rw [<-j6,hr] at h
   dsimp only at h
   rw [if_neg ‹_›] at h
   exact DH (AB.Bu g3) BK (h _ u3)
end
theorem bX {x y:Nd} {own:AB} {st:St} {K:V->St->Prop} (h:own.BG st) (hb:l.length+2<=1000000000)
 (k:∀U:AB,U.BG st->K (.slice 6 ((l++[x,y]).map Az) U) (U.st st ((l++[x,y]).length*6))):Ag 6 72 (l.map Az) own [Az x,Az y] (own.st st (l.length*6)) K:=by
 rw [<-BJ]
 have:=Ql (l:=l) (new:=[x,y]) h hb (by simpa only [BJ] using k)
 rw [BJ [x,y]] at this
 grind
theorem ij {s:Af} (h:Ba s 10 [45,62]=true) (U:Hs A (Ab s).2.1=.inr (n,s')) (hm:mu s'<mu s):Hw A l s=Hw A (l++[Bp (Ab s).1,n]) s':=by
 rw [Hw,if_pos h,U]
 simp_all
theorem G7 {s:Af} (h:Ba s k x=true) (U:k≠0):CY s=.inr (Bp (Ab s).1,(Ab s).2.1):=by unfold CY;rw [if_pos (FX h U)]
section
variable {st:St} {R:Ay->St->Prop}
attribute [local irreducible] Go.Aw.Ag
theorem nw {own:AB} {n:Nat} {s:Af} (U:Has st b s) (hb:s.Ca.length<=500000000) (h:R (.ret (.bool (Ba s k x))) (own.st (st.Aa b (CB s)) n)):PC 156 [.ptr b 0,.int .i64 k,.str x] (own.st st n) R:=
 VS (U.hw own n) hb (by rw [Yx];exact h)
theorem PS {own:AB} {n:Nat} {st:St} {s:Af} {q:Rs} {x:Nd} (U:own.BG st) (hh:Has st b s) (e:q=.inr (x,s')) (h:∀st',GR st st' b s'->own.BG st'->R (.ret (enc x)) (own.st st' n)):El (own.st st n) b R q:=
 EN U hh (by subst e;exact h)
def Va (f:FuncId) (d:Int) (A:Nd->Af->Rs):Prop:=∀n s,mu s<=100000000->∀(b:Nat) (st:St) (R:Ay->St->Prop),Has st b s->El st b R (A n s)->PC f [.ptr b 0,enc n,.int .i64 d] st R
theorem SW {d:Int} (hr:C0 296 d (Hs A)) (hF:A2 A):Va 364 d (Ey A):=by
 intro n1 s1 hm b st R hs h
 refine pB Tryz.func364 ?_
 unfold Ey at h
 repeat' ((conv=>whnf);first|(refine Bg ?_;intros)|(refine Bh ?_ ?_<;>intro _)|fail)
 refine Mi (α:=List Nd×Af×St×AB) (λx=>[(7,.slice 6 (x.1.map Az) x.2.2.2)]) [0,2,4,6] (λx=>[]) [0,1] (λx=>x.2.2.2.st x.2.2.1 (x.1.length*6))
  (λx=>x.2.2.2.BG x.2.2.1/\Has x.2.2.1 b x.2.1/\(∃s0,GR st x.2.2.1 b s0\/x.2.2.1=st)/\x.1≠[]/\x.1.length+2*mu x.2.1<=400000000/\mu x.2.1<=mu s1/\Hw A x.1 x.2.1=Hw A [n1] s1) (λx=>mu x.2.1) ([n1],s1,st,.full)
  ⟨trivial,hs,⟨s1,.inr rfl⟩,GT,by grind,Nat.le_refl _,rfl⟩ Yl (St.le_refl _) ?_
 rintro ⟨l,s2,U,own⟩ ⟨j1,j2,j3,j4,j5,j6,j7⟩
 dsimp only at j1 j2 j3 j4 j5 j6 j7
 have hm2:mu s2<=100000000:=AC
 have hb2:=C2 hm2
 have hl3:Has (U.Aa b (CB s2)) b s2:=.inl (St.Al ..)
 have g3:own.BG (U.Aa b (CB s2)):=HD j1 j2
 have up:∀{st4 s4},GR U st4 b s4->GR st st4 b s4:=λ{st4 s4} hu=>by
  obtain ⟨s0,h3|h3⟩:=j3
  .exact h3.trans hu
  simp_all
 have hn:l.length+2<=1000000000:=AC
 have hm4:Ba s2 10 [45,62]=true->mu (Ab s2).2.1<=100000000:=λe=>by have:=DM e Do Do;omega
 repeat' ((conv=>whnf);first|(refine Bg ?_;intros)|(refine Bh ?_ ?_<;>intro _)|refine nw j2 hb2 ?_|refine Fb (hl3.hw own _) hb2 (PS g3 hl3 (G7 ‹_› Do) (λst4 h4 g4=>?_))|refine hr _ (hm4 ‹_›) b _ _ (h4.1.hw own _) (EN g4 h4.1 (Fw (λn2 s5 hq2 st5 h5 g5=>?_) (λe2 s5 hq2 st5 h5 g5=>?_)))|refine bX (l:=l) (x:=Bp (Ab s2).1) (y:=n2) g5 hn (λown' ho'=>?_)|refine BP (λ_=>?_))
 .have hp:Ba s2 10 [45,62]=true:=FS
  have hd:=Fm hF _ _ _ hq2
  have hd2:=DM hp Do Do
  have hd3:mu s5<mu s2:=AC
  have hu:=(AU (st:=U) (b:=b) (s:=s2)).trans (h4.trans h5)
  refine ⟨(l++[Bp (Ab s2).1,n2],s5,st5,own'),⟨ho',h5.1,⟨s5,.inl (up hu)⟩,GT,?_,by grind,?_⟩,hd3,Yl,St.le_refl _⟩
  .grind
  .show Hw A (l++[Bp (Ab s2).1,n2]) s5=_
   rw [<-j7,ij (l:=l) hp hq2 hd3]
 .have hp:Ba s2 10 [45,62]=true:=FS
  have hu:=(AU (st:=U) (b:=b) (s:=s2)).trans (h4.trans h5)
  have hr:Hw A l s2=.inl (e2,s5):=by rw [Hw,if_pos hp,hq2]
  rw [<-j7,hr] at h
  exact DH (AB.Bu g5) rfl (h st5 (up hu))
 .have hr:Hw A l s2=.inr (l,s2):=by rw [Hw,if_neg (Bool.eq_false_iff.1 AC)]
  rw [<-j7,hr] at h
  dsimp only at h
  rw [if_pos (by grind)] at h
  exact DH (AB.Bu g3) rfl (h _ (up AU))
 .have hr:Hw A l s2=.inr (l,s2):=by rw [Hw,if_neg (Bool.eq_false_iff.1 AC)]
  rw [<-j7,hr] at h
  dsimp only at h
  rw [if_neg (by grind)] at h
  exact DH (AB.Bu g3) BK (h _ (up AU))
theorem lx {d:Int} (hr:C0 296 d (Hs A)) (ha:Va 364 d (Ey A)) (hF:A2 A):C0 297 d (Fc A):=by
 intro s hm b st R hs h
 refine pB Tryz.func297 ?_
 unfold Fc at h
 have hm1:∀{n1 s1},Hs A s=.inr (n1,s1)->mu s1<=100000000:=λe=>by have:=Fm hF _ _ _ e;omega
 repeat' ((conv=>whnf);first|(refine Bg ?_;intros)|(refine Bh ?_ ?_<;>intro _)|refine hr s hm b _ _ hs (Dx (λn1 s1 U st1 h1=>?_) (λe1 s1 U st1 h1=>?_))|refine ha n1 s1 (hm1 U) b _ _ h1.1 (Dx (λn2 s2 hq2 st2 h2=>?_) (λe2 s2 hq2 st2 h2=>?_)))
 all_goals rw [U] at h
 all_goals dsimp only at h
 .rw [hq2] at h;exact Be rfl (h st2 (h1.trans h2))
 .rw [hq2] at h;exact fin (h st2 (h1.trans h2)) rfl
 .exact fin (h st1 h1) rfl
end
abbrev Er:={e:Int // e≠0}
abbrev Rv (α:Type):=Sum (Er×Af) (α×Af)
structure Rd (α:Type) where
 run:Af->Rv α
 le:∀s v s',run s=.inr (v,s')->mu s'<=mu s
namespace Rd
variable {α β γ σ:Type}
theorem ext' {a b:Rd α} (h:∀s,a.run s=b.run s):a=b:=by
 obtain ⟨U,l1⟩:=a
 obtain ⟨r2,l2⟩:=b
 obtain rfl:U=r2:=funext h
 rfl
def ret (v:α):Rd α:=⟨λs=>.inr (v,s),λs U s' h=>by simp_all⟩
def seq (m:Rd α) (k:α->Rd β):Rd β:=⟨λs=>match m.run s with
 | .inl e=>.inl e
 | .inr p=>(k p.1).run p.2,λs v s' h=>by
 cases U:m.run s with
 |inl e=>simp_all
 |inr p=>rw [U] at h;exact Nat.le_trans ((k p.1).le _ _ _ h) (m.le _ _ _ U)⟩
def fail (e:Er):Rd α:=⟨λs=>.inl (e,s),λs v s' h=>by cases h⟩
def H3 (t:Af) (e:Er):Rd α:=⟨λ_=>.inl (e,t),λs v s' h=>by cases h⟩
def look (f:Af->Rd α):Rd α:=⟨λs=>(f s).run s,λs v s' h=>(f s).le _ _ _ h⟩
def iter (body:σ->Rd (Sum σ β)) (x:σ) (s:Af):Rv β:=
 match (body x).run s with
 | .inl e=>.inl e
 | .inr (.inr y,s')=>.inr (y,s')
 | .inr (.inl U,s')=>if mu s'<mu s then iter body U s' else .inl (⟨2,Do⟩,s)
termination_by mu s
theorem jD (body:σ->Rd (Sum σ β)) (x:σ) (s:Af):∀v s',iter body x s=.inr (v,s')->mu s'<=mu s:=by
 fun_induction iter body x s with
 |case1 x s e h=>simp_all
 |case2 x s y s1 h=>intro v s' h';cases h';exact (body x).le _ _ _ h
 |case3 x s x' s1 h U ih=>grind
 |case4 x s x' s1 h U=>simp_all
def loop (body:σ->Rd (Sum σ β)) (x:σ):Rd β:=⟨iter body x,jD body x⟩
theorem ey {body:σ->Rd (Sum σ β)} {w:σ->Nat} {w':β->Nat} (h1:∀x s U s',(body x).run s=.inr (.inl U,s')->w U<=w x+4) (h2:∀x s y s',(body x).run s=.inr (.inr y,s')->w' y<=w x+c) (x:σ) (s:Af):
 ∀y s',(loop body x).run s=.inr (y,s')->w' y+4*mu s'<=w x+c+4*mu s:=by
 show ∀y s',iter body x s=.inr (y,s')->_
 fun_induction iter body x s with
 |case1 x s e h=>simp_all
 |case2 x s y s1 h=>intro y s' h';cases h';have:=h2 _ _ _ _ h;have:=(body x).le _ _ _ h;omega
 |case3 x s U s1 h hlt ih=>grind
 |case4 x s U s1 h hlt=>simp_all
def wp (m:Rd α) (s:Af) (Q:α->Af->Prop) (E:Er->Af->Prop):Prop:=match m.run s with
 | .inl p=>E p.1 p.2
 | .inr p=>Q p.1 p.2
theorem wp_ret {v:α} {s:Af} {Q:α->Af->Prop} {E:Er->Af->Prop}:wp (ret v) s Q E=Q v s:=rfl
theorem wp_seq {m:Rd α} {k:α->Rd β} {s:Af} {Q:β->Af->Prop} {E:Er->Af->Prop}:wp (seq m k) s Q E=wp m s (λv s'=>wp (k v) s' Q E) E:=by
 unfold wp seq
 grind
theorem DG {e:Er} {s:Af} {Q:α->Af->Prop} {E:Er->Af->Prop}:wp (fail e) s Q E=E e s:=rfl
theorem Gm {e:Er} {s t:Af} {Q:α->Af->Prop} {E:Er->Af->Prop}:wp (H3 t e) s Q E=E e t:=rfl
theorem Ah {f:Af->Rd α} {s:Af} {Q:α->Af->Prop} {E:Er->Af->Prop}:wp (look f) s Q E=wp (f s) s Q E:=rfl
theorem Ax {c:Prop} [Decidable c] {a b:Rd α} {s:Af} {Q:α->Af->Prop} {E:Er->Af->Prop}:wp (if c then a else b) s Q E=if c then wp a s Q E else wp b s Q E:=by grind
def again (body:σ->Rd (Sum σ β)) (s:Af) (Q:β->Af->Prop) (E:Er->Af->Prop):Sum σ β->Af->Prop
 | .inr y,s'=>Q y s'
 | .inl x,s'=>if mu s'<mu s then wp (loop body x) s' Q E else E ⟨2,Do⟩ s
theorem wp_loop {body:σ->Rd (Sum σ β)} {x:σ} {s:Af} {Q:β->Af->Prop} {E:Er->Af->Prop}:wp (loop body x) s Q E=wp (body x) s (again body s Q E) E:=by
 have e:(loop body x).run s=match (body x).run s with
  | .inl e=>.inl e
  | .inr (.inr y,s')=>.inr (y,s')
  | .inr (.inl x',s')=>if mu s'<mu s then (loop body x').run s' else .inl (⟨2,Do⟩,s):=by
  show iter body x s=_
  rw [iter]
  rfl
 unfold wp
 rw [e]
 cases hb:(body x).run s with
 |inl p=>rfl
 |inr p=>
  obtain ⟨r,s'⟩:=p
  cases r with
  |inr y=>rfl
  |inl x'=>
   dsimp only [again]
   by_cases U:mu s'<mu s
   .rw [if_pos U,if_pos U];rfl
   grind
theorem Bk {body:σ->Rd (Sum σ β)} {s:Af} {Q:β->Af->Prop} {E:Er->Af->Prop} {y:β}:again body s Q E (.inr y) s'=Q y s':=rfl
theorem Dq {body:σ->Rd (Sum σ β)} {s:Af} {Q:β->Af->Prop} {E:Er->Af->Prop} {x:σ} (h:again body s Q E (.inl x) s') (U:mu s'<mu s):wp (loop body x) s' Q E:=by
 have h:if mu s'<mu s then wp (loop body x) s' Q E else E ⟨2,Do⟩ s:=h
 simp_all
theorem wp_mono {m:Rd α} {s:Af} {Q Q':α->Af->Prop} {E E':Er->Af->Prop} (h:wp m s Q E) (hq:∀v s',m.run s=.inr (v,s')->Q v s'->Q' v s') (U:∀e s',m.run s=.inl (e,s')->E e s'->E' e s'):wp m s Q' E':=by
 unfold wp at h |-
 grind
theorem Y2 {m:Rd α} {s:Af} {Q:α->Af->Prop} {E:Er->Af->Prop} (hq:∀v s',m.run s=.inr (v,s')->Q v s') (U:∀e s',m.run s=.inl (e,s')->E e s'):wp m s Q E:=by
 unfold wp
 grind
def A2 (m:Rd α):Prop:=∀s v s',m.run s=.inr (v,s')->mu s'<mu s
theorem A2.seq {m:Rd α} {k:α->Rd β} (h:A2 m):A2 (seq m k):=λs v s' e=>by
 unfold Rd.seq at e
 dsimp only at e
 split at e
 .cases e
 .exact Nat.lt_of_le_of_lt ((k _).le _ _ _ e) (h _ _ _ ‹_›)
theorem A2.at {m:Rd α} {k:α->Rd β} {s s':Af} {v:β} (h:∀v s',m.run s=.inr (v,s')->mu s'<mu s) (e:(Rd.seq m k).run s=.inr (v,s')):mu s'<mu s:=by
 unfold Rd.seq at e
 dsimp only at e
 split at e
 .cases e
 .exact Nat.lt_of_le_of_lt ((k _).le _ _ _ e) (h _ _ ‹_›)
theorem A2.fail {e:Er}:A2 (fail e:Rd α):=λs v s' h=>by cases h
theorem A2.H3 {t:Af} {e:Er}:A2 (H3 t e:Rd α):=λs v s' h=>by cases h
theorem A2.look {f:Af->Rd α} (h:∀s v s',(f s).run s=.inr (v,s')->mu s'<mu s):A2 (look f):=λs v s' e=>h s v s' e
end Rd
def Jg (A:Af->Rs) (hle:∀s v s',A s=.inr (v,s')->mu s'<=mu s):Rd Nd:=⟨λs=>match A s with
 | .inl p=>if h:p.1=0 then .inl (⟨2,Do⟩,p.2) else .inl (⟨p.1,h⟩,p.2)
 | .inr p=>.inr p,λs v s' h=>by
 grind⟩
theorem T4 {hle:∀s v s',A s=.inr (v,s')->mu s'<=mu s} (U:EC A) {s:Af} {e:Int} (h:A s=.inl (e,s')):(Jg A hle).run s=.inl (⟨e,U _ _ _ h⟩,s'):=by
 unfold Jg
 grind
theorem Se {hle:∀s v s',A s=.inr (v,s')->mu s'<=mu s} {s:Af} {p:Nd×Af} (h:A s=.inr p):(Jg A hle).run s=.inr p:=by
 unfold Jg
 simp_all
def AH:Rd Nd:=Jg CY λs v s' h=>(N8 h).1
def Rc {α:Type}:Rd α:=⟨λs=>.inl (⟨Om s,KM s⟩,s),λs v s' h=>by cases h⟩
def Bs (k:Int) (x:List UInt8):Rd Nd:=.look λs=>if Ba s k x=true then AH else Rc
def CA (ks:List Int):Rd Nd:=.look λs=>if ks.contains (Ab s).1.kind=true then AH else Rc
def Jl:Rd Unit:=.seq AH λ_=>.ret ()
theorem UE {s:Af} (h:Ba s k x=true) (U:k≠0):AH.run s=.inr (Bp (Ab s).1,(Ab s).2.1):=Se (G7 h U)
theorem DS {s:Af} (h:(Ab s).2.2=0):AH.run s=.inr (Bp (Ab s).1,(Ab s).2.1):=Se (by unfold CY;simp_all)
theorem LO {s:Af} (h:¬(Ab s).2.2=0):AH.run s=.inl (⟨(Ab s).2.2,h⟩,s):=by
 have e:CY s=.inl ((Ab s).2.2,s):=by unfold CY;rw [if_neg h]
 exact T4 Hx e
theorem GH {s:Af} {v:Nd} (h:AH.run s=.inr (v,s')) (U:(Ab s).1.kind≠21):mu s'<mu s:=by
 by_cases e:(Ab s).2.2=0
 .rw [DS e] at h;cases h;exact (DZ e).2 U
 .rw [LO e] at h;cases h
theorem F8 {s:Af} (h:(Ab s).1.kind≠0):(Ab s).2.2=0:=by
 apply Classical.byContradiction
 intro e
 rw [TZ e] at h
 exact h rfl
theorem Ko (U:k≠21):Rd.A2 (Bs k x):=Rd.A2.look λs v s' h=>by
 split at h
 .rename_i hi
  refine GH h λe=>U ?_
  unfold Ba at hi
  simp_all
 .cases h
theorem VE {ks:List Int} (U:ks.contains 21=false):Rd.A2 (CA ks):=Rd.A2.look λs v s' h=>by
 split at h
 .rename_i hi
  exact GH h λe=>by simp_all
 .cases h
end Go.Proofs.Z
namespace Go.Proofs
open Go.Shelf
def Tryz.TI:Go.Shelf.Ren:=⟨λ|160=>198|232=>261|231=>260|227=>262|234=>264|233=>263|236=>266|235=>265|228=>322|271=>324|151=>323|197=>125|120=>373|152=>372|260=>196|137=>407|119=>408|224=>384|225=>383|217=>382|266=>412|n=>n,λ|9=>9|4=>4|3=>3|5=>5|117=>198|116=>197|0=>0|124=>201|21=>21|105=>130|46=>191|119=>190|139=>194|138=>193|n=>n,λ|3=>0|4=>1|n=>n⟩
theorem Tryz.jK:Go.Proofs.Lays.n160 Tryz.prog Tryz.TI:={
 mixed:=EQ
 f119:=Tryz.func408.trans (congrArg some EQ)
 f120:=Tryz.func373.trans (congrArg some EQ)
 f137:=Tryz.func407.trans (congrArg some EQ)
 f151:=Tryz.func323.trans (congrArg some EQ)
 f152:=Tryz.func372.trans (congrArg some EQ)
 f160:=Tryz.func198.trans (congrArg some EQ)
 f197:=Tryz.func125.trans (congrArg some EQ)
 f217:=Tryz.func382.trans (congrArg some EQ)
 f224:=Tryz.func384.trans (congrArg some EQ)
 f225:=Tryz.func383.trans (congrArg some EQ)
 f227:=Tryz.func262.trans (congrArg some EQ)
 f228:=Tryz.func322.trans (congrArg some EQ)
 f231:=Tryz.func260.trans (congrArg some EQ)
 f232:=Tryz.func261.trans (congrArg some EQ)
 f233:=Tryz.func263.trans (congrArg some EQ)
 f234:=Tryz.func264.trans (congrArg some EQ)
 f235:=Tryz.func265.trans (congrArg some EQ)
 f236:=Tryz.func266.trans (congrArg some EQ)
 f260:=Tryz.func196.trans (congrArg some EQ)
 f266:=Tryz.func412.trans (congrArg some EQ)
 f271:=Tryz.func324.trans (congrArg some EQ)
 t0:=Tryz.underlying0
 a0:=Tryz.isAgg0
 z0:=Tryz.sizeOf0
 v0:=Tryz.zeroValue0
 t3:=Tryz.underlying3
 a3:=Tryz.isAgg3
 z3:=Tryz.sizeOf3
 v3:=Tryz.zeroValue3
 t4:=Tryz.underlying4
 a4:=Tryz.isAgg4
 z4:=Tryz.sizeOf4
 v4:=Tryz.zeroValue4
 t5:=Tryz.underlying5
 a5:=Tryz.isAgg5
 z5:=Tryz.sizeOf5
 v5:=Tryz.zeroValue5
 t9:=Tryz.underlying9
 a9:=Tryz.isAgg9
 z9:=Tryz.sizeOf9
 v9:=Tryz.zeroValue9
 t21:=Tryz.underlying21
 a21:=Tryz.isAgg21
 z21:=Tryz.sizeOf21
 v21:=Tryz.zeroValue21
 t46:=Tryz.underlying191
 a46:=Tryz.isAgg191
 z46:=Tryz.sizeOf191
 v46:=Tryz.zeroValue191
 t105:=Tryz.underlying130
 a105:=Tryz.isAgg130
 z105:=Tryz.sizeOf130
 v105:=Tryz.zeroValue130
 t116:=Tryz.underlying197
 a116:=Tryz.isAgg197
 z116:=Tryz.sizeOf197
 t117:=Tryz.underlying198
 a117:=Tryz.isAgg198
 z117:=Tryz.sizeOf198
 v117:=Tryz.zeroValue198
 t119:=Tryz.underlying190
 a119:=Tryz.isAgg190
 z119:=Tryz.sizeOf190
 t124:=Tryz.underlying201
 a124:=Tryz.isAgg201
 z124:=Tryz.sizeOf201
 v124:=Tryz.zeroValue201
 t138:=Tryz.underlying193
 a138:=Tryz.isAgg193
 z138:=Tryz.sizeOf193
 v138:=Tryz.zeroValue193
 t139:=Tryz.underlying194
 a139:=Tryz.isAgg194
 z139:=Tryz.sizeOf194
 v139:=Tryz.zeroValue194
 g3:=EQ
 g4:=by kernel_rfl}
open Go.RowKit in
theorem Tryz.strings_Trim_one (s:ByteArray) (c:UInt8) (hc:c.toNat<128) (w:World) (U:s.size<=9223372036854775807):
 Calls Tryz.prog 198 #[.string s,.string ⟨#[c]⟩] w λe w'=>e=.returned (.string ⟨(Lib.trimB s.data.toList c).toArray⟩)/\(w'=w\/w'=w.drew):=Any.strings_Trim_one Tryz.jK s c hc w U
def Tryz.TF:Go.Shelf.Ren:=⟨λ|137=>407|217=>382|266=>412|n=>n,λ|9=>9|5=>5|3=>3|n=>n,λ|n=>n⟩
theorem Tryz.jH:Go.Proofs.Lays.n137 Tryz.prog Tryz.TF:={
 mixed:=EQ
 f137:=Tryz.func407.trans (congrArg some EQ)
 f217:=Tryz.func382.trans (congrArg some EQ)
 f266:=Tryz.func412.trans (congrArg some EQ)
 t3:=Tryz.underlying3
 a3:=Tryz.isAgg3
 z3:=Tryz.sizeOf3
 v3:=Tryz.zeroValue3
 t5:=Tryz.underlying5
 a5:=Tryz.isAgg5
 z5:=Tryz.sizeOf5
 v5:=Tryz.zeroValue5
 t9:=Tryz.underlying9
 a9:=Tryz.isAgg9
 z9:=Tryz.sizeOf9
 v9:=Tryz.zeroValue9}
open Go.RowKit in
theorem Tryz.strings_IndexByte (s:ByteArray) (c:Int) (w:World):
 Calls Tryz.prog 407 #[.string s,.int .u8 c] w λe w'=>e=.returned (.int .i64 (Lib.indexByte s.data.toList c.toNat.toUInt8))/\w'=w:=Any.strings_IndexByte Tryz.jH s c w
def Tryz.TG:Go.Shelf.Ren:=⟨λ|144=>205|143=>272|219=>334|217=>382|225=>383|224=>384|267=>385|266=>412|314=>413|n=>n,λ|9=>9|4=>4|3=>3|5=>5|46=>191|146=>256|51=>255|n=>n,λ|1=>2|n=>n⟩
theorem Tryz.jI:Go.Proofs.Lays.n144 Tryz.prog Tryz.TG:={
 mixed:=EQ
 f143:=Tryz.func272.trans (congrArg some EQ)
 f144:=Tryz.func205.trans (congrArg some EQ)
 f217:=Tryz.func382.trans (congrArg some EQ)
 f219:=Tryz.func334.trans (congrArg some EQ)
 f224:=Tryz.func384.trans (congrArg some EQ)
 f225:=Tryz.func383.trans (congrArg some EQ)
 f266:=Tryz.func412.trans (congrArg some EQ)
 f267:=Tryz.func385.trans (congrArg some EQ)
 f314:=Tryz.func413.trans (congrArg some EQ)
 t3:=Tryz.underlying3
 a3:=Tryz.isAgg3
 z3:=Tryz.sizeOf3
 v3:=Tryz.zeroValue3
 t4:=Tryz.underlying4
 a4:=Tryz.isAgg4
 z4:=Tryz.sizeOf4
 v4:=Tryz.zeroValue4
 t5:=Tryz.underlying5
 a5:=Tryz.isAgg5
 z5:=Tryz.sizeOf5
 v5:=Tryz.zeroValue5
 t9:=Tryz.underlying9
 a9:=Tryz.isAgg9
 z9:=Tryz.sizeOf9
 v9:=Tryz.zeroValue9
 t46:=Tryz.underlying191
 a46:=Tryz.isAgg191
 z46:=Tryz.sizeOf191
 v46:=Tryz.zeroValue191
 t51:=Tryz.underlying255
 a51:=Tryz.isAgg255
 z51:=Tryz.sizeOf255
 v51:=Tryz.zeroValue255
 t146:=Tryz.underlying256
 a146:=Tryz.isAgg256
 z146:=Tryz.sizeOf256
 v146:=Tryz.zeroValue256
 g1:=by kernel_rfl}
open Go.RowKit Go.Lib in
theorem Tryz.strings_Contains (s sub:ByteArray) (m:Int) (w:World) (hs:s.size<4294967281) (U:w.cell? ⟨2,0,none⟩=some (.int .i64 m)):
 Calls Tryz.prog 205 #[.string s,.string sub] w λe w'=>e=.returned (.bool (Lib.contains s.data.toList sub.data.toList))/\w'=w:=Any.strings_Contains Tryz.jI s sub m w hs U
def Tryz.RY:Go.Shelf.Ren:=⟨λ|15=>56|20=>126|n=>n,λ|9=>9|23=>84|3=>3|4=>4|0=>0|21=>21|n=>n,λ|n=>n⟩
theorem Tryz.dY:Go.Proofs.LaysGw.n15 Tryz.prog Tryz.RY:={
 mixed:=EQ
 f15:=Tryz.func56.trans (congrArg some EQ)
 f20:=Tryz.func126.trans (congrArg some EQ)
 t0:=Tryz.underlying0
 a0:=Tryz.isAgg0
 z0:=Tryz.sizeOf0
 v0:=Tryz.zeroValue0
 i0:=EQ
 t3:=Tryz.underlying3
 a3:=Tryz.isAgg3
 z3:=Tryz.sizeOf3
 v3:=Tryz.zeroValue3
 i3:=EQ
 t4:=Tryz.underlying4
 a4:=Tryz.isAgg4
 z4:=Tryz.sizeOf4
 v4:=Tryz.zeroValue4
 i4:=EQ
 t9:=Tryz.underlying9
 a9:=Tryz.isAgg9
 z9:=Tryz.sizeOf9
 v9:=Tryz.zeroValue9
 i9:=EQ
 t21:=Tryz.underlying21
 a21:=Tryz.isAgg21
 z21:=Tryz.sizeOf21
 v21:=Tryz.zeroValue21
 i21:=EQ
 t23:=Tryz.underlying84
 a23:=Tryz.isAgg84
 z23:=Tryz.sizeOf84
 v23:=Tryz.zeroValue84
 i23:=by kernel_rfl}
def Tryz.VU:Go.Shelf.Ren:=⟨λ|99=>130|206=>197|n=>n,λ|9=>9|4=>4|3=>3|n=>n,λ|n=>n⟩
theorem Tryz.nz:Go.Proofs.Lays.n99 Tryz.prog Tryz.VU:={
 mixed:=EQ
 f99:=Tryz.func130.trans (congrArg some EQ)
 f206:=Tryz.func197.trans (congrArg some EQ)
 t3:=Tryz.underlying3
 a3:=Tryz.isAgg3
 z3:=Tryz.sizeOf3
 v3:=Tryz.zeroValue3
 t4:=Tryz.underlying4
 a4:=Tryz.isAgg4
 z4:=Tryz.sizeOf4
 v4:=Tryz.zeroValue4
 t9:=Tryz.underlying9
 a9:=Tryz.isAgg9
 z9:=Tryz.sizeOf9
 v9:=Tryz.zeroValue9}
open Go.RowKit Go.Lib in
theorem Tryz.strings_HasPrefix (s p:ByteArray) (w:World):
 Calls Tryz.prog 130 #[.string s,.string p] w λe w'=>e=.returned (.bool (Lib.hasPrefix s.data.toList p.data.toList))/\w'=w:=Any.strings_HasPrefix Tryz.nz s p w
def Tryz.TH:Go.Shelf.Ren:=⟨λ|157=>428|229=>429|199=>430|261=>431|311=>432|312=>433|n=>n,λ|9=>9|31=>172|3=>3|5=>5|4=>4|119=>190|0=>0|40=>84|152=>267|21=>21|154=>269|51=>255|141=>271|196=>275|193=>272|198=>278|49=>276|194=>273|201=>281|226=>283|46=>191|227=>284|n=>n,λ|0=>3|6=>4|n=>n⟩
theorem Tryz.jJ:Go.Proofs.Lays.n157 Tryz.prog Tryz.TH:={
 mixed:=EQ
 f157:=Tryz.func428.trans (congrArg some EQ)
 f199:=Tryz.func430.trans (congrArg some EQ)
 f229:=Tryz.func429.trans (congrArg some EQ)
 f261:=Tryz.func431.trans (congrArg some EQ)
 f311:=Tryz.func432.trans (congrArg some EQ)
 f312:=Tryz.func433.trans (congrArg some EQ)
 t0:=Tryz.underlying0
 a0:=Tryz.isAgg0
 z0:=Tryz.sizeOf0
 v0:=Tryz.zeroValue0
 t3:=Tryz.underlying3
 a3:=Tryz.isAgg3
 z3:=Tryz.sizeOf3
 v3:=Tryz.zeroValue3
 t4:=Tryz.underlying4
 a4:=Tryz.isAgg4
 z4:=Tryz.sizeOf4
 v4:=Tryz.zeroValue4
 t5:=Tryz.underlying5
 a5:=Tryz.isAgg5
 z5:=Tryz.sizeOf5
 v5:=Tryz.zeroValue5
 t9:=Tryz.underlying9
 a9:=Tryz.isAgg9
 z9:=Tryz.sizeOf9
 v9:=Tryz.zeroValue9
 t21:=Tryz.underlying21
 a21:=Tryz.isAgg21
 z21:=Tryz.sizeOf21
 v21:=Tryz.zeroValue21
 t31:=Tryz.underlying172
 a31:=Tryz.isAgg172
 z31:=Tryz.sizeOf172
 v31:=Tryz.zeroValue172
 t40:=Tryz.underlying84
 a40:=Tryz.isAgg84
 z40:=Tryz.sizeOf84
 v40:=Tryz.zeroValue84
 t46:=Tryz.underlying191
 a46:=Tryz.isAgg191
 z46:=Tryz.sizeOf191
 v46:=Tryz.zeroValue191
 t49:=Tryz.underlying276
 a49:=Tryz.isAgg276
 z49:=Tryz.sizeOf276
 v49:=Tryz.zeroValue276
 t51:=Tryz.underlying255
 a51:=Tryz.isAgg255
 z51:=Tryz.sizeOf255
 v51:=Tryz.zeroValue255
 t119:=Tryz.underlying190
 a119:=Tryz.isAgg190
 z119:=Tryz.sizeOf190
 t141:=Tryz.underlying271
 a141:=Tryz.isAgg271
 z141:=Tryz.sizeOf271
 v141:=Tryz.zeroValue271
 t152:=Tryz.underlying267
 a152:=Tryz.isAgg267
 z152:=Tryz.sizeOf267
 v152:=Tryz.zeroValue267
 t154:=Tryz.underlying269
 a154:=Tryz.isAgg269
 z154:=Tryz.sizeOf269
 v154:=Tryz.zeroValue269
 t193:=Tryz.underlying272
 a193:=Tryz.isAgg272
 z193:=Tryz.sizeOf272
 v193:=Tryz.zeroValue272
 t194:=Tryz.underlying273
 a194:=Tryz.isAgg273
 z194:=Tryz.sizeOf273
 v194:=Tryz.zeroValue273
 t196:=Tryz.underlying275
 a196:=Tryz.isAgg275
 z196:=Tryz.sizeOf275
 v196:=Tryz.zeroValue275
 t198:=Tryz.underlying278
 a198:=Tryz.isAgg278
 z198:=Tryz.sizeOf278
 v198:=Tryz.zeroValue278
 t201:=Tryz.underlying281
 a201:=Tryz.isAgg281
 z201:=Tryz.sizeOf281
 v201:=Tryz.zeroValue281
 t226:=Tryz.underlying283
 a226:=Tryz.isAgg283
 z226:=Tryz.sizeOf283
 v226:=Tryz.zeroValue283
 t227:=Tryz.underlying284
 a227:=Tryz.isAgg284
 z227:=Tryz.sizeOf284
 v227:=Tryz.zeroValue284
 g0:=EQ
 g6:=by kernel_rfl}
open Go.RowKit Go.Lib in
theorem Tryz.strings_Fields (s : ByteArray) (w : World) (hs : s.size < 4294967281) (U : ∀ (j : Nat) b, s.data.toList[j]? = some b -> b.toNat < 128) (htab : Lib.TabIs Tryz.prog w "strings.asciiSpace" .u8 Lib.asciiSpaceTab) :
 Calls Tryz.prog 428 #[.string s] w λe w'=>
  e=.returned (.slice (some ⟨w.heap.size,0,none⟩) (Lib.fields s.data.toList).length (Lib.fields s.data.toList).length)/\w'=w.alloc (.cells ((Lib.fields s.data.toList).map λl=>Value.string ⟨l.toArray⟩).toArray 9):=Any.strings_Fields Tryz.jJ EQ EQ s w hs U htab
def Tryz.TJ:Go.Shelf.Ren:=⟨λ|197=>125|260=>196|n=>n,λ|9=>9|21=>21|3=>3|4=>4|5=>5|105=>130|119=>190|0=>0|46=>191|139=>194|138=>193|n=>n,λ|3=>0|4=>1|n=>n⟩
theorem Tryz.jL:Go.Proofs.Lays.n197 Tryz.prog Tryz.TJ:={
 mixed:=EQ
 f197:=Tryz.func125.trans (congrArg some EQ)
 f260:=Tryz.func196.trans (congrArg some EQ)
 t0:=Tryz.underlying0
 a0:=Tryz.isAgg0
 z0:=Tryz.sizeOf0
 v0:=Tryz.zeroValue0
 t3:=Tryz.underlying3
 a3:=Tryz.isAgg3
 z3:=Tryz.sizeOf3
 v3:=Tryz.zeroValue3
 t4:=Tryz.underlying4
 a4:=Tryz.isAgg4
 z4:=Tryz.sizeOf4
 v4:=Tryz.zeroValue4
 t5:=Tryz.underlying5
 a5:=Tryz.isAgg5
 z5:=Tryz.sizeOf5
 v5:=Tryz.zeroValue5
 t9:=Tryz.underlying9
 a9:=Tryz.isAgg9
 z9:=Tryz.sizeOf9
 v9:=Tryz.zeroValue9
 t21:=Tryz.underlying21
 a21:=Tryz.isAgg21
 z21:=Tryz.sizeOf21
 v21:=Tryz.zeroValue21
 t46:=Tryz.underlying191
 a46:=Tryz.isAgg191
 z46:=Tryz.sizeOf191
 v46:=Tryz.zeroValue191
 t105:=Tryz.underlying130
 a105:=Tryz.isAgg130
 z105:=Tryz.sizeOf130
 v105:=Tryz.zeroValue130
 t119:=Tryz.underlying190
 a119:=Tryz.isAgg190
 z119:=Tryz.sizeOf190
 t138:=Tryz.underlying193
 a138:=Tryz.isAgg193
 z138:=Tryz.sizeOf193
 v138:=Tryz.zeroValue193
 t139:=Tryz.underlying194
 a139:=Tryz.isAgg194
 z139:=Tryz.sizeOf194
 v139:=Tryz.zeroValue194
 g3:=EQ
 g4:=by kernel_rfl}
open Go.RowKit Go.Lib in
theorem Tryz.utf8_DecodeRuneInString (s:ByteArray) (w:World) (U:Lib.Utf8Tabs 0 1 w):
 Calls Tryz.prog 125 #[.string s] w λe w'=>e=.returned (.tuple #[.int .i32 (Lib.decodeGo s).1,.int .i64 (Lib.decodeGo s).2])/\Below w.heap.size w w':=Any.utf8_DecodeRuneInString Tryz.jL s w U
open Go.RowKit Go.Lib in
theorem Tryz.strings_IndexFunc_grows (g:Nat) (U:Array Value) (eg:∀args w,(callFunc g args).run Tryz.prog w=.ok (.enter g args) w) (p:Nat->Bool) (s:ByteArray) (w:World) (hp:PredGrows Tryz.prog g U p w):
 Calls Tryz.prog 56 #[.string s,.func (.func g) #[] U] w λe w'=>e=.returned (.int .i64 (Lib.idxFunc p true s))/\Below w.heap.size w w':=Any.strings_IndexFunc_grows Tryz.dY g U eg p s w hp
end Go.Proofs
namespace Go.Aw
open Go
theorem Ci.below {st:St} {w w':World} (h:Ci I st w) (b:RowKit.Below w.heap.size w w'):Fr I st w I st w'/\Ci I st w':=by
 refine ⟨⟨b.os,b.tape,b.output,b.size,λx hx _ _=>b.block x hx,Mem.le_refl _,λ_ _ h k=>absurd h k,λ_ h k=>absurd h k,λ_ h=>.inr h⟩,?_,?_,?_,h.Hd,?_,h.QV⟩
 .intro x o v e
  have e:=h.cell x o v e
  rw [F4 (b.block x (Ku e))];exact e
 .intro x n e
  obtain ⟨c,ty,U,h2⟩:=h.shape x n e
  exact ⟨c,ty,by rw [b.block x (Gz U)];exact U,h2⟩
 .intro x cs e
  obtain ⟨vs,ty,U,h2⟩:=h.box x cs e
  exact ⟨vs,ty,by rw [b.block x (Gz U)];exact U,h2⟩
 .intro x n e
  exact ⟨Nat.lt_of_lt_of_le (h.hw x n e).1 b.size,(h.hw x n e).2⟩
theorem CR {P:Program} {st:St} (hf:Plain P f) (v:V)
 (h:∀(I:Mem) (w:World) (U:List Value),Ci I st w->Ak I args U->Calls P f U.toArray w λe w'=>(∃c,e=.returned c/\AG I v c)/\RowKit.Below w.heap.size w w')
 (k:R (.ret v) st):A3 P f args st R:=
 ⟨λI w U hs ha=>(h I w U hs ha).mono λe w' ⟨⟨c,he,hc⟩,hb⟩=>⟨I,st,.ret v,(hs.below hb).1,(hs.below hb).2,by subst he;exact hc,k⟩,hf⟩
theorem Ci.row {st:St} {w:World} (h:Ci I st w) (vs:List Value) (ty:TypeId):
 Fr I st w (I.add w.heap.size 0 vs vs.length) st (w.alloc (.cells vs.toArray ty))/\Ci (I.add w.heap.size 0 vs vs.length) st (w.alloc (.cells vs.toArray ty))/\I.le (I.add w.heap.size 0 vs vs.length):=by
 have hr:Rel [] I st w I (λ_=>none) {tmps:=[],boxes:=[],Bj:=0,sz:=0,gl:=[]} st {tmps:=#[],defers:=[]} w:=
  Po h rfl (λt v e=>by cases e) rfl rfl
 have h1:=hr.newRow vs [] ty
 rw [List.append_nil,List.length_nil,Nat.add_zero] at h1
 have U:=h1.GQ (St.HI (St.le_refl st) (Dc h).2 vs.length)
 exact ⟨U.fr,U.s,U.fr.le⟩
theorem fu {n:Nat} (l:List (List UInt8)) (hl:∀x ∈ l,x.length<EF) (hn:l.length<EF)
 (hle:I.le (I.add b 0 (l.map λx=>Value.string ⟨x.toArray⟩) n)):
 AG (I.add b 0 (l.map λx=>Value.string ⟨x.toArray⟩) n) (.slice 1 (l.map λx=>[.str x]) .any) (.slice (some ⟨b,0,none⟩) l.length l.length):=by
 simp only [AG]
 refine ⟨some ⟨b,0,none⟩,l.length,GT,GT,ke,Do,trivial,.inr rfl,?_⟩
 refine Cb.add _ (l.map λx=>Value.string ⟨x.toArray⟩) 0 ?_ hle (λj c U=>Mem.Of U)
 clear hle hn
 induction l with
 |nil=>rfl
 |cons a r ih=>
  simp only [List.map_cons,BV]
  refine ⟨[Value.string ⟨a.toArray⟩],r.map λx=>Value.string ⟨x.toArray⟩,rfl,rfl,?_,ih λx hx=>hl x (List.mem_cons_of_mem _ hx)⟩
  simp only [Ak,AG]
  simp_all
end Go.Aw
namespace Go.Proofs.Z
open Go Go.Aw
def S7 (s:List UInt8):Int×Int:=match s with
 |[]=>(65533,0)
 |a::r=>(((AK (a::r)).1:Nat),((AK (a::r)).2:Nat))
theorem MR (s:List UInt8):(((Lib.decodeGo ⟨s.toArray⟩).1:Nat):Int)=(S7 s).1/\(((Lib.decodeGo ⟨s.toArray⟩).2:Nat):Int)=(S7 s).2:=by
 cases s with
 |nil=>exact ⟨rfl,rfl⟩
 |cons a r=>
  have U:¬(⟨(a::r).toArray⟩:ByteArray).size=0:=by show ¬(a::r).toArray.size=0;simp
  unfold Lib.decodeGo
  rw [if_neg U,Rq GT,List.drop_zero]
  exact ⟨rfl,rfl⟩
section
variable {st:St} {R:Ay->St->Prop}
theorem lO (h:R (.ret (.Bq [.int .i32 (S7 s).1,.int .i64 (S7 s).2])) st):PC 125 [.str s] st R:=by
 refine CR ⟨_,Tryz.func125,Do,Do⟩ _ (λI w cargs U ha=>?_) h
 simp only [Ak,AG] at ha
 obtain ⟨c,r,rfl,⟨rfl,hl⟩,rfl⟩:=ha
 refine (Tryz.utf8_DecodeRuneInString ⟨s.toArray⟩ w ⟨λi hi=>U.cell _ _ _ (U.QV.first i hi),λi hi=>⟨U.cell _ _ _ (U.QV.accept i hi).1,U.cell _ _ _ (U.QV.accept i hi).2⟩⟩).mono λe w' ⟨he,hb⟩=>⟨⟨_,he,?_⟩,hb⟩
 rw [(MR s).1,(MR s).2]
 simp only [AG,Ak]
 exact ⟨_,rfl,_,_,rfl,rfl,_,_,rfl,rfl,rfl⟩
theorem HK {p:List UInt8} (h:R (.ret (.bool (p.isPrefixOf s))) st):PC 130 [.str s,.str p] st R:=by
 refine CR ⟨_,Tryz.func130,Do,Do⟩ _ (λI w U hs ha=>?_) h
 simp only [Ak,AG] at ha
 obtain ⟨c,r,rfl,⟨rfl,hl⟩,c2,r2,rfl,⟨rfl,hl2⟩,rfl⟩:=ha
 refine (Tryz.strings_HasPrefix ⟨s.toArray⟩ ⟨p.toArray⟩ w).mono λe w' ⟨he,hw⟩=>⟨⟨_,he,?_⟩,hw ▸ RowKit.Below.refl _ _⟩
 simp only [AG]
 rfl
theorem oB {c:UInt8} (hc:c.toNat<128) (h:R (.ret (.str (Lib.trimB s c))) st):PC 198 [.str s,.str [c]] st R:=by
 refine CR ⟨_,Tryz.func198,Do,Do⟩ _ (λI w U hs ha=>?_) h
 simp only [Ak,AG] at ha
 obtain ⟨c1,r,rfl,⟨rfl,hl⟩,c2,r2,rfl,⟨rfl,hl2⟩,rfl⟩:=ha
 have hsz:(⟨s.toArray⟩:ByteArray).size<=9223372036854775807:=by show s.toArray.size<=_;unfold EF at hl;simp;omega
 refine (Tryz.strings_Trim_one ⟨s.toArray⟩ c hc w hsz).mono λe w' ⟨he,hw⟩=>⟨⟨_,he,?_⟩,?_⟩
 .simp only [AG]
  refine ⟨trivial,?_⟩
  have:(Lib.trimB s c).length<=s.length:=by
   unfold Lib.trimB Lib.trimLeftB Lib.trimRightB
   refine Nat.le_trans (List.dropWhile_sublist _).length_le ?_
   rw [List.length_reverse]
   refine Nat.le_trans (List.dropWhile_sublist _).length_le ?_
   simp
  unfold EF at hl |-;omega
 .rcases hw with rfl|rfl
  .exact RowKit.Below.refl _ _
  .exact (RowKit.Below.refl _ _).drew
theorem mO {c:UInt8} (h:R (.ret (.int .i64 (Lib.indexByte s c))) st):PC 407 [.str s,.int .u8 c.toNat] st R:=by
 refine CR ⟨_,Tryz.func407,Do,Do⟩ _ (λI w U hs ha=>?_) h
 simp only [Ak,AG] at ha
 obtain ⟨c1,r,rfl,⟨rfl,hl⟩,c2,r2,rfl,rfl,rfl⟩:=ha
 refine (Tryz.strings_IndexByte ⟨s.toArray⟩ c.toNat w).mono λe w' ⟨he,hw⟩=>⟨⟨_,he,?_⟩,hw ▸ RowKit.Below.refl _ _⟩
 simp [AG]
theorem Vu (hz:s.length<4294967281) (h:R (.ret (.bool (Lib.contains s t))) st):PC 205 [.str s,.str t] st R:=by
 refine CR ⟨_,Tryz.func205,Do,Do⟩ _ (λI w U hs ha=>?_) h
 simp only [Ak,AG] at ha
 obtain ⟨c1,r,rfl,⟨rfl,hl⟩,c2,r2,rfl,⟨rfl,hl2⟩,rfl⟩:=ha
 obtain ⟨m,hm⟩:=hs.QV.maxLen
 refine (Tryz.strings_Contains ⟨s.toArray⟩ ⟨t.toArray⟩ m w (by show s.toArray.size<_;simpa using hz) (hs.cell _ _ _ hm)).mono λe w' ⟨he,hw⟩=>⟨⟨_,he,?_⟩,hw ▸ RowKit.Below.refl _ _⟩
 simp [AG]
end
end Go.Proofs.Z
namespace Go.Aw
open Go
noncomputable def Env.L0 (env:Env) (U:List (Nat×V)) (bx:List (Nat×List V)) (keep kb:List Nat):Env:=match env with
 |⟨ts,bs,n,sz,gl⟩=>⟨Env.ts ⟨ts,bs,n,sz,gl⟩ U keep,List.rec (motive:=λ_=>List (Nat×List V)) (Env.bx ⟨ts,bs,n,sz,gl⟩ kb) (λp _ ih=>p::ih) bx,n,sz,gl⟩
theorem Pa {st:St} (f:α->List (Nat×V)) (g:α->List (Nat×List V)) (keep kb:List Nat) (S:α->St) (J:α->Prop) (U:α->Nat) (x0:α) (h0:J x0)
 (he:(env.L0 (f x0) (g x0) keep kb).Ep env) (hs:St.le (S x0) st)
 (hb:∀x,J x->ih (BL (λenv' st'=>∃y,J y/\U y<U x/\(env.L0 (f y) (g y) keep kb).Ep env'/\St.le (S y) st') Q) (env.L0 (f x) (g x) keep kb) (S x)):
 ∃(α:Type) (E:α->Env) (S:α->St) (J:α->Prop) (U:α->Nat) (x0:α),J x0/\(E x0).Ep env/\St.le (S x0) st/\
  ∀x,J x->ih (BL (λenv' st'=>∃y,J y/\U y<U x/\(E y).Ep env'/\St.le (S y) st') Q) (E x) (S x):=
 ⟨α,λk=>env.L0 (f k) (g k) keep kb,S,J,U,x0,h0,he,hs,hb⟩
theorem V0 {st:St} (f:α->β->List (Nat×V)) (g:α->β->List (Nat×List V)) (keep kb:List Nat) (S:α->β->St) (J:α->β->Prop) (U:α->β->Nat) (x0:α) (y0:β) (h0:J x0 y0)
 (he:(env.L0 (f x0 y0) (g x0 y0) keep kb).Ep env) (hs:St.le (S x0 y0) st)
 (hb:∀x y,J x y->ih (BL (λenv' st'=>∃p:α×β,J p.1 p.2/\U p.1 p.2<U x y/\(env.L0 (f p.1 p.2) (g p.1 p.2) keep kb).Ep env'/\St.le (S p.1 p.2) st') Q) (env.L0 (f x y) (g x y) keep kb) (S x y)):
 ∃(α:Type) (E:α->Env) (S:α->St) (J:α->Prop) (U:α->Nat) (x0:α),J x0/\(E x0).Ep env/\St.le (S x0) st/\
  ∀x,J x->ih (BL (λenv' st'=>∃y,J y/\U y<U x/\(E y).Ep env'/\St.le (S y) st') Q) (E x) (S x):=
 ⟨α×β,λp=>env.L0 (f p.1 p.2) (g p.1 p.2) keep kb,λp=>S p.1 p.2,λp=>J p.1 p.2,λp=>U p.1 p.2,(x0,y0),h0,he,hs,λp h=>hb p.1 p.2 h⟩
theorem R1 {st:St} {γ:Type} (f:α->β->γ->List (Nat×V)) (g:α->β->γ->List (Nat×List V)) (keep kb:List Nat) (S:α->β->γ->St) (J:α->β->γ->Prop) (U:α->β->γ->Nat) (x0:α) (y0:β) (z0:γ) (h0:J x0 y0 z0)
 (he:(env.L0 (f x0 y0 z0) (g x0 y0 z0) keep kb).Ep env) (hs:St.le (S x0 y0 z0) st)
 (hb:∀x y z,J x y z->ih (BL (λenv' st'=>∃p:α×β×γ,J p.1 p.2.1 p.2.2/\U p.1 p.2.1 p.2.2<U x y z/\(env.L0 (f p.1 p.2.1 p.2.2) (g p.1 p.2.1 p.2.2) keep kb).Ep env'/\St.le (S p.1 p.2.1 p.2.2) st') Q) (env.L0 (f x y z) (g x y z) keep kb) (S x y z)):
 ∃(α:Type) (E:α->Env) (S:α->St) (J:α->Prop) (U:α->Nat) (x0:α),J x0/\(E x0).Ep env/\St.le (S x0) st/\
  ∀x,J x->ih (BL (λenv' st'=>∃y,J y/\U y<U x/\(E y).Ep env'/\St.le (S y) st') Q) (E x) (S x):=
 ⟨α×β×γ,λp=>env.L0 (f p.1 p.2.1 p.2.2) (g p.1 p.2.1 p.2.2) keep kb,λp=>S p.1 p.2.1 p.2.2,λp=>J p.1 p.2.1 p.2.2,λp=>U p.1 p.2.1 p.2.2,(x0,y0,z0),h0,he,hs,λp h=>hb p.1 p.2.1 p.2.2 h⟩
theorem BN {k:IntKind} {a b:Int} (e:a=b):Ay.ret (.int k a)=Ay.ret (.int k b):=by rw [e]
theorem WJ {n:Nat} {p:Prop} (k:n<4611686018427387904->p):n<EF->p:=k
theorem WK {l:List UInt8} {K:Nat->Nat->Prop} (k:∀c m,(c,m)=AK l->K c m):∀c m,(c,m)=AK l->K c m:=k
theorem WN {a:Int} {K:List UInt8->Prop} (U:0<=a) (h1:a<=s.length) (k:K (s.drop a.toNat)):
 (0<=a/\a<=(s.length:Int)/\(s.length:Int)<=s.length)/\∀s',s'=(s.take (s.length:Int).toNat).drop a.toNat->K s':=
 ⟨⟨U,h1,Int.le_refl _⟩,λs' e=>by
   simp_all⟩
theorem WO {b:Int} {K:List UInt8->Prop} (U:0<=b) (h1:b<=s.length) (k:K (s.take b.toNat)):
 ((0:Int)<=0/\0<=b/\b<=s.length)/\∀s',s'=(s.take b.toNat).drop (0:Int).toNat->K s':=
 ⟨⟨Int.le_refl _,U,h1⟩,λs' e=>by
   simp_all⟩
theorem WP {a b:Int} {K:List UInt8->Prop} (U:0<=a) (h1:a<=b) (h2:b<=s.length) (k:K ((s.take b.toNat).drop a.toNat)):
 (0<=a/\a<=b/\b<=s.length)/\∀s',s'=(s.take b.toNat).drop a.toNat->K s':=⟨⟨U,h1,h2⟩,λs' e=>e ▸ k⟩
theorem WM {K:UInt8->Prop} (U:0<=i) (h1:i<s.length) (k:∀e,s[i.toNat]? =some e->K e):0<=i/\∃e,s[i.toNat]? =some e/\K e:=ke
theorem WL {e:UInt8} {K:UInt8->Prop} (h:s[i.toNat]? =some e) (U:0<=i) (k:K e):0<=i/\∃e,s[i.toNat]? =some e/\K e:=⟨U,e,h,k⟩
theorem Df (h:P:=by with_reducible first|(show _/\_;first|exact Wa)|(show Bc _ _ _;first|exact Wb|exact Wc)|fail):P:=h
theorem BR {A:Prop} (k:A) (h:A->P:=by intro k;with_reducible first|(show _/\_;first|exact Wd EQ k|exact Wm ‹_› AC k|exact Wn AC AC k|exact Wo AC AC k|exact Wp AC AC AC k|exact Wr Do AC AC k|exact Ws Do k|exact WB ‹_› AC k|exact WC AC AC k|exact WD AC AC k|exact WE AC AC AC k|exact WL ‹_› AC k|exact WM AC AC k|exact WN AC AC k|exact WO AC AC k|exact WP AC AC AC k)|(show Bc _ _ _;first|exact Wt IR k|exact Wu IR k|exact Wv AC k|exact Ww AC k|exact Wi k|exact Wj k)|(intro x y z;exact Wl k x y z)|(intro x y z;exact Wz k x y z)|(intro x y z;exact WA k x y z)|(intro x;exact WJ k x)|(intro x y z;exact WK k x y z)|(show Exists _;first|exact Wq AC AC k)|fail):P:=h k
theorem Dg {B C:V->Prop} (k:V) (l:B k) (m:C k) (h:∀k,B k->C k->P:=by intro k l m;with_reducible first|(show Exists _;first|exact We k l m|exact W8 GE k l m|exact W0 GE k l m|exact W9 k l m)|fail):P:=h k l m
theorem BS {A:Prop} (k:A) (l:B) (h:A->B->P:=by intro k l;with_reducible first|(show Bc _ _ _;first|exact Wf Do k l|exact Wg k l|exact Wh k l|exact Wk k l)|fail):P:=h k l
theorem qv {A:Prop} (k:A) (l:B) (h:A->B->P:=by intro k l;with_reducible first|(intro x y;exact Wx k l x y)|(intro x y;exact Wy k l x y)|fail):P:=h k l
end Go.Aw
namespace Go.Proofs.Z
open Go Go.Aw
def lH (st0 st:St):AB×List Nd->Prop
 |(.any,_)=>False
 |(.full,_)=>True
 |(.tok t,l)=>st0.fresh t/\st.hw t=some (l.length*6)
def XB:AB×List Nd->AB×List Nd->Prop
 |(.tok t,_),(.tok u,_)=>t≠u
 |_,_=>True
theorem XB.symm {r q:AB×List Nd} (h:XB r q):XB q r:=by
 obtain ⟨o1,U⟩:=r;obtain ⟨o2,l2⟩:=q
 cases o1<;>cases o2<;>first|exact trivial|exact Ne.symm h
structure Rx (st0 st:St) (rows:List (AB×List Nd)):Prop where
 le:st0.le st
 ok:∀r ∈ rows,lH st0 st r
 ap:rows.Pairwise XB
section
variable {st0 st:St} {r q:AB×List Nd} {rows:List (AB×List Nd)}
theorem Rx.start:Rx st st []:=⟨St.le_refl _,λr U=>absurd U List.not_mem_nil,List.Pairwise.nil⟩
theorem Rx.drop (h:Rx st0 st (r::rows)):Rx st0 st rows:=⟨h.le,λq U=>h.ok q (List.mem_cons_of_mem _ U),(List.pairwise_cons.1 h.ap).2⟩
theorem Rx.push (h:Rx st0 st rows) (l:List Nd):Rx st0 st ((.full,l)::rows):=⟨h.le,λq U=>by
 rcases List.mem_cons.1 U with e|e
 .subst e;exact trivial
 .exact h.ok q e,List.pairwise_cons.2 ⟨λq U=>trivial,h.ap⟩⟩
theorem Rx.swap (h:Rx st0 st (r::q::rows)):Rx st0 st (q::r::rows):=by
 have h1:=List.pairwise_cons.1 h.ap
 have h2:=List.pairwise_cons.1 h1.2
 refine ⟨h.le,λx U=>h.ok x ?_,List.pairwise_cons.2 ⟨λx U=>?_,List.pairwise_cons.2 ⟨λx U=>h1.1 x (List.mem_cons_of_mem _ U),h2.2⟩⟩⟩
 .grind
 .rcases List.mem_cons.1 U with e|e
  .subst e;exact (h1.1 q (List.mem_cons_self ..)).symm
  simp_all
theorem Rx.fresh {t:Nat} (h:Rx st0 st rows) (U:st.fresh t):st0.fresh t:=by
 refine ⟨?_,?_⟩
 .cases e:st0.box t with
  |none=>rfl
  |some c=>
   have:=h.le.1 t c e
   rw [U.1] at this;grind
 .cases e:st0.hw t with
  |none=>rfl
  |some c=>
   have:=h.le.2 t c e
   rw [U.2] at this;grind
theorem Rx.gb {t:Nat} (h:Rx st0 st rows) (ht:st.fresh t):∀r ∈ rows,r.1≠.tok t:=λr U e=>by
 have:=h.ok r U
 obtain ⟨o,l⟩:=r
 dsimp only at e
 subst e
 have:=this.2
 rw [ht.2] at this;grind
theorem Rx.app {own:AB} {K:V->St->Prop} (h:Rx st0 st ((own,l)::rows)) (hb:l.length+new.length<=1000000000)
 (k:∀own' st',st'.box=st.box->Rx st0 st' ((own',l++new)::rows)->K (.slice 6 ((l++new).map Az) own') st'):Ag 6 72 (l.map Az) own (new.map Az) st K:=by
 have hw:(new.map Az).map (·.map V.IM)=new.map Az:=by
  rw [List.map_map]
  exact List.map_congr_left λx _=>rfl
 have hsc:((new.map Az).all λv=>v.all V.sc)=true:=by
  rw [List.all_map,List.all_eq_true]
  intro x _;rfl
 have hlen:(l.map Az).length+(new.map Az).length=(l++new).length:=GT
 have hap:=List.pairwise_cons.1 h.ap
 have mk:∀(t:Nat) (m:St),(∀r ∈ rows,lH st0 m r)->st0.fresh t->st0.le m->(∀r ∈ rows,r.1≠.tok t)->m.hw t=some ((l++new).length*6)->Rx st0 m ((.tok t,l++new)::rows):=by
  intro t m h1 h2 h4 h5 h6
  refine ⟨h4,λr U=>?_,List.pairwise_cons.2 ⟨λr U=>?_,hap.2⟩⟩
  .rcases List.mem_cons.1 U with e|e
   .subst e;exact ⟨h2,h6⟩
   simp_all
  .obtain ⟨o,q⟩:=r
   cases o with
   |tok u=>exact λe=>h5 _ U ke
   |any=>exact trivial
   |full=>exact trivial
 refine ⟨by grind,by rw [hlen,List.length_append];unfold EF;omega,AM hsc ?_⟩
 cases own with
 |any=>exact (h.ok _ (List.mem_cons_self ..)).elim
 |full=>
  refine ⟨λe=>?_,λ_=>.inl λt ht=>?_⟩
  .simp_all
  .rw [hw,hlen,<-List.map_append]
   refine k (.tok t) _ rfl (mk t _ (λr U=>?_) (h.fresh ht) (St.HI h.le (h.fresh ht).2 _) (h.drop.gb ht) (by simp [St.BZ]))
   have h1:=h.ok r (List.mem_cons_of_mem _ U)
   have h2:=h.drop.gb ht r U
   obtain ⟨o,q⟩:=r
   cases o with
   |tok u=>
    have:u≠t:=λe=>h2 ke
    exact ⟨h1.1,by simp only [St.BZ];rw [if_neg this];exact h1.2⟩
   |any=>exact h1
   |full=>exact h1
 |tok t0=>
  have h0:=h.ok _ (List.mem_cons_self ..)
  refine ⟨by rw [List.length_map];exact h0.2,.inl λt ht=>?_⟩
  rw [hw,hlen,<-List.map_append]
  have hne:∀r ∈ rows,r.1≠.tok t0:=λr U e=>by
   have:=hap.1 r U
   obtain ⟨o,q⟩:=r
   dsimp only at e
   subst e
   exact this rfl
  have hst:∀r ∈ rows,r.1≠.tok t:=λr U=>by
   rcases ht with rfl|ht
   .grind
   .exact h.drop.gb ht r U
  have hf:st0.fresh t:=by
   rcases ht with rfl|ht
   .exact h0.1
   .exact h.fresh ht
  refine k (.tok t) _ rfl (mk t _ (λr U=>?_) hf ⟨h.le.1,λx n hx=>?_⟩ hst (by simp [St.BZ]))
  .have h1:=h.ok r (List.mem_cons_of_mem _ U)
   have h2:=hst r U
   have h3:=hne r U
   obtain ⟨o,q⟩:=r
   cases o with
   |tok u=>
    have e1:u≠t:=λe=>h2 ke
    have e2:u≠t0:=λe=>h3 ke
    exact ⟨h1.1,by simp only [St.BZ,St.Eh];rw [if_neg e1,if_neg e2];exact h1.2⟩
   |any=>exact h1
   |full=>exact h1
  .simp only [St.BZ,St.Eh]
   split
   .rename_i e;subst e
    rw [hf.2] at hx;cases hx
   .split
    .rename_i e;subst e
     rw [h0.1.2] at hx;cases hx
    .exact h.le.2 x n hx
theorem Rx.Aa {b:Nat} {cs cs':List V} (h:Rx (st0.Aa b cs) st rows):Rx (st0.Aa b cs') (st.Aa b cs') rows:=by
 refine ⟨⟨λx c U=>?_,λx n U=>h.le.2 x n U⟩,λr hr=>?_,h.ap⟩
 .by_cases e:x=b
  .subst e;rw [St.Al] at U |-;exact U
  .rw [St.As (Ne.symm e)] at U |-
   exact h.le.1 x c (by rw [St.As (Ne.symm e)];exact U)
 .have:=h.ok r hr
  obtain ⟨o,l⟩:=r
  cases o with
  |any=>exact this
  |full=>exact this
  |tok t=>
   have hb:b≠t:=by
    rintro rfl
    have:=this.1.1
    rw [St.Al] at this;cases this
   exact ⟨⟨by rw [St.As hb];have:=this.1.1;rw [St.As hb] at this;omega,this.1.2⟩,this.2⟩
end
structure Cx (st0:St) (b:Nat) (s:Af) (st:St) (rows:List (AB×List Nd)):Prop where
 has:Has st b s
 rx:∃cs,Rx (st0.Aa b cs) st rows
 mu:mu s<=100000000
structure Cy (st0:St) (b:Nat) (s:Af) (st:St) (rows:List (AB×List Nd)):Prop where
 has:Has st b s
 rx:∃cs,Rx (st0.Aa b cs) st rows
section
variable {st0 st st':St} {b:Nat} {s s':Af} {r q:AB×List Nd} {rows:List (AB×List Nd)}
theorem Cx.y (h:Cx st0 b s st rows):Cy st0 b s st rows:=⟨h.has,h.rx⟩
theorem Cy.drop (h:Cy st0 b s st (r::rows)):Cy st0 b s st rows:=⟨h.has,h.rx.imp λ_ e=>e.drop⟩
theorem Cx.qh (h:Cx st0 b s st rows) (hu:GR st st' b s'):Cy st0 b s' st' rows:=by
 obtain ⟨U,cs,rfl⟩:=hu
 obtain ⟨c0,hr⟩:=h.rx
 exact ⟨U,⟨cs,hr.Aa⟩⟩
theorem Cx.hb (h:Cx st0 b s st rows):s.Ca.length<=500000000:=C2 h.mu
theorem Cx.start (h:Has st b s) (U:Proofs.Z.mu s<=100000000):Cx st b s st []:=
 ⟨h,by
   rcases h with e|⟨_,_,_,_,_,e⟩
   all_goals exact ⟨_,by rw [St.PA e];exact Rx.start⟩,U⟩
theorem Cx.drop (h:Cx st0 b s st (r::rows)):Cx st0 b s st rows:=⟨h.has,h.rx.imp λ_ e=>e.drop,h.mu⟩
theorem Cx.push (h:Cx st0 b s st rows) (l:List Nd):Cx st0 b s st ((.full,l)::rows):=⟨h.has,h.rx.imp λ_ e=>e.push l,h.mu⟩
theorem Cx.swap (h:Cx st0 b s st (r::q::rows)):Cx st0 b s st (q::r::rows):=⟨h.has,h.rx.imp λ_ e=>e.swap,h.mu⟩
theorem Cx.set (h:Cx st0 b s st rows) (hu:GR st st' b s') (hm:Proofs.Z.mu s'<=100000000):Cx st0 b s' st' rows:=by
 obtain ⟨U,cs,rfl⟩:=hu
 obtain ⟨c0,hr⟩:=h.rx
 exact ⟨U,⟨cs,hr.Aa⟩,hm⟩
theorem Cx.MG (h:Cx st0 b s st rows) (hu:GR st st' b s') (U:Proofs.Z.mu s'<=Proofs.Z.mu s):Cx st0 b s' st' rows:=h.set hu (Nat.le_trans U h.mu)
theorem Cx.look (h:Cx st0 b s st rows):Cx st0 b s (st.Aa b (CB s)) rows:=h.MG AU (Nat.le_refl _)
theorem Cx.RO {t:Nat} (h:Cx st0 b s st rows) (U:st.fresh t):st0.box t=none/\t≠b:=by
 obtain ⟨c0,hr⟩:=h.rx
 have hb:t≠b:=by
  rintro rfl
  rcases h.has with e|⟨_,_,_,_,_,e⟩<;>(rw [U.1] at e;cases e)
 have:=(hr.fresh U).1
 rw [St.As hb.symm] at this
 simp_all
theorem Cx.nY {z:List V} (h:Cx st0 b s st rows) (hf:st.fresh c):Cx (st0.Aa c cs) b s ((st.Aa c z).Aa c cs) rows:=by
 have hb:=(h.RO hf).2
 rw [St.set_set]
 obtain ⟨c0,hr⟩:=h.rx
 refine ⟨?_,⟨c0,⟨λx v U=>?_,λx n U=>hr.le.2 x n U⟩,λr hr'=>?_,hr.ap⟩,h.mu⟩
 .rcases h.has with e|⟨q1,q2,q3,q4,q5,e⟩
  .exact .inl (by rw [St.As hb];exact e)
  .exact .inr ⟨q1,q2,q3,q4,q5,by rw [St.As hb];exact e⟩
 .by_cases e:x=c
  .subst e
   rw [St.As hb.symm,St.Al] at U
   rw [St.Al];exact U
  .rw [St.As (Ne.symm e)]
   by_cases e2:x=b
   .subst e2
    rw [St.Al] at U
    exact hr.le.1 x v (by rw [St.Al];exact U)
   .rw [St.As (Ne.symm e2),St.As (Ne.symm e)] at U
    exact hr.le.1 x v (by rw [St.As (Ne.symm e2)];exact U)
 .have hk:=hr.ok r hr'
  obtain ⟨o,l⟩:=r
  cases o with
  |any=>exact hk
  |full=>exact hk
  |tok t=>
   have htc:t≠c:=by
    rintro rfl
    have:=hk.2
    rw [hf.2] at this;cases this
   have h1:=hk.1.1
   have htb:t≠b:=by
    rintro rfl
    rw [St.Al] at h1;cases h1
   rw [St.As htb.symm] at h1
   exact ⟨⟨by rw [St.As htb.symm,St.As htc.symm];exact h1,hk.1.2⟩,hk.2⟩
theorem Cx.Sp (h:Cx st0 b s st rows) (U:st.fresh c):Cx (st0.Aa c cs) b s (st.Aa c cs) rows:=by
 have:=h.nY (z:=cs) (cs:=cs) U
 rw [St.set_set] at this;omega
theorem Rx.unbox (h:Rx (st0.Aa c cs) st rows) (hf:st0.box c=none):Rx st0 st rows:=by
 refine ⟨⟨λx v hx=>?_,h.le.2⟩,λr hr=>?_,h.ap⟩
 .have:x≠c:=by rintro rfl;rw [hf] at hx;cases hx
  exact h.le.1 x v (by rw [St.As this.symm];exact hx)
 .have U:=h.ok r hr
  obtain ⟨o,l⟩:=r
  cases o with
  |any=>exact U
  |full=>exact U
  |tok t=>
   have h1:=U.1.1
   have:t≠c:=by rintro rfl;rw [St.Al] at h1;cases h1
   rw [St.As this.symm] at h1
   exact ⟨⟨h1,U.1.2⟩,U.2⟩
theorem PQ {cs':List V} (h:c≠b):(st0.Aa c cs).Aa b cs'=(st0.Aa b cs').Aa c cs:=by
 simp only [St.Aa,St.mk.injEq,and_true]
 grind
theorem Cx.unbox {c:Nat} {cs:List V} (h:Cx (st0.Aa c cs) b s st rows) (U:st0.box c=none/\c≠b):Cx st0 b s st rows:=
 ⟨h.has,h.rx.imp λc0 hr=>by rw [PQ U.2] at hr;exact hr.unbox (by rw [St.As U.2.symm];grind),h.mu⟩
theorem Cy.unbox {c:Nat} {cs:List V} (h:Cy (st0.Aa c cs) b s st rows) (U:st0.box c=none/\c≠b):Cy st0 b s st rows:=
 ⟨h.has,h.rx.imp λc0 hr=>by rw [PQ U.2] at hr;exact hr.unbox (by rw [St.As U.2.symm];grind)⟩
theorem Cx.boxed (h:Cx (st0.Aa c cs) b s st rows) (U:st0.box c=none/\c≠b):st.box c=some cs:=by
 obtain ⟨c0,hr⟩:=h.rx
 exact hr.le.1 c cs (by rw [St.As U.2.symm,St.Al])
theorem Has.eq (h:Has st b s) (e:st'.box=st.box):Has st' b s:=by unfold Has at h |-;simp_all
theorem Cx.app {own:AB} {l new:List Nd} {K:V->St->Prop} (h:Cx st0 b s st ((own,l)::rows)) (hb:l.length+new.length<=1000000000)
 (k:∀U st',Cx st0 b s st' ((U,l++new)::rows)->K (.slice 6 ((l++new).map Az) U) st'):Ag 6 72 (l.map Az) own (new.map Az) st K:=by
 obtain ⟨c0,hr⟩:=h.rx
 exact hr.app hb λU st' e hr'=>k U st' ⟨h.has.eq e,⟨c0,hr'⟩,h.mu⟩
theorem Cx.Ee {own:AB} {x:Nd} {K:V->St->Prop} (h:Cx st0 b s st ((own,l)::rows)) (hb:l.length+1<=1000000000)
 (k:∀U st',Cx st0 b s st' ((U,l++[x])::rows)->K (.slice 6 ((l++[x]).map Az) U) st'):Ag 6 72 (l.map Az) own [Az x] st K:=h.app (new:=[x]) hb k
theorem Cx.mH {own:AB} {x y:Nd} {K:V->St->Prop} (h:Cx st0 b s st ((own,l)::rows)) (hb:l.length+2<=1000000000)
 (k:∀U st',Cx st0 b s st' ((U,l++[x,y])::rows)->K (.slice 6 ((l++[x,y]).map Az) U) st'):Ag 6 72 (l.map Az) own [Az x,Az y] st K:=h.app (new:=[x,y]) hb k
theorem Rx.Ee {own:AB} {x:Nd} {K:V->St->Prop} (h:Rx st0 st ((own,l)::rows)) (hb:l.length+1<=1000000000)
 (k:∀U st',Rx st0 st' ((U,l++[x])::rows)->K (.slice 6 ((l++[x]).map Az) U) st'):Ag 6 72 (l.map Az) own [Az x] st K:=h.app (new:=[x]) hb λU st' _ c=>k U st' c
end
structure AO {α:Type} (en:α->V) (f:FuncId) (mk:Nat->List V) (A:Rd α):Prop where
 ap:∀{st0:St} {b:Nat} {s:Af} {st:St} {rows:List (AB×List Nd)} {K:Ay->St->Prop},Cx st0 b s st rows->
 Rd.wp A s (λv s'=>∀st',Cx st0 b s' st' rows->K (.ret (en v)) st') (λe s'=>∀st',Cy st0 b s' st' rows->K (.BU (fault e.1)) st')->PC f (mk b) st K
theorem AO.go {U:α->V} {A:Rd α} {s:Af} {st:St} {Q:α->Af->Prop} {E:Er->Af->Prop} (hf:AO U f mk A) (hc:Cx st0 b s st rows) (h:Rd.wp A s Q E)
 (k:∀v s' st',A.run s=.inr (v,s')->mu s'<=mu s->Cx st0 b s' st' rows->Q v s'->K (.ret (U v)) st') (kb:∀e s' st',Cy st0 b s' st' rows->E e s'->K (.BU (fault e.1)) st'):PC f (mk b) st K:=
 hf.ap hc (Rd.wp_mono h (λv s' r q st' c=>k v s' st' r (A.le _ _ _ r) c q) (λe s' _ q st' c=>kb e s' st' c q))
theorem AO.jt {U:α->V} {A:Rd α} {s:Af} {st:St} {Q:α->Af->Prop} {E:Er->Af->Prop} (hf:AO U f mk A) (hF:Rd.A2 A) (hc:Cx st0 b s st rows) (h:Rd.wp A s Q E)
 (k:∀v s' st',A.run s=.inr (v,s')->mu s'<mu s->Cx st0 b s' st' rows->Q v s'->K (.ret (U v)) st') (kb:∀e s' st',Cy st0 b s' st' rows->E e s'->K (.BU (fault e.1)) st'):PC f (mk b) st K:=
 hf.go hc h (λv s' st' r m c q=>k v s' st' r (hF _ _ _ r) c q) kb
structure lF {α:Type} (en:α->AB->V) (ls:α->List Nd) (f:FuncId) (mk:Nat->List V) (A:Rd α):Prop where
 ap:∀{st0:St} {b:Nat} {s:Af} {st:St} {rows:List (AB×List Nd)} {K:Ay->St->Prop},Cx st0 b s st rows->
 Rd.wp A s (λv s'=>∀own st',Cx st0 b s' st' ((own,ls v)::rows)->K (.ret (en v own)) st') (λe s'=>∀st',Cy st0 b s' st' rows->K (.BU (fault e.1)) st')->PC f (mk b) st K
theorem lF.go {U:α->AB->V} {ls:α->List Nd} {A:Rd α} {s:Af} {st:St} {Q:α->Af->Prop} {E:Er->Af->Prop} (hf:lF U ls f mk A) (hc:Cx st0 b s st rows) (h:Rd.wp A s Q E)
 (k:∀v own s' st',A.run s=.inr (v,s')->mu s'<=mu s->Cx st0 b s' st' ((own,ls v)::rows)->Q v s'->K (.ret (U v own)) st') (kb:∀e s' st',Cy st0 b s' st' rows->E e s'->K (.BU (fault e.1)) st'):PC f (mk b) st K:=
 hf.ap hc (Rd.wp_mono h (λv s' r q own st' c=>k v own s' st' r (A.le _ _ _ r) c q) (λe s' _ q st' c=>kb e s' st' c q))
structure lG (f:FuncId) (mk:Nat->V->List V) (A:List Nd->Rd (List Nd)):Prop where
 ap:∀{st0:St} {b:Nat} {s:Af} {st:St} {rows:List (AB×List Nd)} {K:Ay->St->Prop} {own:AB} {l:List Nd},l.length<=90000000->Cx st0 b s st ((own,l)::rows)->
 Rd.wp (A l) s (λl' s'=>∀own' st',Cx st0 b s' st' ((own',l')::rows)->K (.ret (.slice 6 (l'.map Az) own')) st') (λe s'=>∀st',Cy st0 b s' st' rows->K (.BU (fault e.1)) st')->PC f (mk b (.slice 6 (l.map Az) own)) st K
theorem lG.go {mk:Nat->V->List V} {A:List Nd->Rd (List Nd)} {s:Af} {st:St} {Q:List Nd->Af->Prop} {E:Er->Af->Prop} {own:AB} (hf:lG f mk A) (hl:l.length<=90000000) (hc:Cx st0 b s st ((own,l)::rows)) (h:Rd.wp (A l) s Q E)
 (k:∀l' U s' st',(A l).run s=.inr (l',s')->mu s'<=mu s->Cx st0 b s' st' ((U,l')::rows)->Q l' s'->K (.ret (.slice 6 (l'.map Az) U)) st') (kb:∀e s' st',Cy st0 b s' st' rows->E e s'->K (.BU (fault e.1)) st'):PC f (mk b (.slice 6 (l.map Az) own)) st K:=
 hf.ap hl hc (Rd.wp_mono h (λv s' r q own st' c=>k v own s' st' r ((A l).le _ _ _ r) c q) (λe s' _ q st' c=>kb e s' st' c q))
def Fe {α:Type} (U:α->V) (f:FuncId) (args:List V) (b:Nat) (A:Rd α):Prop:=∀{st0:St} {s:Af} {st:St} {rows:List (AB×List Nd)} {K:Ay->St->Prop},Cx st0 b s st rows->
 Rd.wp A s (λv s'=>∀st',Cx st0 b s' st' rows->K (.ret (U v)) st') (λe s'=>∀st',Cy st0 b s' st' rows->K (.BU (fault e.1)) st')->PC f args st K
theorem AO.a {U:α->V} {A:Rd α} (h:AO U f mk A):Fe U f (mk b) b A:=h.ap
theorem AO.q {U:α->V} {A:Rd α} (h:AO U f mk A:=by assumption) (e:args=mk b:=by rfl):Fe U f args b A:=e ▸ h.a
theorem Fe.go {U:α->V} {A:Rd α} {s:Af} {st:St} {Q:α->Af->Prop} {E:Er->Af->Prop} (hf:Fe U f args b A)
 (k:∀v s' st',A.run s=.inr (v,s')->mu s'<=mu s->Cx st0 b s' st' rows->Q v s'->K (.ret (U v)) st') (kb:∀e s' st',Cy st0 b s' st' rows->E e s'->K (.BU (fault e.1)) st') (hc:Cx st0 b s st rows:=by assumption) (h:Rd.wp A s Q E:=by assumption):PC f args st K:=
 hf hc (Rd.wp_mono h (λv s' r q st' c=>k v s' st' r (A.le _ _ _ r) c q) (λe s' _ q st' c=>kb e s' st' c q))
theorem X6 {s:Af} {st:St} {F:AB->List (AB×List Nd)} {r:AB->Ay} {r':Ay} {o:AB} (h:∀o st',Cx st0 b s st' (F o)->K (r o) st') (hc:Cx st0 b s st (F o)) (e:r o=r'):∃r2 U,(r2=r'\/r2=r'.wk)/\St.le U st/\K r2 U:=⟨r o,st,.inl e,St.le_refl _,h o st hc⟩
theorem CI {s:Af} {st:St} {r r':Ay} (hc:Cx st0 b s st rows) (h:∀st',Cx st0 b s st' rows->K r st') (e:r=r'.wk):∃r2 U,(r2=r'\/r2=r'.wk)/\St.le U st/\K r2 U:=⟨r,st,.inr e,St.le_refl _,h st hc⟩
theorem BE {s:Af} {st:St} {e:Int} (hc:Cy st0 b s st rows) (h:∀st',Cy st0 b s st' rows->K (.BU (fault e)) st'):∃r2 U,(r2=.BU (fault e)\/r2=(Ay.BU (fault e)).wk)/\St.le U st/\K r2 U:=⟨_,st,.inl rfl,St.le_refl _,h st hc⟩
theorem S2 {c:Bool} {Q p q:Prop} (h:if c=true then P else Q) (U:c=true->P->p) (k2:c=false->Q->q):Bc c p q:=Wk (λe=>U e ke) (λe=>k2 e ke)
theorem Gj [BEq α] [LawfulBEq α] {a b:α} {Q p q:Prop} (h:if (a==b)=true then P else Q) (U:a=b->P->p) (k2:¬a=b->Q->q):Bc (a==b) p q:=
 Wg (λe=>U e ke) (λe=>k2 e ke)
theorem Ze {c:Prop} [Decidable c] {Q p q:Prop} (h:if c then P else Q) (U:c->P->p) (k2:¬c->Q->q):Bc (decide c) p q:=
 Wh (λe=>U e ke) (λe=>k2 e ke)
theorem mL {b:Bool} {p q:Prop} (h:b=true) (k:p):Bc b p q:=Wk (λ_=>k) (λe=>by simp_all)
theorem cn {b:Bool} {p q:Prop} (h:b=false) (k:q):Bc b p q:=Wk (λe=>by simp_all) (λ_=>k)
structure LS (σ:Type) where
 x:σ
 s:Af
 m:St
 o:AB
theorem Cd {σ:Type} {Q0:AE->Env->St->Prop} {st:St} {s:Af} {Q:β->Af->Prop} {E:Er->Af->Prop} {body:σ->Rd (Sum σ β)} {x0:σ}
 (f:σ->AB->List (Nat×V)) (g:σ->AB->List (Nat×List V)) (keep kb:List Nat) (rw:σ->AB->List (AB×List Nd)) (wt:σ->Nat) (U:AB) (hc:Cx st0 b s st (rw x0 U)) (h:Rd.wp (Rd.loop body x0) s Q E) (hl:wt x0+4*mu s<=500000000)
 (he:(env.L0 (f x0 U) (g x0 U) keep kb).Ep env)
 (hb:∀x s1 st1 own1,Cx st0 b s1 st1 (rw x own1)->Rd.wp (body x) s1 (Rd.again body s1 Q E) E->wt x+4*mu s1<=500000000->mu s1<=mu s->
   ih (BL (λenv' st'=>∃y:LS σ,(Cx st0 b y.s y.m (rw y.x y.o)/\Rd.wp (Rd.loop body y.x) y.s Q E/\wt y.x+4*mu y.s<=500000000/\mu y.s<=mu s)/\mu y.s<mu s1/\(env.L0 (f y.x y.o) (g y.x y.o) keep kb).Ep env'/\St.le y.m st') Q0)
    (env.L0 (f x own1) (g x own1) keep kb) st1):
 ∃(α:Type) (E:α->Env) (S:α->St) (J:α->Prop) (μ:α->Nat) (x0:α),J x0/\(E x0).Ep env/\St.le (S x0) st/\
  ∀x,J x->ih (BL (λenv' st'=>∃y,J y/\μ y<μ x/\(E y).Ep env'/\St.le (S y) st') Q0) (E x) (S x):=
 ⟨LS σ,λy=>env.L0 (f y.x y.o) (g y.x y.o) keep kb,λy=>y.m,
   λy=>Cx st0 b y.s y.m (rw y.x y.o)/\Rd.wp (Rd.loop body y.x) y.s Q E/\wt y.x+4*mu y.s<=500000000/\mu y.s<=mu s,λy=>mu y.s,⟨x0,s,st,U⟩,⟨hc,h,hl,Nat.le_refl _⟩,he,St.le_refl _,
   λy ⟨j1,j2,j3,j4⟩=>hb y.x y.s y.m y.o j1 (by rw [<-Rd.wp_loop];exact j2) j3 j4⟩
section
variable {st0 st:St} {b:Nat} {s:Af} {rows:List (AB×List Nd)} {K:Ay->St->Prop}
theorem Pt (hc:Cx st0 b s st rows) (k:∀st',Cx st0 b s st' rows->K (.ret (Ei (Ab s).1)) st'):PC 83 [.ptr b 0] st K:=FZ hc.has hc.hb (k _ hc.look)
theorem jC (hc:Cx st0 b s st rows) (U:∀st',Cx st0 b s st' rows->K (.ret (.bool (Ba s k x))) st'):PC 156 [.ptr b 0,.int .i64 k,.str x] st K:=VS hc.has hc.hb (U _ hc.look)
theorem VT (hc:Cx st0 b s st rows) (e:Ba s k x=true) (U:∀st',Cx st0 b s st' rows->K (.ret (.bool true)) st'):PC 156 [.ptr b 0,.int .i64 k,.str x] st K:=jC hc ke
theorem dT (hc:Cx st0 b s st rows) (e:Ba s k x=false) (U:∀st',Cx st0 b s st' rows->K (.ret (.bool false)) st'):PC 156 [.ptr b 0,.int .i64 k,.str x] st K:=jC hc ke
theorem dS {Q:Prop} (hc:Cx st0 b s st rows) (h:if Ba s k x=true then P else Q) (U:∀st',Cx st0 b s st' rows->Ba s k x=true->P->K (.ret (.bool true)) st') (k2:∀st',Cx st0 b s st' rows->Ba s k x=false->Q->K (.ret (.bool false)) st'):
 PC 156 [.ptr b 0,.int .i64 k,.str x] st K:=by
 cases e:Ba s k x with
 |true=>exact VT hc e λst' c=>U st' c e ke
 |false=>exact dT hc e λst' c=>k2 st' c e ke
theorem Gb:AO enc 121 (λb=>[.ptr b 0]) AH:=by
 refine ⟨λ{st0 b s st rows K} hc h=>?_⟩
 refine KD hc.has hc.hb (λe st' U=>?_) (λe=>?_)
 .unfold Rd.wp at h;rw [DS e] at h;exact h st' (hc.MG U (DZ e).1)
 .unfold Rd.wp at h;rw [LO e] at h;exact h _ hc.look.y
theorem LP {Q:Nd->Af->Prop} {E:Er->Af->Prop} (hc:Cx st0 b s st rows) (h:Rd.wp AH s Q E) (e:Ba s k x=true) (hk:k≠0/\k≠21) (kk:∀s' st',(Ab s).2.1=s'->mu s'<mu s->Cx st0 b s' st' rows->Q (Bp (Ab s).1) s'->K (.ret (enc (Bp (Ab s).1))) st'):
 PC 121 [.ptr b 0] st K:=by
 unfold Rd.wp at h
 rw [UE e hk.1] at h
 have U:=DM e hk.1 hk.2
 exact KD hc.has hc.hb (λ_ st' hu=>kk _ st' rfl U (hc.MG hu (Nat.le_of_lt U)) h) (λn=>absurd (FX e hk.1) n)
theorem LQ {Q:Nd->Af->Prop} {E:Er->Af->Prop} (hc:Cx st0 b s st rows) (h:Rd.wp AH s Q E) (hk:(Ab s).1.kind≠0/\(Ab s).1.kind≠21) (kk:∀s' st',(Ab s).2.1=s'->mu s'<mu s->Cx st0 b s' st' rows->Q (Bp (Ab s).1) s'->K (.ret (enc (Bp (Ab s).1))) st'):
 PC 121 [.ptr b 0] st K:=by
 have e:=F8 hk.1
 unfold Rd.wp at h
 rw [DS e] at h
 have U:=(DZ e).2 hk.2
 exact KD hc.has hc.hb (λ_ st' hu=>kk _ st' rfl U (hc.MG hu (Nat.le_of_lt U)) h) (λn=>absurd e n)
theorem Qn {Q:α->Af->Prop} {E:Er->Af->Prop} (hc:Cx st0 b s st rows) (h:Rd.wp (Rc:Rd α) s Q E) (U:∀e s' st',Cy st0 b s' st' rows->E e s'->K (.BU (fault e.1)) st'):PC 171 [.ptr b 0] st K:=
 cg hc.has hc.hb (U _ _ _ hc.look.y h)
theorem SP:AO enc 118 (λb=>[.ptr b 0,.int .i64 k,.str x]) (Bs k x):=by
 refine ⟨λ{st0 b s st rows K} hc h=>?_⟩
 unfold Bs at h
 rw [Rd.Ah,Rd.Ax] at h
 refine gN hc.has hc.hb (λU e2 st' hu=>?_) (λU e2=>?_) (λU=>?_)
 .rw [if_pos U] at h
  unfold Rd.wp at h;rw [DS e2] at h;exact h st' (hc.MG hu (DZ e2).1)
 .rw [if_pos U] at h
  unfold Rd.wp at h;rw [LO e2] at h;exact h _ hc.look.y
 .rw [if_neg ke] at h
  exact h _ hc.look.y
theorem o0 (hc:Cx st0 b s st rows) (U:mu s'<=100000000) (k:∀st',Cx st0 b s' st' rows->K (.ret (.Bq [])) st'):PC 72 [.ptr b 0,Bn s'] st K:=jq hc.has λst' hu=>k st' (hc.set hu U)
theorem JS {Q:Unit->Af->Prop} {E:Er->Af->Prop} (hc:Cx st0 b s st rows) (h:Rd.wp Jl s Q E) (hk:(Ab s).1.kind≠0/\(Ab s).1.kind≠21) (kk:∀s' st',(Ab s).2.1=s'->mu s'<mu s->Cx st0 b s' st' rows->Q () s'->K (.ret (Ei (Ab s).1)) st'):
 PC 139 [.ptr b 0] st K:=by
 have e:=F8 hk.1
 unfold Jl at h
 rw [Rd.wp_seq] at h
 unfold Rd.wp at h
 rw [DS e] at h
 have U:=(DZ e).2 hk.2
 exact SA hc.has hc.hb (λ_ st' hu=>kk _ st' rfl U (hc.MG hu (Nat.le_of_lt U)) h) (λn=>absurd e n)
theorem YT {Q:Unit->Af->Prop} {E:Er->Af->Prop} (hc:Cx st0 b s st rows) (h:if Ba (Ab s).2.1 k x=true then Rd.wp Jl s Q E else P) (hk:(Ab s).1.kind≠0/\(Ab s).1.kind≠21)
 (kk:∀s' st',mu s'<mu s->Cx st0 b s' st' rows->(if Ba s' k x=true then Q () s' else P)->K (.ret (Ei (Ab s).1)) st'):PC 139 [.ptr b 0] st K:=by
 have e:=F8 hk.1
 have U:=(DZ e).2 hk.2
 refine SA hc.has hc.hb (λ_ st' hu=>kk _ st' U (hc.MG hu (Nat.le_of_lt U)) ?_) (λn=>absurd e n)
 split
 .rename_i hi
  rw [if_pos hi] at h
  unfold Jl at h
  rw [Rd.wp_seq] at h
  unfold Rd.wp at h
  rw [DS e] at h
  exact h
 simp_all
theorem FD {s0:Af} (hc:Cx st0 b s st rows) (U:mu s0<=100000000) (k:∀st',Cx st0 b s0 st' rows->K (.ret (.Bq [])) st'):PC 72 [.ptr b 0,.agg s0.cells] st K:=o0 hc U k
theorem ov (hc:Cx st0 b s st rows) (hk:(Ab s).1.kind≠0/\(Ab s).1.kind≠21) (kk:∀s' st',(Ab s).2.1=s'->mu s'<mu s->Cx st0 b s' st' rows->K (.ret (enc (Bp (Ab s).1))) st'):PC 121 [.ptr b 0] st K:=by
 have e:=F8 hk.1
 have U:=(DZ e).2 hk.2
 exact KD hc.has hc.hb (λ_ st' hu=>kk _ st' rfl U (hc.MG hu (Nat.le_of_lt U))) (λn=>absurd e n)
end
theorem CK (h:P:=by with_reducible first|(show _/\_;first|exact Wa)|(show Bc _ _ _;first|exact Wb|exact Wc)|fail):P:=h
theorem AZ {A:Prop} (k:A) (h:A->P:=by intro k;with_reducible first|(show _/\_;first|exact Wd EQ k|exact Wm ‹_› AC k|exact Wn AC AC k|exact Wo AC AC k|exact Wp AC AC AC k|exact Wr Do AC AC k|exact Ws Do k|exact WB ‹_› AC k|exact WC AC AC k|exact WD AC AC k|exact WE AC AC AC k)|(show Bc _ _ _;first|exact Wt IR k|exact Wu IR k|exact Wv AC k|exact Ww AC k|exact mL ‹_› k|exact cn ‹_› k|exact Wi k|exact Wj k)|(intro x y z;exact Wl k x y z)|(intro x y z;exact Wz k x y z)|(intro x y z;exact WA k x y z)|(show Exists _;first|exact Wq AC AC k)|fail):P:=h k
theorem CL {B C:V->Prop} (k:V) (l:B k) (m:C k) (h:∀k,B k->C k->P:=by intro k l m;with_reducible first|(show Exists _;first|exact We k l m|exact W8 GE k l m|exact W0 GE k l m|exact W9 k l m)|fail):P:=h k l m
theorem A0 {A:Prop} (k:A) (l:B) (h:A->B->P:=by intro k l;with_reducible first|(show Bc _ _ _;first|exact Gj ‹_› k l|exact Ze ‹_› k l|exact S2 ‹_› k l)|fail):P:=h k l
theorem A1 {A:Prop} (k:A) (l:B) (h:A->B->P:=by intro k l;with_reducible first|(show Bc _ _ _;first|exact Wf Do k l|exact Wg k l|exact Wh k l|exact Wk k l)|fail):P:=h k l
theorem SR {A:Prop} (k:A) (l:B) (h:A->B->P:=by intro k l;with_reducible first|(intro x y;exact Wx k l x y)|(intro x y;exact Wy k l x y)|fail):P:=h k l
abbrev KJ (f:FuncId) (args:List V) (st:St) (R:Ay->St->Prop):Prop:=A3 Tryz.prog f args st R
def H7 (x:Int):List Int->Int->Int
 |[],_=> -1
 |y::r,i=>if x=y then i else H7 x r (i+1)
theorem O3 {x:Int}:∀{l:List Int} {i:Int},0<=i->(0<=H7 x l i↔l.contains x=true)
 |[],i,h=>by simp [H7]
 |y::r,i,h=>by
  simp only [H7]
  split
  .simp_all
  .rename_i e
   rw [O3 AC]
   simp [e]
theorem dQ {x:Int} {st:St} {own:AB} (h:R (.ret (.int .i64 (H7 x kinds 0))) st):KJ 303 [.slice 1 (ints kinds) own,.int .i64 x] st R:=by
 refine pB Tryz.func303 ?_
 have hlen:(ints kinds).length=kinds.length:=by simp [ints]
 intro m hm hl
 rw [hlen] at hm
 subst hm
 conv=>whnf
 refine ⟨Nat,λk=>{tmps:=[(8,.int .i64 k),(7,.int .i64 kinds.length),(0,.slice 1 (ints kinds) own),(1,.int .i64 x)],boxes:=[],Bj:=0,sz:=19,gl:=[]},λ_=>st,
  λk=>k<=kinds.length/\H7 x kinds 0=H7 x (kinds.drop k) k,λk=>kinds.length - k,0,⟨Nat.zero_le _,rfl⟩,⟨rfl,⟨rfl,rfl,rfl,rfl,rfl,rfl,rfl,rfl,trivial⟩,trivial,rfl⟩,St.le_refl _,?_⟩
 rintro k ⟨hk,hi⟩
 refine Wh (λh1=>?_) (λh1=>?_)
 .have U:k<kinds.length:=AC
  have he:(ints kinds)[(k:Int).toNat]? =some [.int .i64 kinds[k]]:=by simp [ints,U]
  refine ⟨AC,_,he,?_⟩
  have hd:H7 x (kinds.drop k) k=if x=kinds[k] then (k:Int) else H7 x (kinds.drop (k+1)) (k+1):=by
   rw [List.drop_eq_getElem_cons U];rfl
  refine Wg (λh2=>?_) (λh2=>?_)
  .exact fin h ke
  .refine ⟨((k+1:Nat):Int),?_,?_⟩
   .simp only [EF] at hl
    rw [JV AC AC];rfl
   .refine ⟨k+1,⟨U,?_⟩,by grind,⟨rfl,⟨rfl,rfl,rfl,rfl,rfl,rfl,rfl,rfl,trivial⟩,trivial,rfl⟩,St.le_refl _⟩
    simp_all
 .refine fin h ?_
  have:k=kinds.length:=AC
  rw [hi,this,List.drop_length];rfl
section
variable {st:St} {R:Ay->St->Prop}
theorem MQ {x:Int} {own:AB} (h:R (.ret (.bool (kinds.contains x))) st):KJ 227 [.slice 1 (ints kinds) own,.int .i64 x] st R:=by
 refine pB Tryz.func227 ?_
 refine dQ ?_
 have key:=O3 (x:=x) (l:=kinds) (i:=0) AC
 refine Wh (λU=>?_) (λU=>?_)
 .exact Ao h (key.1 U)
 .refine Ao h ?_
  simp_all
def Du (n:Nd) (kinds:List Int):Bool:=n.kind==1&&kinds.contains n.form
theorem HH {own:AB} (h:R (.ret (.bool (Du n kinds))) st):KJ 352 [enc n,.slice 1 (ints kinds) own] st R:=by
 refine pB Tryz.func352 ?_
 unfold Du at h
 repeat' ((conv=>whnf);first|(refine J1 ?_;intros)|(refine J2 ?_ ?_<;>intro _)|refine MQ ?_)
 all_goals exact Ao h ke
def HP (n:Nd) (k:Int) (t:List UInt8):Bool:=Du n [k]&&n.text==t
theorem Iq (h:R (.ret (.bool (HP n k t))) st):KJ 353 [enc n,.int .i64 k,.str t] st R:=by
 refine pB Tryz.func353 ?_
 unfold HP at h
 repeat' ((conv=>whnf);first|(refine J1 ?_;intros)|(refine J2 ?_ ?_<;>intro _)|refine HH (kinds:=[k]) ?_)
 all_goals exact Ao h ke
def CM (n:Nd) (o s:List UInt8):Option (List Nd):=
 if 2<=n.kids.length/\n.kids[0]?.any (HP · 15 o)=true/\n.kids[n.kids.length - 1]?.any (HP · 15 s)=true then some ((n.kids.take (n.kids.length - 1)).drop 1) else none
theorem HB (U:∀l,CM n o s=some l->R (.ret (.Bq [.slice 6 (Cp l) .any,.bool true])) st)
 (hn:CM n o s=none->R (.ret (.Bq [.slice 6 [] .any,.bool false])) st):KJ 348 [enc n,.str o,.str s] st R:=by
 refine pB Tryz.func348 ?_
 repeat' ((conv=>whnf);first|(refine J1 ?_;intros)|(refine J2 ?_ ?_<;>intro _)|refine Iq ?_)
 .exact RI (hn (by simp [CM];omega)) rfl
 all_goals
  have e:((n.kids.length:Int) - 1).toNat=n.kids.length - 1:=AC
  simp only [e,Int.toNat_zero,Int.reduceToNat] at *
  first
   |exact RI (U _ (by simp_all [CM];omega)) rfl
   |exact RI (hn (by simp_all [CM])) rfl
theorem VL (h:CM n o s=some l):l.length+2=n.kids.length:=by
 simp only [CM] at h
 grind
theorem RN (U:∀l,CM n o s=some l->l.length+2=n.kids.length->R (.ret (.Bq [.slice 6 (Cp l) .any,.bool true])) st)
 (hn:CM n o s=none->R (.ret (.Bq [.slice 6 [] .any,.bool false])) st):KJ 348 [enc n,.str o,.str s] st R:=
 HB (λl h=>U l h (VL h)) hn
def MK:Nd:=.mk 0 0 [] 0 0 []
def NT (n:Nd):Bool:=Du n [6,8]||HP n 10 [58]
theorem TP (h:R (.ret (.bool (NT n))) st):KJ 401 [enc n] st R:=by
 refine pB Tryz.func401 ?_
 repeat' ((conv=>whnf);first|(refine J1 ?_;intros)|(refine J2 ?_ ?_<;>intro _)|refine HH (kinds:=[6,8]) ?_|refine Iq ?_)
 all_goals conv=>whnf
 all_goals (refine Ao h ?_;clear h;simp_all [NT])
def Mm (n:Nd):Option Nd:=if n.kind=3 then (match CM n [40] [41] with|some l=>if l.length=1 then l[0]? else none|none=>none) else none
theorem TV (U:∀x,Mm n=some x->R (.ret (.Bq [enc x,.bool true])) st) (hn:Mm n=none->R (.ret (.Bq [enc MK,.bool false])) st):KJ 396 [enc n] st R:=by
 refine pB Tryz.func396 ?_
 repeat' ((conv=>whnf);first|(refine J1 ?_;intros)|(refine J2 ?_ ?_<;>intro _)|refine HB (λl hl=>?_) (λhl=>?_))
 all_goals conv=>whnf
 all_goals first
  |exact Be rfl (U _ (by clear U hn;simp_all [Mm]))
  |exact Be rfl (hn (by clear U hn;simp_all [Mm]))
def Fx (n:Nd):Option (List UInt8):=
 if Du n [1] then some n.text else match Mm n with|some x=>if Du x [5] then some x.text else none|none=>none
theorem KF (U:∀t,Fx n=some t->R (.ret (.Bq [.str t,.bool true])) st) (hn:Fx n=none->R (.ret (.Bq [.str [],.bool false])) st):KJ 349 [enc n] st R:=by
 refine pB Tryz.func349 ?_
 repeat' ((conv=>whnf);first|(refine J1 ?_;intros)|(refine J2 ?_ ?_<;>intro _)|refine TV (λl hl=>?_) (λhl=>?_)|refine HH (kinds:=[1]) ?_|refine HH (kinds:=[5]) ?_)
 all_goals conv=>whnf
 all_goals first
  |exact Be rfl (U _ (by clear U hn;simp_all [Fx]))
  |exact Be rfl (hn (by clear U hn;simp_all [Fx]))
def Pb (n:Nd):Bool:=Du n [2,4]||(match Mm n with|some x=>NT x|none=>false)
theorem R4 (h:R (.ret (.bool (Pb n))) st):KJ 357 [enc n] st R:=by
 refine pB Tryz.func357 ?_
 repeat' ((conv=>whnf);first|(refine J1 ?_;intros)|(refine J2 ?_ ?_<;>intro _)|refine TV (λl U=>?_) (λU=>?_)|refine HH (kinds:=[2,4]) ?_|refine TP ?_)
 all_goals conv=>whnf
 all_goals (refine Ao h ?_;clear h;simp_all [Pb])
def DB (n:Nd):Nd×Bool:=
 if n.kind=18 then (if n.kids.length=1 then ((n.kids[0]?.getD MK),false) else if n.kids.length=3 then (match CM n [96] [96] with|some l=>((l[0]?.getD MK),true)|none=>(MK,false)) else (MK,false)) else (MK,false)
theorem MY (h:R (.ret (.Bq [enc (DB n).1,.bool (DB n).2])) st):KJ 397 [enc n] st R:=by
 refine pB Tryz.func397 ?_
 repeat' ((conv=>whnf);first|(refine J1 ?_;intros)|(refine J2 ?_ ?_<;>intro _)|refine RN (λl U hk=>?_) (λU=>?_))
 all_goals conv=>whnf
 all_goals refine Be ?_ h
 all_goals clear h
 all_goals simp_all [DB]
 all_goals rfl
def R5 (n:Nd):Bool:=if (DB n).2 then Du (DB n).1 [2,4] else NT (DB n).1
theorem Yj (h:R (.ret (.bool (R5 n))) st):KJ 402 [enc n] st R:=by
 refine pB Tryz.func402 ?_
 repeat' ((conv=>whnf);first|(refine J1 ?_;intros)|(refine J2 ?_ ?_<;>intro _)|refine MY ?_|refine HH (kinds:=[2,4]) ?_|refine TP ?_)
 all_goals conv=>whnf
 all_goals (refine Ao h ?_;clear h;simp_all [R5])
def Ot (n:Nd):Option (List UInt8):=
 if (if (DB n).2 then Du (DB n).1 [1] else Du (DB n).1 [5]) then some (DB n).1.text else none
theorem iC (U:∀t,Ot n=some t->R (.ret (.Bq [.str t,.bool true])) st) (hn:Ot n=none->R (.ret (.Bq [.str [],.bool false])) st):KJ 350 [enc n] st R:=by
 refine pB Tryz.func350 ?_
 repeat' ((conv=>whnf);first|(refine J1 ?_;intros)|(refine J2 ?_ ?_<;>intro _)|refine MY ?_|refine HH (kinds:=[1]) ?_|refine HH (kinds:=[5]) ?_)
 all_goals conv=>whnf
 all_goals first
  |exact Be rfl (U _ (by clear U hn;simp_all [Ot]))
  |exact Be rfl (hn (by clear U hn;simp_all [Ot]))
def CH (f:FuncId) (p:Nd->Bool) (x:Nd):Prop:=∀(st:St) (R:Ay->St->Prop),R (.ret (.bool (p x))) st->KJ f [enc x] st R
def Ih (p:Nd->Bool):Bool->List Nd->Bool
 |_,[]=>true
 |b,x::r=>(if b then HP x 15 [44] else p x)&&Ih p (!b) r
def Lz (p:Nd->Bool) (l:List Nd):Bool:=l.length % 2==1&&Ih p false l
theorem WW {k:Nat} {x:Nd} (h:l[k]? =some x):
 Ih p (k % 2==1) (l.drop k)=((if k % 2=1 then HP x 15 [44] else p x)&&Ih p ((k+1) % 2==1) (l.drop (k+1))):=by
 rw [drop_at h,Ih]
 have:(!(k % 2==1))=((k+1) % 2==1):=by
  rcases Nat.mod_two_eq_zero_or_one k with e|e
  .grind
  .grind
 grind
theorem T7 (U:∀x ∈ l,CH f p x) (h:R (.ret (.bool (Lz p l))) st):KJ 399 [.slice 6 (Cp l) .any,.func f [] []] st R:=by
 refine pB Tryz.func399 ?_
 repeat' ((conv=>whnf);first|(refine J1 ?_;intros)|(refine J2 ?_ ?_<;>intro _)|refine Iq ?_)
 .conv=>whnf
  refine Ao h ?_
  have:=PU.1 ‹_›
  simp [Lz,this]
 .refine Mj 13 [11,12,1] l.length (λk=>k<=l.length/\(Ih p false l=Ih p (k % 2==1) (l.drop k))) ⟨Nat.zero_le _,rfl⟩ Yl ?_
  rintro k ⟨hk,hi⟩
  repeat' ((conv=>whnf);first|(refine J1 ?_;intros)|(refine J2 ?_ ?_<;>intro _)|refine Iq ?_|refine U _ ‹_› _ _ ?_)
  all_goals conv=>whnf
  all_goals simp only [PU,bo,Int.toNat_natCast] at *
  all_goals try (have e:=WW (p:=p) ‹l[k]? =some _›;rw [e] at hi;clear e)
  all_goals try omega
  all_goals first
   |(refine ⟨k+1,⟨AC,?_⟩,AC,Yl,St.le_refl _⟩;clear h;simp_all)
   |(refine Ao h ?_;clear h;simp_all [Lz])
  rw [List.drop_eq_nil_of_le AC];rfl
def Cq (p:Nd->Bool):List Nd->Int->Int
 |[],_=> -1
 |y::r,i=>if p y then i else Cq p r (i+1)
theorem Gy {p:Nd->Bool}:∀{l:List Nd} {i:Int},0<=i->(0<=Cq p l i↔l.any p=true)
 |[],i,h=>by simp [Cq]
 |y::r,i,h=>by
  simp only [Cq,List.any_cons]
  split
  .simp_all
  .rename_i e
   rw [Gy AC]
   simp [e]
theorem RV {st:St}
 (U:∀x ∈ l,CH f p x) (h:R (.ret (.int .i64 (Cq p l 0))) st):KJ 304 [.slice 6 (Cp l) .any,.func f [] []] st R:=by
 refine pB Tryz.func304 ?_
 repeat' ((conv=>whnf);first|(refine J1 ?_;intros)|(refine J2 ?_ ?_<;>intro _)|refine Iq ?_)
 refine Mj 8 [6,7,0,1] l.length (λk=>k<=l.length/\(Cq p l 0=Cq p (l.drop k) k)) ⟨Nat.zero_le _,rfl⟩ Yl ?_
 rintro k ⟨hk,hi⟩
 repeat' ((conv=>whnf);first|(refine J1 ?_;intros)|(refine J2 ?_ ?_<;>intro _)|refine U _ ‹_› _ _ ?_)
 all_goals conv=>whnf
 all_goals try (have e:=drop_at ‹l[Int.toNat k]? =some _›;rw [Int.toNat_natCast] at e;rw [e,Cq] at hi;clear e)
 all_goals first
  |(refine ⟨k+1,⟨AC,?_⟩,AC,Yl,St.le_refl _⟩;clear h;simp_all)
  |(refine fin h ?_;clear h;simp_all;done)
  |(refine fin h ?_;rw [hi,List.drop_eq_nil_of_le AC];rfl)
theorem Ix (hf:∀x ∈ l,CH f p x) (h:R (.ret (.bool (l.any p))) st):KJ 229 [.slice 6 (Cp l) .any,.func f [] []] st R:=by
 refine pB Tryz.func229 ?_
 refine RV hf ?_
 have key:=Gy (p:=p) (l:=l) (i:=0) AC
 refine Wh (λU=>?_) (λU=>?_)
 .exact Ao h (key.1 U)
 .refine Ao h ?_
  simp_all
theorem jw {x:Nd}:CH 398 (λx=> !HP x 15 [44]) x:=by
 intro st R h
 refine pB Tryz.func398 ?_
 repeat' ((conv=>whnf);first|(refine J1 ?_;intros)|(refine J2 ?_ ?_<;>intro _)|refine Iq ?_)
 all_goals conv=>whnf
 all_goals (refine Ao h ?_;clear h;simp_all)
def dO (n:Nd):Bool:=
 (Fx n).isSome||Pb n||(match CM n [91] [93] with|some l=>l.isEmpty|none=>match CM n [40] [41] with|some l=> !l.any λx=> !HP x 15 [44]|none=>false)
theorem nt (h:R (.ret (.bool (dO n))) st):KJ 354 [enc n] st R:=by
 refine pB Tryz.func354 ?_
 repeat' ((conv=>whnf);first|(refine J1 ?_;intros)|(refine J2 ?_ ?_<;>intro _)|refine KF (λl U=>?_) (λU=>?_)|refine R4 ?_|refine HB (λl U=>?_) (λU=>?_)|refine Ix (λx _=>jw) ?_)
 all_goals conv=>whnf
 all_goals (refine Ao h ?_;clear h;simp_all [dO])
end
section
variable {st:St} {R:Ay->St->Prop}
theorem Ks (h:CM n o s=some l):∀x ∈ l,x ∈ n.kids:=by
 simp only [CM] at h
 grind
def Gp (p:Nd->Bool) (n:Nd) (o s:List UInt8) (least:Int) (one:Bool):Bool:=
 match CM n o s with
 |some l=>decide (2*least - 1<=(l.length:Int))&&(!one||l.length==1)&&Lz p l
 |none=>false
theorem S5 {least:Int} {one:Bool} (h0:0<=least) (h1:least<=10) (hp:∀x ∈ n.kids,CH 291 p x)
 (h:R (.ret (.bool (Gp p n o s least one))) st):KJ 355 [enc n,.str o,.str s,.int .i64 least,.bool one] st R:=by
 cases one
 all_goals refine pB Tryz.func355 ?_
 repeat' ((conv=>whnf);first|(refine J1 ?_;intros)|(refine J2 ?_ ?_<;>intro _)|refine HB (λl U=>?_) (λU=>?_)|refine T7 (λx hx=>hp x (Ks ‹_› x hx)) ?_)
 all_goals conv=>whnf
 all_goals (refine Ao h ?_;clear h;simp_all [Gp])
 all_goals (intros;omega)
def Y9 (q:Nd->Bool):List Nd->Bool
 |[]=>true
 |x::r=>q x&&Y9 q r
def KR (p:Nd->Bool) (x:Nd):Bool:= !(x.kind==11)&& !(x.kind==17)&&p x
def KQ (p:Nd->Bool) (l:List Nd):Bool:=Y9 (KR p) l&&decide (0<l.length)
theorem S3 (U:∀x ∈ l,CH 291 p x) (h:R (.ret (.bool (KQ p l))) st):KJ 347 [.slice 6 (Cp l) .any] st R:=by
 refine pB Tryz.func347 ?_
 repeat' ((conv=>whnf);first|(refine J1 ?_;intros)|(refine J2 ?_ ?_<;>intro _)|refine Iq ?_)
 refine Mj 7 [5,6,0] l.length (λk=>k<=l.length/\Y9 (KR p) l=Y9 (KR p) (l.drop k)) ⟨Nat.zero_le _,rfl⟩ Yl ?_
 rintro k ⟨hk,hi⟩
 repeat' ((conv=>whnf);first|(refine J1 ?_;intros)|(refine J2 ?_ ?_<;>intro _)|refine U _ ‹_› _ _ ?_)
 all_goals conv=>whnf
 all_goals try (have e:=drop_at ‹l[Int.toNat k]? =some _›;rw [Int.toNat_natCast] at e;rw [e,Y9] at hi;clear e)
 all_goals first
  |(refine ⟨k+1,⟨AC,?_⟩,AC,Yl,St.le_refl _⟩;clear h;simp_all [KR];done)
  |(refine Ao h ?_;clear h;simp_all [KQ,KR];done)
  |(refine Ao h ?_;clear h;rw [List.drop_eq_nil_of_le AC] at hi;simp_all [KQ,Y9];done)
  |skip
def VJ (p:Nd->Bool) (n:Nd):Bool:=
 n.kind==13&&n.kids.length==3&&n.kids[0]?.any (Du · [1,3])&&n.kids[1]?.any (HP · 10 [61])&&n.kids[2]?.any p
theorem jg (U:∀x ∈ n.kids,CH 291 p x):CH 400 (VJ p) n:=by
 intro st R h
 refine pB Tryz.func400 ?_
 repeat' ((conv=>whnf);first|(refine J1 ?_;intros)|(refine J2 ?_ ?_<;>intro _)|refine HH (kinds:=[1,3]) ?_|refine Iq ?_|refine U _ ‹_› _ _ ?_)
 all_goals conv=>whnf
 all_goals (refine Ao h ?_;clear h;simp_all [VJ])
def N1 (p:Nd->Bool) (n:Nd):Bool:=
 decide (3<=n.kids.length)&&n.kids[0]?.any Pb&&(match CM (.mk 0 0 [] 0 0 (n.kids.drop 1)) [123] [125] with|some l=>l.isEmpty||Lz (VJ p) l|none=>false)
theorem fq (hp:∀x ∈ n.kids,∀y ∈ x.kids,CH 291 p y) (h:R (.ret (.bool (N1 p n))) st):KJ 356 [enc n] st R:=by
 refine pB Tryz.func356 ?_
 repeat' ((conv=>whnf);first|(refine J1 ?_;intros)|(refine J2 ?_ ?_<;>intro _)|refine R4 ?_|refine HB (n:=.mk 0 0 [] 0 0 _) (λl U=>?_) (λU=>?_)|refine T7 (λx hx=>jg (hp x (List.mem_of_mem_drop (i:=1) (l:=n.kids) (Ks (n:=.mk 0 0 [] 0 0 (n.kids.drop 1)) ‹_› x hx)))) ?_)
 all_goals conv=>whnf
 all_goals (refine Ao h ?_;clear h;try simp only [Int.toNat_zero,Int.toNat_one] at *;simp_all [N1])
 all_goals first
  |omega
  |(have:¬3<=n.kids.length:=by omega
    simp [N1,this])
def Ip (p:Nd->Bool):Nat->List Nd->Bool
 |2,[]=>true
 |_,[]=>false
 |0,x::r=>if x.kind=19 then Ip p 1 r else (!(x.kind==17)&&p x)&&Ip p 2 r
 |1,x::r=>Du x [11,12]&&Ip p 2 r
 |_,x::r=>R5 x&&Ip p 0 r
theorem me {k:Nat} {x:Nd} (h:l[k]? =some x):Ip p 0 (l.drop k)=if x.kind=19 then Ip p 1 (l.drop (k+1)) else (!(x.kind==17)&&p x)&&Ip p 2 (l.drop (k+1)):=by
 rw [drop_at h];rfl
theorem mf {k:Nat} {x:Nd} (h:l[k]? =some x):Ip p 1 (l.drop k)=(Du x [11,12]&&Ip p 2 (l.drop (k+1))):=by
 rw [drop_at h];rfl
theorem YL {k:Nat} {x:Nd} (h:l[k]? =some x):Ip p 2 (l.drop k)=(R5 x&&Ip p 0 (l.drop (k+1))):=by
 rw [drop_at h];rfl
theorem M3 {k s:Nat} (h:l.length<=k):Ip p s (l.drop k)=(s==2):=by
 rw [List.drop_eq_nil_of_le h]
 match s with
 |0=>rfl
 |1=>rfl
 |2=>rfl
 |s+3=>rfl
theorem qB:(0:Int).toNat=0:=rfl
theorem qD:((0:Int)+1).toNat=1:=rfl
theorem qE:((0:Int)+1+1).toNat=2:=rfl
theorem qF {k:Nat}:((k:Int)+1).toNat=k+1:=AC
theorem qG {k:Nat}:((k:Int)+1+1).toNat=k+2:=AC
theorem fG (U:∀x ∈ l,CH 291 p x) (h:R (.ret (.bool (Ip p 0 l))) st):KJ 358 [.slice 6 (Cp l) .any] st R:=by
 refine pB Tryz.func358 ?_
 conv=>whnf
 refine ⟨Nat,λ_=>0,λk=>{tmps:=[(3,.int .i64 k),(0,.slice 6 (Cp l) .any)],boxes:=[],Bj:=0,sz:=57,gl:=[]},λ_=>st,
  λk=>k<=l.length/\Ip p 0 l=Ip p 0 (l.drop k),λk=>l.length - k,?_,?_⟩
 .have hi:Ip p 0 l=Ip p 0 (l.drop 0):=rfl
  repeat' ((conv=>whnf);first|(refine J1 ?_;intros)|(refine J2 ?_ ?_<;>intro _)|refine HH (kinds:=[11,12]) ?_|refine Yj ?_|refine U _ ‹_› _ _ ?_)
  all_goals conv=>whnf
  all_goals try simp only [qB,qD,qE,qF,qG,Int.toNat_natCast,Nat.zero_add,Nat.reduceAdd] at *
  all_goals try (have e:=me (p:=p) ‹l[0]? =some _›;rw [e] at hi;clear e)
  all_goals (try have e1:=mf (p:=p) ‹l[1]? =some _›)
  all_goals (try have e2:=YL (p:=p) ‹l[1]? =some _›)
  all_goals (try have e3:=YL (p:=p) ‹l[2]? =some _›)
  all_goals (try have f0:=M3 (p:=p) (s:=0) (l:=l) (k:=0) AC)
  all_goals (try have f1:=M3 (p:=p) (s:=1) (l:=l) (k:=1) AC)
  all_goals (try have f2:=M3 (p:=p) (s:=2) (l:=l) (k:=1) AC)
  all_goals (try have f3:=M3 (p:=p) (s:=2) (l:=l) (k:=2) AC)
  all_goals try simp only [Nat.zero_add,Nat.reduceAdd] at *
  all_goals first
   |(refine Ao h ?_;clear h;clear U;simp_all;done)
   |(refine ⟨3,(by first|trivial|rfl),⟨AC,?_⟩,Yl,St.le_refl _⟩;clear h;clear U;simp_all;done)
   |(refine ⟨2,(by first|trivial|rfl),⟨AC,?_⟩,Yl,St.le_refl _⟩;clear h;clear U;simp_all;done)
 .rintro k ⟨hk,hi⟩
  refine ⟨_,rfl,?_⟩
  repeat' ((conv=>whnf);first|(refine J1 ?_;intros)|(refine J2 ?_ ?_<;>intro _)|refine HH (kinds:=[11,12]) ?_|refine Yj ?_|refine U _ ‹_› _ _ ?_)
  all_goals conv=>whnf
  all_goals try simp only [qB,qD,qE,qF,qG,Int.toNat_natCast,Nat.zero_add,Nat.reduceAdd] at *
  all_goals try (have e:=me (p:=p) ‹l[k]? =some _›;rw [e] at hi;clear e)
  all_goals (try have e1:=mf (p:=p) ‹l[k+1]? =some _›)
  all_goals (try have e2:=YL (p:=p) ‹l[k+1]? =some _›)
  all_goals (try have e3:=YL (p:=p) ‹l[k+2]? =some _›)
  all_goals (try have f0:=M3 (p:=p) (s:=0) (l:=l) (k:=k) AC)
  all_goals (try have f1:=M3 (p:=p) (s:=1) (l:=l) (k:=k+1) AC)
  all_goals (try have f2:=M3 (p:=p) (s:=2) (l:=l) (k:=k+1) AC)
  all_goals (try have f3:=M3 (p:=p) (s:=2) (l:=l) (k:=k+2) AC)
  all_goals try simp only [Nat.zero_add,Nat.reduceAdd] at *
  all_goals first
   |(refine Ao h ?_;clear h;clear U;simp_all;done)
   |(refine ⟨k+3,(by first|trivial|rfl),⟨AC,?_⟩,AC,Yl,St.le_refl _⟩;clear h;clear U;simp_all;done)
   |(refine ⟨k+2,(by first|trivial|rfl),⟨AC,?_⟩,AC,Yl,St.le_refl _⟩;clear h;clear U;simp_all;done)
end
section
variable {st:St} {R:Ay->St->Prop}
def Ln (p:Nd->Bool) (n:Nd):Bool:=
 if n.kind=1 then Du n [1,2,4,11,12,13,14]
 else if n.kind=14 then n.kids.length==1&&n.kids[0]?.any (HP · 9 [95])
 else if n.kind=3 then dO n
 else if n.kind=15 then n.kids.length==3&&n.kids[0]?.any (Du · [1])&&n.kids[1]?.any (HP · 10 [64])&&n.kids[2]?.any p
 else if n.kind=16 then n.kids.length==2&&n.kids[0]?.any (HP · 10 [126])&&n.kids[1]?.any p
 else if n.kind=4 then Gp p n [40] [41] 1 true
 else if n.kind=5 then Gp p n [40] [41] 2 false
 else if n.kind=6 then Gp p n [91] [93] 1 false
 else if n.kind=12 then N1 p n
 else if n.kind=11 then decide (0<n.kids.length)&&n.kids[0]?.any Pb&&KQ p (n.kids.drop 1)
 else if n.kind=17 then decide (1<n.kids.length)&&Ip p 0 n.kids
 else false
theorem eB (hp:∀x,x.size<n.size->CH 291 p x):CH 291 (Ln p) n:=by
 intro st R h
 have U:∀x ∈ n.kids,CH 291 p x:=λx hx=>hp x (FQ hx)
 have hkk:∀x ∈ n.kids,∀y ∈ x.kids,CH 291 p y:=λx hx y hy=>hp y (Nat.lt_trans (FQ hy) (FQ hx))
 have hd:∀x ∈ n.kids.drop 1,CH 291 p x:=λx hx=>U x (List.mem_of_mem_drop hx)
 refine pB Tryz.func291 ?_
 repeat' ((conv=>whnf);first|(refine J1 ?_;intros)|(refine J2 ?_ ?_<;>intro _)|refine HH (kinds:=[1,2,4,11,12,13,14]) ?_|refine Iq ?_|refine nt ?_|refine HH (kinds:=[1]) ?_|refine U _ ‹_› _ _ ?_|refine S5 (p:=p) Do Do U ?_|refine fq hkk ?_|refine R4 ?_|refine S3 hd ?_|refine fG U ?_)
 all_goals conv=>whnf
 all_goals (refine Ao h ?_;clear h hp U hkk hd;try simp only [Int.toNat_zero,Int.toNat_one,Int.reduceToNat] at *)
 all_goals first
  |(simp_all [Ln];done)
  |(have:1<n.kids.length:=by omega
    simp_all [Ln];done)
  |(have:¬1<n.kids.length:=by omega
    simp_all [Ln];intros;omega)
def jP:Nat->Nd->Bool
 |0,_=>false
 |k+1,n=>Ln (jP k) n
theorem size_pos (n:Nd):0<n.size:=by cases n;rw [Nd.size];omega
theorem V3:∀(k:Nat) (n:Nd),n.size<=k->CH 291 (jP k) n
 |0,n,h=>by have:=size_pos n;omega
 |k+1,n,h=>eB λx U=>V3 k x AC
def YO (p:Nd->Bool) (l:List Nd):Bool:=if l.length=1 then l[0]?.any (λx=> !(x.kind==17)&&p x) else Ip p 0 l
theorem fV (U:∀x ∈ l,CH 291 p x) (h:R (.ret (.bool (YO p l))) st):KJ 351 [.slice 6 (Cp l) .any] st R:=by
 refine pB Tryz.func351 ?_
 repeat' ((conv=>whnf);first|(refine J1 ?_;intros)|(refine J2 ?_ ?_<;>intro _)|refine U _ ‹_› _ _ ?_|refine fG U ?_)
 all_goals conv=>whnf
 all_goals (refine Ao h ?_;clear h U;try simp only [Int.toNat_zero,Int.toNat_one,Int.reduceToNat] at *)
 all_goals first
  |(simp_all [YO];done)
  |skip
def Gk (p:Nd->Bool) (l:List Nd):Nat->List Nd->List UInt8×Bool
 |_,[]=>([],false)
 |i,x::r=>match Ot x with
  |some t=>(t,YO p (l.take i)&&YO p (l.drop (i+1)))
  |none=>Gk p l (i+1) r
def CT (p:Nd->Bool) (q:Nd->List UInt8×Bool) (n:Nd):List UInt8×Bool:=
 if n.kind=11 then
  if 2<=n.kids.length then (if KQ p (n.kids.drop 1) then (match n.kids[0]? with
   |none=>([],false)
   |some f=>if f.kind=4 then (match CM f [40] [41] with|some l=>if l.length=1 then (match l[0]? with|some x=>q x|none=>([],false)) else ([],false)|none=>([],false))
    else match Fx f with|some t=>(t,true)|none=>([],false)) else ([],false)) else ([],false)
 else if n.kind=17 then Gk p n.kids 0 n.kids
 else ([],false)
theorem dI {f:List UInt8×Bool} {b:Bool} (h:f=(t,b)):Ay.ret (.Bq [.str f.1,.bool f.2])=(Ay.ret (.Bq [.str t,.bool b])).wk:=by subst h;rfl
def Vb (q:Nd->List UInt8×Bool) (x:Nd):Prop:=∀(st:St) (R:Ay->St->Prop),R (.ret (.Bq [.str (q x).1,.bool (q x).2])) st->KJ 290 [enc x] st R
theorem P5 {q:Nd->List UInt8×Bool} (hp:∀x,x.size<n.size->CH 291 p x) (hq:∀x,x.size<n.size->Vb q x):Vb (CT p q) n:=by
 intro st R h
 have hk:∀x ∈ n.kids,CH 291 p x:=λx U=>hp x (FQ U)
 have hd:∀x ∈ n.kids.drop 1,CH 291 p x:=λx U=>hk x (List.mem_of_mem_drop U)
 refine pB Tryz.func290 ?_
 repeat' ((conv=>whnf);first|(refine J1 ?_;intros)|(refine J2 ?_ ?_<;>intro _)|refine S3 hd ?_|refine HB (λl hl=>?_) (λhl=>?_)|refine KF (λl hl=>?_) (λhl=>?_)|refine hq _ (Nat.lt_trans (FQ (Ks ‹_› _ ‹_›)) (FQ ‹_›)) _ _ ?_)
 all_goals try (refine Lm 63 [1,61,62] [0] n.kids.length (λk=>k<=n.kids.length/\Gk p n.kids 0 n.kids=Gk p n.kids k (n.kids.drop k)) ⟨Nat.zero_le _,rfl⟩ Yl ?_;rintro k ⟨hkl,hi⟩)
 repeat' ((conv=>whnf);first|(refine J1 ?_;intros)|(refine J2 ?_ ?_<;>intro _)|refine iC (λl hl=>?_) (λhl=>?_)|refine fV (λx U=>hk x (List.mem_of_mem_take (List.mem_of_mem_drop U))) ?_|refine fV (λx U=>hk x (List.mem_of_mem_drop U)) ?_)
 all_goals conv=>whnf
 all_goals first
  |refine Be ?_ h
  |(refine ⟨k+1,⟨AC,?_⟩,AC,Yl,St.le_refl _⟩)
  |skip
 all_goals clear h hp hq hk hd
 all_goals try (have e:=drop_at ‹n.kids[Int.toNat k]? =some _›;rw [Int.toNat_natCast] at e;rw [e,Gk] at hi;clear e)
 all_goals try simp only [Int.toNat_zero,Int.toNat_one,Int.reduceToNat,Int.toNat_natCast] at *
 all_goals first
  |(simp_all;done)
  |refine dI ?_
 .have:¬2<=n.kids.length:=AC
  simp [CT, *]
 all_goals try have g:2<=n.kids.length:=AC
 .rename_i x _ _ y _ _ _
  have e:CT p q n=q y:=by simp_all [CT]
  rw [e];exact Prod.ext rfl ‹_›
 .rename_i x _ _ y _ _ _
  have e:CT p q n=q y:=by simp_all [CT]
  rw [e];exact Prod.ext rfl ‹_›
 all_goals try (rw [List.drop_eq_nil_of_le AC,Gk] at hi)
 all_goals simp_all [CT]
def jl:Nat->Nd->List UInt8×Bool
 |0,_=>([],false)
 |k+1,n=>CT (jP k) (jl k) n
theorem OZ:∀(k:Nat) (n:Nd),n.size<=k->Vb (jl k) n
 |0,n,h=>by have:=size_pos n;omega
 |k+1,n,h=>P5 (λx U=>V3 k x AC) λx U=>OZ k x AC
end
section
variable {st:St} {R:Ay->St->Prop}
def Ka (n:Nd):Bool:=jP n.size n
theorem V2:CH 291 Ka n:=λst R h=>V3 n.size n (Nat.le_refl _) st R h
def Vq (n:Nd):Int:=if Ka n then 0 else 120
theorem cI (h:R (.ret (.int .i64 (Vq n))) st):KJ 422 [enc n] st R:=by
 refine pB Tryz.func422 ?_
 repeat' ((conv=>whnf);first|(refine J1 ?_;intros)|(refine J2 ?_ ?_<;>intro _)|refine V2 _ _ ?_)
 all_goals conv=>whnf
 all_goals (refine fin h ?_;clear h;simp_all [Vq])
def er (n:Nd):Int×List UInt8×Int:=
 if (jl n.size n).2 then (1,(jl n.size n).1,0) else if Ka n then (2,[],0) else (0,[],120)
theorem dJ {f:Int×List UInt8×Int} {b c:Int} (h:f=(b,t,c)):Ay.ret (.Bq [.int .i64 f.1,.str f.2.1,.int .i64 f.2.2])=(Ay.ret (.Bq [.int .i64 b,.str t,.int .i64 c])).wk:=by subst h;rfl
theorem pg (h:R (.ret (.Bq [.int .i64 (er n).1,.str (er n).2.1,.int .i64 (er n).2.2])) st):KJ 215 [enc n] st R:=by
 refine pB Tryz.func215 ?_
 repeat' ((conv=>whnf);first|(refine J1 ?_;intros)|(refine J2 ?_ ?_<;>intro _)|refine OZ _ n (Nat.le_refl _) _ _ ?_|refine V2 _ _ ?_)
 all_goals conv=>whnf
 all_goals (refine Be ?_ h;clear h;refine dJ ?_;simp_all [er])
def Fp (q:Nd->List (List UInt8)) (field:Bool):Nat->List Nd->List (List UInt8)
 |_,[]=>[]
 |i,x::r=>(if 0<i\/field=false then q x else [])++Fp q field (i+1) r
def CF (q:Nd->List (List UInt8)) (n:Nd):List (List UInt8):=
 match Fx n with
 |some s=>[s]
 |none=>if n.kind=18\/n.kind=19 then [] else Fp q (n.kind==13) 0 n.kids
def Vc (q:Nd->List (List UInt8)) (x:Nd):Prop:=∀(l:List (List UInt8)) (own:AB) (st:St) (R:Ay->St->Prop),l.length+(q x).length<=1000000000->own.BG st->
 (∀U:AB,U.BG st->R (.ret (.slice 1 (strs (l++q x)) U)) (U.st st (l++q x).length))->KJ 393 [.slice 1 (strs l) own,enc x] (own.st st l.length) R
attribute [local irreducible] Go.Aw.Ag
theorem V7 {q:Nd->List (List UInt8)} (hq:∀x,x.size<n.size->Vc q x):Vc (CF q) n:=by
 intro l own st R hb ho h
 refine pB Tryz.func393 ?_
 repeat' ((conv=>whnf);first|(refine J1 ?_;intros)|(refine J2 ?_ ?_<;>intro _)|refine KF (λt ht=>?_) (λht=>?_)|refine Nc (new:=[_]) ho ?_ (λown' ho'=>?_))
 .have e:CF q n=[t]:=by simp [CF,ht]
  rw [e] at hb;exact hb
 .conv=>whnf
  have e:CF q n=[t]:=by simp [CF,ht]
  rw [e] at h
  exact fin (h own' ho') rfl
 .conv=>whnf
  have e:CF q n=[]:=by simp [CF, *]
  rw [e,List.append_nil] at h
  exact fin (h own ho) rfl
 .conv=>whnf
  have e:CF q n=[]:=by simp [CF, *]
  rw [e,List.append_nil] at h
  exact fin (h own ho) rfl
 .have e:CF q n=Fp q (n.kind==13) 0 n.kids:=by simp [CF, *]
  rw [e] at h hb
  conv=>whnf
  refine R2 (α:=Nat×AB×List (List UInt8)) (λx=>[(31,.int .i64 (x.1:Int)),(0,.slice 1 (strs x.2.2) x.2.1)]) [3,29,30] [0] (λx=>AB.st st x.2.2.length x.2.1)
   (λx=>x.1<=n.kids.length/\AB.BG st x.2.1/\l++Fp q (n.kind==13) 0 n.kids=x.2.2++Fp q (n.kind==13) x.1 (n.kids.drop x.1)) (λx=>n.kids.length - x.1) (0,own,l) ⟨Nat.zero_le _,ho,rfl⟩ Yl (St.le_refl _) ?_
  rintro ⟨k,own1,U⟩ ⟨hk,ho1,hi⟩
  simp only at hk ho1 hi
  have hlen:=congrArg List.length hi
  simp only [List.length_append] at hlen
  repeat' ((conv=>whnf);first|(refine J1 ?_;intros)|(refine J2 ?_ ?_<;>intro _)|refine hq _ (FQ ‹_›) U own1 st _ ?_ ho1 (λown2 ho2=>?_))
  all_goals try conv=>whnf
  all_goals try (have e:=drop_at ‹n.kids[_]? =some _›;simp only [Int.toNat_natCast] at e;rw [e,Fp] at hi hlen;clear e)
  all_goals simp only [Int.toNat_natCast] at *
  .rw [if_pos (.inl AC)] at hlen
   rw [List.length_append] at hlen
   show U.length+_<=1000000000
   omega
  .refine ⟨(k+1,own2,U++_),⟨by show k+1<=_;omega,ho2,?_⟩,by show _ - (k+1)<_ - k;omega,Yl,St.le_refl _⟩
   rw [if_pos (.inl AC)] at hi
   rw [hi,List.append_assoc]
  .refine ⟨(k+1,own1,U),⟨by show k+1<=_;omega,ho1,?_⟩,by show _ - (k+1)<_ - k;omega,Yl,St.le_refl _⟩
   rw [if_neg (by rintro (g|g)<;>first|omega|simp_all)] at hi
   rw [hi];rfl
  .have g:(n.kind==13)=false:=ke
   rw [if_pos (.inr g),List.length_append] at hlen
   show U.length+_<=1000000000
   omega
  .refine ⟨(k+1,own2,U++_),⟨by show k+1<=_;omega,ho2,?_⟩,by show _ - (k+1)<_ - k;omega,Yl,St.le_refl _⟩
   have g:(n.kind==13)=false:=ke
   rw [if_pos (.inr g)] at hi
   rw [hi,List.append_assoc]
  .rw [List.drop_eq_nil_of_le AC,Fp,List.append_nil] at hi
   rw [hi] at h
   exact fin (h own1 ho1) rfl
def Ho:Nat->Nd->List (List UInt8)
 |0,_=>[]
 |k+1,n=>CF (Ho k) n
theorem TW:∀(k:Nat) (n:Nd),n.size<=k->Vc (Ho k) n
 |0,n,h=>by have:=size_pos n;omega
 |k+1,n,h=>V7 λx U=>TW k x AC
def FY (n:Nd):List (List UInt8)×Int:=if Ka n then (Ho n.size n,0) else ([],120)
theorem Z9 (hb:(Ho n.size n).length<=1000000000) (h:R (.ret (.Bq [.slice 1 (strs (FY n).1) .any,.int .i64 (FY n).2])) st):KJ 344 [enc n] st R:=by
 refine pB Tryz.func344 ?_
 repeat' ((conv=>whnf);first|(refine J1 ?_;intros)|(refine J2 ?_ ?_<;>intro _)|refine V2 _ _ ?_|refine TW _ n (Nat.le_refl _) [] .full st _ ?_ trivial (λown2 U=>?_))
 all_goals try conv=>whnf
 .show 0+_<=_
  omega
 .have e:FY n=(Ho n.size n,0):=by simp_all [FY]
  rw [e] at h
  exact ⟨_,st,.inr rfl,AB.Bu U,h⟩
 .have e:FY n=([],120):=by simp_all [FY]
  rw [e] at h
  exact Be rfl h
end
theorem Ph {q:Nd->List (List UInt8)} {b:Bool}:∀{l:List Nd} {i:Nat},(∀x ∈ l,(q x).length<=x.size)->(Fp q b i l).length<=C6 l
 |[],_,_=>by simp [Fp,C6]
 |x::r,i,h=>by
  have:=Ph (b:=b) (l:=r) (i:=i+1) λy hy=>h y (List.mem_cons_of_mem _ hy)
  have:=h x List.mem_cons_self
  rw [Fp,List.length_append,C6]
  grind
theorem Pj:∀{k:Nat} {n:Nd},(Ho k n).length<=n.size
 |0,n=>Nat.zero_le _
 |k+1,n=>by
  rw [Ho,CF]
  have:=size_pos n
  split
  .grind
  .split
   .simp
   .have:=Ph (b:=n.kind==13) (l:=n.kids) (i:=0) (q:=Ho k) λx _=>Pj
    cases n with
    |mk a b c d e ks=>rw [Nd.size];show (Fp _ _ 0 ks).length<=_;have:(Fp (Ho k) (a==13) 0 ks).length<=C6 ks:=this;show (Fp (Ho k) (a==13) 0 ks).length<=_;omega
section
variable {st:St} {R:Ay->St->Prop}
theorem eE (U:n.size<=1000000000) (h:R (.ret (.Bq [.slice 1 (strs (FY n).1) .any,.int .i64 (FY n).2])) st):KJ 344 [enc n] st R:=
 Z9 (Nat.le_trans Pj U) h
theorem dg {f:Int} {l c:Int} {ks:List Nd}:enc (.mk k f t l c ks)=.agg [.int .i64 k,.int .i64 f,.str t,.int .i64 l,.int .i64 c,.slice 6 (ks.map Az) .any]:=by
 rw [enc,Az,BJ];rfl
end
end Go.Proofs.Z
namespace Go.Aw
open Go
def Eb (c:Int):Int:=
 if c=40\/c=41\/c=44\/c=59\/c=91\/c=93\/c=96\/c=123\/c=125 then 6
 else if c=34\/c=39 then 7
 else if 32<c/\c<127 then 5
 else 0
def KS (c:Int):Int:=
 if c=215\/c=247 then 5
 else if 223<=c/\c<=255\/945<=c/\c<=969 then 2
 else if 192<=c/\c<=222\/913<=c/\c<=937/\c≠930 then 3
 else if c<160\/c=173\/55296<=c/\c<=57343\/1114111<c then 0
 else if 160<c/\c<=191\/8592<=c/\c<=8959 then 5
 else 8
def AJ (c:Int):Int:=
 if c=32\/9<=c/\c<=13 then 1
 else if 48<=c/\c<=57 then 4
 else if 97<=c/\c<=122\/c=95 then 2
 else if 65<=c/\c<=90 then 3
 else if c<128 then Eb c else KS c
def BA (c base:Int):Int:=
 let v:=if 48<=c/\c<=57 then c - 48 else if 97<=c/\c<=102 then c - 87 else if 65<=c/\c<=70 then c - 55 else 16
 if base<2\/16<base\/base<=v then -1 else v
theorem DK (l:List UInt8):1<=(AK l).2:=by
 unfold AK
 grind
theorem F5 {l:List UInt8} (h:l≠[]):(AK l).2<=l.length:=by
 cases l with
 |nil=>simp_all
 |cons a l=>
  have hc:∀k:Nat,(match l[k]? with|some b=>b.toNat / 64==2|none=>false)=true->k+2<=(a::l).length:=λk e=>by grind
  unfold AK
  grind
def Br (p:Nat×Nat->Bool) (l:List UInt8):Nat:=
 match l with
 |[]=>0
 |a::r=>if p (AK (a::r)) then (AK (a::r)).2+Br p ((a::r).drop (AK (a::r)).2) else 0
termination_by l.length
decreasing_by
 have:=DK (a::r)
 grind
theorem D7 (p:Nat×Nat->Bool):Br p []=0:=by rw [Br]
theorem Cn {p:Nat×Nat->Bool} {l:List UInt8} (h:l≠[]) (U:p (AK l)=true):Br p l=(AK l).2+Br p (l.drop (AK l).2):=by
 cases l with
 |nil=>simp_all
 |cons a r=>rw [Br,if_pos U]
theorem Ev {p:Nat×Nat->Bool} {l:List UInt8} (U:p (AK l)=false):Br p l=0:=by
 cases l with
 |nil=>exact D7 p
 |cons a r=>rw [Br,if_neg ke]
theorem PI (p:Nat×Nat->Bool) (l:List UInt8):Br p l<=l.length:=by
 fun_induction Br p l with
 |case1=>omega
 |case2 a r h U=>
  have:=F5 (l:=a::r) GT
  grind
 |case3 a r h=>omega
theorem Xj (p:Nat×Nat->Bool) (l:List UInt8) (h:Br p l<l.length):p (AK (l.drop (Br p l)))=false:=by
 fun_induction Br p l with
 |case1=>simp at h
 |case2 a r U ih=>
  rw [List.length_drop] at ih
  have:=F5 (l:=a::r) GT
  rw [<-List.drop_drop]
  grind
 |case3 a r U=>simp_all
def BQ (p:Int->Bool) (l:List UInt8):Nat:=Br (λd=>p (d.1:Nat)) l
theorem QU (p:Int->Bool):BQ p []=0:=D7 _
theorem aN {p:Int->Bool} {l:List UInt8} (h:l≠[]) (U:p ((AK l).1:Nat)=true):BQ p l=(AK l).2+BQ p (l.drop (AK l).2):=Cn h U
theorem PJ {p:Int->Bool} {l:List UInt8} (U:p ((AK l).1:Nat)=false):BQ p l=0:=Ev U
theorem E6 (p:Int->Bool) (l:List UInt8):BQ p l<=l.length:=PI _ l
theorem PK (p:Int->Bool) (l:List UInt8) (h:BQ p l<l.length):p ((AK (l.drop (BQ p l))).1:Nat)=false:=Xj _ l h
theorem rune_le (h:pos<t.length) (hd:(c,m)=AK (t.drop pos)):pos+m<=t.length/\1<=m:=by
 have U:=DK (t.drop pos)
 have h2:=F5 (l:=t.drop pos) (λe=>by have:=congrArg List.length e;grind)
 grind
theorem N6 {p:Nat×Nat->Bool} {n:Nat} (h:pos<t.length) (U:(c,m)=AK (t.drop pos)) (hp:p (c,m)=true) (hi:n=pos+Br p (t.drop pos)):n=pos+m+Br p (t.drop (pos+m)):=by
 rw [hi,Cn (λe=>by have:=congrArg List.length e;grind) ke,<-U,List.drop_drop]
 grind
theorem SD {p:Nat×Nat->Bool} {n:Nat} (U:(c,m)=AK (t.drop pos)) (hp:p (c,m)=false) (hi:n=pos+Br p (t.drop pos)):n=pos:=by
 rw [hi,Ev ke];rfl
theorem PM {p:Nat×Nat->Bool} {n:Nat} (h:¬pos<t.length) (hi:n=pos+Br p (t.drop pos)):n=pos:=by
 rw [hi,List.drop_eq_nil_iff.2 AC,D7];rfl
def C5 (d:Nat×Nat):Bool:= !(d.1==65533&&d.2==1)
end Go.Aw
namespace Go.Proofs.Z
open Go Go.Aw
def Lr (s:List UInt8) (i:Int):Int×Int:=if i<0\/s.length<=i then (0,0) else S7 (s.drop i.toNat)
def kD (s:List UInt8) (i U:Int):Int:=if i<0\/s.length<i then 0 else i+BQ (λc=>AJ c==U) (s.drop i.toNat)
def L9 (s:List UInt8):Int×Int:=if Br C5 s<s.length then (Br C5 s,10) else (s.length,0)
theorem QI (h:i<0\/s.length<=i):Lr s i=(0,0):=if_pos h
theorem Lt (h:0<=i) (k:i<s.length):Lr s i=S7 (s.drop i.toNat):=if_neg AC
theorem fO (h:i<0\/s.length<i):kD s i k=0:=if_pos h
theorem N2 (h:0<=i) (U:i<=s.length):kD s i k=i+BQ (λc=>AJ c==k) (s.drop i.toNat):=if_neg AC
theorem XS (h:s≠[]):S7 s=((((AK s).1:Nat):Int),(((AK s).2:Nat):Int)):=by
 cases s with
 |nil=>exact absurd rfl h
 |cons a r=>rfl
theorem NK (h:pos<s.length) (U:(c,m)=AK (s.drop pos)):S7 (s.drop (pos:Int).toNat)=((c:Int),(m:Int)):=by
 rw [show (pos:Int).toNat=pos by omega,XS (λe=>by have:=congrArg List.length e;rw [List.length_drop,List.length_nil] at this;omega),<-U]
theorem cJ (h:pos<s.length) (k:Br C5 s=pos):L9 s=(((pos:Nat):Int),10):=by
 unfold L9;rw [k,if_pos h]
theorem iF (h:¬pos<s.length) (k:Br C5 s=pos):L9 s=((s.length:Int),0):=by
 unfold L9;rw [k,if_neg h]
section
variable {st:St} {R:Ay->St->Prop}
theorem nJ {c:Int} (h:R (.ret (.int .i64 (Eb c))) st):PC 127 [.int .i32 c] st R:=by
 refine pB Tryz.func127 ?_
 repeat' ((conv=>whnf);first|(refine BR ?_;intros)|(refine BS ?_ ?_<;>intro _)|fail)
 all_goals exact fin h (BN (by unfold Eb;(repeat' split)<;>first|omega|rfl))
theorem cr {c:Int} (h:R (.ret (.int .i64 (KS c))) st):PC 128 [.int .i32 c] st R:=by
 refine pB Tryz.func128 ?_
 repeat' ((conv=>whnf);first|(refine BR ?_;intros)|(refine BS ?_ ?_<;>intro _)|fail)
 all_goals exact fin h (BN (by unfold KS;(repeat' split)<;>first|omega|rfl))
theorem Ju {c:Int} (h:R (.ret (.int .i64 (AJ c))) st):PC 58 [.int .i32 c] st R:=by
 refine pB Tryz.func58 ?_
 repeat' ((conv=>whnf);first|(refine BR ?_;intros)|(refine BS ?_ ?_<;>intro _)|refine nJ ?_|refine cr ?_)
 all_goals exact fin h (BN (by unfold AJ;(repeat' split)<;>first|omega|rfl))
theorem eK (U:s.length<4611686018427387904) (h:R (.ret (.Bq [.int .i32 (Lr s i).1,.int .i64 (Lr s i).2])) st):PC 325 [.str s,.int .i64 i] st R:=by
 refine pB Tryz.func325 ?_
 repeat' ((conv=>whnf);first|(refine BR ?_;intros)|(refine BS ?_ ?_<;>intro _)|refine lO ?_)
 all_goals exact fin h (by first|rw [QI AC]|rw [Lt AC AC])
theorem mi (hl:s.length<4611686018427387904) (h:R (.ret (.int .i64 (kD s i k))) st):PC 129 [.str s,.int .i64 i,.int .i64 k] st R:=by
 refine pB Tryz.func129 ?_
 repeat' ((conv=>whnf);first|(refine BR ?_;intros)|(refine BS ?_ ?_<;>intro _)|refine Ju ?_)
 all_goals try exact fin h (BN (fO AC))
 have hlen:(s.drop i.toNat).length=s.length - i.toNat:=List.length_drop
 generalize ht:s.drop i.toNat=t at hlen
 refine Pa (α:=Nat) (λ_=>[]) (λpos=>[(0,[.Ns t pos])]) [0,1,2,20] [] (λ_=>st) (λpos=>pos<=t.length/\BQ (λc=>AJ c==k) t=pos+BQ (λc=>AJ c==k) (t.drop pos)) (λpos=>t.length - pos) 0 ⟨Nat.zero_le _,GT⟩ Yl (St.le_refl _) ?_
 rintro pos ⟨hp,hi⟩
 repeat' ((conv=>whnf);first|(refine BR ?_;intros)|(refine BS ?_ ?_<;>intro _)|refine Ju ?_)
 .rename_i U c m hd hk
  have hr:=rune_le U hd
  conv=>whnf
  exact ⟨pos+m,⟨hr.1,N6 U hd (beq_iff_eq.2 hk) hi⟩,AC,Yl,St.le_refl _⟩
 .rename_i U c m hd hk
  have:=SD (p:=λd=>AJ (d.1:Nat)==k) hd (beq_eq_false_iff_ne.2 hk) hi
  exact fin h (BN (by rw [N2 AC AC,ht,this]))
 .rename_i U hls
  have:=PM U hi
  exact fin h (BN (by rw [N2 AC AC,ht,this];omega))
theorem Rk (h:R (.ret (.Bq [.int .i64 (L9 s).1,.int .i64 (L9 s).2])) st):PC 55 [.str s] st R:=by
 refine pB Tryz.func55 ?_
 repeat' ((conv=>whnf);first|(refine BR ?_;intros)|(refine BS ?_ ?_<;>intro _)|fail)
 refine Pa (α:=Nat) (λ_=>[]) (λpos=>[(0,[.Ns s pos])]) [0,9] [] (λ_=>st) (λpos=>pos<=s.length/\Br C5 s=pos+Br C5 (s.drop pos)) (λpos=>s.length - pos) 0 ⟨Nat.zero_le _,GT⟩ Yl (St.le_refl _) ?_
 rintro pos ⟨hp,hi⟩
 repeat' ((conv=>whnf);first|(refine BR ?_;intros)|(refine BS ?_ ?_<;>intro _)|refine lO ?_)
 .rename_i U c m hd hc hm
  rw [NK U hd] at hm
  have hk:=SD hd (by simp only [C5];have h1:c=65533:=hc;have h2:m=1:=Int.ofNat.inj hm;rw [h1,h2];rfl) hi
  exact fin h (by rw [cJ U hk])
 .rename_i U c m hd hc hm
  rw [NK U hd] at hm
  have hr:=rune_le U hd
  conv=>whnf
  exact ⟨pos+m,⟨hr.1,N6 U hd (by simp only [C5];have:¬m=1:=λe=>hm (by subst e;rfl);simp [this]) hi⟩,AC,Yl,St.le_refl _⟩
 .rename_i U c m hd hc
  have hr:=rune_le U hd
  conv=>whnf
  exact ⟨pos+m,⟨hr.1,N6 U hd (by simp only [C5];have:¬c=65533:=hc;simp [this]) hi⟩,AC,Yl,St.le_refl _⟩
 .rename_i U hls
  exact fin h (by rw [iF U (PM U hi)])
end
end Go.Proofs.Z
namespace Go.Aw
open Go
def AQ:List UInt8->Int
 |[]=> -1
 |a::_=>(a.toNat:Nat)
theorem dN (l:List UInt8): -1<=AQ l/\AQ l<=255:=by
 cases l with
 |nil=>exact ⟨Do,Do⟩
 |cons a r=>have:=a.toNat_lt;simp only [AQ];omega
def GN (l:List UInt8):Nat:=if AQ l=13/\AQ (l.drop 1)=10 then 2 else if AQ l=13\/AQ l=10\/AQ l=12 then 1 else 0
def UC (Cj:Int):Int:=(Cj - 1) / 8*8+9
def AP (l:List UInt8):Nat:=if 0<GN l then GN l else (AK l).2
def Ed (l:List UInt8) (line:Int):Int:=if 0<GN l then line+1 else line
def E7 (l:List UInt8) (Cj:Int):Int:=if 0<GN l then 1 else if AQ l=9 then UC Cj else Cj+1
theorem DL {i:Nat} {e:UInt8} (h:s[i]? =some e):AQ (s.drop i)=(e.toNat:Nat):=by rw [drop_at h];rfl
theorem Gv {i:Nat} (h:s.length<=i):AQ (s.drop i)= -1:=by rw [List.drop_eq_nil_iff.2 h];rfl
theorem V9 (l:List UInt8):GN l<=l.length:=by
 rcases l with _|⟨a,_|⟨b,r⟩⟩
 .decide
 .have e:¬(AQ [a]=13/\AQ ([a].drop 1)=10):=λh=>absurd (show (-1:Int)=10 from h.2) Do
  unfold GN
  rw [if_neg e,List.length_singleton]
  by_cases h:AQ [a]=13\/AQ [a]=10\/AQ [a]=12
  .rw [if_pos h];omega
  .rw [if_neg h];omega
 .unfold GN
  simp only [List.length_cons]
  by_cases U:AQ (a::b::r)=13/\AQ ((a::b::r).drop 1)=10
  .rw [if_pos U];omega
  .rw [if_neg U]
   by_cases h:AQ (a::b::r)=13\/AQ (a::b::r)=10\/AQ (a::b::r)=12
   .rw [if_pos h];omega
   .rw [if_neg h];omega
theorem E8 {l:List UInt8} (h:l≠[]):AP l<=l.length/\1<=AP l:=by
 unfold AP
 split
 .exact ⟨V9 l,FS⟩
 .exact ⟨F5 h,DK l⟩
theorem YU (s:List UInt8) (pos:Nat):¬pos<s.length\/(pos+AP (s.drop pos)<=s.length/\1<=AP (s.drop pos)):=by
 by_cases h:pos<s.length
 .have:=E8 (l:=s.drop pos) (λe=>by have:=congrArg List.length e;rw [List.length_drop,List.length_nil] at this;omega)
  rw [List.length_drop] at this
  exact .inr ⟨AC,this.2⟩
 .exact .inl h
end Go.Aw
namespace Go.Proofs.Z
open Go Go.Aw
def spot (pos:Nat) (line Cj:Int):V:=.agg [.int .i64 pos,.int .i64 line,.int .i64 Cj]
theorem PN {p:Nat} {p' l l' c U:Int} (e1:(p:Int)=p') (e2:l=l') (e3:c=U):Ay.ret (spot p l c)=Ay.ret (.agg [.int .i64 p',.int .i64 l',.int .i64 U]):=by subst e1;subst e2;subst e3;rfl
section
variable {st:St} {R:Ay->St->Prop}
theorem Yp (U:s.length<4611686018427387904) (hx:Lr s i=((c:Int),(m:Int))) (h:R (.ret (.Bq [.int .i32 c,.int .i64 m])) st):PC 325 [.str s,.int .i64 i] st R:=eK U (by rw [hx];exact h)
theorem QG (hl:s.length<4611686018427387904) (hp:pos<s.length) (h:R (.ret (.int .i64 (GN (s.drop pos):Nat))) st):PC 267 [.str s,.int .i64 pos] st R:=by
 obtain ⟨e,U⟩:∃e,s[pos]? =some e:=⟨s[pos],List.getElem?_eq_getElem hp⟩
 have he':s[(pos:Int).toNat]? =some e:=U
 have h0:=DL U
 have h1:AQ ((s.drop pos).drop 1)=AQ (s.drop (pos+1)):=by rw [List.drop_drop]
 refine pB Tryz.func267 ?_
 repeat' ((conv=>whnf);first|(refine BR ?_;intros)|(refine BS ?_ ?_<;>intro _)|fail)
 all_goals try have h2:=DL (show s[pos+1]? =some _ by assumption)
 all_goals try have h3:=Gv (s:=s) (i:=pos+1) AC
 all_goals exact fin h (BN (by unfold GN;rw [h1];(repeat' split)<;>omega))
theorem oq {Cj:Int} (U:1<=Cj) (h1:Cj<=4000000000000000000) (h:R (.ret (.int .i64 (UC Cj))) st):PC 326 [.int .i64 Cj] st R:=by
 refine pB Tryz.func326 ?_
 repeat' ((conv=>whnf);first|(refine BR ?_;intros)|(refine BS ?_ ?_<;>intro _)|fail)
 exact fin h (BN (by unfold UC;omega))
theorem YC {line Cj:Int} (hl:s.length<4611686018427387904) (hp:pos<s.length) (h0:1<=line) (h1:line<=4000000000000000000) (h2:1<=Cj) (h3:Cj<=4000000000000000000)
 (h:R (.ret (spot (pos+AP (s.drop pos)) (Ed (s.drop pos) line) (E7 (s.drop pos) Cj))) st):PC 268 [.str s,spot pos line Cj] st R:=by
 obtain ⟨e,he⟩:∃e,s[pos]? =some e:=⟨s[pos],List.getElem?_eq_getElem hp⟩
 have he':s[(pos:Int).toNat]? =some e:=he
 have hh:=DL he
 have hn:=V9 (s.drop pos)
 rw [List.length_drop] at hn
 rcases hd:AK (s.drop pos) with ⟨c,m⟩
 have hr:=rune_le hp hd.symm
 have hx:Lr s pos=((c:Int),(m:Int)):=by rw [Lt AC AC,NK hp hd.symm]
 refine pB Tryz.func268 ?_
 repeat' ((conv=>whnf);first|(refine BR ?_;intros)|(refine BS ?_ ?_<;>intro _)|refine QG hl hp ?_|refine Yp hl hx ?_|refine oq h2 h3 ?_)
 .have U:0<GN (s.drop pos):=AC
  exact fin h (PN (by unfold AP;rw [if_pos U];omega) (by unfold Ed;rw [if_pos U]) (by unfold E7;rw [if_pos U]))
 .have U:¬0<GN (s.drop pos):=AC
  exact fin h (PN (by unfold AP;rw [if_neg U,hd];omega) (by unfold Ed;rw [if_neg U]) (by unfold E7;rw [if_neg U,if_pos AC]))
 .have U:¬0<GN (s.drop pos):=AC
  exact fin h (PN (by unfold AP;rw [if_neg U,hd];omega) (by unfold Ed;rw [if_neg U]) (by unfold E7;rw [if_neg U,if_neg AC]))
end
end Go.Proofs.Z
namespace Go.Aw
open Go
def BI (l:List UInt8) (k:Nat) (p:Int×Int):Int×Int:=
 match l with
 |[]=>p
 |a::r=>if k<AP (a::r) then p else BI ((a::r).drop (AP (a::r))) (k - AP (a::r)) (Ed (a::r) p.1,E7 (a::r) p.2)
termination_by l.length
decreasing_by
 have:=E8 (l:=a::r) GT
 simp only [List.length_drop,List.length_cons]
 omega
theorem Fy (k:Nat) (p:Int×Int):BI [] k p=p:=by rw [BI]
theorem EH {l:List UInt8} {k:Nat} {p:Int×Int} (h:k<AP l):BI l k p=p:=by
 cases l with
 |nil=>exact Fy k p
 |cons a r=>rw [BI,if_pos h]
theorem DT {l:List UInt8} {k:Nat} {p:Int×Int} (U:l≠[]) (h:¬k<AP l):BI l k p=BI (l.drop (AP l)) (k - AP l) (Ed l p.1,E7 l p.2):=by
 cases l with
 |nil=>exact absurd rfl U
 |cons a r=>rw [BI,if_neg h]
theorem EI {l:List UInt8} {p:Int×Int}:BI l 0 p=p:=by
 cases l with
 |nil=>exact Fy 0 p
 |cons a r=>exact EH (E8 GT).2
theorem Rz (h:pos<s.length):s.drop pos≠[]:=λe=>by
 have:=congrArg List.length e;rw [List.length_drop,List.length_nil] at this;omega
theorem PW {k:Nat} {line Cj:Int} (h:pos<s.length) (U:¬pos+k<pos+AP (s.drop pos)):
 BI (s.drop pos) k (line,Cj)=BI (s.drop (pos+AP (s.drop pos))) (k - AP (s.drop pos)) (Ed (s.drop pos) line,E7 (s.drop pos) Cj):=by
 rw [DT (Rz h) AC,List.drop_drop]
theorem SF (l:List UInt8) (line:Int):line<=Ed l line/\Ed l line<=line+1:=by unfold Ed;split<;>omega
theorem N7 (l:List UInt8) {Cj:Int} (h:1<=Cj):1<=E7 l Cj/\E7 l Cj<=Cj+8:=by
 unfold E7 UC
 by_cases U:0<GN l
 .rw [if_pos U];omega
 .rw [if_neg U]
  by_cases h2:AQ l=9
  .rw [if_pos h2];omega
  .rw [if_neg h2];omega
end Go.Aw
namespace Go.Proofs.Z
open Go Go.Aw
section
variable {st:St} {R:Ay->St->Prop}
theorem qe {k:Nat} (hl:s.length<=100000000) (hk:k<=s.length) (h:R (.ret (.Bq [.int .i64 (BI s k (1,1)).1,.int .i64 (BI s k (1,1)).2,.int .i64 0])) st):PC 200 [.str s,.int .i64 k] st R:=by
 refine pB Tryz.func200 ?_
 repeat' ((conv=>whnf);first|exact Df|(refine BR ?_;intros)|(refine Dg ?_ ?_ ?_;rotate_left)|(refine BS ?_ ?_<;>intro _)|with_reducible refine WF ?_)
 refine R1 (α:=Nat) (β:=Int) (γ:=Int) (λ_ _ _=>[]) (λpos line Cj=>[(0,[.int .i64 (pos:Int),.int .i64 line,.int .i64 Cj])]) [0,1,7] [] (λ_ _ _=>st)
  (λpos line Cj=>pos<=k/\1<=line/\line<=1+(pos:Int)/\1<=Cj/\Cj<=1+8*(pos:Int)/\BI s k (1,1)=BI (s.drop pos) (k - pos) (line,Cj)) (λpos _ _=>k - pos) 0 1 1 ⟨AC,AC,AC,AC,AC,rfl⟩ Yl (St.le_refl _) ?_
 rintro pos line Cj ⟨h1,h2,h3,h4,h5,U⟩
 have hr:=YU s pos
 have hL:=SF (s.drop pos) line
 have hC:=N7 (s.drop pos) h4
 repeat' ((conv=>whnf);first|exact Df|(refine BR ?_;intros)|(refine Dg ?_ ?_ ?_;rotate_left)|(refine BS ?_ ?_<;>intro _)|refine YC AC AC AC AC AC AC ?_|with_reducible refine WF ?_)
 .exact fin h (by rw [U,EH AC])
 .conv=>whnf
  exact ⟨(pos+AP (s.drop pos),Ed (s.drop pos) line,E7 (s.drop pos) Cj),⟨UV,UV,UV,UV,UV,by dsimp only;rw [U,PW AC AC,Nat.sub_sub]⟩,UV,Yl,St.le_refl _⟩
 .have hz:k - pos=0:=AC
  exact fin h (by rw [U,hz,EI])
theorem ly {U:Int} (hl:s.length<=100000000) (h0:1<=U) (h1:U<=2147483648) (h:R (.ret (.Bq [.int .i64 (BI s s.length (1,U)).2,.int .i64 0])) st):PC 201 [.str s,.int .i64 U] st R:=by
 refine pB Tryz.func201 ?_
 repeat' ((conv=>whnf);first|(refine BR ?_;intros)|(refine BS ?_ ?_<;>intro _)|fail)
 refine R1 (α:=Nat) (β:=Int) (γ:=Int) (λ_ _ _=>[]) (λpos line Cj=>[(0,[.int .i64 (pos:Int),.int .i64 line,.int .i64 Cj])]) [0,6] [] (λ_ _ _=>st)
  (λpos line Cj=>pos<=s.length/\1<=line/\line<=1+(pos:Int)/\1<=Cj/\Cj<=U+8*(pos:Int)/\BI s s.length (1,U)=BI (s.drop pos) (s.length - pos) (line,Cj)) (λpos _ _=>s.length - pos) 0 1 U ⟨AC,AC,AC,AC,AC,rfl⟩ Yl (St.le_refl _) ?_
 rintro pos line Cj ⟨h1,h2,h3,h4,h5,h6⟩
 have hr:=YU s pos
 have hL:=SF (s.drop pos) line
 have hC:=N7 (s.drop pos) h4
 repeat' ((conv=>whnf);first|(refine BR ?_;intros)|(refine BS ?_ ?_<;>intro _)|refine YC AC AC AC AC AC AC ?_)
 .conv=>whnf
  exact ⟨(pos+AP (s.drop pos),Ed (s.drop pos) line,E7 (s.drop pos) Cj),⟨UV,UV,UV,UV,UV,by dsimp only;rw [h6,PW AC AC,Nat.sub_sub]⟩,UV,Yl,St.le_refl _⟩
 .have hz:s.length - pos=0:=AC
  exact fin h (by rw [h6,hz,EI])
end
end Go.Proofs.Z
namespace Go.Aw
open Go
theorem nH {st:St} {γ δ:Type} (f:α->β->γ->δ->List (Nat×V)) (g:α->β->γ->δ->List (Nat×List V)) (keep kb:List Nat) (S:α->β->γ->δ->St) (J:α->β->γ->δ->Prop) (U:α->β->γ->δ->Nat) (x0:α) (y0:β) (z0:γ) (u0:δ) (h0:J x0 y0 z0 u0)
 (he:(env.L0 (f x0 y0 z0 u0) (g x0 y0 z0 u0) keep kb).Ep env) (hs:St.le (S x0 y0 z0 u0) st)
 (hb:∀x y z u,J x y z u->ih (BL (λenv' st'=>∃p:α×β×γ×δ,J p.1 p.2.1 p.2.2.1 p.2.2.2/\U p.1 p.2.1 p.2.2.1 p.2.2.2<U x y z u/\(env.L0 (f p.1 p.2.1 p.2.2.1 p.2.2.2) (g p.1 p.2.1 p.2.2.1 p.2.2.2) keep kb).Ep env'/\St.le (S p.1 p.2.1 p.2.2.1 p.2.2.2) st') Q) (env.L0 (f x y z u) (g x y z u) keep kb) (S x y z u)):
 ∃(α:Type) (E:α->Env) (S:α->St) (J:α->Prop) (U:α->Nat) (x0:α),J x0/\(E x0).Ep env/\St.le (S x0) st/\
  ∀x,J x->ih (BL (λenv' st'=>∃y,J y/\U y<U x/\(E y).Ep env'/\St.le (S y) st') Q) (E x) (S x):=
 ⟨α×β×γ×δ,λp=>env.L0 (f p.1 p.2.1 p.2.2.1 p.2.2.2) (g p.1 p.2.1 p.2.2.1 p.2.2.2) keep kb,λp=>S p.1 p.2.1 p.2.2.1 p.2.2.2,λp=>J p.1 p.2.1 p.2.2.1 p.2.2.2,λp=>U p.1 p.2.1 p.2.2.1 p.2.2.2,(x0,y0,z0,u0),h0,he,hs,λp h=>hb p.1 p.2.1 p.2.2.1 p.2.2.2 h⟩
def Dn (s:List UInt8) (U pos:Nat):List (List UInt8):=
 if h:pos<s.length then
  if 0<GN (s.drop pos) then (s.take pos).drop U::Dn s (pos+GN (s.drop pos)) (pos+GN (s.drop pos)) else Dn s U (pos+1)
 else [s.drop U]
termination_by s.length - pos
decreasing_by all_goals omega
theorem pk {a b:Int} {K:Int->Prop} (h:¬a<b) (k:K a):∃r,r=(if a<b then b else a)/\K r:=⟨a,(if_neg h).symm,k⟩
theorem pn {a b:Int} {K:Int->Prop} (h:a<b) (k:K b):∃r,r=(if a<b then b else a)/\K r:=⟨b,(if_pos h).symm,k⟩
theorem bY {l:List (List UInt8)} {own:AB} {st:St} {K:V->St->Prop} (h:own.BG st) (hb:l.length<=999999999)
 (k:∀U:AB,U.BG st->K (.slice 1 (strs (l++[x])) U) (U.st st (l++[x]).length)):Ag 1 16 (strs l) own [[.str x]] (own.st st l.length) K:=
 Nc (new:=[x]) h ke k
theorem Z0 {U:Nat} (h:pos<s.length) (k:0<GN (s.drop pos)):Dn s U pos=(s.take pos).drop U::Dn s (pos+GN (s.drop pos)) (pos+GN (s.drop pos)):=by
 rw [Dn,dif_pos h,if_pos k]
theorem ZY {U:Nat} (h:pos<s.length) (k:¬0<GN (s.drop pos)):Dn s U pos=Dn s U (pos+1):=by
 rw [Dn,dif_pos h,if_neg k]
theorem VY {U:Nat} (h:¬pos<s.length):Dn s U pos=[s.drop U]:=by
 rw [Dn,dif_neg h]
end Go.Aw
namespace Go.Proofs.Z
open Go Go.Aw
section
variable {st:St} {R:Ay->St->Prop}
attribute [local irreducible] Go.Aw.Ag
theorem Yg (hl:s.length<=100000000) (h:∀own:AB,own.BG st->R (.ret (.slice 1 (strs (Dn s 0 0)) own)) (own.st st (Dn s 0 0).length)):PC 199 [.str s] st R:=by
 refine pB Tryz.func199 ?_
 repeat' ((conv=>whnf);first|(refine BR ?_;intros)|(refine BS ?_ ?_<;>intro _)|refine qv (λ_=>?_) ?_|fail)
 refine nH (α:=Nat) (β:=Nat) (γ:=List (List UInt8)) (δ:=AB) (λpos U l own=>[(5,.int .i64 (pos:Int)),(4,.int .i64 (U:Int)),(3,.slice 1 (strs l) own)]) (λ_ _ _ _=>[]) [0] [] (λ_ _ l own=>own.st st l.length)
  (λpos U l own=>U<=pos/\pos<=s.length/\l.length<=pos/\own.BG st/\Dn s 0 0=l++Dn s U pos) (λpos _ _ _=>s.length - pos) 0 0 [] .full ⟨AC,AC,GT,trivial,rfl⟩ Yl (St.le_refl _) ?_
 rintro pos U l own ⟨h1,h2,h3,h4,h5⟩
 have hn:=V9 (s.drop pos)
 rw [List.length_drop] at hn
 repeat' ((conv=>whnf);first|(refine BR ?_;intros)|(refine BS ?_ ?_<;>intro _)|refine qv (λ_=>?_) ?_|refine QG AC AC ?_|refine pk AC ?_|refine pn AC ?_|refine bY h4 AC (λown' ho=>?_))
 .conv=>whnf
  exact ⟨(pos+GN (s.drop pos),pos+GN (s.drop pos),l++[(s.take pos).drop U],own'),⟨Nat.le_refl _,AC,by grind,ho,by dsimp only;rw [h5,Z0 AC AC,List.append_assoc];rfl⟩,AC,Yl,St.le_refl _⟩
 .conv=>whnf
  exact ⟨(pos+1,U,l,own),⟨by grind,AC,by grind,h4,by dsimp only;rw [h5,ZY AC AC]⟩,AC,Yl,St.le_refl _⟩
 .exact fin (by have:=h own' ho;rw [h5,VY AC] at this;grind) rfl
end
end Go.Proofs.Z
namespace Go.Aw
open Go
def pD:List (List UInt8):=[[95],[99,97,115,101],[99,108,97,115,115],[100,97,116,97],[100,101,102,97,117,108,116],[100,101,114,105,118,105,110,103],[100,111],[101,108,115,101],[102,111,114,101,105,103,110],[105,102],[105,109,112,111,114,116],[105,110],[105,110,102,105,120],[105,110,102,105,120,108],[105,110,102,105,120,114],[105,110,115,116,97,110,99,101],[108,101,116],[109,111,100,117,108,101],[110,101,119,116,121,112,101],[111,102],[116,104,101,110],[116,121,112,101],[119,104,101,114,101]]
def eA:List (List UInt8):=[[46,46],[58],[58,58],[61],[92],[124],[60,45],[45,62],[64],[126],[61,62]]
def n7 (w:List UInt8):Bool:=pD.contains w
def kP (w:List UInt8):Int:=if eA.contains w then 10 else if AQ w=58 then 6 else 5
def Hk (c:Int):Bool:=AJ c==2||AJ c==3||AJ c==4||c==39
def Kb (l:List UInt8):Nat:=BQ Hk l
def Gt (l:List UInt8):Int:=match l with
 |[]=>0
 |a::r=>AJ ((AK (a::r)).1:Nat)
def Bw (l:List UInt8):Int×Nat:=
 if Gt l=6 then (15,1)
 else if Gt l=5 then (kP (l.take (BQ (λc=>AJ c==5) l)),BQ (λc=>AJ c==5) l)
 else if Gt l=3 then (2,Kb l)
 else if Gt l=2 then (if n7 (l.take (Kb l)) then 9 else 1,Kb l)
 else (0,0)
def M1 (k:Int):Int:=if k=1 then 3 else if k=2 then 4 else if k=5 then 7 else if k=6 then 8 else 0
theorem CP (c:UInt8) (l:List UInt8):[c].isPrefixOf l=decide (AQ l=(c.toNat:Nat)):=by
 cases l with
 |nil=>exact (decide_eq_false (λe=>by have h:(-1:Int)=(c.toNat:Nat):=e;omega)).symm
 |cons a r=>
  show (c==a&&true)=decide (((a.toNat:Nat):Int)=(c.toNat:Nat))
  rw [Bool.and_true,Bool.eq_iff_iff,beq_iff_eq,decide_eq_true_iff]
  exact ⟨λe=>by rw [e],λe=>UInt8.toNat_inj.1 AC⟩
end Go.Aw
namespace Go.Proofs.Z
open Go Go.Aw
section
variable {st:St} {R:Ay->St->Prop}
theorem Xa (h:R (.ret (.bool (n7 w))) st):PC 381 [.str w] st R:=by
 refine pB Tryz.func381 ?_
 repeat' ((conv=>whnf);first|(refine BR ?_;intros)|(refine BS ?_ ?_<;>intro _)|fail)
 all_goals exact fin h (congrArg (λb=>Ay.ret (V.bool b)) (by first|(subst_vars;decide)|(simp only [n7,pD];simp_all)))
theorem aV (h:R (.ret (.int .i64 (kP w))) st):PC 379 [.str w] st R:=by
 refine pB Tryz.func379 ?_
 repeat' ((conv=>whnf);first|(refine BR ?_;intros)|(refine BS ?_ ?_<;>intro _)|refine HK ?_)
 all_goals try rename_i U
 all_goals try rw [CP,decide_eq_true_eq] at U
 all_goals try rw [CP,decide_eq_false_iff_not] at U
 all_goals exact fin h (BN (by first|(subst_vars;decide)|(have U:AQ w=58:=U;simp only [kP,eA];simp_all)|(have U:¬AQ w=58:=U;simp only [kP,eA];simp_all)))
theorem gO {c:Int} (h:R (.ret (.bool (Hk c))) st):PC 411 [.int .i32 c] st R:=by
 refine pB Tryz.func411 ?_
 repeat' ((conv=>whnf);first|(refine BR ?_;intros)|(refine BS ?_ ?_<;>intro _)|refine Ju ?_)
 all_goals exact fin h (congrArg (λb=>Ay.ret (V.bool b)) (by simp only [Hk];simp_all))
theorem Ua (h:R (.ret (.int .i64 (M1 k))) st):PC 333 [.int .i64 k] st R:=by
 refine pB Tryz.func333 ?_
 repeat' ((conv=>whnf);first|(refine BR ?_;intros)|(refine BS ?_ ?_<;>intro _)|fail)
 all_goals exact fin h (BN (by unfold M1;(repeat' split)<;>omega))
end
theorem MS (s:List UInt8):Gt s=if (Lr s 0).2=0 then 0 else AJ (Lr s 0).1:=by
 cases s with
 |nil=>rw [QI GT];rfl
 |cons a r=>
  have U:=DK (a::r)
  rw [Lt AC GT,show (0:Int).toNat=0 from rfl,List.drop_zero,XS GT,if_neg UV]
  rfl
section
variable {st:St} {R:Ay->St->Prop}
theorem nL (hl:s.length<4611686018427387904) (h:R (.ret (.str (s.take (Kb s)))) st):PC 380 [.str s] st R:=by
 refine pB Tryz.func380 ?_
 repeat' ((conv=>whnf);first|(refine BR ?_;intros)|(refine BS ?_ ?_<;>intro _)|fail)
 refine Pa (α:=Nat) (λ_=>[]) (λpos=>[(0,[.Ns s pos])]) [0,6] [] (λ_=>st) (λpos=>pos<=s.length/\Kb s=pos+BQ Hk (s.drop pos)) (λpos=>s.length - pos) 0 ⟨Nat.zero_le _,by simp [Kb]⟩ Yl (St.le_refl _) ?_
 rintro pos ⟨hp,hi⟩
 repeat' ((conv=>whnf);first|(refine BR ?_;intros)|(refine BS ?_ ?_<;>intro _)|refine gO ?_)
 .rename_i U c m hd hk
  have hr:=rune_le U hd
  conv=>whnf
  exact ⟨pos+m,⟨hr.1,N6 U hd hk hi⟩,AC,Yl,St.le_refl _⟩
 .rename_i U c m hd hk
  have:=SD (p:=λd=>Hk (d.1:Nat)) hd hk hi
  exact fin h (by rw [this];rfl)
 .rename_i U
  have:=PM U hi
  exact fin h (by rw [this,List.take_of_length_le AC])
theorem ji (U:s.length<4611686018427387904) (h:R (.ret (.int .i64 (Gt s))) st):PC 378 [.str s] st R:=by
 refine pB Tryz.func378 ?_
 repeat' ((conv=>whnf);first|(refine BR ?_;intros)|(refine BS ?_ ?_<;>intro _)|refine eK U ?_|refine Ju ?_)
 .exact fin h (BN (by rw [MS,if_pos ‹_›]))
 .exact fin h (BN (by rw [MS,if_neg ‹_›]))
end
theorem qg:kD s 0 k=(BQ (λc=>AJ c==k) s:Nat):=by
 rw [N2 AC AC];simp
theorem ZN (h:¬Gt s=0):0<s.length:=by
 cases s with
 |nil=>exact absurd rfl h
 |cons a r=>simp
section
variable {st:St} {R:Ay->St->Prop}
theorem mj (U:s.length<4611686018427387904) (h:R (.ret (.int .i64 (BQ (λc=>AJ c==k) s:Nat))) st):PC 129 [.str s,.int .i64 0,.int .i64 k] st R:=mi U (by rw [qg];exact h)
theorem YB (U:s.length<4611686018427387904) (h:R (.ret (.Bq [.int .i64 (Bw s).1,.str (s.take (Bw s).2)])) st):PC 332 [.str s] st R:=by
 have hr:=E6 (λc=>AJ c==5) s
 have hne:Gt s=0\/0<s.length:=by
  by_cases h0:Gt s=0
  .exact .inl h0
  .exact .inr (ZN h0)
 refine pB Tryz.func332 ?_
 repeat' ((conv=>whnf);first|exact Df|(refine BR ?_;intros)|(refine Dg ?_ ?_ ?_;rotate_left)|(refine BS ?_ ?_<;>intro _)|refine ji U ?_|refine mj U ?_|refine aV ?_|refine nL U ?_|refine Xa ?_|with_reducible refine WF ?_)
 .exact fin h (by unfold Bw;rw [if_pos ‹_›];rfl)
 .exact fin h (by unfold Bw;rw [if_neg AC,if_pos AC];rfl)
 .exact fin h (by unfold Bw;rw [if_neg AC,if_neg AC,if_pos AC])
 .exact fin h (by unfold Bw;rw [if_neg AC,if_neg AC,if_neg AC,if_pos AC,if_pos ‹_›])
 .exact fin h (by unfold Bw;rw [if_neg AC,if_neg AC,if_neg AC,if_pos AC,if_neg ke])
 .exact fin h (by unfold Bw;rw [if_neg AC,if_neg AC,if_neg AC,if_neg AC];rfl)
end
end Go.Proofs.Z
namespace Go.Aw
open Go
def G6 (s:List UInt8) (n:Nat) (k:Int):Int×Nat:=
 if h:n<s.length then
  if (k=2\/k=4)/\AQ (s.drop n)=46/\M1 (Bw (s.drop (n+1))).1≠0 then G6 s (n+1+(Bw (s.drop (n+1))).2) (M1 (Bw (s.drop (n+1))).1) else (k,n)
 else (k,n)
termination_by s.length - n
decreasing_by omega
def F2 (s:List UInt8):Int×Nat:=G6 s (Bw s).2 (Bw s).1
theorem Un {n:Nat} (h:¬(n<s.length/\(k=2\/k=4)/\AQ (s.drop n)=46/\M1 (Bw (s.drop (n+1))).1≠0)):G6 s n k=(k,n):=by
 rw [G6]
 split
 .rw [if_neg (λe=>h ⟨FS,e⟩)]
 .rfl
theorem fR {n:Nat} (h:n<s.length) (e:(k=2\/k=4)/\AQ (s.drop n)=46/\M1 (Bw (s.drop (n+1))).1≠0):G6 s n k=G6 s (n+1+(Bw (s.drop (n+1))).2) (M1 (Bw (s.drop (n+1))).1):=by
 rw [G6,dif_pos h,if_pos e]
theorem JJ (s:List UInt8):(Bw s).2<=s.length:=by
 have hf:Gt s=0\/0<s.length:=by
  cases s with
  |nil=>exact .inl rfl
  |cons a r=>exact .inr GT
 have U:=E6 (λc=>AJ c==5) s
 have h2:Kb s<=s.length:=E6 _ s
 unfold Bw
 (repeat' split)<;>first|omega|(dsimp only;omega)
end Go.Aw
namespace Go.Proofs.Z
open Go Go.Aw
section
variable {st:St} {R:Ay->St->Prop}
theorem oS {n:Nat} (U:w.length=n) (h:R (.ret (.bool (decide (AQ (s.drop n)=46)))) st):PC 130 [.str (s.drop ((w.length:Nat):Int).toNat),.str [46]] st R:=by
 refine HK ?_
 rw [CP,U,show ((n:Nat):Int).toNat=n by omega]
 exact h
theorem fj {n:Nat} (hl:s.length<=100000000) (U:w.length=n) (h:R (.ret (.Bq [.int .i64 (Bw (s.drop (n+1))).1,.str ((s.drop (n+1)).take (Bw (s.drop (n+1))).2)])) st):PC 332 [.str (s.drop (((w.length:Nat):Int)+1).toNat)] st R:=by
 rw [U,show (((n:Nat):Int)+1).toNat=n+1 by omega]
 exact YB M2 h
theorem kJ {v:List UInt8} {n:Nat} {K:List UInt8->Prop} (U:w.length=n) (h2:v.length=m) (h:n+1+m<=s.length) (k:K (s.take (n+1+m))):
 ((0:Int)<=0/\0<=((w.length:Nat):Int)+1+((v.length:Nat):Int)/\((w.length:Nat):Int)+1+((v.length:Nat):Int)<=s.length)/\∀s',s'=(s.take (((w.length:Nat):Int)+1+((v.length:Nat):Int)).toNat).drop (0:Int).toNat->K s':=by
 subst U;subst h2
 refine WO AC AC ?_
 rw [show (((w.length:Nat):Int)+1+((v.length:Nat):Int)).toNat=w.length+1+v.length by omega]
 exact k
theorem cT (s:List UInt8) (n:Nat):¬AQ (s.drop n)=46\/n<s.length:=by
 by_cases h:n<s.length
 .exact .inr h
 .rw [Gv AC];exact .inl Do
theorem lA (hl:s.length<=100000000) (h:∀ahead:Int,R (.ret (.Bq [.int .i64 (F2 s).1,.str (s.take (F2 s).2),.int .i64 ahead])) st):PC 271 [.str s] st R:=by
 refine pB Tryz.func271 ?_
 repeat' ((conv=>whnf);first|exact Df|(refine BR ?_;intros)|(refine Dg ?_ ?_ ?_;rotate_left)|(refine BS ?_ ?_<;>intro _)|refine YB AC ?_|with_reducible refine WF ?_)
 refine R1 (α:=Nat) (β:=Int) (γ:=Int) (λn k a=>[(2,.int .i64 k),(3,.str (s.take n)),(4,.int .i64 a)]) (λ_ _ _=>[]) [0] [] (λ_ _ _=>st) (λn k _=>n<=s.length/\F2 s=G6 s n k) (λn _ _=>s.length - n) (Bw s).2 (Bw s).1 0 ⟨JJ s,rfl⟩ Yl (St.le_refl _) ?_
 rintro n k a ⟨h1,h2⟩
 have U:(s.take n).length=n:=NE
 have hp:=JJ (s.drop (n+1))
 rw [List.length_drop] at hp
 have hdl:=cT s n
 have ht2:((s.drop (n+1)).take (Bw (s.drop (n+1))).2).length=(Bw (s.drop (n+1))).2:=by rw [List.length_take,List.length_drop];omega
 repeat' ((conv=>whnf);first|with_reducible refine kJ U ht2 AC ?_|exact Df|(refine BR ?_;intros)|(refine Dg ?_ ?_ ?_;rotate_left)|(refine BS ?_ ?_<;>intro _)|refine oS U ?_|refine fj hl U ?_|refine Ua ?_|with_reducible refine WF ?_)
 all_goals first
  |exact fin (by have:=h a;rw [h2,Un AC] at this;exact this) rfl
  |(conv=>whnf
    exact ⟨(n+1+(Bw (s.drop (n+1))).2,M1 (Bw (s.drop (n+1))).1,(((s.take n).length:Nat):Int)+1),⟨UV,by dsimp only;rw [h2,fR AC ⟨AC,AC,AC⟩]⟩,UV,Yl,St.le_refl _⟩)
end
end Go.Proofs.Z
namespace Go.Aw
open Go
def GK (s:List UInt8) (pos:Nat):Int×Int:=if (F2 (s.drop pos)).1=0 then (0,0) else ((F2 (s.drop pos)).1,(pos+(F2 (s.drop pos)).2:Nat))
theorem fS {n:Nat} (h:n<=s.length):(G6 s n k).2<=s.length:=by
 fun_induction G6 s n k with
 |case1 n k hn hc U=>
  have:=JJ (s.drop (n+1))
  rw [List.length_drop] at this
  exact U AC
 |case2 n k hn hc=>exact h
 |case3 n k hn=>exact h
theorem UZ (s:List UInt8):(F2 s).2<=s.length:=fS (JJ s)
end Go.Aw
namespace Go.Proofs.Z
open Go Go.Aw
section
variable {st:St} {R:Ay->St->Prop}
theorem gR (hl:s.length<=100000000) (hp:pos<s.length) (h:R (.ret (.Bq [.int .i64 (GK s pos).1,.int .i64 (GK s pos).2])) st):PC 204 [.str s,.int .i64 pos] st R:=by
 have ht:((s.drop pos).take (F2 (s.drop pos)).2).length=(F2 (s.drop pos)).2:=by rw [List.length_take];have:=UZ (s.drop pos);omega
 have hw:=UZ (s.drop pos)
 rw [List.length_drop] at hw
 have U:(s.drop pos).length<=100000000:=M2
 refine pB Tryz.func204 ?_
 repeat' ((conv=>whnf);first|(refine BR ?_;intros)|(refine BS ?_ ?_<;>intro _)|refine lA U (λ_=>?_))
 .exact fin h (by unfold GK;rw [if_pos ‹_›];simp_all)
 .exact fin h (by unfold GK;rw [if_neg ‹_›];simp only [];rw [show (pos:Int).toNat=pos by omega] at *;rw [ht];rfl)
end
end Go.Proofs.Z
namespace Go.Aw
open Go
def Bx (base:Int):List UInt8->Nat
 |[]=>0
 |a::r=>if BA ((a.toNat:Nat):Int) base<0 then 0 else Bx base r+1
def D9 (l:List UInt8):Int:=if AQ (l.drop 1)=111\/AQ (l.drop 1)=79 then 8 else if AQ (l.drop 1)=120\/AQ (l.drop 1)=88 then 16 else 10
def Cm (l:List UInt8):Int×Nat:=if AQ l=48/\D9 l≠10/\Bx (D9 l) (l.drop 2)≠0 then (D9 l,2) else (10,0)
def Ke (l:List UInt8):Nat:=if AQ l=43\/AQ l=45 then 1 else 0
def K6 (l:List UInt8):Nat:=
 if (AQ l=101\/AQ l=69)/\Bx 10 (l.drop (1+Ke (l.drop 1)))≠0 then 1+Ke (l.drop 1)+Bx 10 (l.drop (1+Ke (l.drop 1))) else 0
def HA (l:List UInt8):Nat:=if AQ l=46/\Bx 10 (l.drop 1)≠0 then 1+Bx 10 (l.drop 1) else 0
def Ej (l:List UInt8):Int×Nat:=
 if (Cm l).1≠10 then (11,2+Bx (Cm l).1 (l.drop 2))
 else if Bx 10 l=0 then (0,0)
 else
  (if 0<HA (l.drop (Bx 10 l))\/0<K6 (l.drop (Bx 10 l+HA (l.drop (Bx 10 l)))) then 12 else 11,
    Bx 10 l+HA (l.drop (Bx 10 l))+K6 (l.drop (Bx 10 l+HA (l.drop (Bx 10 l)))))
theorem Cc {l:List UInt8} {k:Nat} (h:0<=AQ (l.drop k)):k<l.length:=by
 by_cases U:k<l.length
 .exact U
 .rw [List.drop_eq_nil_iff.2 AC] at h;exact absurd h Do
theorem EV {a:UInt8} (h:a.toNat<128):AK (a::r)=(a.toNat,1):=by
 unfold AK;simp_all
theorem NL {a:UInt8} (h:¬a.toNat<128):128<=(AK (a::r)).1:=by
 unfold AK;grind
theorem Hz {c:Int} (h:128<=c):BA c base<0:=by
 have U:(if 48<=c/\c<=57 then c - 48 else if 97<=c/\c<=102 then c - 87 else if 65<=c/\c<=70 then c - 55 else 16)=16:=by
  rw [if_neg AC,if_neg AC,if_neg AC]
 unfold BA;grind
theorem D5 (base:Int) (l:List UInt8):Bx base l<=l.length:=by
 induction l with
 |nil=>exact Nat.le_refl _
 |cons a r U=>unfold Bx;grind
theorem LI (h:pos<s.length) (U:(c,m)=AK (s.drop pos)) (k:¬BA (c:Int) base<0):m=1/\Bx base (s.drop pos)=Bx base (s.drop (pos+1))+1:=by
 rw [List.drop_eq_getElem_cons h] at U |-
 by_cases hb:s[pos].toNat<128
 .rw [EV hb] at U
  injection U with h1 h2
  subst h1;subst h2
  exact ⟨rfl,by rw [Bx,if_neg k]⟩
 .have:=NL (r:=s.drop (pos+1)) hb
  rw [<-U] at this
  exact absurd (Hz (c:=(c:Int)) (base:=base) AC) k
theorem G5 (h:pos<s.length) (U:(c,m)=AK (s.drop pos)) (k:BA (c:Int) base<0):Bx base (s.drop pos)=0:=by
 rw [List.drop_eq_getElem_cons h] at U |-
 by_cases hb:s[pos].toNat<128
 .rw [EV hb] at U
  injection U with h1 h2
  subst h1
  rw [Bx,if_pos k]
 .rw [Bx,if_pos (Hz AC)]
theorem JO (h:s.length<=pos):Bx base (s.drop pos)=0:=by rw [List.drop_eq_nil_iff.2 h];rfl
theorem Tv (l:List UInt8):HA l<=l.length:=by
 have:=D5 10 (l.drop 1)
 rw [List.length_drop] at this
 unfold HA;grind
theorem X5 (l:List UInt8):K6 l<=l.length:=by
 have:=D5 10 (l.drop (1+Ke (l.drop 1)))
 rw [List.length_drop] at this
 unfold K6;grind
theorem Sd (l:List UInt8):(Ej l).2<=l.length:=by
 have h1:=D5 10 l
 have U:=D5 (Cm l).1 (l.drop 2)
 have h3:=Tv (l.drop (Bx 10 l))
 have h4:=X5 (l.drop (Bx 10 l+HA (l.drop (Bx 10 l))))
 rw [List.length_drop] at U h3 h4
 have h5:(Cm l).1≠10->2<=l.length:=λe=>by
  unfold Cm at e
  split at e
  .rename_i hc
   have:=D5 (D9 l) (l.drop 2)
   grind
  omega
 unfold Ej
 grind
theorem ZI {a:Int} {K:Int->Prop} (U: -2147483648<=a) (h2:a<=2147483647) (k:K a):∃r,r=IntKind.i32.wrap a/\K r:=⟨a,(IntWalk.i32_in _ ⟨U,h2⟩).symm,k⟩
end Go.Aw
namespace Go.Proofs.Z
open Go Go.Aw
section
variable {st:St} {R:Ay->St->Prop}
theorem K1 {c b:Int} (h:R (.ret (.int .i64 (BA c b))) st):PC 374 [.int .i32 c,.int .i64 b] st R:=by
 refine pB Tryz.func374 ?_
 repeat' ((conv=>whnf);first|(refine BR ?_;intros)|(refine BS ?_ ?_<;>intro _)|refine ZI AC AC ?_)
 all_goals exact fin h (BN (by unfold BA;dsimp only;(repeat' split)<;>omega))
theorem mg {b:Int} (hl:s.length<4611686018427387904) (h:R (.ret (.int .i64 (Bx b s:Nat))) st):PC 328 [.str s,.int .i64 b] st R:=by
 refine pB Tryz.func328 ?_
 repeat' ((conv=>whnf);first|(refine BR ?_;intros)|(refine BS ?_ ?_<;>intro _)|fail)
 refine Pa (α:=Nat) (λ_=>[]) (λpos=>[(0,[.Ns s pos])]) [0,1,8] [] (λ_=>st) (λpos=>pos<=s.length/\Bx b s=pos+Bx b (s.drop pos)) (λpos=>s.length - pos) 0 ⟨Nat.zero_le _,GT⟩ Yl (St.le_refl _) ?_
 rintro pos ⟨hp,hi⟩
 repeat' ((conv=>whnf);first|(refine BR ?_;intros)|(refine BS ?_ ?_<;>intro _)|refine K1 ?_)
 .rename_i U c m hd hk
  have:=G5 U hd hk
  exact fin h (BN AC)
 .rename_i U c m hd hk
  obtain ⟨e1,e2⟩:=LI U hd hk
  conv=>whnf
  exact ⟨pos+m,⟨AC,by grind⟩,AC,Yl,St.le_refl _⟩
 .rename_i U hls
  have:=JO (base:=b) (s:=s) (pos:=pos) AC
  exact fin h (BN AC)
end
end Go.Proofs.Z
namespace Go.Aw
open Go
theorem XI {l:List UInt8} (h:AQ (l.drop 1)=111\/AQ (l.drop 1)=79):D9 l=8:=if_pos h
theorem S1 {l:List UInt8} (h:AQ (l.drop 1)=120\/AQ (l.drop 1)=88):D9 l=16:=by unfold D9;rw [if_neg AC,if_pos h]
theorem cj {l:List UInt8} (h:AQ (l.drop 1)≠111/\AQ (l.drop 1)≠79/\AQ (l.drop 1)≠120/\AQ (l.drop 1)≠88):D9 l=10:=by unfold D9;rw [if_neg AC,if_neg AC]
theorem cm (l:List UInt8):D9 l=8\/D9 l=16\/D9 l=10:=by
 unfold D9
 split
 .exact .inl rfl
 .split
  .exact .inr (.inl rfl)
  .exact .inr (.inr rfl)
theorem JK {l:List UInt8} {b:Int} (h:AQ l=48) (hb:D9 l=b) (hn:b≠10) (U:Bx b (l.drop 2)≠0):Cm l=(b,2):=by
 subst hb
 exact if_pos ⟨h,hn,U⟩
theorem LB {l:List UInt8} (h:AQ l≠48\/D9 l=10\/Bx (D9 l) (l.drop 2)=0):Cm l=(10,0):=if_neg AC
theorem LC (l:List UInt8):Cm l=(10,0)\/(Cm l=(8,2)/\D9 l=8)\/(Cm l=(16,2)/\D9 l=16):=by
 by_cases h:AQ l=48/\D9 l≠10/\Bx (D9 l) (l.drop 2)≠0
 .rcases cm l with hb|hb|hb
  .exact .inr (.inl ⟨JK h.1 hb Do (hb ▸ h.2.2),hb⟩)
  .exact .inr (.inr ⟨JK h.1 hb Do (hb ▸ h.2.2),hb⟩)
  .exact absurd hb h.2.1
 .exact .inl (if_neg h)
theorem YR {l:List UInt8} (h:AQ l=43\/AQ l=45):Ke l=1:=if_pos h
theorem YQ {l:List UInt8} (h:¬(AQ l=43\/AQ l=45)):Ke l=0:=if_neg h
theorem jd {l:List UInt8} (h:¬(AQ l=101\/AQ l=69)):K6 l=0:=if_neg λe=>h e.1
theorem dv {l:List UInt8} (h:AQ l=101\/AQ l=69) (hk:1+Ke (l.drop 1)=j) (U:Bx 10 (l.drop j)=0):K6 l=0:=by
 subst hk
 exact if_neg λe=>e.2 U
theorem dw {l:List UInt8} (h:AQ l=101\/AQ l=69) (hk:1+Ke (l.drop 1)=j) (U:Bx 10 (l.drop j)≠0):K6 l=j+Bx 10 (l.drop j):=by
 subst hk
 exact if_pos ⟨h,U⟩
end Go.Aw
namespace Go.Proofs.Z
open Go Go.Aw
section
variable {st:St} {R:Ay->St->Prop}
theorem fI {n:Nat} {b:Int} (U:s.length<=4611686018427387903) (h:R (.ret (.int .i64 (Bx b (s.drop n):Nat))) st):PC 328 [.str (s.drop (n:Int).toNat),.int .i64 b] st R:=
 mg M2 h
theorem WY (hl:s.length<=4611686018427387903) (h:R (.ret (.Bq [.int .i64 (Cm s).1,.int .i64 (Cm s).2])) st):PC 327 [.str s] st R:=by
 refine pB Tryz.func327 ?_
 repeat' ((conv=>whnf);first|(refine BR ?_;intros)|(refine BS ?_ ?_<;>intro _)|refine fI (n:=2) hl ?_)
 all_goals try have U:=DL (show s[0]? =some _ by assumption)
 all_goals try rw [List.drop_zero] at U
 all_goals try have h1:=DL (show s[1]? =some _ by assumption)
 all_goals try have h1:=Gv (s:=s) (i:=1) AC
 all_goals first
  |exact fin h (by rw [LB (.inl AC)];rfl)
  |exact fin h (by rw [LB (.inr (.inl (cj AC)))];rfl)
  |exact fin h (by rw [LB (.inr (.inr (by rw [XI AC];assumption)))];rfl)
  |exact fin h (by rw [LB (.inr (.inr (by rw [S1 AC];assumption)))];rfl)
  |exact fin h (by rw [JK AC (XI AC) Do ‹_›];rfl)
  |exact fin h (by rw [JK AC (S1 AC) Do ‹_›];rfl)
theorem VB (hl:s.length<=4611686018427387903) (h:R (.ret (.int .i64 (K6 s:Nat))) st):PC 329 [.str s] st R:=by
 refine pB Tryz.func329 ?_
 by_cases U:s=[]
 .subst U
  repeat' ((conv=>whnf);first|(refine BR ?_;intros)|(refine BS ?_ ?_<;>intro _)|fail)
  .exact fin h rfl
  .rename_i hn;exact absurd rfl hn
 have hlen:=List.length_pos_iff.2 U
 have r1:Bx 10 (s.drop 1)<=s.length:=Nat.le_trans (D5 10 _) M2
 have r2:Bx 10 (s.drop 2)<=s.length:=Nat.le_trans (D5 10 _) M2
 repeat' ((conv=>whnf);first|(refine BR ?_;intros)|(refine BS ?_ ?_<;>intro _)|refine fI (n:=1) hl ?_|refine fI (n:=2) hl ?_)
 all_goals try have h0:=DL (show s[0]? =some _ by assumption)
 all_goals try rw [List.drop_zero] at h0
 all_goals try have h1:=DL (show s[1]? =some _ by assumption)
 all_goals try have h1:=Gv (s:=s) (i:=1) AC
 all_goals first
  |(have e:=jd (l:=s) AC;exact fin h (BN AC))
  |(have e:=dv (l:=s) (j:=1) AC (by rw [YQ AC]) ‹_›;exact fin h (BN AC))
  |(have e:=dw (l:=s) (j:=1) AC (by rw [YQ AC]) ‹_›;exact fin h (BN AC))
  |(have e:=dv (l:=s) (j:=2) AC (by rw [YR AC]) ‹_›;exact fin h (BN AC))
  |(have e:=dw (l:=s) (j:=2) AC (by rw [YR AC]) ‹_›;exact fin h (BN AC))
end
end Go.Proofs.Z
namespace Go.Proofs.Z
open Go Go.Aw
open Rd (ret seq fail H3 look loop)
def Jr (base:Int):List UInt8->Int->Int×Int
 |[],v=>(v,0)
 |a::r,v=>if (4611686018427387904 - BA (a.toNat:Nat) base) / base<v then (0,3) else Jr base r (v*base+BA (a.toNat:Nat) base)
def Jq (s:List UInt8):Int×Int:=if (Ej s).1=11/\(Ej s).2=s.length then Jr (Cm s).1 (s.drop (Cm s).2) 0 else (0,40)
def Kd (t:Tk):Bool:=t.kind==19||(t.kind==15&&t.text==[59])
def ES (t:Tk):Bool:=t.kind==1||t.kind==2||t.kind==3||t.kind==4||t.kind==11||t.kind==12||t.kind==13||t.kind==14||
 (t.kind==9&&t.text==[95])||(t.kind==10&&t.text==[126])||(t.kind==15&&(t.text==[40]||t.text==[91]))
abbrev lq:List UInt8:=[108,101,116]
abbrev ql:List UInt8:=[105,102]
abbrev gL:List UInt8:=[99,97,115,101]
abbrev qk:List UInt8:=[100,111]
abbrev qJ:List UInt8:=[105,110]
abbrev qS:List UInt8:=[111,102]
abbrev pP:List UInt8:=[116,104,101,110]
abbrev pN:List UInt8:=[101,108,115,101]
abbrev Xx:List UInt8:=[119,104,101,114,101]
def FA (t:Tk):Bool:=(t.kind==9&&(t.text==lq||t.text==ql||t.text==gL||t.text==qk))||(t.kind==10&&t.text==[92])||(t.kind==5&&t.text==[45])||ES t
def Kr (t:Tk):Bool:=t.kind==9&&(t.text==[105,110,102,105,120,108]||t.text==[105,110,102,105,120,114]||t.text==[105,110,102,105,120])
def MA (t:Tk):Bool:=t.kind==5||t.kind==6||t.kind==7||t.kind==8||(t.kind==10&&t.text==[58])
def O4 (t:Tk):Bool:=MA t||(t.kind==15&&t.text==[96])
def T5 (k:Int) (l:List Nd):Nd:=if l.length=1 then l.headD FN else Ar k l
def GW:Er:=⟨2,Do⟩
def GX:Er:=⟨120,Do⟩
def bD (n:Nd):Bool:=(n.kind==1||n.kind==3)&&((FY n).2==0&&(FY n).1.length==1)
def Dm (m:Rd Nd) (U:Nd->Bool):Rd Nd:=.look λs0=>.seq m λn=>if U n=true then .ret n else .H3 s0 GX
def HJ:Rd Nd:=.look λs=>if MA (Ab s).1=true then .seq AH λt=>.ret (Ar 18 [t])
 else .seq (Bs 15 [96]) λo=>.seq (CA [1,2,3,4]) λn=>.seq (Bs 15 [96]) λc=>.ret (Ar 18 [o,n,c])
def V4 (l:List Nd):Rd (Sum (List Nd) (List Nd)):=.look λs=>if Ba s 5 [45]=true then .seq AH λt=>.ret (.inl (l++[Ar 19 [t]])) else .ret (.inr l)
def V5 (l:List Nd):Rd (List Nd):=.loop V4 l
def fD (U:Rd Nd) (br:Bool) (l:List Nd):Rd (Sum (List Nd) (List Nd×Bool)):=.seq (V5 l) λl=>.seq U λn=>.look λs=>
 if O4 (Ab s).1=true then .seq HJ λo=>
  if br=true then .look λs=>if Ba s 15 [41]=true then .ret (.inr (l++[n]++[o],true)) else .ret (.inl (l++[n]++[o]))
  else .ret (.inl (l++[n]++[o]))
 else .ret (.inr (l++[n],false))
def Qx (U:Rd Nd) (br:Bool):Rd (List Nd×Bool):=.loop (fD U br) []
def aq (U:Rd Nd):Rd Nd:=.seq (Qx U false) λp=>.ret (T5 17 p.1)
def ME (full:Rd Nd) (n:Nd):Rd Nd:=.look λs=>if Ba s 10 [58,58]=true then .seq AH λc=>.seq full λt=>.ret (Ar 22 [n,c,t]) else .ret n
def dx (U full:Rd Nd):Rd Nd:=.seq (aq U) λn=>ME full n
structure EP where
 atom:Rd Nd
 exp:Rd Nd
 ops:Rd Nd
 decls:Rd Nd
 stmts:Rd Nd
 alts:Rd Nd
 Gn:Nd->Rd Nd
 list:Nd->Rd Nd
def Mh (L:EP) (lt block:Nd):Rd Nd:=.seq (Bs 9 qJ) λi=>.seq L.exp λe=>.ret (Ar 24 [lt,block,i,e])
def jM (L:EP):Rd Nd:=.seq AH λt=>.seq L.decls λb=>Mh L t b
def NQ (atom:Rd Nd) (l:List Nd):Rd (Sum (List Nd) (List Nd)):=.seq (Dm atom Ka) λn=>.ret (.inl (l++[n]))
def RX (atom:Rd Nd) (l:List Nd):Rd (Sum (List Nd) (List Nd)):=
 if ((l.length:Int)==1)=true then NQ atom l else .look λs=>if ES (Ab s).1=true then NQ atom l else .ret (.inr l)
def Li (L:EP) (atom:Rd Nd):Rd Nd:=.seq AH λb=>.seq (.loop (RX atom) [b]) λl=>.seq (Bs 10 [45,62]) λa=>.seq L.exp λe=>.ret (Ar 23 (l++[a]++[e]))
def YN (w:List UInt8):Rd Unit:=.look λs=>if Kd (Ab s).1=true then (if Ba (Ab s).2.1 9 w=true then Jl else .ret ()) else .ret ()
def MZ (L:EP) (l:List Nd) (w:List UInt8):Rd (List Nd):=.seq (YN w) λ_=>.seq (Bs 9 w) λa=>.seq L.exp λe=>.ret (l++[a]++[e])
def KV (L:EP):Rd Nd:=.seq AH λi=>.seq L.exp λc=>.seq (MZ L [i,c] pP) λl=>.seq (MZ L l pN) λl=>.ret (Ar 25 l)
def XL (L:EP):Rd Nd:=.seq AH λc=>.seq L.exp λe=>.seq (Bs 9 qS) λo=>.seq L.alts λa=>.ret (Ar 26 ([c,e,o]++[a]))
def H8 (b:Nd):Bool:=match b.kids.getLast? with
 |none=>true
 |some x=>x.kind==32||x.kind==33
def PO (L:EP):Rd Nd:=.seq AH λd=>.seq L.stmts λb=>if H8 b=true then .fail GX else .ret (Ar 27 [d,b])
def Vk (atom:Rd Nd) (l:List Nd):Rd (Sum (List Nd) (List Nd)):=.look λs=>if ES (Ab s).1=true then .seq atom λn=>.ret (.inl (l++[n])) else .ret (.inr l)
def L6 (atom:Rd Nd):Rd Nd:=.seq atom λn=>.seq (.loop (Vk atom) [n]) λl=>.ret (T5 11 l)
def Jh (L:EP) (atom:Rd Nd):Rd Nd:=.look λs=>
 if ((Ab s).1.kind==10)=true then (if ((Ab s).1.text==[92])=true then Li L atom else L6 atom)
 else if ((Ab s).1.kind==9)=true then
  (if ((Ab s).1.text==lq)=true then jM L
  else if ((Ab s).1.text==ql)=true then KV L
  else if ((Ab s).1.text==gL)=true then XL L
  else if ((Ab s).1.text==qk)=true then PO L
  else L6 atom)
 else L6 atom
def Ro (l:List Nd):Rd (Sum (List Nd) (List Nd)):=.look λs=>if Ba s 15 [44]=true then .seq AH λc=>.ret (.inl (l++[c])) else .ret (.inr l)
def Tz (o:Nd):Rd Nd:=.seq (.loop Ro [o]) λl=>.seq (Bs 15 [41]) λc=>.ret (Ar 3 (l++[c]))
def Pv (L:EP) (o:Nd):Rd Nd:=.look λs=>if O4 (Ab s).1=true then
 (if Ba s 5 [45]=true then L.Gn o else .seq HJ λp=>.seq L.ops λe=>.seq (Bs 15 [41]) λc=>.ret (Ar 10 [o,p,e,c]))
 else L.Gn o
def Su (L:EP) (o:Nd):Rd Nd:=.look λs=>if MA (Ab s).1=true then
 (if Ba (Ab s).2.1 15 [41]=true then .seq AH λp=>.seq AH λc=>.ret (Ar 3 [o,p,c]) else Pv L o)
 else Pv L o
def Pw (L:EP):Rd Nd:=.seq AH λo=>.look λs=>if Ba s 15 [41]=true then Tz o else if Ba s 15 [44]=true then Tz o else Su L o
def LL (L:EP):Rd Nd:=.seq AH λo=>.look λs=>if Ba s 15 [93]=true then .seq AH λc=>.ret (Ar 3 [o,c]) else L.list o
def Qp (L:EP):Rd Nd:=.look λs=>if ES (Ab s).1=true then
 (if ((Ab s).1.kind==15)=true then (if ((Ab s).1.text==[40])=true then Pw L else LL L)
 else if ((Ab s).1.kind==9)=true then .seq AH λw=>.ret (Ar 14 [w])
 else if ((Ab s).1.kind==10)=true then .seq AH λw=>.seq L.atom λa=>.ret (Ar 16 [w,a])
 else .seq AH λn=>if ((Ab s).1.kind==1)=true then .look λs=>if Ba s 10 [64]=true then .seq AH λw=>.seq L.atom λa=>.ret (Ar 15 [n,w,a]) else .ret n
  else .ret n)
 else Rc
def RG (L:EP) (l:List Nd):Rd (Sum (List Nd) (List Nd)):=.seq (CA [1,3]) λU=>.seq (Bs 10 [61]) λq=>.seq L.exp λe=>.look λs=>
 if Ba s 15 [44]=true then .seq AH λc=>.ret (.inl (l++[Ar 13 [U,q,e]]++[c])) else .ret (.inr (l++[Ar 13 [U,q,e]]))
def Sq (L:EP) (l:List Nd):Rd (Sum (List Nd) (List Nd)):=.look λs=>if Ba s 15 [125]=true then (if 2<(l.length:Int) then RG L l else .ret (.inr l)) else RG L l
def JN (L:EP) (n:Nd):Rd Nd:=.seq AH λb=>.seq (.loop (Sq L) [n,b]) λl=>.seq (Bs 15 [125]) λc=>.ret (Ar 12 (l++[c]))
def cd (L:EP) (n:Nd):Rd (Sum Nd Nd):=.look λs=>if Ba s 15 [123]=true then .seq (JN L n) λn=>.ret (.inl n) else .ret (.inr n)
def MN (L:EP):Rd Nd:=.seq (Qp L) λn=>.loop (cd L) n
def Xq (exp:Rd Nd) (p:Int×List Nd):Rd (Sum (Int×List Nd) (Int×List Nd)):=.look λs=>if Ba s 15 [44]=true then .seq AH λc=>.seq exp λe=>.ret (.inl (5,p.2++[c]++[e])) else .ret (.inr p)
def Fk (U full exp:Rd Nd) (o:Nd):Rd Nd:=.seq (Qx U true) λp=>if p.2=true then
 .seq AH λc=>.ret (Ar 9 [o,T5 17 (p.1.take (p.1.length - 1)),p.1.getLastD FN,c])
 else .seq (ME full (T5 17 p.1)) λe=>.seq (.loop (Xq exp) (4,[o,e])) λq=>.seq (Bs 15 [41]) λc=>.ret (Ar q.1 (q.2++[c]))
def Mr (stmt:Rd Nd) (l:List Nd):Rd (Sum (List Nd) (List Nd)):=.look λs=>if Ba s 15 [44]=true then .seq AH λc=>.seq stmt λt=>.ret (.inl (l++[c]++[t])) else .ret (.inr l)
def Fs (stmt:Rd Nd) (l:List Nd):Rd (List Nd):=.seq (Bs 10 [124]) λb=>.seq stmt λt=>.loop (Mr stmt) (l++[b]++[t])
def Yh (exp:Rd Nd) (l:List Nd):Rd (Sum (List Nd) (Int×List Nd)):=.look λs=>if Ba s 15 [44]=true then .seq AH λc=>.seq exp λe=>.ret (.inl (l++[c]++[e])) else .ret (.inr (6,l))
def et (exp:Rd Nd) (l:List Nd):Rd (Sum (List Nd) (Int×List Nd)):=if (l.length:Int)<5 then
 .look λs=>if Ba s 10 [46,46]=true then .seq AH λd=>.look λs=>if Ba s 15 [93]=true then .ret (.inr (7,l++[d])) else .seq exp λe=>.ret (.inr (7,l++[d]++[e]))
  else Yh exp l
 else Yh exp l
def QD (exp stmt:Rd Nd) (o:Nd):Rd Nd:=.seq exp λe=>.look λs=>if Ba s 10 [124]=true then
 .seq (Fs stmt [o,e]) λl=>.seq (Bs 15 [93]) λc=>.ret (Ar 8 (l++[c]))
 else .seq (.loop (et exp) [o,e]) λq=>.seq (Bs 15 [93]) λc=>.ret (Ar q.1 (q.2++[c]))
def S4 (exp:Rd Nd) (n:Nd):Rd Nd:=.look λs=>if Ba s 10 [60,45]=true then (if Ka n=true then .seq AH λa=>.seq exp λe=>.ret (Ar 32 [n,a,e]) else .fail GX) else .ret n
def UB (L:EP) (exp:Rd Nd):Rd Nd:=.look λs=>if Ba s 9 lq=true then
 .seq AH λt=>.seq L.decls λb=>.look λs=>if Ba s 9 qJ=true then .seq (Mh L t b) λn=>S4 exp n else .ret (Ar 33 [t,b])
 else .seq exp λn=>S4 exp n
def O1 (exp stmt:Rd Nd) (m:List UInt8) (l:List Nd):Rd (Sum (List Nd) (List Nd)):=.seq (Fs stmt []) λg=>.seq (Bs 10 m) λq=>.seq exp λe=>.ret (.inl (l++[Ar 30 (g++[q]++[e])]))
def RQ (exp stmt:Rd Nd) (m:List UInt8) (l:List Nd):Rd (Sum (List Nd) (List Nd)):=if ((l.length:Int)==0)=true then O1 exp stmt m l
 else if ((l.headD FN).kind==30)=true then .look λs=>if Ba s 10 [124]=true then O1 exp stmt m l else .ret (.inr l)
 else .ret (.inr l)
def fx (L:EP) (exp stmt:Rd Nd) (m:List UInt8) (l:List Nd):Rd Nd:=.seq (.loop (RQ exp stmt m) l) λl=>.look λs=>if Ba s 9 Xx=true then
 .seq AH λw=>.seq L.decls λb=>.ret (Ar 29 (l++[Ar 31 [w,b]]))
 else .ret (Ar 29 l)
def aD (L:EP) (exp stmt:Rd Nd) (m:List UInt8):Rd Nd:=.look λs=>if Ba s 10 m=true then .seq AH λa=>.seq exp λe=>fx L exp stmt m ([]++[a,e])
 else if Ba s 10 [124]=true then fx L exp stmt m [] else Rc
def bV (L:EP) (ops exp stmt:Rd Nd):Rd Nd:=.seq ops λn=>if Ka n=true then .seq (aD L exp stmt [45,62]) λr=>.ret (Ar 28 [n,r]) else .fail GX
def Ru (n:Nd):Bool:=(Jq n.text).2==0&&decide ((Jq n.text).1<=9)
def Kz (n:Nd):Bool:=match n.kids[n.kids.length / 2]? with
 |some x=> !(x.form==7||x.form==8||x.form==3||x.form==4)
 |none=>false
def RL (l:List Nd):Rd (Sum (List Nd) (List Nd)):=.look λs=>if Ba s 15 [44]=true then .seq AH λc=>.seq (Dm HJ Kz) λo=>.ret (.inl (l++[c]++[o])) else .ret (.inr l)
def K8 (l:List Nd):Rd Nd:=.seq (Dm HJ Kz) λo=>.seq (.loop RL (l++[o])) λl=>.ret (Ar 35 l)
def K9:Rd Nd:=.seq AH λf=>.look λs=>if ((Ab s).1.kind==11)=true then .seq (Dm AH Ru) λd=>K8 ([f]++[d]) else K8 [f]
def om (atom:Rd Nd) (l:List Nd):Rd (Sum (List Nd) (List Nd)):=.look λs=>if Ba s 15 [44]=true then .seq AH λc=>.seq (Dm atom bD) λo=>.ret (.inl (l++[c]++[o])) else .ret (.inr l)
def aI (atom full:Rd Nd) (n:Nd):Rd Nd:=if bD n=true then .seq (.loop (om atom) [n]) λl=>.seq (Bs 10 [58,58]) λc=>.seq full λt=>.ret (Ar 34 (l++[c]++[t])) else .fail GX
def Ta (L:EP) (atom ops exp stmt full:Rd Nd):Rd Nd:=.look λs=>if Kr (Ab s).1=true then K9
 else .seq ops λn=>.look λs=>if Ba s 15 [44]=true then aI atom full n else if Ba s 10 [58,58]=true then aI atom full n
  else if ((er n).2.2==0)=true then .seq (aD L exp stmt [61]) λr=>.ret (Ar 36 [n,r]) else .fail GX
def ED (s:Af):Af×Bool:=if IJ s=true/\¬s.wait=1/\¬GI s=0 then (DV s,true) else (Ew,false)
theorem Ma {s:Af} (h:(ED s).2=true):mu (ED s).1<=mu s:=by
 unfold ED at h |-
 split
 .rename_i hc
  have U:s.Ca≠[]:=λe=>hc.2.2 (by unfold GI;rw [e];rfl)
  have:=HX U
  simp only [mu,DV] at *
  omega
 .rename_i hc;rw [if_neg hc] at h;cases h
def Rm:Rd Unit:=⟨λs=>if (ED s).2=true then .inr ((),(ED s).1) else .inl (⟨Om s,KM s⟩,s),λs v s' h=>by
 split at h
 .cases h;exact Ma ‹_›
 .cases h⟩
def Sx (_:Unit):Rd (Sum Unit Unit):=.look λs=>if Kd (Ab s).1=true then .seq Jl λ_=>.ret (.inl ()) else .ret (.inr ())
def Py:Rd Unit:=.loop Sx ()
def H2 (f:Bool) (U:Bool):Rd Bool:=.look λs=>if (if f then Ba s 15 [125] else (Ab s).1.kind==20)=true then .seq Jl λ_=>.ret true
 else if U=true then (if f=true then Rc else .seq Rm λ_=>.ret true) else .ret false
def Re (starts:Tk->Bool) (item:Rd Nd) (f:Bool) (l:List Nd):Rd (Sum (List Nd) (List Nd)):=.seq Py λ_=>.look λs=>.seq (H2 f (!starts (Ab s).1)) λe=>
 if e=true then .ret (.inr l) else .seq item λn=>.look λs=>.seq (H2 f (!Kd (Ab s).1)) λe=>if e=true then .ret (.inr (l++[n])) else .ret (.inl (l++[n]))
def Eg (f:Bool) (l:List Nd):Nd:=.mk 2 (if f then 1 else 0) [] 0 0 l
def Dl (starts:Tk->Bool) (item:Rd Nd):Rd Nd:=.look λs=>if ((Ab s).1.kind==18)=true then .seq Jl λ_=>.seq (.loop (Re starts item false) []) λl=>.ret (Eg false l)
 else .seq (Bs 15 [123]) λ_=>.seq (.loop (Re starts item true) []) λl=>.ret (Eg true l)
def lL (L:EP):Rd Nd:=MN L
def eW (L:EP):Rd Nd:=Jh L (MN L)
def opsL (L:EP):Rd Nd:=aq (eW L)
def P3 (full:Rd Nd) (L:EP):Rd Nd:=dx (eW L) full
def Na (full:Rd Nd) (L:EP):Rd Nd:=UB L (P3 full L)
def ie (full:Rd Nd) (L:EP):Rd Nd:=bV L (opsL L) (P3 full L) (Na full L)
def FJ (full:Rd Nd) (L:EP):Rd Nd:=Ta L (MN L) (opsL L) (P3 full L) (Na full L) full
def FW (t:Tk):Bool:=FA t||Kr t
def qI (full:Rd Nd) (L:EP):EP where
 atom:=lL L
 exp:=P3 full L
 ops:=opsL L
 decls:=Dl FW (FJ full L)
 stmts:=Dl FA (Na full L)
 alts:=Dl FA (ie full L)
 Gn:=λo=>Fk (eW L) full (P3 full L) o
 list:=λo=>QD (P3 full L) (Na full L) o
def qc:EP:=⟨.fail GW,.fail GW,.fail GW,.fail GW,.fail GW,.fail GW,λ_=>.fail GW,λ_=>.fail GW⟩
theorem OO (U:A2 A):A2 (G0 A):=λs n s' h=>by
 unfold G0 at h
 split at h
 .cases h
 .rename_i p h1
  have h2:=Fm U _ _ _ h1
  split at h
  .rename_i h3
   have h4:=DM h3 Do Do
   split at h
   .cases h
   .rename_i q h5
    have:=GY U _ _ _ h5
    cases h
    omega
  .have:=Qm h
   omega
def C4 (d:Nat):Rd Nd:=Jg (G0 (DD (Dz (d - 1)))) λs v s' h=>Nat.le_of_lt (OO (BT (BB _)) _ _ _ h)
def Jb:Nat->EP
 |0=>qc
 |d+1=>qI (C4 (d+1)) (Jb d)
end Go.Proofs.Z
namespace Go.Proofs.Z
open Go Go.Aw
theorem Ae {p:Env->Prop} (h:∀e,p e):∀e:Env,p e:=h
theorem Vi {es:List (List V)} {e:List V} {K:List V->Prop} (U:0<=i) (h:es[i.toNat]? =some e) (k:K e):0<=i/\∃e,es[i.toNat]? =some e/\K e:=⟨U,e,h,k⟩
theorem dR {l:List Int} {x:Int} {K:List V->Prop} (h:l[i.toNat]? =some x) (U:0<=i) (k:K [.int .i64 x]):0<=i/\∃e,(ints l)[i.toNat]? =some e/\K e:=⟨U,_,by simp [ints,h],k⟩
theorem nB {es:List α} {n:Nat} {K:Nat->Prop} (h:es.length=n) (k:K n):∀m,m=es.length->m<EF->K m:=λm U _=>by rw [h] at U;subst U;exact k
section
variable {st:St} {K:Ay->St->Prop}
theorem HR {t:Tk} (h:K (.ret (.bool (MA t))) st):PC 341 [Ei t] st K:=by
 refine pB Tryz.func341 ?_
 repeat' ((conv=>whnf);first|(refine AZ ?_;intros)|(refine A0 ?_ ?_<;>intro e h)|(refine A1 ?_ ?_<;>intro _)|fail)
 all_goals conv=>whnf
 all_goals (refine Ao h ?_;clear h;simp_all [MA])
theorem jz {t:Tk} (h:K (.ret (.bool (O4 t))) st):PC 343 [Ei t] st K:=by
 refine pB Tryz.func343 ?_
 repeat' ((conv=>whnf);first|(refine AZ ?_;intros)|(refine A0 ?_ ?_<;>intro e h)|(refine A1 ?_ ?_<;>intro _)|refine HR ?_)
 all_goals conv=>whnf
 all_goals (refine Ao h ?_;clear h;simp_all [O4])
theorem SY {t:Tk} (h:K (.ret (.bool (ES t))) st):PC 207 [Ei t] st K:=by
 refine pB Tryz.func207 ?_
 repeat' ((conv=>whnf);first|(refine AZ ?_;intros)|(refine A0 ?_ ?_<;>intro e h)|(refine A1 ?_ ?_<;>intro _)|fail)
 all_goals conv=>whnf
 all_goals (refine Ao h ?_;clear h;simp_all [ES])
theorem KP {t:Tk} (h:K (.ret (.bool (FA t))) st):PC 142 [Ei t] st K:=by
 refine pB Tryz.func142 ?_
 repeat' ((conv=>whnf);first|(refine AZ ?_;intros)|(refine A0 ?_ ?_<;>intro e h)|(refine A1 ?_ ?_<;>intro _)|refine SY ?_)
 all_goals conv=>whnf
 all_goals (refine Ao h ?_;clear h;simp_all [FA,ES,lq,ql,gL,qk])
theorem RJ {t:Tk} (h:K (.ret (.bool (Kr t))) st):PC 143 [Ei t] st K:=by
 refine pB Tryz.func143 ?_
 repeat' ((conv=>whnf);first|(refine AZ ?_;intros)|(refine A0 ?_ ?_<;>intro e h)|(refine A1 ?_ ?_<;>intro _)|fail)
 all_goals conv=>whnf
 all_goals (refine Ao h ?_;clear h;simp_all [Kr])
theorem Sw {t:Tk} (h:K (.ret (.bool (Kd t))) st):PC 140 [Ei t] st K:=by
 refine pB Tryz.func140 ?_
 repeat' ((conv=>whnf);first|(refine AZ ?_;intros)|(refine A0 ?_ ?_<;>intro e h)|(refine A1 ?_ ?_<;>intro _)|fail)
 all_goals conv=>whnf
 all_goals (refine Ao h ?_;clear h;simp_all [Kd])
theorem Je {own:AB} (h:K (.ret (enc (Ar k l))) st):PC 217 [.int .i64 k,.slice 6 (l.map Az) own] st K:=by
 refine pB Tryz.func217 ?_
 repeat' ((conv=>whnf);first|(refine AZ ?_;intros)|(refine A0 ?_ ?_<;>intro e h)|(refine A1 ?_ ?_<;>intro _)|fail)
 all_goals exact DH (St.le_refl _) BK h
theorem Yq {a:Nd} {own:AB} (h:K (.ret (enc (Ar k [a]))) st):PC 217 [.int .i64 k,.slice 6 [Az a] own] st K:=Je (l:=[a]) h
theorem Yr {a b:Nd} {own:AB} (h:K (.ret (enc (Ar k [a,b]))) st):PC 217 [.int .i64 k,.slice 6 [Az a,Az b] own] st K:=Je (l:=[a,b]) h
theorem Sc {a b c:Nd} {own:AB} (h:K (.ret (enc (Ar k [a,b,c]))) st):PC 217 [.int .i64 k,.slice 6 [Az a,Az b,Az c] own] st K:=Je (l:=[a,b,c]) h
theorem Ys {a b c d:Nd} {own:AB} (h:K (.ret (enc (Ar k [a,b,c,d]))) st):PC 217 [.int .i64 k,.slice 6 [Az a,Az b,Az c,Az d] own] st K:=Je (l:=[a,b,c,d]) h
theorem mY {own:AB} (h:K (.ret (enc (T5 k l))) st):PC 286 [.int .i64 k,.slice 6 (l.map Az) own] st K:=by
 refine pB Tryz.func286 ?_
 match l with
 |[x]=>
  have h:K (.ret (enc x)) st:=h
  have hn:(([x]:List Nd).length:Int)=1:=rfl
  repeat' ((conv=>whnf);first|(refine AZ ?_;intros)|(refine A0 ?_ ?_<;>intro e h)|(refine A1 ?_ ?_<;>intro _)|refine BP (l:=[x]) (λ_=>?_)|refine Vi AC rfl ?_)
  all_goals exact Be rfl h
 |[]=>
  have h:K (.ret (enc (Ar k []))) st:=h
  have hn:¬(([]:List Nd).length:Int)=1:=Do
  repeat' ((conv=>whnf);first|(refine AZ ?_;intros)|(refine A0 ?_ ?_<;>intro e h)|(refine A1 ?_ ?_<;>intro _)|refine BP (l:=[]) (λ_=>?_)|refine Je (l:=[]) ?_)
  all_goals exact Be rfl h
 |x::y::r=>
  have h:K (.ret (enc (Ar k (x::y::r)))) st:=h
  have hn:¬((x::y::r).length:Int)=1:=by simp only [List.length_cons];omega
  repeat' ((conv=>whnf);first|(refine AZ ?_;intros)|(refine A0 ?_ ?_<;>intro e h)|(refine A1 ?_ ?_<;>intro _)|refine BP (l:=x::y::r) (λ_=>?_)|refine Je (l:=x::y::r) ?_)
  all_goals exact Be rfl h
theorem RW (h:K (.ret (.bool (Ka n))) st):PC 403 [enc n] st K:=by
 refine pB Tryz.func403 ?_
 repeat' ((conv=>whnf);first|(refine AZ ?_;intros)|(refine A0 ?_ ?_<;>intro e h)|(refine A1 ?_ ?_<;>intro _)|refine cI ?_)
 all_goals conv=>whnf
 all_goals (refine Ao h ?_;clear h;simp_all [Vq])
theorem Yd (U:n.size<=1000000000) (h:K (.ret (.bool (bD n))) st):PC 287 [enc n] st K:=by
 refine pB Tryz.func287 ?_
 have hs:(strs (FY n).1).length=(FY n).1.length:=by simp [strs]
 repeat' ((conv=>whnf);first|(refine AZ ?_;intros)|(refine A0 ?_ ?_<;>intro e h)|(refine A1 ?_ ?_<;>intro _)|refine eE U ?_|refine nB hs ?_)
 all_goals conv=>whnf
 all_goals (refine Ao h ?_;clear h;simp_all [bD])
end
def BM (n:Nd) (s:Af) (e:Int):V:=.agg [.int .i64 n.kind,.int .i64 n.form,.str n.text,.int .i64 n.line,.int .i64 n.Cj,.slice 6 (Cp n.kids) .any,
 .slice 4 (A5 s.AD) .any,.int .i64 s.pos,.slice 1 (ints s.Ca) .any,.int .i64 s.wait,.int .i64 e]
section
variable {st:St} {R:Ay->St->Prop}
attribute [local irreducible] Go.Aw.Ag
theorem kC {s:Af} (hb:s.Ca.length<=500000000) (h:R (.ret (Ei (Ab s).1)) st):PC 35 [Bn s] st R:=by
 refine pB Tryz.func35 ?_
 repeat' ((conv=>whnf);first|(refine Bg ?_;intros)|(refine Bh ?_ ?_<;>intro _)|refine LH (s:=s) hb ?_)
 all_goals exact Be rfl h
theorem Sv {s:Af} (hb:s.Ca.length<=500000000) (h:R (.ret (if (Ab s).2.2=0 then BM (Bp (Ab s).1) (Ab s).2.1 0 else BM FN s (Ab s).2.2)) st):PC 74 [Bn s] st R:=by
 refine pB Tryz.func74 ?_
 repeat' ((conv=>whnf);first|(refine Bg ?_;intros)|(refine Bh ?_ ?_<;>intro _)|refine LH (s:=s) hb ?_)
 all_goals first
  |(rw [if_pos ‹_›] at h;exact Be rfl h)
  |(rw [if_neg ‹_›] at h;exact Be rfl h)
theorem mc {s:Af} (U:k≠0) (hb:s.Ca.length<=500000000) (h:R (.ret (.bool (Ba s k x))) st):PC 123 [Bn s,.int .i64 k,.str x] st R:=by
 refine pB Tryz.func123 ?_
 have key:Ba s k x=((Ab s).2.2==0&&Ba s k x):=by
  cases hi:Ba s k x with
  |false=>simp
  |true=>simp [FX hi U]
 rw [key] at h
 clear key
 repeat' ((conv=>whnf);first|(refine Bg ?_;intros)|(refine Bh ?_ ?_<;>intro _)|refine LH (s:=s) hb ?_)
 all_goals conv=>whnf
 all_goals (refine Ao h ?_;clear h;simp_all [Ba])
def OJ:Rs->V
 | .inr (n,s)=>BM n s 0
 | .inl (e,s)=>BM FN s e
theorem fM {s:Af} (hb:s.Ca.length<=500000000) (h:R (.ret (OJ (CY s))) st):PC 74 [Bn s] st R:=Sv hb (by
 unfold CY at h
 split at h<;>rename_i e
 .rw [if_pos e];exact h
 .rw [if_neg e];exact h)
theorem fm {s:Af} (hb:s.Ca.length<=500000000) (h:R (.ret (OJ (Zc s))) st):PC 106 [Bn s] st R:=by
 refine pB Tryz.func106 ?_
 unfold Zc Om at h
 repeat' ((conv=>whnf);first|(refine Bg ?_;intros)|(refine Bh ?_ ?_<;>intro _)|refine LH (s:=s) hb ?_)
 all_goals first
  |(rw [if_pos ‹_›] at h;exact Be rfl h)
  |(rw [if_neg ‹_›] at h;exact Be rfl h)
theorem fz {s:Af} {v:Bool} (e:Ba s k x=v) (U:k≠0) (hb:s.Ca.length<=500000000) (h:R (.ret (.bool v)) st):PC 123 [Bn s,.int .i64 k,.str x] st R:=mc U hb (by rw [e];exact h)
theorem YM {s:Af} {q:Rs} (e:CY s=q) (hb:s.Ca.length<=500000000) (h:R (.ret (OJ q)) st):PC 74 [Bn s] st R:=fM hb (by rw [e];exact h)
theorem kE {s:Af} (hk:k≠0) (hb:s.Ca.length<=500000000) (h:R (.ret (OJ (IE s k x))) st):PC 75 [Bn s,.int .i64 k,.str x] st R:=by
 refine pB Tryz.func75 ?_
 unfold IE at h
 cases hi:Ba s k x with
 |true=>
  rw [if_pos hi] at h
  cases U:CY s with
  |inl p=>
   rw [U] at h
   repeat' ((conv=>whnf);first|(refine Bg ?_;intros)|(refine Bh ?_ ?_<;>intro _)|refine fz hi hk hb ?_|refine YM U hb ?_)
   all_goals exact Be rfl h
  |inr p=>
   rw [U] at h
   repeat' ((conv=>whnf);first|(refine Bg ?_;intros)|(refine Bh ?_ ?_<;>intro _)|refine fz hi hk hb ?_|refine YM U hb ?_)
   all_goals exact Be rfl h
 |false=>
  rw [if_neg (by rw [hi];decide)] at h
  repeat' ((conv=>whnf);first|(refine Bg ?_;intros)|(refine Bh ?_ ?_<;>intro _)|refine fz hi hk hb ?_|refine fm hb ?_)
  all_goals exact Be rfl h
end
section
variable {st:St} {R:Ay->St->Prop}
attribute [local irreducible] Go.Aw.Ag
theorem cL {s:Af} (h:R (.ret (BM n s 0)) st):PC 80 [BM n s 0] st R:=by
 refine pB Tryz.func80 ?_
 repeat' ((conv=>whnf);first|(refine Bg ?_;intros)|(refine Bh ?_ ?_<;>intro _)|fail)
 all_goals exact Be rfl h
theorem Zn {s:Af} {e:Int} (U:¬e=0) (h:R (.ret (BM FN s e)) st):PC 80 [BM n s e] st R:=by
 refine pB Tryz.func80 ?_
 repeat' ((conv=>whnf);first|(refine Bg ?_;intros)|(refine Bh ?_ ?_<;>intro _)|fail)
 all_goals exact Be rfl h
end
section
variable {st:St} {R:Ay->St->Prop}
attribute [local irreducible] Go.Aw.Ag
theorem Xt {deep:Int} (U:¬deep<1->C0 297 (if 100<deep then 100 else deep) A):CZ 220 deep A:=by
 intro s hm st R h
 refine pB Tryz.func220 ?_
 repeat' ((conv=>whnf);first|(refine Bg ?_;intros)|(refine Bh ?_ ?_<;>intro _)|refine NJ (s:=s) (q:=A s) (λhd=>U hd s hm) ?_)
 all_goals exact Be rfl h
theorem il {deep:Int} (U:¬deep<1->C0 362 (if 100<deep then 100 else deep) A):CZ 406 deep A:=by
 intro s hm st R h
 refine pB Tryz.func406 ?_
 repeat' ((conv=>whnf);first|(refine Bg ?_;intros)|(refine Bh ?_ ?_<;>intro _)|refine NJ (s:=s) (q:=A s) (λhd=>U hd s hm) ?_)
 all_goals exact Be rfl h
theorem n8 {deep:Int} (U:¬deep<1->C0 296 (if 100<deep then 100 else deep) A):CZ 219 deep A:=by
 intro s hm st R h
 refine pB Tryz.func219 ?_
 repeat' ((conv=>whnf);first|(refine Bg ?_;intros)|(refine Bh ?_ ?_<;>intro _)|refine NJ (s:=s) (q:=A s) (λhd=>U hd s hm) ?_)
 all_goals exact Be rfl h
theorem jk {deep:Int} (U:¬deep<1->C0 305 (if 100<deep then 100 else deep) A):CZ 231 deep A:=by
 intro s hm st R h
 refine pB Tryz.func231 ?_
 repeat' ((conv=>whnf);first|(refine Bg ?_;intros)|(refine Bh ?_ ?_<;>intro _)|refine NJ (s:=s) (q:=A s) (λhd=>U hd s hm) ?_)
 all_goals exact Be rfl h
end
def KE (Y:Af->Rs) (n:Nd) (s:Af):Ls:=match Y s with
 | .inl e=>.inl e
 | .inr q=>C3 Y [n,q.1] q.2
def bR (st:St) (b:Nat) (R:Ay->St->Prop):Ls->Prop
 | .inr (l,s')=>∀st' U,GR st st' b s'->U.BG st'->R (.ret (.slice 6 (l.map Az) U)) (U.st st' (l.length*6))
 | .inl (e,s')=>∀st',GR st st' b s'->R (.BU (fault e)) st'
theorem bB {s:Af} (h:Ba s 15 [44]=true) (U:Y (Ab s).2.1=.inr (n,s')) (hm:mu s'<mu s):C3 Y l s=C3 Y (l++[Bp (Ab s).1,n]) s':=by
 rw [C3,if_pos h,U]
 dsimp only
 rw [if_pos hm]
section
variable {st:St} {R:Ay->St->Prop}
attribute [local irreducible] Go.Aw.Ag
theorem lk (hY:CZ 220 d Y) (h0:d=0->∀s,Y s=.inl (2,s)) (hB:EC Y) (hF:A2 Y) {n1:Nd} {s:Af} {x:Int} (hx:x=(d:Int)) (hm:mu s<=100000000) (hs:Has st b s) (h:bR st b R (KE Y n1 s)):
 PC 423 [.ptr b 0,.slice 6 [Az n1] .full,.int .i64 x] st R:=by
 refine pB Tryz.func423 ?_
 unfold KE at h
 have hn1:[n1].length+1<=1000000000:=by show 1+1<=1000000000;decide
 repeat' ((conv=>whnf);first|(refine Bg ?_;intros)|(refine Bh ?_ ?_<;>intro _)|refine GM (λ_=>?_) ?_|refine O5 hx hY h0 hB hm hs (Dx (λn2 s2 hq2 st2 h2=>?_) (λe2 s2 hq2 st2 h2=>?_))|refine MM (l:=[n1]) (x:=n2) (own:=.full) trivial hn1 (λown1 ho1=>?_))
 .rw [hq2] at h
  have hd2:=hF _ _ _ hq2
  dsimp only at h
  refine Mi (α:=List Nd×Af×St×AB) (λx=>[(1,.slice 6 (x.1.map Az) x.2.2.2)]) [0,2,6] (λx=>[]) [] (λx=>x.2.2.2.st x.2.2.1 (x.1.length*6))
   (λx=>x.2.2.2.BG x.2.2.1/\GR st x.2.2.1 b x.2.1/\x.1.length+2*mu x.2.1<=400000000/\mu x.2.1<=mu s/\C3 Y x.1 x.2.1=C3 Y [n1,n2] s2) (λx=>mu x.2.1) ([n1]++[n2],s2,st2,own1)
   ⟨ho1,h2,by show 2+2*mu s2<=_;omega,by show mu s2<=_;omega,rfl⟩ Yl (St.le_refl _) ?_
  rintro ⟨l,U,st3,own⟩ ⟨j1,j2,j5,j6,j7⟩
  dsimp only at j1 j2 j5 j6 j7
  have hm3:mu U<=100000000:=AC
  have hb3:=C2 hm3
  have hl3:Has (st3.Aa b (CB U)) b U:=.inl (St.Al ..)
  have g3:own.BG (st3.Aa b (CB U)):=HD j1 j2.1
  have hn:l.length+2<=1000000000:=AC
  have hm4:Ba U 15 [44]=true->mu (Ab U).2.1<=100000000:=λe=>by have:=DM e Do Do;omega
  repeat' ((conv=>whnf);first|(refine Bg ?_;intros)|(refine Bh ?_ ?_<;>intro _)|refine GM (λ_=>?_) ?_|refine nw j2.1 hb3 ?_|refine Fb (hl3.hw own _) hb3 (PS g3 hl3 (G7 ‹_› Do) (λst4 h4 g4=>?_))|refine O5 hx hY h0 hB (hm4 ‹_›) (h4.1.hw own _) (EN g4 h4.1 (Fw (λn5 s5 hq5 st5 h5 g5=>?_) (λe5 s5 hq5 st5 h5 g5=>?_)))|refine bX (l:=l) (x:=Bp (Ab U).1) (y:=n5) g5 hn (λown' ho'=>?_))
  all_goals conv=>whnf
  .have hp:Ba U 15 [44]=true:=FS
   have hd:=hF _ _ _ hq5
   have hd3:=DM hp Do Do
   have hd4:mu s5<mu U:=AC
   have hu:=(AU (st:=st3) (b:=b) (s:=U)).trans (h4.trans h5)
   refine ⟨(l++[Bp (Ab U).1,n5],s5,st5,own'),⟨ho',j2.trans hu,?_,by show mu s5<=_;omega,?_⟩,hd4,Yl,St.le_refl _⟩
   .show (l++[Bp (Ab U).1,n5]).length+2*mu s5<=_
    rw [List.length_append]
    show l.length+2+2*mu s5<=_
    omega
   .show C3 Y (l++[Bp (Ab U).1,n5]) s5=_
    rw [<-j7,bB (l:=l) hp hq5 hd4]
  .have hp:Ba U 15 [44]=true:=FS
   have hu:=(AU (st:=st3) (b:=b) (s:=U)).trans (h4.trans h5)
   have hr:C3 Y l U=.inl (e5,s5):=by rw [C3,if_pos hp,hq5]
   rw [<-j7,hr] at h
   exact DH (AB.Bu g5) rfl (h st5 (j2.trans hu))
  .have hr:C3 Y l U=.inr (l,U):=by rw [C3,if_neg (Bool.eq_false_iff.1 ‹_›)]
   rw [<-j7,hr] at h
   exact fin (h _ own (j2.trans AU) g3) rfl
 .rw [hq2] at h
  exact fin (h st2 h2) rfl
end
section
variable {st:St} {R:Ay->St->Prop}
attribute [local irreducible] Go.Aw.Ag
theorem nx {s:Af} (e:Ba s k x=true) (U:Has st b s) (hb:s.Ca.length<=500000000) (h:R (.ret (.bool true)) (st.Aa b (CB s))):PC 156 [.ptr b 0,.int .i64 k,.str x] st R:=VS U hb ke
theorem ZU {s:Af} (e:Ba s k x=false) (U:Has st b s) (hb:s.Ca.length<=500000000) (h:R (.ret (.bool false)) (st.Aa b (CB s))):PC 156 [.ptr b 0,.int .i64 k,.str x] st R:=VS U hb ke
theorem Es {st:St} {s:Af}:Has (st.Aa b (CB s)) b s:=.inl (St.Al ..)
theorem Zo {s:Af} (h:Ba s 15 [44]=true):DJ l s=DJ (l++[Bp (Ab s).1]) (Ab s).2.1:=by
 rw [DJ,if_pos h,if_pos (DM h Do Do)]
theorem Vs {s:Af} (h:Ba s 15 [44]=false):DJ l s=(l,s):=by
 rw [DJ,if_neg ke]
theorem Xv (l:List Nd) (s:Af):∀q s',C3 Y l s=.inr (q,s')->q.length+2*mu s'<=l.length+2*mu s:=by
 fun_induction C3 Y l s with
 |case1 l s U e1 h2=>simp_all
 |case2 l s U p h2 h3 ih=>
  grind
 |case3 l s U p h2 h3=>simp_all
 |case4 l s U=>simp_all
theorem bC (hF:A2 Y) {s:Af} (h:KE Y n s=.inr (l,s')):mu s'<=mu s/\l.length<=2+2*mu s:=by
 unfold KE at h
 split at h
 .cases h
 .rename_i U
  have h2:=hF _ _ _ U
  have h3:=Q2 _ _ _ _ h
  have h4:=Xv _ _ _ _ h
  grind
theorem bb {st:St} {q:Ls} (h:∀l s',q=.inr (l,s')->∀st' U,GR st st' b s'->U.BG st'->K (.ret (.slice 6 (l.map Az) U)) (U.st st' (l.length*6)))
 (k:∀e s',q=.inl (e,s')->∀st',GR st st' b s'->K (.BU (fault e)) st'):bR st b K q:=by
 match q with
 | .inr (l,s')=>exact h l s' rfl
 | .inl (e,s')=>exact k e s' rfl
theorem ky {x:Int} (hx:x=((d+1:Nat):Int)) (hd:d<=1000000) (hY:CZ 220 d Y) (h0:d=0->∀s,Y s=.inl (2,s)) (hB:EC Y) (hF:A2 Y):C0 404 x (Hr Y):=by
 intro s hm b st R hs h
 refine pB Tryz.func404 ?_
 have hb:=C2 hm
 unfold Hr at h
 cases hq1:CY s with
 |inl q=>
  rw [hq1] at h
  obtain ⟨e,s'⟩:=q
  repeat' ((conv=>whnf);first|(refine Bg ?_;intros)|(refine Bh ?_ ?_<;>intro _)|refine Fb hs hb (SI hq1 (λst1 h1=>?_)))
  all_goals exact fin (h st1 h1) rfl
 |inr q=>
  obtain ⟨n1,s1⟩:=q
  rw [hq1] at h
  have hm1:mu s1<=100000000:=by have:=(N8 hq1).1;omega
  have hb1:=C2 hm1
  have hn1:[n1].length+1<=1000000000:=by show 1+1<=1000000000;decide
  dsimp only at h
  cases hA:Ba s1 10 [45,62] with
  |true=>
   rw [if_pos hA] at h
   have hb2:(Ab s1).2.1.Ca.length<=500000000:=C2 (by have:=DM hA Do Do;omega)
   have hn2:∀n2:Nd,([n1]++[n2]).length+1<=1000000000:=λ_=>by simp_all
   repeat' ((conv=>whnf);first|(refine Bg ?_;intros)|(refine Bh ?_ ?_<;>intro _)|refine Fb hs hb (Ge hq1 (λst1 h1=>?_))|refine nx hA h1.1 hb1 ?_|refine Fb Es hb1 (Ge (G7 hA Do) (λst2 h2=>?_))|refine MM (l:=[n1]) (x:=Bp (Ab s1).1) (own:=.full) trivial hn1 (λown1 ho1=>?_)|refine PX (h2.1.hw own1 _) hb2 (EN ho1 h2.1 (Fw (λn3 s3 hq3 U h3 hg3=>?_) (λe3 s3 hq3 U h3 hg3=>?_)))|refine MM (l:=[n1]++[Bp (Ab s1).1]) (x:=n3) hg3 (hn2 _) (λown2 ho2=>?_))
   all_goals unfold IH at h
   all_goals rw [hq3] at h
   .exact DH (AB.Bu ho2) BK (h U ((h1.trans AU).trans (h2.trans h3)))
   .exact DH (AB.Bu hg3) rfl (h U ((h1.trans AU).trans (h2.trans h3)))
  |false=>
  rw [if_neg ke] at h
  cases hC:Ba s1 15 [41] with
  |true=>
   rw [if_pos hC] at h
   repeat' ((conv=>whnf);first|(refine Bg ?_;intros)|(refine Bh ?_ ?_<;>intro _)|refine Fb hs hb (Ge hq1 (λst1 h1=>?_))|refine ZU hA h1.1 hb1 ?_|refine nx hC Es hb1 ?_|refine PX Es hb1 (Dx (λn3 s3 hq3 U h3=>?_) (λe3 s3 hq3 U h3=>?_))|refine MM (l:=[n1]) (x:=n3) (own:=.full) trivial hn1 (λown2 ho2=>?_))
   all_goals unfold IH at h
   all_goals rw [hq3] at h
   .exact DH (AB.Bu ho2) BK (h U (((h1.trans AU).trans AU).trans h3))
   .exact fin (h U (((h1.trans AU).trans AU).trans h3)) rfl
  |false=>
  rw [if_neg ke] at h
  cases hE:Ba s1 15 [44] with
  |true=>
   rw [if_pos hE] at h
   repeat' ((conv=>whnf);first|(refine Bg ?_;intros)|(refine Bh ?_ ?_<;>intro _)|refine Fb hs hb (Ge hq1 (λst1 h1=>?_))|refine ZU hA h1.1 hb1 ?_|refine ZU hC Es hb1 ?_|refine nx hE Es hb1 ?_)
   refine Mi (α:=List Nd×Af×St×AB) (λx=>[(5,.slice 6 (x.1.map Az) x.2.2.2)]) [0,1,4,6] (λx=>[]) [0] (λx=>x.2.2.2.st x.2.2.1 (x.1.length*6))
    (λx=>x.2.2.2.BG x.2.2.1/\GR st x.2.2.1 b x.2.1/\x.1.length+mu x.2.1<=200000000/\mu x.2.1<=mu s1/\DJ x.1 x.2.1=DJ [n1] s1) (λx=>mu x.2.1) ([n1],s1,_,.full)
    ⟨trivial,((h1.trans AU).trans AU).trans AU,by grind,Nat.le_refl _,rfl⟩ Yl (St.le_refl _) ?_
   rintro ⟨l,s3,U,own⟩ ⟨j1,j2,j5,j6,j7⟩
   dsimp only at j1 j2 j5 j6 j7
   have hm3:mu s3<=100000000:=AC
   have hb3:=C2 hm3
   have hl3:Has (U.Aa b (CB s3)) b s3:=.inl (St.Al ..)
   have g3:own.BG (U.Aa b (CB s3)):=HD j1 j2.1
   have hn:l.length+1<=1000000000:=AC
   repeat' ((conv=>whnf);first|(refine Bg ?_;intros)|(refine Bh ?_ ?_<;>intro _)|refine nw j2.1 hb3 ?_|refine Fb (hl3.hw own _) hb3 (PS g3 hl3 (G7 ‹_› Do) (λst4 h4 g4=>?_))|refine MM (l:=l) (x:=Bp (Ab s3).1) g4 hn (λown' ho'=>?_)|refine PX (hl3.hw own _) hb3 (EN g3 hl3 (Fw (λn5 s5 hq5 st5 h5 g5=>?_) (λe5 s5 hq5 st5 h5 g5=>?_)))|refine MM (l:=l) (x:=n5) g5 hn (λown' ho'=>?_))
   all_goals conv=>whnf
   .have hp:Ba s3 15 [44]=true:=FS
    have hd3:=DM hp Do Do
    refine ⟨(l++[Bp (Ab s3).1],(Ab s3).2.1,st4,own'),⟨ho',j2.trans (AU.trans h4),?_,by grind,?_⟩,hd3,Yl,St.le_refl _⟩
    .grind
    .show DJ (l++[Bp (Ab s3).1]) (Ab s3).2.1=_
     rw [<-j7,Zo (l:=l) hp]
   all_goals rw [<-j7,Vs ‹_›] at h
   all_goals unfold IH at h
   all_goals dsimp only at h
   all_goals rw [hq5] at h
   .exact DH (AB.Bu ho') BK (h st5 (j2.trans (AU.trans h5)))
   .exact DH (AB.Bu g5) rfl (h st5 (j2.trans (AU.trans h5)))
  |false=>
   rw [if_neg ke] at h
   replace h:El st b R (match KE Y n1 s1 with
    | .inl e=>(.inl e:Rs)
    | .inr r=>IH (if 2<r.1.length then 5 else 4) r.1 r.2 [41]):=by
    unfold KE
    cases hy:Y s1 with
    |inl e=>simp_all
    |inr q=>grind
   have hbl:∀{l s2},KE Y n1 s1=.inr (l,s2)->s2.Ca.length<=500000000/\l.length+1<=1000000000:=λe=>by
    have:=bC hF e
    exact ⟨C2 AC,AC⟩
   repeat' ((conv=>whnf);first|(refine Bg ?_;intros)|(refine Bh ?_ ?_<;>intro _)|refine Fb hs hb (Ge hq1 (λst1 h1=>?_))|refine ZU hA h1.1 hb1 ?_|refine ZU hC Es hb1 ?_|refine ZU hE Es hb1 ?_|refine lk hY h0 hB hF (n1:=n1) AC hm1 Es (bb (λl s2 hq2 st2 own1 h2 g2=>?_) (λe2 s2 hq2 st2 h2=>?_))|refine BP (λ_=>?_)|refine PX (h2.1.hw own1 _) (hbl hq2).1 (EN g2 h2.1 (Fw (λn3 s3 hq3 U h3 hg3=>?_) (λe3 s3 hq3 U h3 hg3=>?_)))|refine MM (l:=l) (x:=n3) hg3 (hbl hq2).2 (λown2 ho2=>?_))
   all_goals rw [hq2] at h
   all_goals dsimp only at h
   all_goals try unfold IH at h
   all_goals try rw [hq3] at h
   all_goals have hu:=(((h1.trans AU).trans AU).trans AU).trans h2
   .rw [if_pos AC] at h
    exact DH (AB.Bu ho2) BK (h U (hu.trans h3))
   .exact DH (AB.Bu hg3) rfl (h U (hu.trans h3))
   .rw [if_neg AC] at h
    exact DH (AB.Bu ho2) BK (h U (hu.trans h3))
   .exact DH (AB.Bu hg3) rfl (h U (hu.trans h3))
   .exact fin (h st2 hu) rfl
end
theorem Q1 (h:d=0) (s:Af):Dz d s=.inl (2,s):=by subst h;rfl
theorem SX (U:d+1<=1000000) (h:CZ 220 (d:Int) (Dz d)):C0 362 ((d+1:Nat):Int) (DD (Dz d)):=
 mJ (ky rfl AC h (λe s=>Q1 e s) (EJ d) (BB d)) (ga AC h (λe s=>Q1 e s) (EJ d) (BB d))
theorem LJ (U:d+1<=1000000) (h:CZ 220 (d:Int) (Dz d)):C0 296 ((d+1:Nat):Int) (Hs (DD (Dz d))):=
 n9 (SX U h) (BT (BB d))
theorem MI (U:d+1<=1000000) (h:CZ 220 (d:Int) (Dz d)):C0 297 ((d+1:Nat):Int) (Fc (DD (Dz d))):=
 lx (LJ U h) (SW (LJ U h) (BT (BB d))) (BT (BB d))
theorem Jp:∀d:Nat,d<=100->CZ 220 (d:Int) (Dz d)
 |0,_=>Xt λh=>absurd Do h
 |d+1,U=>Xt λ_=>by
  rw [if_neg AC]
  exact MI AC (Jp d AC)
def DC (deep:Int):Nat:=(if 100<deep then 100 else deep).toNat
theorem Rt (deep:Int):DC deep<=100:=by unfold DC;split<;>omega
theorem Rr {deep:Int} (h:¬deep<1):(if 100<deep then 100 else deep)=((DC deep - 1+1:Nat):Int):=by unfold DC;split<;>omega
theorem pL {deep:Int}:CZ 220 deep (Fc (DD (Dz (DC deep - 1)))):=Xt λh=>by
 rw [Rr h]
 have:=Rt deep
 exact MI AC (Jp _ AC)
theorem oP {deep:Int}:CZ 406 deep (DD (Dz (DC deep - 1))):=il λh=>by
 rw [Rr h]
 have:=Rt deep
 exact SX AC (Jp _ AC)
theorem qf {deep:Int}:CZ 219 deep (Hs (DD (Dz (DC deep - 1)))):=n8 λh=>by
 rw [Rr h]
 have:=Rt deep
 exact LJ AC (Jp _ AC)
def rn:Rs->Nd
 | .inr p=>p.1
 | .inl _=>FN
def rs:Rs->Af
 | .inr p=>p.2
 | .inl p=>p.2
def re:Rs->Int
 | .inr _=>0
 | .inl p=>p.1
theorem de (q:Rs):OJ q=BM (rn q) (rs q) (re q):=by cases q<;>rfl
def Q7 (f:FuncId) (d:Int) (A:Af->Rs):Prop:=∀s,mu s<=100000000->∀(st:St) (R:Ay->St->Prop),R (.ret (OJ (A s))) st->PC f [Bn s,.int .i64 d] st R
theorem Q7.e {f:FuncId} {d x:Int} {A:Af->Rs} (h:Q7 f d A) (hx:x=d) {s:Af} {q:Rs} (e:A s=q) (U:mu s<=100000000) {st:St} {R:Ay->St->Prop} (k:R (.ret (OJ q)) st):PC f [Bn s,.int .i64 x] st R:=by
 subst hx;subst e;exact h s U st R k
theorem Q7.q {d x:Int} (h:Q7 f d A) (hx:x=d) {s:Af} (U:mu s<=100000000) {st:St} (k:R (.ret (BM (rn (A s)) (rs (A s)) (re (A s)))) st):PC f [Bn s,.int .i64 x] st R:=by
 subst hx;exact h s U st R (by rw [de];exact k)
section
variable {st:St} {R:Ay->St->Prop}
attribute [local irreducible] Go.Aw.Ag
theorem nn {d:Int} (hr:C0 296 d (Hs A)) (ha:Va 364 d (Ey A)) (hw:C0 297 d (Fc A)) (hF:A2 A):C0 305 d (G0 A):=by
 intro s hm b st R hs h
 refine pB Tryz.func305 ?_
 unfold G0 at h
 have hm1:∀{n1 s1},Hs A s=.inr (n1,s1)->mu s1<=100000000:=λe=>by have:=Fm hF _ _ _ e;omega
 have hm2:∀{n1 s1},Hs A s=.inr (n1,s1)->Ba s1 10 [61,62]=true->mu (Ab s1).2.1<=100000000:=λe i=>by have:=hm1 e;have:=DM i Do Do;omega
 repeat' ((conv=>whnf);first|exact Cr|(refine Bg ?_;intros)|(refine Cs ?_ ?_ ?_;rotate_left)|(refine Bh ?_ ?_<;>intro _)|refine hr s hm b _ _ hs (Dx (λn1 s1 U st1 h1=>?_) (λe1 s1 U st1 h1=>?_))|refine VS h1.1 (C2 (hm1 U)) ?_|refine ha n1 s1 (hm1 U) b _ _ Es (Dx (λn2 s2 hq2 st2 h2=>?_) (λe2 s2 hq2 st2 h2=>?_))|refine Ac [(0,true),(1,true),(3,true),(4,true),(2,false),(5,false),(6,true),(7,true),(8,false)] [0] EQ ?_|refine Fb Es (C2 (hm1 U)) (Ge (G7 ‹_› Do) (λst2 h2=>?_))|refine hw (Ab s1).2.1 (hm2 U ‹_›) b _ _ h2.1 (Dx (λn3 s3 hq3 st3 h3=>?_) (λe3 s3 hq3 st3 h3=>?_))|with_reducible refine WF ?_)
 all_goals rw [U] at h
 all_goals dsimp only at h
 .rw [if_pos ‹_›,hq3] at h
  exact DH (St.le_refl _) (BK (l:=[n1,Bp (Ab s1).1,n3])) (h st3 ((h1.trans AU).trans (h2.trans h3)))
 .rw [if_pos ‹_›,hq3] at h
  intro e'
  exact fin (h st3 ((h1.trans AU).trans (h2.trans h3))) rfl
 .rw [if_neg (Bool.eq_false_iff.1 ‹_›),hq2] at h
  exact Be rfl (h st2 ((h1.trans AU).trans h2))
 .rw [if_neg (Bool.eq_false_iff.1 ‹_›),hq2] at h
  exact fin (h st2 ((h1.trans AU).trans h2)) rfl
 .exact fin (h st1 h1) rfl
theorem dL (U:d+1<=1000000) (h:CZ 220 (d:Int) (Dz d)):C0 305 ((d+1:Nat):Int) (G0 (DD (Dz d))):=
 nn (LJ U h) (SW (LJ U h) (BT (BB d))) (MI U h) (BT (BB d))
theorem lS {deep:Int}:CZ 231 deep (G0 (DD (Dz (DC deep - 1)))):=jk λh=>by
 rw [Rr h]
 have:=Rt deep
 exact dL AC (Jp _ AC)
end
end Go.Proofs.Z
