/-
  Parts of a proof: lemmas that the last text uses.
-/
import Derived.Test.YtpkekfapphbgjaaGreatDoorW11
set_option linter.unusedVariables false
set_option linter.unusedSimpArgs false
set_option maxHeartbeats 16000000
variable {k c:Int} {x:List UInt8} {ks:List Int} {d:Nat} {o:Bool}
namespace Go.Proofs.Z
open Go Go.Aw
theorem CF (t:Tk):(BP t).size=1:=rfl
theorem CG (k:Int) (l:List Nd):(At k l).size=1+AD l:=by unfold At;rw [Nd.size]
def FN (r:Nat) (A:Rd Nd):Prop:=∀s,Rd.wp A s (λn s'=>n.size+64*mu s'+r<=64*mu s) Cu
section
variable {A B C D E F:Rd Nd} {s s0 s1 s2 s':An} {Q:Nd->An->Prop} {l m:List Nd} {r:Nat}
theorem FN.of (h:Dv A):FN 60 A:=λs=>Rd.wp_mono (h s) (λn s' _ h=>by
 have h1:=h.wK
 have h2:1<=n.size:=by cases n;rw [Nd.size];omega
 omega) (λ_ _ _ _=>trivial)
theorem Od (U:FN r A) (k:∀n s1,n.size+64*mu s1+r<=64*mu s->Q n s1):Rd.wp A s Q Cu:=Rd.wp_mono (U s) (λn s1 _ h=>k n s1 h) (λ_ _ _ _=>trivial)
theorem E2 (U:Real s) (k:mu (Ae s).2.1+1<=mu s->Q (BP (Ae s).1) (Ae s).2.1):Rd.wp A4 s Q Cu:=CO U λh=>k (by
 have:=(Eo U.ok).2 (by have:=U.lt;omega)
 omega)
theorem TP (U:k≠0) (h1:k<18) (kk:∀n s1,n.size=1->mu s1+1<=mu s->Q n s1):Rd.wp (BG k x) s Q Cu:=by
 unfold BG
 rw [Rd.Ah,Rd.Aq]
 exact AQ (λe=>E2 (Au e U h1) (kk _ _ rfl)) (λ_=>trivial)
theorem S6 (U:(ks.all λk=>decide (k≠0)&&decide (k<18))=true) (kk:∀n s1,n.size=1->mu s1+1<=mu s->Q n s1):Rd.wp (C8 ks) s Q Cu:=by
 unfold C8
 rw [Rd.Ah,Rd.Aq]
 refine AQ (λe=>?_) (λ_=>trivial)
 have:=List.all_eq_true.1 U _ (List.contains_iff_mem.1 e)
 simp only [Bool.and_eq_true,decide_eq_true_eq] at this
 exact E2 (Lz this.1 this.2) (kk _ _ rfl)
def Kv (l:List Nd) (s s':An):Prop:=AD l+64*mu s'+40*l.length<=64*mu s
theorem LK {item:Rd Nd} {Q:List Nd->An->Prop} (hi:FN 40 item) (U:Kv l s0 s) (k:∀l' s1,l.length+1<=l'.length->Kv l' s0 s1->Q l' s1):Rd.wp (Fo item x l) s Q Cu:=by
 simp only [Fo,Rd.wp_seq,Rd.wp_ret]
 refine CE (P:=λp s1=>l.length<=p.2.length/\Kv p.2 s0 s1) (λp s1 U=>?_) ⟨Nat.le_refl _,U⟩
 obtain ⟨g1,g2⟩:=U
 unfold Kv at *
 simp only [Vk,Rd.Ah,Rd.Aq,Rd.wp_seq,Rd.wp_ret]
 repeat' (first
  |exact trivial
  |refine AQ (λe=>?_) (λe=>?_)
  |refine E2 (Au ‹_› Do Do) (λhn=>?_)
  |refine E2 (A1 ‹_› Do Do) (λhn=>?_)
  |refine E2 ‹_› (λhn=>?_)
  |refine TP Do Do (λn s1 hn hz=>?_)
  |refine S6 Do (λn s1 hn hz=>?_)
  |refine GR ?_
  |refine Od ‹_› (λn s1 hn=>?_)
  |refine k _ _ ?_ ?_
  |refine ⟨?_,?_⟩
  |omega
  |(simp only [CF,CG,A2,AD,List.length_append,List.length_cons,List.length_nil] at *;omega))
theorem LL (h0:(ks.all λk=>decide (k≠0)&&decide (k<18))=true):FN 60 (EV ks):=λs=>by
 simp only [EV,Rd.wp_seq,Rd.wp_ret]
 repeat' (first
  |exact trivial
  |refine AQ (λe=>?_) (λe=>?_)
  |refine E2 (Au ‹_› Do Do) (λhn=>?_)
  |refine E2 (A1 ‹_› Do Do) (λhn=>?_)
  |refine E2 ‹_› (λhn=>?_)
  |refine TP Do Do (λn s1 hn U=>?_)
  |refine S6 Do (λn s1 hn U=>?_)
  |refine GR ?_
  |refine Od ‹_› (λn s1 hn=>?_)
  |refine S6 h0 (λn s1 hn U=>?_)
  |omega
  |(simp only [CF,CG,A2,AD,List.length_append,List.length_cons,List.length_nil] at *;omega))
theorem Z9:FN 60 Kg:=λs=>by
 have hs:=LL (ks:=[5,6]) Do
 simp only [Kg,Rd.Ah,Rd.Aq,Rd.wp_seq,Rd.wp_ret,Rd.Du]
 repeat' (first
  |exact trivial
  |refine AQ (λe=>?_) (λe=>?_)
  |refine E2 (Au ‹_› Do Do) (λhn=>?_)
  |refine E2 (A1 ‹_› Do Do) (λhn=>?_)
  |refine E2 ‹_› (λhn=>?_)
  |refine TP Do Do (λn s1 hn U=>?_)
  |refine S6 Do (λn s1 hn U=>?_)
  |refine GR ?_
  |refine Od ‹_› (λn s1 hn=>?_)
  |omega
  |(simp only [CF,CG,A2,AD,List.length_append,List.length_cons,List.length_nil] at *;omega))
theorem kQ:FN 60 J0:=λs=>by
 have hs:=LL (ks:=[5,6]) Do
 simp only [J0,Rd.Ah,Rd.Aq]
 repeat' (first
  |exact trivial
  |refine AQ (λe=>?_) (λe=>?_)
  |refine E2 (Au ‹_› Do Do) (λhn=>?_)
  |refine E2 (A1 ‹_› Do Do) (λhn=>?_)
  |refine E2 ‹_› (λhn=>?_)
  |refine TP Do Do (λn s1 hn U=>?_)
  |refine S6 Do (λn s1 hn U=>?_)
  |refine GR ?_
  |refine Od ‹_› (λn s1 hn=>?_)
  |omega
  |(simp only [CF,CG,A2,AD,List.length_append,List.length_cons,List.length_nil] at *;omega))
theorem FN.less {r r':Nat} (h:FN r A) (k:r'<=r):FN r' A:=λs=>Od h λn s1 hn=>by omega
theorem Lb (h:Kv l s0 s) (U:1<=l.length):(At k l).size+64*mu s+39<=64*mu s0:=by
 unfold Kv at h
 rw [CG];omega
theorem ve {a b c:Nat} (h:a+c<=b) (k:d<=c):a+d<=b:=AC
theorem qE (U:Kv l s0 s) (hl:1<=l.length) (k:∀n s1,n.size+64*mu s1+39<=64*mu s0->Q n s1):Rd.wp (Sm l) s Q Cu:=by
 have hm:=kQ.less (r':=40) Do
 unfold Kv at U
 simp only [Sm,Rd.Ah,Rd.Aq,Rd.wp_seq,Rd.wp_ret]
 repeat' (first
  |exact trivial
  |refine AQ (λe=>?_) (λe=>?_)
  |refine E2 (Au ‹_› Do Do) (λhn=>?_)
  |refine E2 (A1 ‹_› Do Do) (λhn=>?_)
  |refine E2 ‹_› (λhn=>?_)
  |refine TP Do Do (λn s1 hn hz=>?_)
  |refine S6 Do (λn s1 hn hz=>?_)
  |refine GR ?_
  |refine Od ‹_› (λn s1 hn=>?_)
  |refine LK (s0:=s0) hm ?_ (λl' s1 h1 h2=>k _ _ (Lb h2 AC))
  |unfold Kv
  |refine k _ _ ?_
  |omega
  |(simp only [CF,CG,A2,AD,List.length_append,List.length_cons,List.length_nil] at *;omega))
theorem vf:FN 39 (Sn o):=λs=>by
 have hs:=LL (ks:=qA o) (by cases o<;>decide)
 have h1:((Mx o).all λk=>decide (k≠0)&&decide (k<18))=true:=by cases o<;>decide
 have h2:((SX o).all λk=>decide (k≠0)&&decide (k<18))=true:=by cases o<;>decide
 simp only [Sn,Y2,Rd.Ah,Rd.Aq,Rd.wp_seq,Rd.wp_ret]
 repeat' (first
  |exact trivial
  |refine AQ (λe=>?_) (λe=>?_)
  |refine E2 (Au ‹_› Do Do) (λhn=>?_)
  |refine E2 (A1 ‹_› Do Do) (λhn=>?_)
  |refine E2 ‹_› (λhn=>?_)
  |refine TP Do Do (λn s1 hn U=>?_)
  |refine S6 Do (λn s1 hn U=>?_)
  |refine GR ?_
  |refine Od ‹_› (λn s1 hn=>?_)
  |refine S6 h1 (λn s1 hn U=>?_)
  |refine S6 h2 (λn s1 hn U=>?_)
  |refine qE (s0:=s) ?_ (Nat.le_refl _) (λn s1 h=>h)
  |unfold Kv
  |omega
  |(simp only [CF,CG,A2,AD,List.length_append,List.length_cons,List.length_nil] at *;omega))
def rv (l:List Nd) (s s':An):Prop:=AD l+64*mu s'+20*l.length<=64*mu s
theorem Z7:FN 19 (EZ o):=λs=>by
 have hi:=vf (o:=o)
 simp only [EZ,Rd.wp_seq,Rd.wp_ret]
 refine TP Do Do λn s1 hn U=>?_
 refine CE (P:=λl s1=>1<=l.length/\rv l s s1) (λl s1 h0=>?_) ⟨Nat.le_refl _,by unfold rv;simp only [AD,List.length_cons,List.length_nil];omega⟩
 obtain ⟨g1,g2⟩:=h0
 unfold rv at *
 simp only [V7,Vl,Rd.Ah,Rd.Aq,Rd.wp_seq,Rd.wp_ret]
 repeat' (first
  |exact trivial
  |refine AQ (λe=>?_) (λe=>?_)
  |refine E2 (Au ‹_› Do Do) (λhn=>?_)
  |refine E2 (A1 ‹_› Do Do) (λhn=>?_)
  |refine E2 ‹_› (λhn=>?_)
  |refine TP Do Do (λn s1 hn U=>?_)
  |refine S6 Do (λn s1 hn U=>?_)
  |refine GR ?_
  |refine Od ‹_› (λn s1 hn=>?_)
  |refine ⟨?_,?_⟩
  |omega
  |(simp only [CF,CG,A2,AD,List.length_append,List.length_cons,List.length_nil] at *;omega))
theorem dA (hr:Real s) (k:∀n s1,n.size+64*mu s1+15<=64*mu s->Q n s1):Rd.wp G1 s Q Cu:=by
 have hi:=Z7 (o:=true)
 simp only [G1,Nv,Nw,Nx,Rd.Ah,Rd.Aq,Rd.wp_seq,Rd.wp_ret]
 repeat' (first
  |exact trivial
  |refine AQ (λe=>?_) (λe=>?_)
  |refine E2 (Au ‹_› Do Do) (λhn=>?_)
  |refine E2 (A1 ‹_› Do Do) (λhn=>?_)
  |refine E2 ‹_› (λhn=>?_)
  |refine TP Do Do (λn s1 hn U=>?_)
  |refine S6 Do (λn s1 hn U=>?_)
  |refine GR ?_
  |refine Od ‹_› (λn s1 hn=>?_)
  |refine k _ _ ?_
  |omega
  |(simp only [CF,CG,A2,AD,List.length_append,List.length_cons,List.length_nil] at *;omega))
theorem dz (hD:FN 60 D) (hr:Real s) (k:∀n s1,n.size+64*mu s1+15<=64*mu s->Q n s1):Rd.wp (G0 D) s Q Cu:=by
 have hi:=Z9
 simp only [G0,KM,Nu,Jj,KN,Rd.Ah,Rd.Aq,Rd.wp_seq,Rd.wp_ret]
 repeat' (first
  |exact trivial
  |refine AQ (λe=>?_) (λe=>?_)
  |refine E2 (Au ‹_› Do Do) (λhn=>?_)
  |refine E2 (A1 ‹_› Do Do) (λhn=>?_)
  |refine E2 ‹_› (λhn=>?_)
  |refine TP Do Do (λn s1 hn U=>?_)
  |refine S6 Do (λn s1 hn U=>?_)
  |refine GR ?_
  |refine Od ‹_› (λn s1 hn=>?_)
  |refine E2 (fR ‹_›) (λhn=>?_)
  |refine k _ _ ?_
  |omega
  |(simp only [CF,CG,A2,AD,List.length_append,List.length_cons,List.length_nil] at *;omega))
theorem Z4 (U:FN 60 A) (hr:Real s) (k:∀n s1,n.size+64*mu s1+15<=64*mu s->Q n s1):Rd.wp (FF A) s Q Cu:=by
 have hm:=U.less (r':=40) Do
 simp only [FF,Rd.wp_seq,Rd.wp_ret]
 repeat' (first
  |exact trivial
  |refine AQ (λe=>?_) (λe=>?_)
  |refine E2 (Au ‹_› Do Do) (λhn=>?_)
  |refine E2 (A1 ‹_› Do Do) (λhn=>?_)
  |refine E2 ‹_› (λhn=>?_)
  |refine TP Do Do (λn s1 hn hz=>?_)
  |refine S6 Do (λn s1 hn hz=>?_)
  |refine GR ?_
  |refine Od ‹_› (λn s1 hn=>?_)
  |refine LK (s0:=s) hm ?_ (λl' s1 h1 h2=>k _ _ (ve (Lb h2 AC) Do))
  |unfold Kv
  |omega
  |(simp only [CF,CG,A2,AD,List.length_append,List.length_cons,List.length_nil] at *;omega))
theorem QI {Q:List Nd×Nd->An->Prop} (hA:FN 60 A) (h0:Kv l s0 s) (k:∀l' n s1,Kv (l'++[n]) s0 s1->l.length<=l'.length->Q (l',n) s1):Rd.wp (It A l) s Q Cu:=by
 unfold Kv at *
 simp only [It,Rd.Ah,Rd.Aq,Rd.wp_seq,Rd.wp_ret]
 repeat' (first
  |exact trivial
  |refine AQ (λe=>?_) (λe=>?_)
  |refine E2 (Au ‹_› Do Do) (λhn=>?_)
  |refine E2 (A1 ‹_› Do Do) (λhn=>?_)
  |refine E2 ‹_› (λhn=>?_)
  |refine TP Do Do (λn s1 hn U=>?_)
  |refine S6 Do (λn s1 hn U=>?_)
  |refine GR ?_
  |refine Od ‹_› (λn s1 hn=>?_)
  |refine k _ _ _ ?_ ?_
  |omega
  |(simp only [CF,CG,A2,AD,List.length_append,List.length_cons,List.length_nil] at *;omega))
theorem dD (hA:FN 60 A) (hB:FN 60 B) (hr:Real s) (k:∀n s1,n.size+64*mu s1+15<=64*mu s->Q n s1):Rd.wp (G8 A B) s Q Cu:=by
 simp only [G8,Rd.wp_seq,Rd.wp_ret]
 repeat' (first
  |exact trivial
  |refine AQ (λe=>?_) (λe=>?_)
  |refine E2 (Au ‹_› Do Do) (λhn=>?_)
  |refine E2 (A1 ‹_› Do Do) (λhn=>?_)
  |refine E2 ‹_› (λhn=>?_)
  |refine TP Do Do (λn s1 hn U=>?_)
  |refine S6 Do (λn s1 hn U=>?_)
  |refine GR ?_
  |refine Od ‹_› (λn s1 hn=>?_)
  |refine k _ _ ?_
  |omega
  |(simp only [CF,CG,A2,AD,List.length_append,List.length_cons,List.length_nil] at *;omega))
theorem UN (hA:FN 60 A) (hr:Real s) (k:∀n s1,n.size+64*mu s1+60<=64*mu s->Q n s1):Rd.wp (Hw A) s Q Cu:=by
 simp only [Hw,Rd.wp_seq,Rd.wp_ret]
 repeat' (first
  |exact trivial
  |refine AQ (λe=>?_) (λe=>?_)
  |refine E2 (Au ‹_› Do Do) (λhn=>?_)
  |refine E2 (A1 ‹_› Do Do) (λhn=>?_)
  |refine E2 ‹_› (λhn=>?_)
  |refine TP Do Do (λn s1 hn U=>?_)
  |refine S6 Do (λn s1 hn U=>?_)
  |refine GR ?_
  |refine Od ‹_› (λn s1 hn=>?_)
  |refine k _ _ ?_
  |omega
  |(simp only [CF,CG,A2,AD,List.length_append,List.length_cons,List.length_nil] at *;omega))
theorem vg (U:FN 60 A):FN 60 (Hh A):=λs=>by
 have hs:=LL (ks:=[6]) Do
 simp only [Hh,Rd.Ah,Rd.Aq]
 repeat' (first
  |exact trivial
  |refine AQ (λe=>?_) (λe=>?_)
  |refine E2 (Au ‹_› Do Do) (λhn=>?_)
  |refine E2 (A1 ‹_› Do Do) (λhn=>?_)
  |refine E2 ‹_› (λhn=>?_)
  |refine TP Do Do (λn s1 hn hz=>?_)
  |refine S6 Do (λn s1 hn hz=>?_)
  |refine GR ?_
  |refine Od ‹_› (λn s1 hn=>?_)
  |refine UN U (Au ‹_› Do Do) (λn s1 h=>h)
  |omega
  |(simp only [CF,CG,A2,AD,List.length_append,List.length_cons,List.length_nil] at *;omega))
theorem Z8 {Q:List Nd->An->Prop} (hA:FN 60 A) (k:∀l s1,Kv l s s1->1<=l.length->Q l s1):Rd.wp (IX A) s Q Cu:=by
 have hp:=vg hA
 simp only [IX,Rd.wp_seq]
 refine Od hp λn s1 U=>CE (P:=λl s1=>Kv l s s1/\1<=l.length) (λl s1 U=>?_) ⟨by unfold Kv;simp only [AD,List.length_cons,List.length_nil];omega,Nat.le_refl _⟩
 obtain ⟨g1,g2⟩:=U
 unfold Kv at *
 simp only [SD,Rd.Ah,Rd.Aq,Rd.wp_seq,Rd.wp_ret]
 repeat' (first
  |exact trivial
  |refine AQ (λe=>?_) (λe=>?_)
  |refine E2 (Au ‹_› Do Do) (λhn=>?_)
  |refine E2 (A1 ‹_› Do Do) (λhn=>?_)
  |refine E2 ‹_› (λhn=>?_)
  |refine TP Do Do (λn s1 hn hz=>?_)
  |refine S6 Do (λn s1 hn hz=>?_)
  |refine GR ?_
  |refine Od ‹_› (λn s1 hn=>?_)
  |refine k _ _ ?_ ?_
  |refine ⟨?_,?_⟩
  |omega
  |(simp only [CF,CG,A2,AD,List.length_append,List.length_cons,List.length_nil] at *;omega))
theorem gF (U:Kv l s0 s) (hl:1<=l.length) (k:∀n,n.size+64*mu s+39<=64*mu s0->Q n s):Rd.wp (PG l) s Q Cu:=by
 unfold PG
 rw [Rd.Aq]
 unfold Kv at U
 refine AQ (λe=>?_) λ_=>?_
 .match l,e with
  |[x],_=>exact k _ (by simp only [AD,List.length_cons,List.length_nil] at U;show x.size+64*mu s+39<=64*mu s0;omega)
 .rw [Rd.wp_seq]
  exact GR (k _ (by rw [CG];omega))
theorem qD (hA:FN 60 A) (hB:FN 60 B):FN 60 (HA A B):=λs=>by
 have hs:=Z9
 simp only [HA,Rd.wp_seq]
 refine Od hs λn s1 U=>CE (P:=λl s1=>Kv l s s1/\1<=l.length) (λl s1 U=>?_) ⟨by unfold Kv;simp only [AD,List.length_cons,List.length_nil];omega,Nat.le_refl _⟩
 obtain ⟨g1,g2⟩:=U
 unfold Kv at *
 simp only [VD,Rd.Ah,Rd.Aq,Rd.wp_seq,Rd.wp_ret]
 repeat' (first
  |exact trivial
  |refine AQ (λe=>?_) (λe=>?_)
  |refine E2 (Au ‹_› Do Do) (λhn=>?_)
  |refine E2 (A1 ‹_› Do Do) (λhn=>?_)
  |refine E2 ‹_› (λhn=>?_)
  |refine TP Do Do (λn s1 hn hz=>?_)
  |refine S6 Do (λn s1 hn hz=>?_)
  |refine GR ?_
  |refine Od ‹_› (λn s1 hn=>?_)
  |refine UN hA (Au ‹_› Do Do) (λn s1 hn=>?_)
  |refine ⟨?_,?_⟩
  |omega
  |(simp only [CF,CG,A2,AD,List.length_append,List.length_cons,List.length_nil] at *;omega))
theorem qF (hr:Real s) (k:∀n s1,n.size+64*mu s1+60<=64*mu s->Q n s1):Rd.wp MM s Q Cu:=by
 simp only [MM,Rd.Ah,Rd.Aq,Rd.wp_seq,Rd.wp_ret,Rd.Du]
 repeat' (first
  |exact trivial
  |refine AQ (λe=>?_) (λe=>?_)
  |refine E2 (Au ‹_› Do Do) (λhn=>?_)
  |refine E2 (A1 ‹_› Do Do) (λhn=>?_)
  |refine E2 ‹_› (λhn=>?_)
  |refine TP Do Do (λn s1 hn U=>?_)
  |refine S6 Do (λn s1 hn U=>?_)
  |refine GR ?_
  |refine Od ‹_› (λn s1 hn=>?_)
  |refine k _ _ ?_
  |omega
  |(simp only [CF,CG,A2,AD,List.length_append,List.length_cons,List.length_nil] at *;omega))
theorem S7 (hA:FN 60 A) (hr:Real s) (U:Kv l s0 s) (hl:1<=l.length):Rd.wp (GL A l) s (λn s1=>n.size+64*mu s1+39<=64*mu s0) Cu:=by
 simp only [GL,Rd.wp_seq,Rd.wp_ret]
 exact gF U hl λa h1=>qF hr λo s1 h2=>Z8 hA λr s2 h3 h4=>gF h3 h4 λb h5=>by
  simp only [CG,AD]
  omega
theorem UM (hA:FN 60 A) (hB:FN 60 B):FN 39 (FV A B):=λs=>by
 have hf:=(qD hA hB).less (r':=40) Do
 have hb:∀{l:List Nd} {s1:An},Kv l s s1->1<=l.length->Rd.wp (Hs A l) s1 (λn s'=>n.size+64*mu s'+39<=64*mu s) Cu:=λU hl=>by
  simp only [Hs,Rd.Ah,Rd.Aq,Rd.wp_seq,Rd.wp_ret]
  exact AQ (λe=>S7 hA (A1 e Do Do) U hl) λ_=>AQ (λe=>S7 hA (Au e Do Do) U hl) λ_=>GR (Lb U hl)
 simp only [FV,Rd.Ah,Rd.Aq,Rd.wp_seq,Rd.wp_ret]
 refine Z8 hA λl s1 U hl=>AQ (λ_=>AQ (λe=>?_) λ_=>hb U hl) λ_=>hb U hl
 refine E2 (Au e Do Do) λh1=>LK (s0:=s) hf ?_ λl s2 h2 h3=>Lb h3 AC
 unfold Kv at *
 simp only [CF,A2,AD,List.length_append,List.length_cons,List.length_nil] at *
 omega
theorem Z5 (hr:Real s) (k:∀n s1,n.size+64*mu s1+39<=64*mu s->Q n s1):Rd.wp FG s Q Cu:=by
 have hi:FN 40 (C8 [2,4]):=λs=>S6 Do λn s1 h1 h2=>by omega
 simp only [FG,Rd.Ah,Rd.Aq,Rd.wp_seq,Rd.wp_ret]
 repeat' (first
  |exact trivial
  |refine AQ (λe=>?_) (λe=>?_)
  |refine E2 (Au ‹_› Do Do) (λhn=>?_)
  |refine E2 (A1 ‹_› Do Do) (λhn=>?_)
  |refine E2 ‹_› (λhn=>?_)
  |refine TP Do Do (λn s1 hn U=>?_)
  |refine S6 Do (λn s1 hn U=>?_)
  |refine GR ?_
  |refine Od ‹_› (λn s1 hn=>?_)
  |refine LK (s0:=s) hi ?_ (λl' s1 h1 h2=>k _ _ (Lb h2 AC))
  |unfold Kv
  |refine k _ _ ?_
  |omega
  |(simp only [CF,CG,A2,AD,List.length_append,List.length_cons,List.length_nil] at *;omega))
theorem XaG (h:Kv l s s'):rv l s s':=by
 unfold Kv at h
 unfold rv
 omega
theorem S8 (U:rv l s0 s) (hl:1<=l.length) (k:∀n s1,n.size+64*mu s1+15<=64*mu s0->Q n s1):Rd.wp (GY c l) s Q Cu:=by
 unfold rv at U
 simp only [GY,Rd.Ah,Rd.Aq,Rd.wp_seq,Rd.wp_ret]
 exact AQ (λe=>Z5 (Au e Do Do) λn s1 h=>k _ _ (by
  simp only [CG,A2,AD]
  omega)) λ_=>k _ _ (by rw [CG];omega)
theorem vb (hA:FN 60 A) (hB:FN 60 B) (hC:FN 60 C) (hr:Real s) (k:∀n s1,n.size+64*mu s1+15<=64*mu s->Q n s1):Rd.wp (Ph A B C) s Q Cu:=by
 have hn:=UM hA hC
 simp only [Ph,Rd.wp_seq]
 refine E2 hr λU=>QI (s0:=s) hB (by unfold Kv;simp only [CF,AD,List.length_cons,List.length_nil];omega) λl n s1 h1 hl=>GR (CE (P:=λp s1=>rv p.2 s s1/\1<=p.2.length) (λp s1 U=>?_) ⟨XaG h1,by dsimp only;rw [List.length_append];exact Nat.le_add_left _ _⟩)
 obtain ⟨g1,g2⟩:=U
 simp only [eo,Rd.Ah,Rd.Aq,Rd.wp_seq,Rd.wp_ret]
 exact AQ (λe=>E2 (Au e Do Do) λh2=>Od hn λc s2 h3=>by
  unfold rv at *
  simp only [CF,A2,AD,List.length_append,List.length_cons,List.length_nil] at *
  exact ⟨AC,AC⟩) λ_=>S8 g1 g2 k
theorem dC (hA:FN 60 A) (hB:FN 60 B) (hC:FN 60 C) (hr:Real s) (k:∀n s1,n.size+64*mu s1+15<=64*mu s->Q n s1):Rd.wp (G3 A B C) s Q Cu:=by
 have hn:=UM hA hC
 simp only [G3,Rd.wp_seq]
 exact E2 hr λh0=>QI (s0:=s) hB (by unfold Kv;simp only [CF,AD,List.length_cons,List.length_nil];omega) λl n s1 h1 hl=>GR (TP Do Do λe s2 h2 U=>Od hn λc s3 h3=>GR (S8 (s0:=s) (by
  unfold Kv at h1
  unfold rv
  simp only [CF,A2,AD,List.length_append,List.length_cons,List.length_nil] at *
  omega) (by rw [List.length_append];exact Nat.le_add_left _ _) k))
theorem gE {U:Nd->Bool} (hA:FN 60 A) (h0:Kv l s0 s) (hl:1<=l.length) (k:∀n s1,n.size+64*mu s1+15<=64*mu s0->Q n s1):Rd.wp (Pf A c l U) s Q Cu:=by
 simp only [Pf,Rd.Ah,Rd.Aq,Rd.wp_seq,Rd.wp_ret]
 unfold Kv at h0
 exact AQ (λe=>E2 (Au e Do Do) λh1=>Od hA λb s1 h2=>GR (k _ _ (by
  simp only [CG,CF,A2,AD]
  omega))) λ_=>k _ _ (by rw [CG];omega)
theorem qB (U:FN 60 A) (hB:FN 60 B) (hr:Real s) (k:∀n s1,n.size+64*mu s1+15<=64*mu s->Q n s1):Rd.wp (KE A B) s Q Cu:=by
 simp only [KE,Rd.wp_seq]
 exact E2 hr λh0=>QI (s0:=s) U (by unfold Kv;simp only [CF,AD,List.length_cons,List.length_nil];omega) λl n s1 h1 hl=>GR (gE (s0:=s) hB h1 (by rw [List.length_append];exact Nat.le_add_left _ _) k)
theorem Z6 (U:FN 60 A) (hB:FN 60 B) (hr:Real s) (k:∀n s1,n.size+64*mu s1+15<=64*mu s->Q n s1):Rd.wp (FI A B) s Q Cu:=by
 simp only [FI,Rd.wp_seq]
 exact E2 hr λh0=>QI (s0:=s) U (by unfold Kv;simp only [CF,AD,List.length_cons,List.length_nil];omega) λl n s1 h1 hl=>GR (gE (s0:=s) hB h1 (by rw [List.length_append];exact Nat.le_add_left _ _) k)
theorem yX (hA:FN 60 A) (hB:FN 60 B) (hC:FN 60 C) (hD:FN 60 D) (hE:FN 60 E) (hF:FN 60 F):FN 15 (XA A B C D E F):=λs=>by
 have hE':=hE.less (r':=15) Do
 simp only [XA,Rd.Ah,Rd.Aq]
 refine AQ (λe=>?_) λ_=>hE' s
 have U:=A1 e Do Do
 exact AQ (λ_=>dA U λ_ _ h=>h) λ_=>AQ (λ_=>dD hB hC U λ_ _ h=>h) λ_=>AQ (λ_=>vb hA hB hC U λ_ _ h=>h) λ_=>AQ (λ_=>dC hA hB hC U λ_ _ h=>h) λ_=>
  AQ (λ_=>qB hB hF U λ_ _ h=>h) λ_=>AQ (λ_=>Z6 hB hF U λ_ _ h=>h) λ_=>AQ (λ_=>Z4 hC U λ_ _ h=>h) λ_=>AQ (λ_=>dz hD U λ_ _ h=>h) λ_=>hE' s
theorem Xt {X:An->Rs} {h:∀s v s',X s=.inr (v,s')->mu s'<=mu s} (k:Dj X):FN 60 (H0 X h):=FN.of (Dv.of λs n s' e=>k s n s' (by
 unfold H0 at e
 dsimp only at e
 split at e
 .split at e<;>cases e
 .rename_i U;rw [U];injection e with e;rw [e]))
theorem kO:∀d,FN 60 (Ou d)
 |0=>λs=>trivial
 |d+1=>FN.of (KG (HS (E8 _) (KH _)))
theorem vh (d:Nat):FN 15 (lh d):=
 yX (Xt (Io (Ip _))) (Xt (Rf (Io (Ip _)))) (Xt (Nh (Io (Ip _)))) (FN.of (E8 d)) (FN.of (HS (E8 _) (KH _))) (kO _)
theorem vc (U:FN r A) (l:List Nd):FN r (IZ A l):=λs=>by
 simp only [IZ,Rd.Ah,Rd.Aq,Rd.wp_seq,Rd.wp_ret,Rd.Du]
 exact Od U λn s1 h=>AQ (λ_=>trivial) λ_=>h
theorem S9 {s s1:An} (h:Bh [] s s1):mu s1<=mu s:=by
 have:=h.size
 simp only [AD,PH] at this
 omega
theorem gD (f:Bool) (l:List Nd):(Dr f l).size=1+AD l:=by unfold Dr;rw [Nd.size]
theorem kR (hA:FN 15 A):FN 10 (Ki A):=λs=>by
 simp only [Ki,JN,Rd.Ah,Rd.Aq,Rd.wp_seq,Rd.wp_ret]
 have hb:∀{f:Bool} {s1:An},(Ae s).2.2=0->DT (Ae s).1=true->(Ae s).2.1=s1->Rd.wp (Rd.loop (Ij UR (IZ A) f) []) s1 (λl s'=>(Dr f l).size+64*mu s'+10<=64*mu s) Cu:=λ{f s1} U e2 e3=>by
  subst e3
  have hz:mu (Ae s).2.1<mu s:=(Eo U).2 (Hu e2).2
  refine CE (P:=λl s1=>AD l+64*mu s1<=64*mu (Ae s).2.1) (λl s1 h0=>?_) (by simp only [AD];omega)
  simp only [Ij,Rd.Ah,Rd.Aq,Rd.wp_seq,Rd.wp_ret]
  refine Rj λs2 g2=>Je λb s3 g3=>AQ (λ_=>?_) λ_=>Od (vc hA l) λn s4 g4=>Je λb s5 g5=>?_
  .have:=S9 g2
   have:=S9 g3
   rw [gD];omega
  .have:=S9 g2
   have:=S9 g3
   have:=S9 g5
   refine AQ (λ_=>?_) λ_=>?_
   .rw [gD,A2]
    simp only [AD];omega
   .rw [A2]
    simp only [AD];omega
 refine AQ (λe=>?_) λ_=>?_
 .have hi:DT (Ae s).1=true:=by rw [beq_iff_eq] at e;simp [DT,e]
  exact zf hi λ_=>hb (Fq (Hu hi).1) hi rfl
 .unfold BG
  rw [Rd.Ah,Rd.Aq]
  refine AQ (λe=>?_) λ_=>trivial
  have hi:DT (Ae s).1=true:=by
   unfold BB at e
   simp only [Bool.and_eq_true,beq_iff_eq] at e
   simp [DT,e.1,e.2]
  exact CO (Au e Do Do) λ_=>hb (Fq (Hu hi).1) hi rfl
theorem dE (d:Nat):FN 10 (IA d):=kR (vh d)
end
def Th:List Tk->Nat
 |[]=>0
 |t::r=>t.text.length+Th r
theorem XC:∀(a b:List Tk),Th (a++b)=Th a+Th b
 |[],b=>by rw [List.nil_append,Th,Nat.zero_add]
 |t::r,b=>by rw [List.cons_append,Th,Th,XC r b,Nat.add_assoc]
theorem O1:∀(a b:List Nd),Bf (a++b)=Bf a+Bf b
 |[],b=>by rw [List.nil_append,Bf,Nat.zero_add]
 |n::r,b=>by rw [List.cons_append,Bf,Bf,O1 r b,Nat.add_assoc]
theorem Te (k:Int) (l:List Nd):Bf [At k l]=Bf l:=by
 unfold At
 rw [Bf,BX,Bf,List.length_nil,Nat.zero_add,Nat.add_zero]
theorem PO (f:Bool) (l:List Nd):Bf [Dr f l]=Bf l:=by
 unfold Dr
 rw [Bf,BX,Bf,List.length_nil,Nat.zero_add,Nat.add_zero]
theorem Bh.bare {l:List Nd} {s s':An} (h:Bh l s s'):Bf l=Th (AG l):=by
 induction h with
 |nil s=>rfl
 |app _ _ h1 h2=>rw [Cq,XC,O1,h1,h2]
 |tok h1 h2 h3=>rw [BC,JY];rfl
 |skip h1 h2=>rfl
 |close h1=>rfl
 |node h1 h2 h3 ih=>rw [BC,D2 h2,Te];exact ih
 |block h1 h2 h3 ih=>rw [BC,Fe,PO];exact ih
theorem Lf.bare {l:List Nd} {s s':An} (h:Lf l s s'):Bf l=Th (AG l):=by
 induction h with
 |app _ _ h1 h2=>rw [Cq,XC,O1,h1,h2]
 |node U _ h=>rw [BC,D2 U,Te];exact h
 |of h=>exact h.bare
 |block _ _ h1 h2=>rw [BC,Fe,PO];exact h2
theorem gK:∀l:List Tk,Th l<=Th (bg l)+l.length
 |[]=>Nat.le_refl _
 |t::r=>by
  have ih:=gK r
  unfold bg at ih |-
  rw [Th,List.length_cons]
  cases h:Zp t.kind t.text with
  |true=>rw [List.filter_cons,h,if_pos rfl,Th];omega
  |false=>
   rw [List.filter_cons,h,if_neg Do]
   have:t.text.length=1:=by
    unfold Zp at h
    simp only [Bool.or_eq_false_iff,Bool.and_eq_false_iff,Bool.not_eq_false',beq_iff_eq,decide_eq_false_iff_not] at h
    rcases h.2 with (e|e)|e<;>rw [e]<;>rfl
   omega
theorem aq:∀l:List Tk,Th l=Lib.lens (l.map Tk.text)
 |[]=>rfl
 |t::r=>by
  rw [Th,aq r,List.map_cons,<-List.singleton_append,YF]
  simp [Lib.lens]
theorem Ti (p:Tk->Bool):∀l:List Tk,Th (l.filter p)<=Th l
 |[]=>Nat.le_refl _
 |t::r=>by
  have ih:=Ti p r
  cases h:p t with
  |true=>rw [List.filter_cons,h,if_pos rfl,Th,Th];omega
  |false=>rw [List.filter_cons,h,if_neg Do,Th];omega
section
variable {s:An} {Q:List Nd->An->Prop}
theorem kP (k:∀l s1,AD l+64*mu s1<=64*mu s->Q l s1):Rd.wp F0 s Q Cu:=by
 have hi:=Z7 (o:=false)
 simp only [F0,Rd.Ah,Rd.Aq,Rd.wp_seq,Rd.wp_ret]
 repeat' (first
  |exact trivial
  |refine AQ (λe=>?_) (λe=>?_)
  |refine E2 (Au ‹_› Do Do) (λhn=>?_)
  |refine E2 (A1 ‹_› Do Do) (λhn=>?_)
  |refine E2 ‹_› (λhn=>?_)
  |refine TP Do Do (λn s1 hn U=>?_)
  |refine S6 Do (λn s1 hn U=>?_)
  |refine GR ?_
  |refine Od ‹_› (λn s1 hn=>?_)
  |refine k _ _ ?_
  |omega
  |(simp only [CF,CG,A2,AD,List.length_append,List.length_cons,List.length_nil] at *;omega))
theorem dB (d:Nat):FN 5 (CQ d):=λs=>by
 simp only [CQ,NJ,Rd.wp_seq,Rd.Ah,Rd.Aq,Rd.wp_ret]
 exact kP λl s1 U=>Od (dE d) λb s2 h1=>AQ (λ_=>by
  rw [CG,A2]
  simp only [AD];omega) λ_=>trivial
theorem Y0 {n:Nd} {s s':An} (h:(CQ d).run s=.inr (n,s')):n.size<=64*mu s:=by
 have U:=dB d s
 unfold Rd.wp at U
 rw [h] at U
 replace U:n.size+64*mu s'+5<=64*mu s:=U
 omega
end
theorem Y1 {l:List Tk} {n:Nd} {s':An} (hl:∀t ∈ l,0<t.kind/\t.kind<16) (h:(CQ d).run ⟨CA l,0,[],0⟩=.inr (n,s')) (hk:(Ae s').1.kind=21):BX n<=Th l+4*mu ⟨CA l,0,[],0⟩:=by
 have hc:=TJ hl h hk
 have U:=Sf d ⟨CA l,0,[],0⟩
 unfold Rd.wp at U
 rw [h] at U
 replace U:Lf [n] ⟨CA l,0,[],0⟩ s':=U
 have h1:=U.bare
 have h2:=U.Ie.1
 rw [BC] at h1 h2
 have h3:Bf [n]=BX n:=by rw [Bf,Bf,Nat.add_zero]
 have h4:=gK (A0 n)
 have h5:Th (bg l)<=Th l:=Ti _ l
 rw [hc] at h4
 omega
section
variable {st:St} {R:As->St->Prop}
theorem Xg {s:List UInt8} (h:∀st',R (.ret (.bool true)) st'):PC 11 [.str s] st R:=by
 refine pB Tryz.func11 ?_
 by_cases hl:(s.length:Int)>2000
 .skip
  repeat' ((conv=>whnf);first|(refine AE ?_;intros)|refine WJ (λ_=>?_)|refine K3 (λst1 hle1=>?_))
  all_goals exact fin (h _) rfl
 .have hl3:s.length<=16000:=AC
  obtain ⟨n,c,l,k,e,hp⟩:∃n c l k e,DE s=(n,c,l,k,e):=⟨_,_,_,_,_,rfl⟩
  by_cases he:e=0
  .subst he
   obtain ⟨x,s',hx,hr,rfl⟩:=jR hp
   have hkd:=tK hx
   have hlen:=YH hx
   have hmk:=Ur x.AL
   obtain ⟨_,_,_,_,_,U,_⟩:=cK hr
   have hmu:mu ⟨CA x.AL,0,[],0⟩<=20000:=by unfold mu;simp only [List.length_nil];omega
   have hz:=Y0 hr
   have ht:=Y1 hkd hr U
   rw [aq] at ht
   have hz2:n.size<=100000000:=AC
   have ht2:BX n<=100000000:=AC
   clear hr U hkd hmk hlen hmu hz ht
   obtain ⟨t,e,l,k,hs⟩:∃t e l k,E1 n=(t,e,l,k):=⟨_,_,_,_,rfl⟩
   repeat' ((conv=>whnf);first|(refine AE ?_;intros)|refine WJ (λ_=>?_)|refine K3 (λst1 hle1=>?_)|refine Qu hl3 hp (λw1 st2 hle2=>?_)|refine QD hs hz2 ht2 (λst3 hle3=>?_)|refine Zy hs hz2 ht2 (λk x st4 hle4=>?_)|refine UH t.size (Nat.le_refl _) ?_)
   all_goals first|exact fin (h _) rfl|(exfalso;simp_all)
  .skip
   repeat' ((conv=>whnf);first|(refine AE ?_;intros)|refine WJ (λ_=>?_)|refine K3 (λst1 hle1=>?_)|refine Qu hl3 hp (λw1 st2 hle2=>?_))
   all_goals exact fin (h _) rfl
end
end Go.Proofs.Z
