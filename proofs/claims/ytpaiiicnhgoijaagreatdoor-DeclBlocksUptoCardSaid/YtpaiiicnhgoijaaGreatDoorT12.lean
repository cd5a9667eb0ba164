/-
  Parts of a proof: lemmas that the last text uses.
-/
import Derived.Test.YtpaiiicnhgoijaaGreatDoorT11
import Derived.Lib.Join
set_option linter.unusedVariables false
set_option linter.unusedSimpArgs false
set_option maxHeartbeats 16000000
variable {l:List Go.Aw.Nd} {D e:Int} {atom whole:Go.Proofs.Z.Rd Go.Aw.Nd} {Q:Go.Aw.Nd->Go.Proofs.Z.Af->Prop} {E:Go.Proofs.Z.Er->Go.Proofs.Z.Af->Prop} {s x:List UInt8} {n:Go.Aw.Nd} {d i p:Nat} {f:Bool} {bs:List Bool} {all:List Go.Oper} {oa os:Go.Oper} {ty:Go.TypeId}
namespace Go.Proofs.Z
open Go Go.Aw
section
variable {st0 st:St} {s:Af} {rows:List (Ay×List Nd)} {K:AD->St->Prop}
attribute [local irreducible] Go.Aw.Ai
@[irreducible] def FW (A:List Nd->Rd Nd) (st0:St) (rows:List (Ay×List Nd)) (K:AD->St->Prop) (l:List Nd) (s:Af):Prop:=
  Rd.wp (A l) s (λv s'=>∀st',Rx st0 st' rows->K (.ret (Ax v s' 0)) st') (λe s'=>∀n st',Rx st0 st' rows->K (.ret (Ax n s' e.1)) st')
theorem FW.mk {A:List Nd->Rd Nd} (h:Rd.wp (A l) s (λv s'=>∀st',Rx st0 st' rows->K (.ret (Ax v s' 0)) st') (λe s'=>∀n st',Rx st0 st' rows->K (.ret (Ax n s' e.1)) st')):FW A st0 rows K l s:=by unfold FW;exact h
theorem FW.of {A:List Nd->Rd Nd} (h:FW A st0 rows K l s):Rd.wp (A l) s (λv s'=>∀st',Rx st0 st' rows->K (.ret (Ax v s' 0)) st') (λe s'=>∀n st',Rx st0 st' rows->K (.ret (Ax n s' e.1)) st'):=by unfold FW at h;exact h
def FJ (A:List Nd->Rd Nd) (m:Nat) (st0:St) (rows:List (Ay×List Nd)) (K:AD->St->Prop) (y:List Nd×Af×St×Ay×(Nd×Af)):Prop:=
 mu y.2.1<=100000000/\y.1.length<=m/\Rx st0 y.2.2.1 ((y.2.2.2.1,y.1)::rows)/\FW A st0 rows K y.1 y.2.1
theorem yU:Cm [1]=Cm [1,1]:=by
 unfold Cm
 simp
theorem ab {full:Rd Nd} (hf0:Ba 108 (λs=>[Am s,.int .i64 D]) full):Rf 46 (λs=>[Am s,.int .i64 D]) (JJ full):=by
 refine ⟨λ{st0 s st rows K} hm hk hc h=>?_⟩
 simp only [JJ,Rd.Ag,Rd.Ao,Rd.wp_seq] at h
 refine AQ Ac [] Tryz.func46 rfl IR rfl ?_
 refine Ah (Aj Ac ?_)
 repeat' ((conv=>whnf);first|exact B1|(refine Bc ?_;intros)|(refine B2 ?_ ?_ ?_;rotate_left)|fail)
 refine Ah (Aj Ac ?_)
 repeat' ((conv=>whnf);first|exact B1|(refine Bc ?_;intros)|(refine B2 ?_ ?_ ?_;rotate_left)|refine IB ‹_› ‹_› IR ?_|refine HA ‹_› ‹_› IR ?_|refine EI ‹_› IR h (λe h=>?_) (λe h=>?_)|refine Gd ‹_› h (λe h=>?_) (λe h=>?_)|refine DU ‹_› ?_|refine BK (l:=[]) (Nat.zero_le _) ‹_› (hc.push []) h (by first|assumption|exact A9 ‹_› IR) (λs2 own2 st2 hlt hm2 hc h=>?_)|refine BK AC ‹_› hc h (by first|assumption|exact A9 ‹_› IR) (λs2 own2 st2 hlt hm2 hc h=>?_)|refine F9 IR AC ‹_› hc h (λn s1 own1 U hr hmm hm1 hc h=>?_) (λe n s1 own1 U he hc h=>?_)|refine Ba.go (A5 IR IR) ‹_› hc h (λn s1 U hr hmm hm1 hc h=>?_) (λe n s1 U he hc h=>?_)|refine Ba.go (AF (o:=true)) ‹_› hc h (λn s1 U hr hmm hm1 hc h=>?_) (λe n s1 U he hc h=>?_)|refine Rx.BE hc AC (λown1 U hc=>?_)|refine A2 ?_|refine Fl ‹_› h (λe he h=>?_)|exact Ae hc h rfl|exact At hc h rfl|exact Ae hc.drop h rfl|exact At hc.drop h rfl|exact Ae hc.drop h Ak|exact Ae hc h Ak|exact Ae hc (h BC) rfl|exact Ae hc.drop (h BC) rfl|fail)
 refine ND (λy=>[(5,.slice 6 (y.1.map Ap) y.2.2.2.1)]) (λy=>[(0,y.2.1.cells)]) [1,2,4] [1] (λy=>y.2.2.1) (λy=>FJ (Lo full) 1 st0 rows K y/\(Aa y.2.1).1.kind≠0/\(Aa y.2.1).1.kind≠21) (Aj Ac ?_) ?_
 .skip
  repeat' ((conv=>whnf);first|exact B1|(refine Bc ?_;intros)|(refine B2 ?_ ?_ ?_;rotate_left)|refine IB ‹_› ‹_› IR ?_|refine HA ‹_› ‹_› IR ?_|refine EI ‹_› IR h (λe h=>?_) (λe h=>?_)|refine Gd ‹_› h (λe h=>?_) (λe h=>?_)|refine DU ‹_› ?_|refine BK (l:=[]) (Nat.zero_le _) ‹_› (hc.push []) h (by first|assumption|exact A9 ‹_› IR) (λs2 own2 st2 hlt hm2 hc h=>?_)|refine BK AC ‹_› hc h (by first|assumption|exact A9 ‹_› IR) (λs2 own2 st2 hlt hm2 hc h=>?_)|refine F9 IR AC ‹_› hc h (λn s1 own1 U hr hmm hm1 hc h=>?_) (λe n s1 own1 U he hc h=>?_)|refine Ba.go (A5 IR IR) ‹_› hc h (λn s1 U hr hmm hm1 hc h=>?_) (λe n s1 U he hc h=>?_)|refine Ba.go (AF (o:=true)) ‹_› hc h (λn s1 U hr hmm hm1 hc h=>?_) (λe n s1 U he hc h=>?_)|refine Rx.BE hc AC (λown1 U hc=>?_)|refine A2 ?_|refine Fl ‹_› h (λe he h=>?_)|exact Ae hc h rfl|exact At hc h rfl|exact Ae hc.drop h rfl|exact At hc.drop h rfl|exact Ae hc.drop h Ak|exact Ae hc h Ak|exact Ae hc (h BC) rfl|exact Ae hc.drop (h BC) rfl|exact ⟨(_,_,_,_,(BC,s)),⟨⟨‹_›,AC,hc,FW.mk h⟩,A9 ‹_› IR⟩,Yl,St.le_refl _⟩|fail|fail)
 rintro ⟨l,s1,U,own1,q⟩ ⟨⟨hm1,hl,hc,h⟩,hk1⟩
 dsimp only at hm1 hl hc h hk1 |-
 have h:=h.of
 simp only [Lo,Sf,yU,Rd.Ag,Rd.Ao,Rd.wp_seq,eo] at h
 refine Ah (Aj Ac ?_)
 repeat' ((conv=>whnf);first|exact B1|(refine Bc ?_;intros)|(refine B2 ?_ ?_ ?_;rotate_left)|refine IB ‹_› ‹_› IR ?_|refine HA ‹_› ‹_› IR ?_|refine EI ‹_› IR h (λe h=>?_) (λe h=>?_)|refine Gd ‹_› h (λe h=>?_) (λe h=>?_)|refine DU ‹_› ?_|refine BK (l:=[]) (Nat.zero_le _) ‹_› (hc.push []) h (by first|assumption|exact A9 ‹_› IR) (λs2 own2 st2 hlt hm2 hc h=>?_)|refine BK AC ‹_› hc h (by first|assumption|exact A9 ‹_› IR) (λs2 own2 st2 hlt hm2 hc h=>?_)|refine F9 IR AC ‹_› hc h (λn s1 own1 U hr hmm hm1 hc h=>?_) (λe n s1 own1 U he hc h=>?_)|refine Ba.go (A5 IR IR) ‹_› hc h (λn s1 U hr hmm hm1 hc h=>?_) (λe n s1 U he hc h=>?_)|refine Ba.go (AF (o:=true)) ‹_› hc h (λn s1 U hr hmm hm1 hc h=>?_) (λe n s1 U he hc h=>?_)|refine Rx.BE hc AC (λown1 U hc=>?_)|refine A2 ?_|refine Fl ‹_› h (λe he h=>?_)|exact Ae hc h rfl|exact At hc h rfl|exact Ae hc.drop h rfl|exact At hc.drop h rfl|exact Ae hc.drop h Ak|exact Ae hc h Ak|exact Ae hc (h BC) rfl|exact Ae hc.drop (h BC) rfl|fail)
 refine Ah (Aj Ac ?_)
 repeat' ((conv=>whnf);first|exact B1|(refine Bc ?_;intros)|(refine B2 ?_ ?_ ?_;rotate_left)|refine IB ‹_› ‹_› IR ?_|refine HA ‹_› ‹_› IR ?_|refine EI ‹_› IR h (λe h=>?_) (λe h=>?_)|refine Gd ‹_› h (λe h=>?_) (λe h=>?_)|refine DU ‹_› ?_|refine BK (l:=[]) (Nat.zero_le _) ‹_› (hc.push []) h (by first|assumption|exact A9 ‹_› IR) (λs2 own2 st2 hlt hm2 hc h=>?_)|refine BK AC ‹_› hc h (by first|assumption|exact A9 ‹_› IR) (λs2 own2 st2 hlt hm2 hc h=>?_)|refine F9 IR AC ‹_› hc h (λn s1 own1 U hr hmm hm1 hc h=>?_) (λe n s1 own1 U he hc h=>?_)|refine Ba.go (A5 IR IR) ‹_› hc h (λn s1 U hr hmm hm1 hc h=>?_) (λe n s1 U he hc h=>?_)|refine Ba.go (AF (o:=true)) ‹_› hc h (λn s1 U hr hmm hm1 hc h=>?_) (λe n s1 U he hc h=>?_)|refine Rx.BE hc AC (λown1 U hc=>?_)|refine A2 ?_|refine Fl ‹_› h (λe he h=>?_)|exact Ae hc h rfl|exact At hc h rfl|exact Ae hc.drop h rfl|exact At hc.drop h rfl|exact Ae hc.drop h Ak|exact Ae hc h Ak|exact Ae hc (h BC) rfl|exact Ae hc.drop (h BC) rfl|fail)
 .refine Ah (Aj Ac ?_)
  repeat' ((conv=>whnf);first|exact B1|(refine Bc ?_;intros)|(refine B2 ?_ ?_ ?_;rotate_left)|refine IB ‹_› ‹_› IR ?_|refine HA ‹_› ‹_› IR ?_|refine EI ‹_› IR h (λe h=>?_) (λe h=>?_)|refine Gd ‹_› h (λe h=>?_) (λe h=>?_)|refine DU ‹_› ?_|refine BK (l:=[]) (Nat.zero_le _) ‹_› (hc.push []) h (by first|assumption|exact A9 ‹_› IR) (λs2 own2 st2 hlt hm2 hc h=>?_)|refine BK AC ‹_› hc h (by first|assumption|exact A9 ‹_› IR) (λs2 own2 st2 hlt hm2 hc h=>?_)|refine F9 IR AC ‹_› hc h (λn s1 own1 U hr hmm hm1 hc h=>?_) (λe n s1 own1 U he hc h=>?_)|refine Ba.go (A5 IR IR) ‹_› hc h (λn s1 U hr hmm hm1 hc h=>?_) (λe n s1 U he hc h=>?_)|refine Ba.go (AF (o:=true)) ‹_› hc h (λn s1 U hr hmm hm1 hc h=>?_) (λe n s1 U he hc h=>?_)|refine Rx.BE hc AC (λown1 U hc=>?_)|refine A2 ?_|refine Fl ‹_› h (λe he h=>?_)|exact Ae hc h rfl|exact At hc h rfl|exact Ae hc.drop h rfl|exact At hc.drop h rfl|exact Ae hc.drop h Ak|exact Ae hc h Ak|exact Ae hc (h BC) rfl|exact Ae hc.drop (h BC) rfl|fail)
  refine Ah (Aj Ac ?_)
  repeat' ((conv=>whnf);first|exact B1|(refine Bc ?_;intros)|(refine B2 ?_ ?_ ?_;rotate_left)|refine IB ‹_› ‹_› IR ?_|refine HA ‹_› ‹_› IR ?_|refine EI ‹_› IR h (λe h=>?_) (λe h=>?_)|refine Gd ‹_› h (λe h=>?_) (λe h=>?_)|refine DU ‹_› ?_|refine BK (l:=[]) (Nat.zero_le _) ‹_› (hc.push []) h (by first|assumption|exact A9 ‹_› IR) (λs2 own2 st2 hlt hm2 hc h=>?_)|refine BK AC ‹_› hc h (by first|assumption|exact A9 ‹_› IR) (λs2 own2 st2 hlt hm2 hc h=>?_)|refine F9 IR AC ‹_› hc h (λn s1 own1 U hr hmm hm1 hc h=>?_) (λe n s1 own1 U he hc h=>?_)|refine Ba.go (A5 IR IR) ‹_› hc h (λn s1 U hr hmm hm1 hc h=>?_) (λe n s1 U he hc h=>?_)|refine Ba.go (AF (o:=true)) ‹_› hc h (λn s1 U hr hmm hm1 hc h=>?_) (λe n s1 U he hc h=>?_)|refine Rx.BE hc AC (λown1 U hc=>?_)|refine A2 ?_|refine Fl ‹_› h (λe he h=>?_)|exact Ae hc h rfl|exact At hc h rfl|exact Ae hc.drop h rfl|exact At hc.drop h rfl|exact Ae hc.drop h Ak|exact Ae hc h Ak|exact Ae hc (h BC) rfl|exact Ae hc.drop (h BC) rfl|fail)
  refine Ah (Aj Ac ?_)
  repeat' ((conv=>whnf);first|exact B1|(refine Bc ?_;intros)|(refine B2 ?_ ?_ ?_;rotate_left)|refine IB ‹_› ‹_› IR ?_|refine HA ‹_› ‹_› IR ?_|refine EI ‹_› IR h (λe h=>?_) (λe h=>?_)|refine Gd ‹_› h (λe h=>?_) (λe h=>?_)|refine DU ‹_› ?_|refine BK (l:=[]) (Nat.zero_le _) ‹_› (hc.push []) h (by first|assumption|exact A9 ‹_› IR) (λs2 own2 st2 hlt hm2 hc h=>?_)|refine BK AC ‹_› hc h (by first|assumption|exact A9 ‹_› IR) (λs2 own2 st2 hlt hm2 hc h=>?_)|refine F9 IR AC ‹_› hc h (λn s1 own1 U hr hmm hm1 hc h=>?_) (λe n s1 own1 U he hc h=>?_)|refine Ba.go (A5 IR IR) ‹_› hc h (λn s1 U hr hmm hm1 hc h=>?_) (λe n s1 U he hc h=>?_)|refine Ba.go (AF (o:=true)) ‹_› hc h (λn s1 U hr hmm hm1 hc h=>?_) (λe n s1 U he hc h=>?_)|refine Rx.BE hc AC (λown1 U hc=>?_)|refine A2 ?_|refine Fl ‹_› h (λe he h=>?_)|exact Ae hc h rfl|exact At hc h rfl|exact Ae hc.drop h rfl|exact At hc.drop h rfl|exact Ae hc.drop h Ak|exact Ae hc h Ak|exact Ae hc (h BC) rfl|exact Ae hc.drop (h BC) rfl|fail)
  refine ND (λy=>[(5,.slice 6 (y.1.map Ap) y.2.2.2.1)]) (λy=>[(0,y.2.1.cells),(2,SI y.2.2.2.2.1 y.2.2.2.2.2)]) [1,2,4,6] [1] (λy=>y.2.2.1) (FJ (JI full) 4 st0 rows K) (Aj Ac ?_) ?_
  .skip
   repeat' ((conv=>whnf);first|exact B1|(refine Bc ?_;intros)|(refine B2 ?_ ?_ ?_;rotate_left)|refine IB ‹_› ‹_› IR ?_|refine HA ‹_› ‹_› IR ?_|refine EI ‹_› IR h (λe h=>?_) (λe h=>?_)|refine w4 AC ‹_› hc (A9 ‹_› IR) h (λs1 e hm1 h=>?_) (λs1 own1 U e hm1 hc h=>?_) (λs1 own1 U e hlt hm1 hc h=>?_)|refine Ad 4 [3] [0] ?_|exact ⟨(_,_,_,_,(_,_)),⟨‹_›,AC,hc,FW.mk h⟩,Yl,St.le_refl _⟩|fail|fail)
  rintro ⟨l,s1,U,own1,q⟩ ⟨hm1,hl,hc,h⟩
  dsimp only at hm1 hl hc h |-
  have h:=h.of
  simp only [JI,Rd.Ag,Rd.Ao,Rd.wp_seq] at h
  refine ND (λy=>[(5,.slice 6 (y.1.map Ap) y.2.2.2.1)]) (λy=>[(0,y.2.1.cells)]) [1,2,4,6] [1,2] (λy=>y.2.2.1) (FJ (Lp full) 5 st0 rows K) (Aj Ac ?_) ?_
  .skip
   repeat' ((conv=>whnf);first|refine E3 h (λe h=>?_) (λe h=>?_)|exact B1|(refine Bc ?_;intros)|(refine B2 ?_ ?_ ?_;rotate_left)|refine DU ‹_› ?_|refine BK AC ‹_› hc h (by rw [e]<;>decide) (λs2 own2 st2 hlt hm2 hc h=>?_)|refine Ad 4 [3] [0] ?_|exact ⟨(_,_,_,_,(BC,s)),⟨‹_›,AC,hc,FW.mk h⟩,Yl,St.le_refl _⟩|fail|fail)
  rintro ⟨l,s1,U,own1,q⟩ ⟨hm1,hl,hc,h⟩
  dsimp only at hm1 hl hc h |-
  have h:=h.of
  simp only [Lp,HC,yU,Rd.Ag,Rd.Ao,Rd.wp_seq,Rd.wp_ret,Rd.Df] at h
  refine Aj Ac ?_
  repeat' ((conv=>whnf);first|refine Wm (ks:=[_,_,_]) rfl H1 ?_|exact B1|(refine Bc ?_;intros)|(refine B2 ?_ ?_ ?_;rotate_left)|refine Ba.go hf0 ‹_› hc h (λn s1 U hr hmm hm1 hc h=>?_) (λe n s1 U he hc h=>?_)|refine CA ?_|refine Gd ‹_› h (λe h=>?_) (λe h=>?_)|refine zu ‹_› hc h (λo x c s1 U e hmm hm1 hc h=>?_) (λo x c s1 U e hc h=>?_) (λe n s1 U he hc h=>?_)|refine IB ‹_› ‹_› IR ?_|refine HA ‹_› ‹_› IR ?_|refine EI ‹_› IR h (λe h=>?_) (λe h=>?_)|refine Gd ‹_› h (λe h=>?_) (λe h=>?_)|refine DU ‹_› ?_|refine BK (l:=[]) (Nat.zero_le _) ‹_› (hc.push []) h (by first|assumption|exact A9 ‹_› IR) (λs2 own2 st2 hlt hm2 hc h=>?_)|refine BK AC ‹_› hc h (by first|assumption|exact A9 ‹_› IR) (λs2 own2 st2 hlt hm2 hc h=>?_)|refine F9 IR AC ‹_› hc h (λn s1 own1 U hr hmm hm1 hc h=>?_) (λe n s1 own1 U he hc h=>?_)|refine Ba.go (A5 IR IR) ‹_› hc h (λn s1 U hr hmm hm1 hc h=>?_) (λe n s1 U he hc h=>?_)|refine Ba.go (AF (o:=true)) ‹_› hc h (λn s1 U hr hmm hm1 hc h=>?_) (λe n s1 U he hc h=>?_)|refine Rx.BE hc AC (λown1 U hc=>?_)|refine A2 ?_|refine Fl ‹_› h (λe he h=>?_)|exact Ae hc h rfl|exact At hc h rfl|exact Ae hc.drop h rfl|exact At hc.drop h rfl|exact Ae hc.drop h Ak|exact Ae hc h Ak|exact Ae hc (h BC) rfl|exact Ae hc.drop (h BC) rfl|refine Ad 4 [3] [0] ?_|fail|fail)
 .refine Aj Ac ?_
  repeat' ((conv=>whnf);first|exact B1|(refine Bc ?_;intros)|(refine B2 ?_ ?_ ?_;rotate_left)|refine IB ‹_› ‹_› IR ?_|refine HA ‹_› ‹_› IR ?_|refine EI ‹_› IR h (λe h=>?_) (λe h=>?_)|refine Gd ‹_› h (λe h=>?_) (λe h=>?_)|refine DU ‹_› ?_|refine BK (l:=[]) (Nat.zero_le _) ‹_› (hc.push []) h (by first|assumption|exact A9 ‹_› IR) (λs2 own2 st2 hlt hm2 hc h=>?_)|refine BK AC ‹_› hc h (by first|assumption|exact A9 ‹_› IR) (λs2 own2 st2 hlt hm2 hc h=>?_)|refine F9 IR AC ‹_› hc h (λn s1 own1 U hr hmm hm1 hc h=>?_) (λe n s1 own1 U he hc h=>?_)|refine Ba.go (A5 IR IR) ‹_› hc h (λn s1 U hr hmm hm1 hc h=>?_) (λe n s1 U he hc h=>?_)|refine Ba.go (AF (o:=true)) ‹_› hc h (λn s1 U hr hmm hm1 hc h=>?_) (λe n s1 U he hc h=>?_)|refine Rx.BE hc AC (λown1 U hc=>?_)|refine A2 ?_|refine Fl ‹_› h (λe he h=>?_)|exact Ae hc h rfl|exact At hc h rfl|exact Ae hc.drop h rfl|exact At hc.drop h rfl|exact Ae hc.drop h Ak|exact Ae hc h Ak|exact Ae hc (h BC) rfl|exact Ae hc.drop (h BC) rfl|fail)
end
section
variable {st0 st:St} {s:Af} {rows:List (Ay×List Nd)} {K:AD->St->Prop} {Q:Nd->Af->Prop} {E:Er->Af->Prop}
attribute [local irreducible] Go.Aw.Ai
theorem wZ {α:Type} {A B:Rd α} {Q:α->Af->Prop} (e:A.run s=B.run s) (h:Rd.wp A s Q E):Rd.wp B s Q E:=by
 unfold Rd.wp at h |-
 rw [<-e];exact h
theorem tw (h:Rd.wp (SZ l) s Q E):if Oy l=true then Q (S0 l) s else E Fj s:=by
 unfold SZ at h
 unfold Oy S0
 by_cases U:l.length=1
 .rw [if_pos U,Rd.wp_ret] at h
  rw [if_pos (by simp [U]),if_pos U];exact h
 .rw [if_neg U] at h
  rw [beq_eq_false_iff_ne.2 U,Bool.false_or,if_neg U]
  simp only [FB,Rd.wp_seq,Rd.Ao,Rd.wp_ret,Rd.BD] at h
  exact h
theorem fK {own:Ay} (h:Rd.wp (SZ l) s Q E) (U:Q (S0 l) s->K (.ret (.Bl [enc (S0 l),.bool true])) st) (k2:E Fj s->K (.ret (.Bl [enc BC,.bool false])) st):PC 180 [.slice 6 (l.map Ap) own] st K:=by
 have h:=tw h
 refine yD ?_
 cases e:Oy l with
 |true=>rw [e,if_pos rfl] at h;rw [if_pos rfl];exact U h
 |false=>rw [e,if_neg IR] at h;rw [if_neg IR];exact k2 h
theorem pc (U:(Aa s).1.kind=6\/AP s 15 [96]=true) (h:Rd.wp Py s Q E):
 Rd.wp EB s (λn s'=>(∃t,n=Al 18 [t]/\Q n s')\/∃o x c,n=Al 18 [o,x,c]/\if (x.form==2)=true then Q n s' else E Fj s) E:=by
 simp only [Py,Rd.Ag,Rd.Ao,Rd.wp_seq,Rd.wp_ret,Rd.Df] at h
 simp only [EB,Rd.Ag,Rd.Ao,Rd.wp_seq,Rd.wp_ret]
 rcases U with U|U
 .rw [if_pos (by simpa using U)] at h
  rw [if_pos (by unfold HD;simp [U])]
  exact Rd.wp_mono h (λv s' _ q=>.inl ⟨_,rfl,q⟩) (λe s' _ q=>q)
 .have h15:(Aa s).1.kind=15:=by unfold AP at U;simp only [Bool.and_eq_true,beq_iff_eq] at U;exact U.1
  rw [if_neg (by rw [h15];decide)] at h
  rw [if_neg (by unfold HD;rw [h15];simp)]
  have hw:(Bo 15 [96]).run s=AB.run s:=by
   unfold Bo Rd.look
   dsimp only
   rw [U];rfl
  refine Rd.wp_mono (wZ hw.symm h) (λo s1 _ q=>?_) (λe s' _ q=>q)
  refine Rd.wp_mono q (λx s2 _ q=>?_) (λe s' _ q=>q)
  exact Rd.wp_mono q (λc s3 _ q=>.inr ⟨_,_,_,rfl,q⟩) (λe s' _ q=>q)
theorem ai (hm:mu s<=100000000) (hc:Rx st0 st rows) (hk:(Aa s).1.kind=6\/AP s 15 [96]=true) (h:Rd.wp Py s Q E)
 (k1:∀t s1 U,mu s1<=mu s->mu s1<=100000000->Rx st0 U rows->Q (Al 18 [t]) s1->K (.ret (Ax (Al 18 [t]) s1 0)) U)
 (k2:∀o x c s1 U,x.form=2->mu s1<=mu s->mu s1<=100000000->Rx st0 U rows->Q (Al 18 [o,x,c]) s1->K (.ret (Ax (Al 18 [o,x,c]) s1 0)) U)
 (k3:∀o x c s1 U,¬x.form=2->Rx st0 U rows->E Fj s->K (.ret (Ax (Al 18 [o,x,c]) s1 0)) U)
 (k4:∀(e:Er) n s1 U,¬e.1=0->Rx st0 U rows->E e s1->K (.ret (Ax n s1 e.1)) U):PC 181 [Am s] st K:=by
 refine Ba.go Gx hm hc (pc hk h) (λn s1 U hr hmm hm1 hc h=>?_) (λe n s1 U he hc h=>k4 e n s1 U he hc h)
 rcases h with ⟨t,rfl,q⟩|⟨o,x,c,rfl,q⟩
 .exact k1 t s1 U hmm hm1 hc q
 .by_cases e:x.form=2
  .rw [if_pos (by simpa using e)] at q
   exact k2 o x c s1 U e hmm hm1 hc q
  .rw [if_neg (by simpa using e)] at q
   exact k3 o x c s1 U e hc q
end
section
variable {st0 st:St} {s:Af} {rows:List (Ay×List Nd)} {K:AD->St->Prop}
attribute [local irreducible] Go.Aw.Ai
def xp (D:Int) (atom whole:Rd Nd):Prop:=∀{st0 st:St} {s:Af} {rows:List (Ay×List Nd)} {K:AD->St->Prop} {Q:Nd->Af->Prop} {E:Er->Af->Prop} {l:List Nd} {own:Ay},mu s<=100000000->l.length<=1->AP s 15 [123]=true->Rx st0 st ((own,l)::rows)->
 Rd.wp AB s (λo s'=>Rd.wp (D3 (Hm atom whole) [125] (l++[o])) s' (λl s''=>Rd.wp (.ret (Al 48 l)) s'' Q E) E) E->
 (∀n s1 U,Rx st0 U rows->Q n s1->K (.ret (Ax n s1 0)) U)->(∀(e:Er) n s1 U,¬e.1=0->Rx st0 U rows->E e s1->K (.ret (Ax n s1 e.1)) U)->
 PC 179 [.slice 6 (l.map Ap) own,Am s,.int .i64 D] st K
theorem da (ha0:Ba 307 (λs=>[Am s,.int .i64 D]) atom) (hA:Rd.AZ atom) (hf:xp D atom whole):Ba 101 (λs=>[Am s,.int .i64 D]) (FO atom whole):=by
 refine ⟨λ{st0 s st rows K} hm hc h=>?_⟩
 simp only [FO,Rd.Ag,Rd.Ao,Rd.wp_seq] at h
 refine AQ Ac [] Tryz.func101 rfl IR rfl ?_
 refine Ah (Aj Ac ?_)
 repeat' ((conv=>whnf);first|(refine Bc ?_;intros)|(refine CD ?_ ?_<;>intro _)|fail)
 refine Ah (Aj Ac ?_)
 repeat' ((conv=>whnf);first|(refine Bc ?_;intros)|(refine CD ?_ ?_<;>intro _)|refine dd ha0 hA hm hc h (λl n s1 own1 U hpos hl4 hmm hm1 hc h=>?_) (λe n l s1 own1 U he hc h=>?_))
 .refine Ah (Aj Ac ?_)
  repeat' ((conv=>whnf);first|(refine Bc ?_;intros)|(refine CD ?_ ?_<;>intro _)|fail)
  obtain ⟨x0,hx0⟩:∃x,l[(0:Int).toNat]? =some x:=⟨_,List.getElem?_eq_getElem hpos⟩
  have e0:l.headD BC=x0:=by
   cases l with
   |nil=>cases hx0
   |cons y r=>cases hx0;rfl
  rw [e0] at h
  refine ND (α:=Unit) (λ_=>[]) (λ_=>[]) [1,4,5,6] [1,2] (λ_=>U) (λ_=>FW (Kp atom) st0 rows K l s1) (Aj Ac ?_) ?_
  .by_cases h1:l.length=1
   .have hli:(l.length:Int)=1:=H1
    cases hmk:EV x0 with
    |false=>
     rw [hmk,Bool.and_false,if_neg IR] at h
     repeat' ((conv=>whnf);first|refine Wv hli ?_|refine Xv hx0 IR ?_|(refine Bc ?_;intros)|(refine CD ?_ ?_<;>intro _)|refine GI hmk ?_|refine BH (λ_=>?_)|exact ⟨(),FW.mk h,Yl,St.le_refl _⟩|fail)
    |true=>
     rw [hmk,Bool.and_true,if_pos (by simpa using h1)] at h
     repeat' ((conv=>whnf);first|refine Wv hli ?_|refine Xv hx0 IR ?_|(refine Bc ?_;intros)|(refine CD ?_ ?_<;>intro _)|refine GI hmk ?_|refine BH (λ_=>?_)|refine Gd ‹_› h (λe h=>?_) (λe h=>?_)|refine hf ‹_› H1 ‹_› hc h (λn s2 st2 hc h=>?_) (λe n s2 st2 he hc h=>?_)|exact Ae hc h rfl|exact At hc h rfl|exact ⟨(),FW.mk h,Yl,St.le_refl _⟩|fail)
   .have hli:¬(l.length:Int)=1:=H1
    rw [beq_eq_false_iff_ne.2 h1,Bool.false_and,if_neg IR] at h
    repeat' ((conv=>whnf);first|refine Ww hli ?_|(refine Bc ?_;intros)|(refine CD ?_ ?_<;>intro _)|refine BH (λ_=>?_)|exact ⟨(),FW.mk h,Yl,St.le_refl _⟩|fail)
  rintro ⟨⟩ h
  have h:=h.of
  simp only [Kp,Kq,FB,Rd.Ag,Rd.Ao,Rd.wp_seq,Rd.wp_ret,Rd.BD] at h
  refine Aj Ac ?_
  rcases Decidable.em ((Aa s1).1.kind=6) with h6|h6
  .have hop:(Aa s1).1.kind=6\/AP s1 15 [96]=true:=.inl h6
   have hc:=hc.drop
   rw [if_pos (by simpa using h6)] at h
   repeat' ((conv=>whnf);first|refine Wt h6 ?_|refine Wm (ks:=[_,_,_]) rfl H1 ?_|refine Xv hx0 IR ?_|(refine Bc ?_;intros)|(refine CD ?_ ?_<;>intro _)|refine CA ?_|refine DU ‹_› ?_|refine BH (λ_=>?_)|refine ai ‹_› hc hop h (λt s1 U hmm hm1 hc h=>?_) (λo x c s1 U e hmm hm1 hc h=>?_) (λo x c s1 U e hc h=>?_) (λe n s1 U he hc h=>?_)|refine dd ha0 hA ‹_› hc h (λl n s1 own1 U hpos hl4 hmm hm1 hc h=>?_) (λe n l s1 own1 U he hc h=>?_)|refine fK h (λh=>?_) (λh=>?_)|refine A2 (l:=[_,_,_]) ?_|exact Ae hc h rfl|exact At hc h rfl|exact Ae hc.drop h rfl|exact At hc.drop h rfl|exact Ae hc.drop h Ak|exact Ae hc h Ak|exact Ae hc (h BC) rfl|exact Ae hc.drop (h BC) rfl|fail)
   all_goals first|exact absurd (show (Al 18 [t]).kids.length=Int.toNat 3 by assumption) (by show ¬(1:Nat)=3;decide)|exact absurd (show (Al 18 [o,x,c]).kids.length=Int.toNat 3 from rfl) ‹_›
  .rw [if_neg (by simpa using h6)] at h
   rcases Decidable.em ((Aa s1).1.kind=15/\(Aa s1).1.text=[96]) with ⟨h15,ht⟩|hn
   .have e:AP s1 15 [96]=true:=by unfold AP;rw [h15,ht];rfl
    have hop:(Aa s1).1.kind=6\/AP s1 15 [96]=true:=.inr e
    have hc:=hc.drop
    rw [if_pos e] at h
    repeat' ((conv=>whnf);first|refine Wu h6 ?_|refine Wt h15 ?_|refine Wt ht ?_|refine Wm (ks:=[_,_,_]) rfl H1 ?_|refine Xv hx0 IR ?_|(refine Bc ?_;intros)|(refine CD ?_ ?_<;>intro _)|refine CA ?_|refine DU ‹_› ?_|refine BH (λ_=>?_)|refine ai ‹_› hc hop h (λt s1 U hmm hm1 hc h=>?_) (λo x c s1 U e hmm hm1 hc h=>?_) (λo x c s1 U e hc h=>?_) (λe n s1 U he hc h=>?_)|refine dd ha0 hA ‹_› hc h (λl n s1 own1 U hpos hl4 hmm hm1 hc h=>?_) (λe n l s1 own1 U he hc h=>?_)|refine fK h (λh=>?_) (λh=>?_)|refine A2 (l:=[_,_,_]) ?_|exact Ae hc h rfl|exact At hc h rfl|exact Ae hc.drop h rfl|exact At hc.drop h rfl|exact Ae hc.drop h Ak|exact Ae hc h Ak|exact Ae hc (h BC) rfl|exact Ae hc.drop (h BC) rfl|fail)
    all_goals first|exact absurd (show (Al 18 [t]).kids.length=Int.toNat 3 by assumption) (by show ¬(1:Nat)=3;decide)|exact absurd (show (Al 18 [o,x,c]).kids.length=Int.toNat 3 from rfl) ‹_›
   .have e:¬AP s1 15 [96]=true:=by unfold AP;simpa using hn
    rw [if_neg e,e0] at h
    cases hmk:EV x0
    all_goals rw [hmk] at h
    all_goals first|rw [if_pos rfl] at h|rw [if_neg IR] at h
    all_goals rcases Decidable.em ((Aa s1).1.kind=15) with h15|h15
    all_goals have ht:(Aa s1).1.kind=15->¬(Aa s1).1.text=[96]:=λa b=>hn ⟨a,b⟩
    all_goals (repeat' ((conv=>whnf);first|refine Wu h6 ?_|refine Wt h15 ?_|refine Wu h15 ?_|refine Wu (ht h15) ?_|refine Xv hx0 IR ?_|(refine Bc ?_;intros)|(refine CD ?_ ?_<;>intro _)|refine GI hmk ?_|refine CA ?_|refine DU ‹_› ?_|refine BH (λ_=>?_)|refine A2 ?_|exact Ae hc.drop h rfl|exact Ae hc.drop h Ak|exact Ae hc.drop (h BC) rfl|fail))
 .refine Aj Ac ?_
  repeat' ((conv=>whnf);first|(refine Bc ?_;intros)|(refine CD ?_ ?_<;>intro _)|refine Gd ‹_› h (λe h=>?_) (λe h=>?_)|refine DU ‹_› ?_|refine A2 ?_|exact Ae hc h rfl|exact At hc h rfl|exact Ae hc.drop h rfl|exact At hc.drop h rfl|exact Ae hc.drop h Ak|exact Ae hc h Ak|exact Ae hc (h BC) rfl|exact Ae hc.drop (h BC) rfl)
end
theorem XX:Rd.AZ HC:=Rd.AZ.look λs v s' h=>by
 split at h
 .exact Rd.AZ.look (λs v s' h=>Rd.AZ.seq (Rd.AZ.seq (GR IR)) s v s' h) _ _ _ h
 .exact RZ rfl _ _ _ h
abbrev qz (q:Option (Nd×Af)):List V:=match q with
 |none=>[.int .i64 0,.int .i64 0,.str [],.int .i64 0,.int .i64 0,.slice 6 [] .full,.slice 4 [] .full,.int .i64 0,.slice 1 [] .full,.int .i64 0,.int .i64 0]
 |some p=>SI p.1 p.2
def R8 (atom whole:Rd Nd) (l:List Nd):Rd Nd:=.seq (Bo 10 [58,58]) λc=>.look λs=>
 if AP s 5 [33]=true then .seq (HR atom) λt=>.ret (Al 13 (l++[c]++[t])) else .seq whole λt=>.ret (Al 13 (l++[c]++[t]))
@[irreducible] def FI (atom whole:Rd Nd) (Q:Nd->Af->Prop) (E:Er->Af->Prop) (l:List Nd) (s:Af):Prop:=
  Rd.wp HC s (λn s'=>mu s'<mu s->Rd.wp (Rd.loop O5 (l++[n])) s' (λl U=>Rd.wp (R8 atom whole l) U Q E) E) E
theorem FI.start {s:Af} (h:Rd.wp (Hm atom whole) s Q E):FI atom whole Q E [] s:=by
 unfold FI
 unfold Hm at h
 rw [Rd.wp_seq] at h
 refine Rd.wp_mono h (λn s' _ q _=>?_) (λe s' _ q=>q)
 rw [Rd.wp_seq] at q
 exact q
theorem FI.of {s:Af} (h:FI atom whole Q E l s):Rd.wp HC s (λn s'=>Rd.wp (Rd.loop O5 (l++[n])) s' (λl U=>Rd.wp (R8 atom whole l) U Q E) E) E:=by
 unfold FI at h
 exact Rd.wp_mono h (λn s' r q=>q (XX _ _ _ r)) (λe s' _ q=>q)
theorem FI.next {s0 s:Af} (h:Rd.wp HC s (λn s'=>Rd.again O5 s0 (λl s''=>Rd.wp (R8 atom whole l) s'' Q E) E (.inl (l++[n])) s') E) (hl:mu s<=mu s0):FI atom whole Q E l s:=by
 unfold FI
 exact Rd.wp_mono h (λn s' _ q U=>Rd.Bh q (Nat.lt_of_lt_of_le U hl)) (λe s' _ q=>q)
theorem Zv {s:Af} (h:Rd.wp HC s Q E):if AP s 15 [40]=true then Rd.wp (D5 [5,6]) s (λn s1=>if (X6 n==5)=true then Q n s1 else E Fj s) E else Rd.wp (Cm [1,1]) s Q E:=by
 simp only [HC,yU,Rd.Ag,Rd.Ao,Rd.wp_seq,Rd.wp_ret,Rd.Df] at h
 exact h
theorem ZG {s:Af} (e:AP s 5 [33]=true) (h:Rd.wp (HR atom) s Q E):Rd.wp (GF atom) s Q E:=by
 unfold GF
 rw [Rd.Ag,if_pos e];exact h
theorem gK {s:Af} (h:Rd.wp (R8 atom whole l) s Q E):
 Rd.wp (Bo 10 [58,58]) s (λc s=>if AP s 5 [33]=true then Rd.wp (HR atom) s (λt s=>Q (Al 13 (l++[c]++[t])) s) E else Rd.wp whole s (λt s=>Q (Al 13 (l++[c]++[t])) s) E) E:=by
 simp only [R8,Rd.Ag,Rd.Ao,Rd.wp_seq,Rd.wp_ret] at h
 exact h
section
variable {st0 st:St} {s:Af} {rows:List (Ay×List Nd)} {K:AD->St->Prop}
attribute [local irreducible] Go.Aw.Ai
theorem dc (ha0:Ba 307 (λs=>[Am s,.int .i64 D]) atom) (hw0:Ba 99 (λs=>[Am s,.int .i64 D]) whole):xp D atom whole:=by
 intro st0 st s rows K Q E l own hm hl e hc hh k1 k2
 have h0:Rd.wp (.seq AB λo=>.seq (D3 (Hm atom whole) [125] (l++[o])) λl=>.ret (Al 48 l)) s Q E:=by
  simp only [Rd.wp_seq];exact hh
 have h:Rd.wp (.seq AB λo=>.seq (D3 (Hm atom whole) [125] (l++[o])) λl=>.ret (Al 48 l)) s (λv s'=>∀st',Rx st0 st' rows->K (.ret (Ax v s' 0)) st') (λe s'=>∀n st',Rx st0 st' rows->K (.ret (Ax n s' e.1)) st'):=
  Rd.wp_mono h0 (λv s' _ q st' hc=>k1 v s' st' hc q) (λe s' _ q n st' hc=>k2 e n s' st' e.2 hc q)
 clear h0 hh k1 k2 Q E
 simp only [D3,Rd.wp_seq,Rd.wp_ret] at h
 refine pB Tryz.func179 ?_
 repeat' ((conv=>whnf);first|(refine Bc ?_;intros)|refine EI ‹_› IR h (λe h=>?_) (λe h=>?_)|refine Gd ‹_› h (λe h=>?_) (λe h=>?_)|refine BK (l:=[]) (Nat.zero_le _) ‹_› (hc.push []) h (by first|assumption|exact A9 ‹_› IR) (λs2 own2 st2 hlt hm2 hc h=>?_)|refine BK AC ‹_› hc h (by first|assumption|exact A9 ‹_› IR) (λs2 own2 st2 hlt hm2 hc h=>?_)|refine F9 IR AC ‹_› hc h (λn s1 own1 U hr hmm hm1 hc h=>?_) (λe n s1 own1 U he hc h=>?_)|refine Ba.go (A5 IR IR) ‹_› hc h (λn s1 U hr hmm hm1 hc h=>?_) (λe n s1 U he hc h=>?_)|refine Ba.go (AF (o:=true)) ‹_› hc h (λn s1 U hr hmm hm1 hc h=>?_) (λe n s1 U he hc h=>?_)|refine Rx.BE hc AC (λown1 U hc=>?_)|refine A2 ?_|exact Ae hc h rfl|exact At hc h rfl|exact Ae hc.drop h rfl|exact At hc.drop h rfl|exact Ae hc.drop h Ak|exact Ae hc h Ak|exact Ae hc (h BC) rfl|exact Ae hc.drop (h BC) rfl|fail)
 refine KB (x0:=(true,_)) (λ(p:Bool×List Nd) s own=>[(7,.bool p.1),(0,.slice 6 (p.2.map Ap) own)]) (λp s own=>[(0,s.cells)]) [2,4,6] [1] (λp own=>(own,p.2)::rows) (λp=>p.2.length) own2 hm2 hc h f7 Yl ?_
 intro p s3 st3 own3 hm3 hm4 hc h hl
 obtain ⟨f,l⟩:=p
 dsimp only at hc hl
 simp only [H5,Rd.Ag,Rd.Ao,Rd.wp_seq,Rd.wp_ret,Rd.AO] at h
 cases f
 all_goals simp only [Bool.false_eq_true,if_false,if_true] at h
 all_goals (repeat' ((conv=>whnf);first|(refine Bc ?_;intros)|refine Gd ‹_› h (λe h=>?_) (λe h=>?_)|refine F9 IR AC ‹_› hc h (λn s1 own1 U hr hmm hm1 hc h=>?_) (λe n s1 own1 U he hc h=>?_)|refine A2 ?_|exact Ae hc.drop h rfl|exact At hc.drop h rfl|exact Ae hc.drop h Ak|fail))
 all_goals have h2:=FI.start h
 all_goals refine Lt (α:=List Nd×Af×St×Ay×Option (Nd×Af)) (λy=>[(8,.slice 6 (y.1.map Ap) y.2.2.2.1)]) (λy=>[(0,y.2.1.cells),(2,qz y.2.2.2.2)]) [0,2,4,6,9] [1] (λy=>y.2.2.1) (λy=>mu y.2.1<=100000000/\mu y.2.1<=mu s3/\Rx st0 y.2.2.1 ((y.2.2.2.1,y.1)::(own3,l)::rows)/\FI atom whole _ _ y.1 y.2.1/\y.1.length+4*mu y.2.1<=500000000) (λy=>mu y.2.1) ([],s3,st3,.full,none) ⟨hm3,Nat.le_refl _,hc.push [],h2,by simp only [List.length_nil];omega⟩ Yl (St.le_refl _) ?_
 all_goals rintro ⟨l1,s4,st4,own4,q⟩ ⟨j1,j2,j3,j4,j5⟩
 all_goals dsimp only at j1 j2 j3 j4 j5 |-
 all_goals have h:=Zv j4.of
 all_goals have hc:=j3
 all_goals clear j3 j4
 all_goals simp only [O5,Rd.wp_loop,Rd.Ag,Rd.Ao,Rd.wp_seq,Rd.wp_ret,Rd.AO] at h
 all_goals cases q
 all_goals (repeat' ((conv=>whnf);first|refine Wm (ks:=[_,_,_]) rfl H1 ?_|(refine Bc ?_;intros)|refine CA ?_|refine A2 ?_|refine Gd ‹_› h (λe h=>?_) (λe h=>?_)|refine EI ‹_› IR h (λe h=>?_) (λe h=>?_)|refine Rx.BE hc AC (λown1 U hc=>?_)|refine Rx.BE hc.drop AC (λown1 U hc=>?_)|refine Ba.go (A5 IR IR) ‹_› hc h (λn s1 U hr hmm hm1 hc h=>?_) (λe n s1 U he hc h=>?_)|refine BK AC ‹_› hc h (A9 ‹_› IR) (λs2 own2 st2 hlt hm2 hc h=>?_)|refine F9 IR AC ‹_› hc h (λn s1 own1 U hr hmm hm1 hc h=>?_) (λe n s1 own1 U he hc h=>?_)|refine F9 IR AC ‹_› hc (gK h) (λn s1 own1 U hr hmm hm1 hc h=>?_) (λe n s1 own1 U he hc h=>?_)|refine Ba.go hw0 ‹_› hc h (λn s1 U hr hmm hm1 hc h=>?_) (λe n s1 U he hc h=>?_)|refine zu ‹_› hc h (λo x c s1 U e hmm hm1 hc h=>?_) (λo x c s1 U e hc h=>?_) (λe n s1 U he hc h=>?_)|refine Ba.go (aj ha0) ‹_› hc (ZG ‹_› h) (λn s1 U hr hmm hm1 hc h=>?_) (λe n s1 U he hc h=>?_)|exact ⟨(_,_,_,_,some (_,_)),⟨‹_›,Do,hc,FI.next h Do,Do⟩,Do,Yl,St.le_refl _⟩|exact ⟨⟨(false,_),_,_,_⟩,⟨‹_›,Do,hc,Rd.Bh h Do,Do⟩,Do,Yl,St.le_refl _⟩|exact Ae hc.drop h rfl|exact At hc.drop h rfl|exact At hc.drop.drop h rfl|exact Ae hc.drop.drop (h BC) rfl|exact Ae hc.drop h Ak|fail))
end
section
variable {d:Nat}
theorem db (U:1<=d) (h1:d<=100):B0 ((d:Nat):Int)=d:=by unfold B0;split<;>omega
theorem PI (h0:1<=d) (h1:d<=100):Ba 99 (λs=>[Am s,.int .i64 (d:Int)]) (GG d):=by
 refine ⟨λ{st0 s st rows K} hm hc h=>?_⟩
 refine sG hm rfl ?_
 have hB:C4 (C9 (BN (B8 (d - 1)))):=Ki (Cr (B3 _))
 unfold ES
 rw [if_neg H1,db h0 h1]
 unfold Rd.wp GG at h
 cases U:C9 (BN (B8 (d - 1))) s with
 |inl p=>obtain ⟨e,s'⟩:=p;rw [Ip hB U] at h;exact h BC st hc
 |inr p=>rw [IY U] at h;exact h st hc
theorem OI (h0:1<=d) (h1:d<=100):Ba 97 (λs=>[Am s,.int .i64 (d:Int)]) (Kd d):=by
 refine ⟨λ{st0 s st rows K} hm hc h=>?_⟩
 refine wH hm rfl ?_
 have hB:C4 (A8 (BN (B8 (d - 1)))):=DF (Cr (B3 _))
 unfold ES
 rw [if_neg H1,db h0 h1]
 unfold Rd.wp Kd at h
 cases U:A8 (BN (B8 (d - 1))) s with
 |inl p=>obtain ⟨e,s'⟩:=p;rw [Ip hB U] at h;exact h BC st hc
 |inr p=>rw [IY U] at h;exact h st hc
theorem Z9 (h0:1<=d) (h1:d<=100):Ba 307 (λs=>[Am s,.int .i64 (d:Int)]) (G5 d):=by
 refine ⟨λ{st0 s st rows K} hm hc h=>?_⟩
 refine sg hm rfl ?_
 have hB:C4 (BN (B8 (d - 1))):=Cr (B3 _)
 unfold ES
 rw [if_neg H1,db h0 h1]
 unfold Rd.wp G5 at h
 cases U:BN (B8 (d - 1)) s with
 |inl p=>obtain ⟨e,s'⟩:=p;rw [Ip hB U] at h;exact h BC st hc
 |inr p=>rw [IY U] at h;exact h st hc
end
theorem X1 {k:Int} {s s':Af} (h:Ek k l s x=.inr (n,s')):n.kind=k:=by
 unfold Ek at h
 split at h
 .cases h
 .cases h;rfl
theorem fU {Y:Af->Rs} {s s':Af} (h:BN Y s=.inr (n,s')):n.kind≠39:=by
 unfold BN at h
 split at h
 .split at h
  .split at h
   .unfold G1 at h
    repeat' split at h
    all_goals first
     |(cases h;done)
     |(rw [X1 h];first|decide|(split<;>decide))
   .unfold Ff at h
    repeat' split at h
    all_goals first
     |(cases h;done)
     |(cases h;show ¬(3:Int)=39;decide)
     |(rw [X1 h];decide)
  .unfold CP at h
   split at h
   .cases h;show ¬(1:Int)=39;decide
   .cases h
 .unfold Ql at h;cases h
theorem cT:pY (Kd d):=by
 intro s n s' h hk
 unfold Kd at h
 have hB:C4 (A8 (BN (B8 (d - 1)))):=DF (Cr (B3 _))
 cases U:A8 (BN (B8 (d - 1))) s with
 |inl p=>obtain ⟨e,t⟩:=p;rw [Ip hB U] at h;cases h
 |inr p=>
  rw [IY U] at h
  cases h
  unfold A8 at U
  split at U
  .cases U
  .rename_i p0 hp
   split at U
   .cases U
   .rename_i q hl
    split at U
    .cases U
     exact absurd hk (fU hp)
    .cases U
     obtain ⟨r,hr⟩:=Zc _ _ _ _ hl
     show 0<q.1.length
     rw [hr];simp
theorem vm:Rd.AZ (G5 d):=R0 λs v s' h=>BL (Bv _) _ _ _ h
section
variable {st0 st:St} {s:Af} {K R:AD->St->Prop} {d:Nat} {deep:Int} {q:Rs}
theorem xP (U:deep<1) (h:K (.ret (.int .i64 0)) st):PC 30 [.int .i64 deep] st K:=by
 refine pB Tryz.func30 ?_
 have e:(if (0:Int)<(if 100<deep then 100 else deep) then (if 100<deep then 100 else deep) else 0)=0:=by split<;>split at* <;>omega
 rw [<-e] at h
 clear e
 repeat' ((conv=>whnf);first|  refine ⟨_,rfl,?_⟩)
 all_goals exact fin h rfl
theorem tQ {q':Rs} (hd:deep<1) (U:ES s deep q'=q):q=.inl (2,s):=by unfold ES at U;rw [if_pos hd] at U;exact U.symm
theorem tR {q':Rs} (hd:¬deep<1) (U:ES s deep q'=q):q'=q:=by unfold ES at U;rw [if_neg hd] at U;exact U
theorem K5.e0 {f:FuncId} {mk:Af->List V} (hf:K5 f mk (.fail Fi)) (U:mu s<=100000000) (h:∀st',St.le st st'->K (.ret (Ax BC s 2)) st'):PC f (mk s) st K:=
 hf.ap (st0:=st) (rows:=[]) U Rx.start (by rw [Rd.BD];exact λst' c=>h st' c.le)
theorem fv (U:s.AR.length<=1000/\s.Cf.length<=1000):true=(decide (s.AR.length<=1000)&&decide (s.Cf.length<=1000)):=by simp [U]
theorem fu (U:¬(s.AR.length<=1000/\s.Cf.length<=1000)):false=(decide (s.AR.length<=1000)&&decide (s.Cf.length<=1000)):=by
 symm;simp only [Bool.and_eq_false_iff,decide_eq_false_iff_not];omega
end
section
variable {st0 st:St} {s:Af} {rows:List (Ay×List Nd)} {K:AD->St->Prop} {d:Nat} {D:Int}
attribute [local irreducible] Go.Aw.Ai
theorem w7 (U:¬D<1) (e:(if 100<D then 100 else D)=(d:Int)) (h:K (.ret (.int .i64 (d:Int))) st):PC 30 [.int .i64 D] st K:=
 FQ U (by rw [e];exact h)
theorem tG (hlt:¬D<1) (eD:(if 100<D then 100 else D)=(d:Int)) (h0:1<=d) (h1:d<=100) (hd:K5 47 (λs=>[Am s,.int .i64 (d:Int)]) (RG d)) (hds:Ba 105 (λs=>[Am s,.int .i64 ((d:Int) - 1)]) (M3 (d - 1))):K5 19 (λs=>[Am s,.int .i64 D]) (Tf d):=by
 have hcon:=da (Z9 h0 h1) vm (dc (Z9 h0 h1) (PI h0 h1))
 refine ⟨λ{st0 s st rows K} hm hc h=>?_⟩
 simp only [Tf,Tg,Rd.Ag,Rd.Ao] at h
 refine pB Tryz.func19 ?_
 repeat' ((conv=>whnf);first|refine Ww hlt ?_|refine E3 h (λe h=>?_) (λe h=>?_)|refine w7 hlt eD ?_|refine DU ‹_› ?_|refine OH ?_|refine KP he ?_|refine hd.ap ‹_› hc (Rd.wp_mono h (λv s' r q st' c=>?_) (λe s' r q st' c=>?_))|refine Rf.go (af) ‹_› ⟨H1,H1⟩ hc h (λn s1 U hr hmm hm1 hc h=>?_) (λe n s1 U he hc h=>?_)|refine Rf.go (ak (OI h0 h1) (PI h0 h1) cT) ‹_› ⟨H1,H1⟩ hc h (λn s1 U hr hmm hm1 hc h=>?_) (λe n s1 U he hc h=>?_)|refine Rf.go (pL (OI h0 h1) hcon cT) ‹_› ⟨H1,H1⟩ hc h (λn s1 U hr hmm hm1 hc h=>?_) (λe n s1 U he hc h=>?_)|refine Rf.go (ah (OI h0 h1) hcon cT) ‹_› ⟨H1,H1⟩ hc h (λn s1 U hr hmm hm1 hc h=>?_) (λe n s1 U he hc h=>?_)|refine Rf.go (jM H1 (OI h0 h1) hds) ‹_› ⟨H1,H1⟩ hc h (λn s1 U hr hmm hm1 hc h=>?_) (λe n s1 U he hc h=>?_)|refine Rf.go (Xk H1 (OI h0 h1) hds) ‹_› ⟨H1,H1⟩ hc h (λn s1 U hr hmm hm1 hc h=>?_) (λe n s1 U he hc h=>?_)|refine Rf.go (Xj (PI h0 h1)) ‹_› ⟨H1,H1⟩ hc h (λn s1 U hr hmm hm1 hc h=>?_) (λe n s1 U he hc h=>?_)|refine Rf.go (ab (SP h0 h1)) ‹_› ⟨H1,H1⟩ hc h (λn s1 U hr hmm hm1 hc h=>?_) (λe n s1 U he hc h=>?_)|exact Ae hc h rfl|exact Ae c q rfl|fail)
theorem pM (U:1<=d) (h1:d<=100):K5 47 (λs=>[Am s,.int .i64 (d:Int)]) (RG d):=by
 have h:=(uw (deep:=(d:Int)) H1).decl
 rw [NQ U h1] at h
 exact h
theorem jN (h1:d<=100) (e:D=(d:Int)):Ba 105 (λs=>[Am s,.int .i64 D]) (M3 d):=by
 subst e
 refine ⟨λ{st0 s st rows K} hm hc h=>?_⟩
 refine pB Tryz.func105 ?_
 cases d with
 |zero=>
  have hb:∀{K:AD->St->Prop},(∀st',Rx st0 st' rows->K (.ret (Ax BC s 2)) st')->PC 183 [Am s,.int .i64 0,.int .i64 0] st K:=λk=>(Of (D:=0) IR).ap hm hc (by rw [Rd.BD];exact k)
  replace h:∀n st',Rx st0 st' rows->K (.ret (Ax n s Fi.1)) st':=by simpa [M3,Rd.BD] using h
  replace h:∀n st',Rx st0 st' rows->K (.ret (Ax n s 2)) st':=h
  repeat' ((conv=>whnf);first|exact B1|(refine B2 ?_ ?_ ?_;rotate_left)|refine xP IR ?_|refine hb (λU hc=>?_)|refine KP IR ?_|refine Ad 6 [2,3,4,5] [1] ?_|fail)
  all_goals exact Ae hc (h _) rfl
 |succ d=>
  have hb:=(uw (deep:=((d+1:Nat):Int)) H1).decls
  rw [NQ H1 h1] at hb
  replace hb:Ba 183 (λs=>[Am s,.int .i64 ((d+1:Nat):Int),.int .i64 0]) (M3 (d+1)):=hb
  repeat' ((conv=>whnf);first|exact B1|(refine B2 ?_ ?_ ?_;rotate_left)|refine w7 (d:=d+1) H1 (by split<;>omega) ?_|refine Ba.go hb ‹_› hc h (λn s1 U hr hmm hm1 hc h=>?_) (λe n s1 U he hc h=>?_)|refine OH ?_|refine KP ‹_› ?_|refine Ad 6 [2,3,4,5] [1] ?_|exact Ae hc h rfl|exact Ae hc (h _) rfl|fail|fail)
theorem al (U:¬D<1):K5 19 (λs=>[Am s,.int .i64 D]) (Tf (B0 D)):=by
 have h0:1<=B0 D:=by unfold B0;split<;>omega
 have h1:B0 D<=100:=by unfold B0;split<;>omega
 exact tG U (by unfold B0;split<;>omega) h0 h1 (pM h0 h1) (jN H1 H1)
theorem xb (U:D<1):K5 19 (λs=>[Am s,.int .i64 D]) (.fail Fi):=by
 refine ⟨λ{st0 s st rows K} hm hc h=>?_⟩
 rw [Rd.BD] at h
 refine pB Tryz.func19 ?_
 repeat' ((conv=>whnf);first|(refine Bc ?_;intros)|refine CJ ?_|exact CV|fail)
end
end Go.Proofs.Z
namespace Go.Aw
open Go
def MK (o:Oper):Oper:={o with dst:=none,op:=.move (.const (.int .i64 0))}
def Lw (all:List Oper) (k:Nat) (oa os:Oper):List Oper:=(all.set k (MK oa)).set (all.length - 1) (MK os)
def Rl (all:List Oper) (k t:Nat) (oa os:Oper):Bool:=
 oa.after.toList.isEmpty&&(oa.guard.isNone&&(os.guard.isNone&&(Dt os.op&&(Nat.blt (k+1) all.length&&
  ((List.range all.length).all (λi=>Nat.beq i k||(Nat.beq i (all.length - 1)||match all[i]? with|some o=>o.guard.isNone&&(Ce o.op&&(!(o.dst==some t)&& !((Oper.CX all o).contains t)))|none=>false))&&
  (List.range (all.length - 1)).all (λi=>os.after.toList.any λe=>Nat.beq e.on i&&Region.binds .any e))))))
def A3 (I:List Bool->Env->St->Prop) (n k t:Nat) (z:List V) (Q:AG->Env->St->Prop) (bs:List Bool) (e:Env) (s:St):Prop:=
 (bs.getD k true=false/\bs.getD (n - 1) true=false/\I bs e s)\/(bs.getD k true=true/\bs.getD (n - 1) true=false/\∃e0,I bs e0 s/\uL t z e0 e)\/(bs=List.replicate n true/\∃env',e.eqv env'/\Q .normal env' s)
theorem NZ {j:Nat} (h:i≠j):(bs.set i true).getD j true=bs.getD j true:=by
 rw [List.getD_eq_getElem?_getD,List.getD_eq_getElem?_getD,List.getElem?_set_ne h]
theorem q6:(bs.set i true).getD i true=true:=by
 rw [List.getD_eq_getElem?_getD,List.getElem?_set]
 by_cases h:i<bs.length<;>simp [h]
theorem VR {k:Nat} {o:Oper} (U:i≠k) (h2:i≠all.length - 1) (h:all[i]? =some o):(Lw all k oa os)[i]? =some o:=by
 unfold Lw
 rw [List.getElem?_set_ne (λe=>h2 e.symm),List.getElem?_set_ne (λe=>U e.symm),h]
theorem bW {k:Nat} (h:k+1<all.length):(Lw all k oa os)[k]? =some (MK oa):=by
 unfold Lw
 rw [List.getElem?_set_ne H1,List.getElem?_set_self H1]
theorem bX {k:Nat} (h:k+1<all.length):(Lw all k oa os)[all.length - 1]? =some (MK os):=by
 unfold Lw
 rw [List.getElem?_set_self (by rw [List.length_set];omega)]
theorem YH {k:Nat}:(Lw all k oa os).length=all.length:=by
 unfold Lw;rw [List.length_set,List.length_set]
section
variable {D:List Deferred} {P:Program} {T:List (Nat×Ty)} {C:FuncId->List V->St->(AD->St->Prop)->Prop} {I0 I:Mem} {st0 st:St} {w0 w:World} {β:Nat->Option Nat} {env:Env} {a:Act}
theorem Io {k:Nat} (hk:k+1<all.length) (ha:all[k]? =some oa) (hs:all[all.length - 1]? =some os):BP (Lw all k oa os) bs i=BP all bs i:=by
 unfold BP
 congr 1
 by_cases U:i=k
 .subst U;rw [bW hk,ha];rfl
 .by_cases h2:i=all.length - 1
  .subst h2;rw [bX hk,hs];rfl
  .cases h:all[i]? with
   |some o=>rw [VR U h2 h]
   |none=>
    have:(Lw all k oa os)[i]? =none:=by
     rw [List.getElem?_eq_none_iff,YH]
     exact List.getElem?_eq_none_iff.1 h
    rw [this]
theorem U2 (hT:HG P T) (hC:∀f args st R,C f args st R->DE P f args st R/\Plain P f) (hM:∀f args st (R R':AD->St->Prop),(∀r s,R r s->R' r s)->C f args st R->C f args st R')
 {Q:AG->Env->St->Prop} {sched:List (Nat×Bool)} {L:List Nat} {z:Ty} {t k:Nat} (ha:all[k]? =some oa) (hs:all[all.length - 1]? =some os) (hm:F5 sched (Lw all k oa os)=true) (hk:Rl all k t oa os=true) (ho:oa.op=.alloc ty) (hd:oa.dst=some t) (hz:assoc T ty=some z) (hts:t<env.sz) (hgl:env.Mw (some t)=false)
 (h:Ee T C (Lw all k oa os) sched L (Bm (L.map some) env.boxes) (Lb T C oa os Q) sched env st) (hr:Rel D I0 st0 w0 I β env st a w):
 wpAny P .any all.toArray (DH D I0 st0 w0 Q) all.toArray.size (Array.replicate all.toArray.size false) a {w with drawn:=w.drawn+1}:=by
 obtain ⟨step,live,fin,start⟩:=Yx (T:=T) (C:=C) hM hm h
 have hr:=hr.Kx (Jd.drew w)
 generalize hI:K4 T C (Lw all k oa os) sched st L (Bm (L.map some) env.boxes) (Lb T C oa os Q) env=I0' at step live fin start
 unfold Rl at hk
 simp only [Bool.and_eq_true,List.all_eq_true,List.any_eq_true,List.mem_range,Bool.not_eq_true',Bool.or_eq_true,Nat.blt_eq] at hk
 obtain ⟨k1,k2,k3,k4,k5,k6,k7⟩:=hk
 have hlen:(Lw all k oa os).length=all.length:=YH
 rw [hlen] at step live fin start
 have hAo:∀(i:Nat) (o:Oper),i≠k->i≠all.length - 1->all[i]? =some o->o.guard=none/\Ce o.op=true/\o.dst≠some t/\t ∉ Oper.CX all o:=λi o g1 g2 hi=>by
  have:=k6 i (List.getElem?_eq_some_iff.1 hi).1
  rw [hi] at this
  rcases this with h|h|h
  .exact absurd (Nat.eq_of_beq_eq_true h) g1
  .exact absurd (Nat.eq_of_beq_eq_true h) g2
  .simp only [Bool.and_eq_true,Bool.not_eq_true'] at h
   obtain ⟨U,h2,h3,h4⟩:=h
   exact ⟨by simpa using U,h2,by simpa using h3,by simpa using h4⟩
 have facts:∀{bs e s},I0' bs e s->e.BS=env.BS/\e.sz=env.sz/\e.gl=env.gl/\e.boxes=env.boxes:=λ{bs e s} hi=>by
  rw [<-hI] at hi
  refine K4.facts (λj o hj=>?_) hi
  by_cases U:j=k
  .subst U;rw [bW k5] at hj;cases hj;rfl
  .by_cases h2:j=all.length - 1
   .subst h2;rw [bX k5] at hj;cases hj;rfl
   .have hlt:j<all.length:=by rw [<-hlen];exact (List.getElem?_eq_some_iff.1 hj).1
    have hj2:=VR (oa:=oa) (os:=os) U h2 (List.getElem?_eq_getElem hlt)
    rw [hj] at hj2
    cases hj2
    exact ML (hAo j _ U h2 (List.getElem?_eq_getElem hlt)).2.1
 have fresh:assoc env.boxes env.BS=none:=by
  cases e:assoc env.boxes env.BS with
  |none=>rfl
  |some cs=>
   obtain ⟨b,hb,_⟩:=hr.f.box _ _ e
   exact absurd (hr.f.BS _ _ hb) (Nat.lt_irrefl _)
 have hga:oa.guard=none:=by simpa using k2
 have hgs:os.guard=none:=by simpa using k3
 have nop:∀{i:Nat} {o:Oper} {bs:List Bool} {e:Env} {s:St},(Lw all k oa os)[i]? =some (MK o)->o.guard=none->bs.length=all.length->I0' bs e s->BP all bs i=true->I0' (bs.set i true) e s:=λ{i o bs e s} hi hg hb hI hrd=>by
  have:=step bs e s i (MK o) hb hI hi (by rw [Io k5 ha hs];exact hrd)
  unfold Bx at this
  rw [show (MK o).guard=none from hg] at this
  have h2:FD T C (MK o) e s (λv env' st'=>env'.go (MK o).dst v λenv''=>I0' (bs.set i true) env'' st') (λx _ s=>∀e',Lb T C oa os Q x e' s):=this
  simp only [FD,MK] at h2
  exact (FV (V.AY.1 h2)).2
 refine U3 hT hC (Inv:=A3 I0' all.length k t z.zero.cells Q) ?_ ?_ ?_ _ (List.replicate all.length false) _ _ β env st _ _ Pi Pi Pi ?_ hr
 .intro bs e s i o hbl hc hio hrd
  have hrd':=hrd
  unfold BP at hrd'
  rw [hio] at hrd'
  simp only [Bool.and_eq_true,List.all_eq_true,Bool.not_eq_true'] at hrd'
  obtain ⟨r1,r2⟩:=hrd'
  have hil:i<all.length:=(List.getElem?_eq_some_iff.1 hio).1
  by_cases hik:i=k
  .subst hik
   have hoo:o=oa:=by rw [ha] at hio;cases hio;rfl
   subst hoo
   rcases hc with ⟨c1,c2,hc⟩|⟨c1,_⟩|⟨c1,_⟩
   .have hn:=nop (bW k5) hga hbl hc hrd
    have hf:=facts hc
    unfold Bx
    rw [hga]
    have hg2:e.Mw o.dst=false:=by
     rw [hd]
     unfold Env.Mw at hgl |-
     rw [hf.2.2.1];exact hgl
    simp only [FD,ho,hz]
    unfold Ik
    rw [hg2]
    refine Bq.2 ?_
    refine KV (λt' ht'=>?_) (.inr (.inl ⟨q6,by rw [NZ H1];exact c2,e,hn,⟨rfl,rfl,rfl,rfl,λs'=>?_⟩⟩))
    .rw [hd] at ht'
     cases ht'
     show t<e.sz
     rw [hf.2.1];exact hts
    .show assoc (Mq e.tmps o.dst (.Cd e.BS 0)) s'=_
     rw [D9,hd]
     by_cases U:s'=t
     .rw [if_pos (by rw [U]),if_pos U]
     .rw [if_neg (λe=>U (Option.some.inj e).symm),if_neg U]
   .rw [r1] at c1;cases c1
   .rw [c1,List.getD_eq_getElem?_getD,List.getElem?_replicate,if_pos hil] at r1;cases r1
  .by_cases him:i=all.length - 1
   .subst him
    have hoo:o=os:=by rw [hs] at hio;cases hio;rfl
    subst hoo
    have hon:∀j,j<all.length - 1->bs.getD j false=true:=λj hj=>by
     obtain ⟨e',he',hb⟩:=k7 j hj
     have U:=r2 e' he'
     rw [Nat.eq_of_beq_eq_true hb.1,hb.2] at U
     simpa using U
    have hon2:∀j,j<all.length - 1->bs.getD j true=true:=λj hj=>by
     have:=hon j hj
     rw [List.getD_eq_getElem?_getD,List.getElem?_eq_getElem H1] at this |-
     exact this
    rcases hc with ⟨c1,_⟩|⟨c1,c2,e0,hc,hal⟩|⟨c1,_⟩
    .rw [hon2 k H1] at c1;cases c1
    .have hn:=nop (bX k5) hgs hbl hc hrd
     have hall:bs.set (all.length - 1) true=List.replicate all.length true:=by
      rw [List.eq_replicate_iff]
      refine ⟨by simpa using hbl,λb hb=>?_⟩
      obtain ⟨j,hj,rfl⟩:=List.mem_iff_getElem.1 hb
      rw [List.getElem_set]
      split
      .rfl
      .have U:=hon2 j (by simp only [List.length_set] at hj;omega)
       rw [List.getD_eq_getElem?_getD,List.getElem?_eq_getElem (by simpa using hj)] at U
       simpa using U
     rw [hall] at hn
     obtain ⟨env',⟨q1,q2,q3⟩,q4⟩:=fin e0 s hn
     have hf:=facts hc
     have q4:FD T C oa env' s (λv e s=>e.go oa.dst v λe=>FD T C o e s (λv e s=>e.go o.dst v λe=>Q .normal e s) (λx _ s=>∀e',Q x e' s)) (λ_ _ _=>True):=q4
     have hg2:env'.Mw oa.dst=false:=by
      rw [hd]
      unfold Env.Mw at hgl |-
      rw [q3,hf.2.2.1];exact hgl
     rw [Xs ho hz] at q4
     unfold Ik at q4
     rw [hg2] at q4
     obtain ⟨_,q5⟩:=FV (Bq.1 q4)
     unfold Bx
     rw [hgs]
     have tmq:∀s',assoc (Mq env'.tmps oa.dst (.Cd env'.BS 0)) s'=assoc e.tmps s':=λs'=>by
      rw [D9,hd,<-q1.tmps,<-q1.BS,hal.tm]
      by_cases U:s'=t
      .rw [if_pos (by rw [U]),if_pos U]
      .rw [if_neg (λe=>U (Option.some.inj e).symm),if_neg U]
     have ev:∀x:Operand,Env.eval ⟨Mq env'.tmps oa.dst (.Cd env'.BS 0),(env'.BS,z.zero.cells)::env'.boxes,env'.BS+1,env'.sz,env'.gl⟩ x=e.eval x:=λx=>by
      cases x with
      |tmp t'=>
       have:=tmq t'
       show Env.get _ t'=e.get t'
       unfold Env.get
       dsimp only
       rw [this]
      |const v=>rfl
      |func f=>rfl
      |global g=>rfl
     cases hop:o.op with
     |store ty' px vx=>
      obtain ⟨L',hL'⟩:∃L',Hx L' ⟨Mq env'.tmps oa.dst (.Cd env'.BS 0),(env'.BS,z.zero.cells)::env'.boxes,env'.BS+1,env'.sz,env'.gl⟩ o=true:=by
       unfold Hx
       rw [hop]
       dsimp only
       cases hv:Env.eval ⟨Mq env'.tmps oa.dst (.Cd env'.BS 0),(env'.BS,z.zero.cells)::env'.boxes,env'.BS+1,env'.sz,env'.gl⟩ px with
       |Cd id off=>exact ⟨[id],Pi⟩
       |_=>exact ⟨[],rfl⟩
      refine Jb (T:=T) (C:=C) hop hL' (λx _=>ev x) (by rw [hal.boxes,q2,<-q1.BS]) (by rw [hal.BS,<-q1.BS]) (by rw [hal.sz,<-q1.sz]) (by rw [hal.gl,q3]) (λs' B hB hk=>?_) q5
      obtain ⟨p1,p2⟩:=FV hk
      refine KV (λt' ht'=>by have:=p1 t' ht';rw [show ({e with boxes:=B}:Env).sz=e.sz from rfl,hal.sz,q1.sz];exact this) (.inr (.inr ⟨hall,⟨Mq (Mq env'.tmps oa.dst (.Cd env'.BS 0)) o.dst .Cc,B,env'.BS+1,env'.sz,env'.gl⟩,⟨λs''=>?_,λ_=>rfl,?_,?_⟩,p2⟩))
      .show assoc (Mq e.tmps o.dst .Cc) s''=assoc (Mq (Mq env'.tmps oa.dst (.Cd env'.BS 0)) o.dst .Cc) s''
       rw [D9,D9 (ts:=Mq env'.tmps oa.dst (.Cd env'.BS 0)),tmq]
      .show e.BS=env'.BS+1
       rw [hal.BS,q1.BS]
      .show e.sz=env'.sz
       rw [hal.sz,q1.sz]
     |_=>rw [hop] at k4;cases k4
    .rw [c1,List.getD_eq_getElem?_getD,List.getElem?_replicate,if_pos hil] at r1;cases r1
   .obtain ⟨g1,g2,g3,g4⟩:=hAo i o hik him hio
    have hi2:=VR (oa:=oa) (os:=os) hik him hio
    unfold Bx
    rw [g1]
    rcases hc with ⟨c1,c2,hc⟩|⟨c1,c2,e0,hc,hal⟩|⟨c1,_⟩
    .have:=step bs e s i o hbl hc hi2 (by rw [Io k5 ha hs];exact hrd)
     unfold Bx at this
     rw [g1] at this
     refine Dh (env:=e) (env':=e) (st:=s) (st':=s) hM g2 (.inl rfl) (λ_ _=>rfl) (λid cs h=>h) (λv s1 s2 g k=>?_) (λv s1 k=>k e e) this
     have hs:s2=s1:=by rcases g with ⟨_,g⟩|⟨g1,g2⟩;exact g;rw [g1,g2]
     subst hs
     obtain ⟨q1,q2⟩:=FV k
     exact KV q1 (.inl ⟨by rw [NZ hik];exact c1,by rw [NZ him];exact c2,q2⟩)
    .have:=step bs e0 s i o hbl hc hi2 (by rw [Io k5 ha hs];exact hrd)
     unfold Bx at this
     rw [g1] at this
     have hf:=facts hc
     refine Dh (env:=e0) (env':=e) (st:=s) (st':=s) hM g2 (.inl rfl) (λx hx=>?_) (λid cs h=>?_) (λv s1 s2 g k=>?_) (λv s1 k=>k e e) this
     .cases x with
      |tmp t'=>
       refine hal.get λe=>g4 ?_
       subst e
       exact List.mem_append.2 (.inl (List.mem_filterMap.2 ⟨.tmp t',hx,rfl⟩))
      |const v=>rfl
      |func f=>rfl
      |global g=>rfl
     .rw [hal.boxes,BF]
      cases hb:Nat.beq e0.BS id with
      |false=>exact h
      |true=>
       have:=Nat.eq_of_beq_eq_true hb
       subst this
       rw [hf.2.2.2,hf.1,fresh] at h
       cases h
     .have hs:s2=s1:=by rcases g with ⟨_,g⟩|⟨g1,g2⟩;exact g;rw [g1,g2]
      subst hs
      obtain ⟨q1,q2⟩:=FV k
      exact KV (λt' ht'=>by rw [hal.sz];exact q1 t' ht') (.inr (.inl ⟨by rw [NZ hik];exact c1,by rw [NZ him];exact c2,_,q2,hal.go g3 v⟩))
    .rw [c1,List.getD_eq_getElem?_getD,List.getElem?_replicate,if_pos hil] at r1;cases r1
 .rintro bs e s hbl (⟨c1,c2,hc⟩|⟨c1,c2,e0,hc,hal⟩|⟨c1,_⟩)
  .rcases live bs e s hbl hc with U|⟨j,U,h2⟩
   .exact .inl U
   .exact .inr ⟨j,U,by rw [<-Io k5 ha hs];exact h2⟩
  .rcases live bs e0 s hbl hc with U|⟨j,U,h2⟩
   .exact .inl U
   .exact .inr ⟨j,U,by rw [<-Io k5 ha hs];exact h2⟩
  .exact .inl c1
 .rintro e s (⟨c1,_⟩|⟨_,c2,_⟩|⟨_,U⟩)
  .rw [List.getD_eq_getElem?_getD,List.getElem?_replicate,if_pos H1] at c1;cases c1
  .rw [List.getD_eq_getElem?_getD,List.getElem?_replicate,if_pos H1] at c2;cases c2
  .exact U
 .refine .inl ⟨?_,?_,start⟩
  .rw [List.getD_eq_getElem?_getD,List.getElem?_replicate,if_pos H1];rfl
  .rw [List.getD_eq_getElem?_getD,List.getElem?_replicate,if_pos H1];rfl
theorem fV (hP:TK P T) (hC:∀f args st R,C f args st R->DE P f args st R/\Plain P f) (hM:∀f args st (R R':AD->St->Prop),(∀r s,R r s->R' r s)->C f args st R->C f args st R') {id:Nat} {ops:Array Oper} {Q:AG->Env->St->Prop}
 (k t:Nat) (sched:List (Nat×Bool)) (L:List Nat) {z:Ty} (h1:ops.toList[k]? =some oa) (h2:ops.toList[ops.toList.length - 1]? =some os) (hm:F5 sched (Lw ops.toList k oa os)=true) (hk:Rl ops.toList k t oa os=true) (ho:oa.op=.alloc ty) (hd:oa.dst=some t) (hz:assoc T ty=some z) (hts:t<env.sz) (U:env.Mw (some t)=false)
 (h:Ee T C (Lw ops.toList k oa os) sched L (Bm (L.map some) env.boxes) (Lb T C oa os Q) sched env st):AW P (.region id ops true) Q env st:=λD I0 st0 w0 I β a w hr=>
 wp_region_any hP.m (by
  have e:ops=ops.toList.toArray:=Pi
  rw [e]
  exact U2 hP.t hC hM h1 h2 hm hk ho hd hz hts U h hr)
end
end Go.Aw
namespace Go.Proofs.Z
open Go Go.Aw
def Kl (top:Rd Nd) (f:Bool) (l:List Nd):Rd Nd:=.seq (.loop (Kk Qf (Nv top) f) l) λl=>.ret (Dn f l)
def YM (l:List Nd):Bool:=l.any λx=> !(x.kind==50)
theorem uq (h:YM l=true\/¬n.kind=50):YM (l++[n])=true:=by
 unfold YM at *
 rw [List.any_append]
 rcases h with h|h<;>simp [h]
theorem xW (h:YM l=false) (k:n.kind=50):YM (l++[n])=false:=by
 unfold YM at *
 rw [List.any_append,h]
 simp [k]
section
variable {st0 st:St} {s:Af} {rows:List (Ay×List Nd)} {K:AD->St->Prop} {Q:Nd->Af->Prop} {E:Er->Af->Prop} {d:Nat} {D:Int}
attribute [local irreducible] Go.Aw.Ai
theorem K5.Tr {f:FuncId} {mk:Af->List V} {A:Rd Nd} (hf:K5 f mk A) (hF:Rd.AZ A) (U:mu s<=100000000) (hc:Rx st0 st rows) (h:Rd.wp A s Q E)
 (k:∀n s' st',A.run s=.inr (n,s')->mu s'<mu s->mu s'<=100000000->Rx st0 st' rows->Q n s'->K (.ret (Ax n s' 0)) st')
 (kb:∀e s' st',¬e.1=0->Rx st0 st' rows->E e s'->K (.ret (Ax BC s' e.1)) st'):PC f (mk s) st K:=
 hf.ap U hc (Rd.wp_mono h (λv s' r q st' c=>k v s' st' r (hF _ _ _ r) (Nat.le_trans (A.le _ _ _ r) U) c q) (λe s' _ q st' c=>kb e s' st' e.2 c q))
theorem sI {k:Int} (U:k≠0):K5 75 (λs=>[Am s,.int .i64 k,.str x]) (Bo k x):=by
 refine ⟨λ{st0 s st rows K} hm hc h=>?_⟩
 unfold Bo at h
 rw [Rd.Ag,Rd.Ao] at h
 refine Ov U (BT hm) ?_
 unfold DB
 by_cases e:AP s k x=true
 .rw [if_pos e] at h |-
  rw [DK e U]
  unfold Rd.wp at h;rw [LM e U] at h;exact h st hc
 .rw [if_neg e] at h |-
  exact h st hc
def eB (f:Bool):Rd Unit:=if f=true then .seq (Bo 15 [123]) λ_=>.ret () else GN
theorem aL {top:Rd Nd} (h:Rd.wp (FR top) s Q E):∃f:Bool,f= !((Aa s).1.kind==18)/\Rd.wp (eB f) s (λ_ s'=>Rd.wp (Kl top f []) s' Q E) E:=by
 have hb:∀f,(Rd.seq (.loop (Kk Qf (Nv top) f) []) λl=>.ret (Dn f l))=Kl top f []:=λ_=>rfl
 unfold FR NN at h
 rw [Rd.Ag,Rd.Ao,Rd.wp_seq,Rd.wp_seq,hb,hb] at h
 cases e:(Aa s).1.kind==18
 .rw [if_neg (by rw [e];decide)] at h
  refine ⟨true,rfl,?_⟩
  unfold eB
  rw [if_pos rfl,Rd.wp_seq]
  exact Rd.wp_mono h (λ_ _ _ q=>by rw [Rd.wp_ret];exact q) (λ_ _ _ q=>q)
 .rw [if_pos e] at h
  exact ⟨false,rfl,h⟩
theorem tE {Q:Unit->Af->Prop} (hf:f= !((Aa s).1.kind==18)) (U:mu s<=100000000) (hc:Rx st0 st rows) (h:Rd.wp (eB f) s Q E) (k:∀n s1 st',mu s1<mu s->mu s1<=100000000->Rx st0 st' rows->Q () s1->K (.ret (.Bl [.int .i64 (if f then 1 else 0),Ax n s1 0])) st')
 (kb:∀e s1 st',¬e.1=0->Rx st0 st' rows->E e s1->K (.ret (.Bl [.int .i64 (if f then 1 else 0),Ax BC s1 e.1])) st'):PC 31 [Am s] st K:=by
 unfold eB at h
 cases f with
 |false=>
  have hk:(Aa s).1.kind=18:=by simpa using hf
  exact eY U hk (Q:=Q) h (λn s1 hl U h=>k n s1 st hl U hc h)
 |true=>
  have hk:¬(Aa s).1.kind=18:=by simpa using hf
  rw [if_pos rfl,Rd.wp_seq] at h
  refine pB Tryz.func31 ?_
  repeat' ((conv=>whnf);first|(refine Bc ?_;intros)|refine K5.Tr (sI IR) (GR IR) ‹_› hc h (λn s1 st1 hr hl U hc h=>?_) (λe s1 st1 he hc h=>?_)|exact AU rfl (k _ _ _ hl U hc (by rw [Rd.wp_ret] at h<;>exact h))|exact AU rfl (kb _ _ _ he hc h)|refine CJ ?_|fail)
theorem Ok {m U:Bool} {P R:Af->Prop} (e:U=m) (hm:mu s<=100000000) (h:Rd.wp (Gi f U) s (λe s'=>if e=true then P s' else R s') E)
 (k1:∀s',mu s'<=mu s->mu s'<=100000000->P s'->K (.ret (.Bl [.bool true,Ax BC s' 0])) st) (k2:R s->K (.ret (.Bl [.bool false,Ax BC s 0])) st) (kb:∀e:Er,¬e.1=0->E e s->K (.ret (.Bl [.bool true,Ax BC s e.1])) st):
 PC 33 [Am s,.int .i64 (if f then 1 else 0),.bool m] st K:=by
 subst e
 exact SM hm h k1 k2 kb
theorem XF {own:Ay} {s:Af}:[Ax (Dn f l) s e]=([.agg [.int .i64 2,.int .i64 (if f then 1 else 0),.str [],.int .i64 0,.int .i64 0,.slice 6 (l.map Ap) own,.slice 4 (Bb s.AR) .any,.int .i64 s.pos,.slice 1 (ints s.Cf) .any,.int .i64 s.wait,.int .i64 e]]:List V).map V.wk:=by
 have h:=Kw (f:=f) (l:=l) (own:=own) (s:=s) (e:=e)
 simp only [AD.wk,AD.ret.injEq] at h
 rw [List.map_cons,List.map_nil,<-h]
theorem pJ {own:Ay} (h:K (.ret (Ax (Dn f l) s 0)) st):PC 36 [.agg [.int .i64 2,.int .i64 (if f then 1 else 0),.str [],.int .i64 0,.int .i64 0,.slice 6 (l.map Ap) own,.slice 4 (Bb s.AR) .any,.int .i64 s.pos,.slice 1 (ints s.Cf) .any,.int .i64 s.wait,.int .i64 0]] st K:=JW XF (OH h)
theorem pK {own:Ay} (U:¬e=0) (h:K (.ret (Ax BC s e)) st):PC 36 [.agg [.int .i64 2,.int .i64 (if f then 1 else 0),.str [],.int .i64 0,.int .i64 0,.slice 6 (l.map Ap) own,.slice 4 (Bb s.AR) .any,.int .i64 s.pos,.slice 1 (ints s.Cf) .any,.int .i64 s.wait,.int .i64 e]] st K:=JW XF (KP U h)
theorem jL {top:Rd Nd} (hlt:¬D<1) (eD:(if 100<D then 100 else D)=(d:Int)) (ht:K5 19 (λs=>[Am s,.int .i64 (d:Int)]) top) (hF:Rd.AZ top):
 K5 14 (λs=>[Am s,.int .i64 D]) (FR top):=by
 refine ⟨λ{st0 s st rows K} hm hc h=>?_⟩
 obtain ⟨f,hf,h⟩:=aL h
 refine AQ Ac [] Tryz.func14 rfl IR rfl ?_
 refine Ah (Aj Ac ?_)
 repeat' ((conv=>whnf);first|exact B1|(refine Bc ?_;intros)|(refine B2 ?_ ?_ ?_;rotate_left)|(refine CD ?_ ?_<;>intro _)|fail)
 refine Ah (Aj Ac ?_)
 repeat' ((conv=>whnf);first|refine Ww hlt ?_|exact B1|(refine Bc ?_;intros)|(refine B2 ?_ ?_ ?_;rotate_left)|(refine CD ?_ ?_<;>intro _)|fail)
 refine Ah (Aj Ac ?_)
 repeat' ((conv=>whnf);first|exact B1|(refine Bc ?_;intros)|(refine B2 ?_ ?_ ?_;rotate_left)|(refine CD ?_ ?_<;>intro _)|refine w7 hlt eD ?_|fail)
 refine Ah (Aj Ac ?_)
 repeat' ((conv=>whnf);first|exact B1|(refine Bc ?_;intros)|(refine B2 ?_ ?_ ?_;rotate_left)|(refine CD ?_ ?_<;>intro _)|refine tE hf ‹_› hc h (λn s1 U hl hm hc h=>?_) (λe s1 U he hc h=>?_)|fail)
 all_goals refine Ah (Aj Ac ?_)
 all_goals (repeat' ((conv=>whnf);first|exact B1|(refine Bc ?_;intros)|(refine B2 ?_ ?_ ?_;rotate_left)|(refine CD ?_ ?_<;>intro _)|exact Ae hc h rfl|fail))
 refine Ah (Aj Ac ?_)
 repeat' ((conv=>whnf);first|exact B1|(refine Bc ?_;intros)|(refine B2 ?_ ?_ ?_;rotate_left)|(refine CD ?_ ?_<;>intro _)|fail)
 refine Ah (Aj Ac ?_)
 repeat' ((conv=>whnf);first|exact B1|(refine Bc ?_;intros)|(refine B2 ?_ ?_ ?_;rotate_left)|(refine CD ?_ ?_<;>intro _)|fail)
 refine Ah (Aj Ac ?_)
 repeat' ((conv=>whnf);first|exact B1|(refine Bc ?_;intros)|(refine B2 ?_ ?_ ?_;rotate_left)|(refine CD ?_ ?_<;>intro _)|fail)
 refine Q9 (Xo (α:=LS (List Nd)) (λy=>[(8,.bool (YM y.x))]) (λy=>[(0,y.s.cells),(3,[.int .i64 2,.int .i64 (if f then 1 else 0),.str [],.int .i64 0,.int .i64 0,.slice 6 (y.x.map Ap) y.o])]) [1,2,4,5,7] [1] (λy=>y.m) (λy=>mu y.s<=100000000/\mu y.s<=mu s/\Rx st0 y.m ((y.o,y.x)::rows)/\Rd.wp (Kl top f y.x) y.s (λv s'=>∀st',Rx st0 st' rows->K (.ret (Ax v s' 0)) st') (λe s'=>∀st',Rx st0 st' rows->K (.ret (Ax BC s' e.1)) st')/\y.x.length+4*mu y.s<=500000000) (λy=>mu y.s) ⟨[],_,_,.full⟩ ⟨hm,Nat.le_of_lt hl,hc.push [],h,by dsimp only [List.length_nil];omega⟩ Yl (St.le_refl _) ?_)
 rintro ⟨l,s1,U,own1⟩ ⟨hm1,hm2,hc,h,hl⟩
 dsimp only at hm1 hm2 hc h hl |-
 simp only [Kl,Kk,Nv,Rd.Ag,Rd.Ao,Rd.wp_seq,Rd.wp_loop,Rd.wp_ret,Rd.Df,Rd.AO] at h
 refine Q9 (Ah (Aj Ac ?_))
 repeat' ((conv=>whnf);first|exact B1|(refine Bc ?_;intros)|(refine B2 ?_ ?_ ?_;rotate_left)|(refine CD ?_ ?_<;>intro _)|refine SU ‹_› hc h (λs1 U hl hm hc h=>?_)|fail)
 refine Ah (fV Ac (BX _) (λ_ _ _ _ _ h k=>k.mono h) 10 10 [(10,true),(0,true),(1,true),(2,true),(3,false),(4,false),(5,true),(6,false),(7,true),(8,true),(9,true),(11,true),(12,true)] [] rfl rfl M2 M2 rfl rfl rfl (Nat.le_of_ble_eq_true rfl) rfl ?_)
 repeat' ((conv=>whnf);first|exact B1|(refine Bc ?_;intros)|(refine B2 ?_ ?_ ?_;rotate_left)|(refine CD ?_ ?_<;>intro _)|refine DU ‹_› ?_|refine jQ ?_|refine Ok (Ui ‹_›) ‹_› h (λs1 hl hm h=>?_) (λh=>?_) (λe he h=>?_)|refine Ok (Ug ‹_›) ‹_› h (λs1 hl hm h=>?_) (λh=>?_) (λe he h=>?_)|fail|fail)
 all_goals refine Aj Ac ?_
 all_goals cases ho:YM l
 all_goals try simp only [show (l.any λx=> !(x.kind==50))=_ from ho,Bool.and_false,Bool.and_true,Bool.false_eq_true,if_false] at h
 all_goals (repeat' ((conv=>whnf);first|  refine E3 h (λe h=>?_) (λe h=>?_)|exact B1|(refine Bc ?_;intros)|(refine B2 ?_ ?_ ?_;rotate_left)|(refine CD ?_ ?_<;>intro _)|refine Pj ‹_› ?_|refine Ok (Ui ‹_›) ‹_› h (λs1 hl hm h=>?_) (λh=>?_) (λe he h=>?_)|refine Ok (Ug ‹_›) ‹_› h (λs1 hl hm h=>?_) (λh=>?_) (λe he h=>?_)|refine K5.Tr ht hF ‹_› hc h (λn s1 U hr hl hm hc h=>?_) (λe s1 U he hc h=>?_)|refine CA ?_|refine pJ ?_|refine pK ‹_› ?_|refine Rx.BE hc H1 (λown1 U hc=>?_)|refine Ad 11 [3,5,10] [4] ?_|exact Ae hc.drop h Kw|exact Ae hc.drop h rfl|fail|fail))
 all_goals conv=>whnf
 all_goals first
  |(have e2:=λn=>uq (l:=l) (n:=n) (.inl ho);exact ⟨⟨_,_,_,_⟩,⟨hm,GE,hc,(by simp only [Kl,Rd.wp_seq,Rd.wp_ret]<;>exact Rd.Bh h H1),f8⟩,GE,(by dsimp only<;>rw [e2]<;>exact Yl),St.le_refl _⟩)
  |(have e2:=uq (l:=l) (.inr ‹_›);exact ⟨⟨_,_,_,_⟩,⟨hm,GE,hc,(by simp only [Kl,Rd.wp_seq,Rd.wp_ret]<;>exact Rd.Bh h H1),f8⟩,GE,(by dsimp only<;>rw [e2]<;>exact Yl),St.le_refl _⟩)
  |(have e2:=xW ho ‹_›;exact ⟨⟨_,_,_,_⟩,⟨hm,GE,hc,(by simp only [Kl,Rd.wp_seq,Rd.wp_ret]<;>exact Rd.Bh h H1),f8⟩,GE,(by dsimp only<;>rw [e2]<;>exact Yl),St.le_refl _⟩)
  |fail
theorem c9 (U:¬D<1):K5 14 (λs=>[Am s,.int .i64 D]) (DT (B0 D)):=by
 have h0:1<=B0 D:=by unfold B0;split<;>omega
 have h1:B0 D<=100:=by unfold B0;split<;>omega
 have ht:=al (D:=((B0 D:Nat):Int)) H1
 rw [NQ h0 h1] at ht
 exact jL U (by unfold B0;split<;>omega) ht (R2 _)
theorem pI (U:D<1):K5 14 (λs=>[Am s,.int .i64 D]) (.fail Fi):=by
 refine ⟨λ{st0 s st rows K} hm hc h=>?_⟩
 rw [Rd.BD] at h
 refine pB Tryz.func14 ?_
 repeat' ((conv=>whnf);first|  (refine Bc ?_;intros)|refine CJ ?_|exact CV|fail)
end
theorem ml (a b:List (List UInt8)):Lib.lens (a++b)=Lib.lens a+Lib.lens b:=by simp [Lib.lens]
theorem my {x y:Lx} (hv:Vd s) (hp:Cj s p) (h:x.AR.length<=p/\Lib.lens (x.AR.map Tk.text)<=p) (e:IF s p x=.inr y):y.AR.length<=s.length/\Lib.lens (y.AR.map Tk.text)<=s.length:=by
 have hpl:=hp.le
 fun_induction IF s p x with
 |case1 p x U h1=>cases e
 |case2 p x U h1 h2 h3 ih=>
  obtain ⟨q,e1,e2,e3,e4⟩:=YI hv hp H1 h2
  have eq:(Dk s p).1.toNat=q:=H1
  rw [eq] at ih e
  have hb:=LU e3
  exact ih (e4.uZ hv) ⟨by show x.AR.length<=_;omega,by show Lib.lens (x.AR.map Tk.text)<=_;omega⟩ e hb.2
 |case3 p x U h1 h2 h3=>injection e with e;subst e;omega
 |case4 p x U h1 h2 h3=>cases e
 |case5 p x U h1 h2 h3 h4 ih=>
  obtain ⟨e0,q,e1,e2,e3,e4⟩:=Yh hv hp H1
  have eq:(Dx s p).2.1.toNat=q:=H1
  rw [eq] at ih e
  have hb:=LU e3
  have hpc:(BA s p q).length=q - p:=JX H1 e3
  have l1:(ZR s p q (Dx s p).1 x).AR.length=x.AR.length+1:=by simp [ZR]
  have l2:Lib.lens ((ZR s p q (Dx s p).1 x).AR.map Tk.text)=Lib.lens (x.AR.map Tk.text)+(q - p):=by
   show Lib.lens ((x.AR++[_]).map Tk.text)=_
   rw [List.map_append,ml]
   simp [Lib.lens,hpc]
  exact ih (e4.uZ hv) ⟨H1,H1⟩ e hb.2
 |case6 p x U h1 h2 h3 h4=>injection e with e;subst e;omega
 |case7 p x U=>injection e with e;subst e;omega
theorem mn {y:Lx} (e:Gq s=.inr y):y.AR.length<=s.length/\Lib.lens (y.AR.map Tk.text)<=s.length:=by
 have ok:=rD e
 unfold Gq at e
 split at e
 .cases e
 .split at e
  .cases e
  .split at e
   .cases e
   .exact my ok.2.1 (Cj.uZ ok.2.1 (.zero s)) ⟨Nat.zero_le _,Nat.zero_le _⟩ e
section
variable {st:St} {R:AD->St->Prop}
theorem xN {i:Int} (hs:Gq s=.inl (i,e)) (h:∀st',st.le st'->R (.ret (.Bl [.slice 4 [] .full,.slice 5 [] .full,.int .i64 i,.int .i64 e])) st'):PC 22 [.str s] st R:=by
 refine ue (λi' e' U=>?_) (λi' e' st' hle U=>?_) (λx w1 w2 st' U=>?_)
 .rw [hs] at U;injection U with U;injection U with e1 e2;subst e1;subst e2;exact h st (St.le_refl _)
 .rw [hs] at U;injection U with U;injection U with e1 e2;subst e1;subst e2;exact h st' hle
 .rw [hs] at U;cases U
end
theorem rE {x y:Lx} (h:∀t ∈ x.AR,t.text.length<=s.length/\1<=t.line/\t.line<=1+s.length) (e:IF s p x=.inr y):∀t ∈ y.AR,t.text.length<=s.length/\1<=t.line/\t.line<=1+s.length:=by
 fun_induction IF s p x with
 |case1 p x U h1=>cases e
 |case2 p x U h1 h2 h3 ih=>exact ih h e
 |case3 p x U h1 h2 h3=>injection e with e;subst e;exact h
 |case4 p x U h1 h2 h3=>cases e
 |case5 p x U h1 h2 h3 h4 ih=>
  refine ih (λt ht=>?_) e
  rcases List.mem_append.1 ht with ht|ht
  .exact h t ht
  .rw [List.mem_singleton.1 ht]
   have:=Tl s.length s p (1,1) (Nat.le_refl _) IR
   refine ⟨?_,this.1,this.2.1⟩
   show (BA s p _).length<=_
   unfold BA
   rw [List.length_drop,List.length_take]
   omega
 |case6 p x U h1 h2 h3 h4=>injection e with e;subst e;exact h
 |case7 p x U=>injection e with e;subst e;exact h
theorem mo {y:Lx} (e:Gq s=.inr y):∀t ∈ y.AR,t.text.length<=s.length/\1<=t.line/\t.line<=1+s.length:=by
 unfold Gq at e
 split at e
 .cases e
 .split at e
  .cases e
  .split at e
   .cases e
   .exact rE (λt U=>by cases U) e
theorem mq {y:Lx} (hl:s.length<=90000000) (e:Gq s=.inr y):aC y.AR:=λt U=>by have:=mo e t U;omega
theorem T8 (l:List Tk):(Ed l).length<=2*l.length+1:=by
 have h:=Ma l none
 have U:(T7 l).length<=1:=by
  unfold T7
  split
  .exact Nat.le_refl _
  .split<;>simp
 unfold Ed
 rw [List.length_append]
 omega
section
variable {st0 st:St} {s:Af} {K R:AD->St->Prop} {d:Nat} {deep:Int} {q:Rs}
theorem xc (hm:mu s<=100000000) (hq:ES s deep (DC (Tf (B0 deep)) s)=q) (h:∀st',St.le st st'->K (.ret (Ax (rn q) (rs q) (re q))) st'):PC 19 [Am s,.int .i64 deep] st K:=by
 by_cases U:deep<1
 .rw [tQ U hq] at h;exact K5.e0 (xb U) hm h
 .rw [<-tR U hq] at h;exact (al U).end_ hm h
theorem aa (hm:mu s<=100000000) (hq:ES s deep (DC (DT (B0 deep)) s)=q) (h:∀st',St.le st st'->K (.ret (Ax (rn q) (rs q) (re q))) st'):PC 14 [Am s,.int .i64 deep] st K:=by
 by_cases U:deep<1
 .rw [tQ U hq] at h;exact K5.e0 (pI U) hm h
 .rw [<-tR U hq] at h;exact (c9 U).end_ hm h
theorem tC (U:mu s<=100000000) (hq:ES s deep (DC (Tf (B0 deep)) s)=q) (h:K (.ret (.Bl [enc (rn q),Am (rs q),.int .i64 (re q)])) st):PC 18 [Am s,.int .i64 deep] st K:=tB U (by rw [Rw,hq];exact h)
theorem US (U:mu s<=100000000) (hq:ES s deep (DC (DT (B0 deep)) s)=q) (h:K (.ret (.Bl [enc (rn q),Am (rs q),.int .i64 (re q)])) st):PC 12 [Am s,.int .i64 deep] st K:=UR U (by rw [Rw,hq];exact h)
theorem s7 {s:List UInt8} {q:Int×Int} (hs:Gq s=.inl q) (h:∀st',st.le st'->K (.ret (Am ⟨Ed [],0,[],0⟩)) st'):PC 15 [.str s] st K:=by
 refine pB Tryz.func15 ?_
 obtain ⟨i,e⟩:=q
 repeat' ((conv=>whnf);first|  refine xN hs (λst1 U=>?_)|refine ej (l:=[]) (λt ht=>(by cases ht)) IR ?_)
 all_goals exact ⟨_,_,.inr rfl,St.le_refl _,h st1 U⟩
theorem s8 {s:List UInt8} (hl:s.length<=2000):∃s0:Af,mu s0<=100000000/\∀{st:St} {K:AD->St->Prop},(∀st',st.le st'->K (.ret (Am s0)) st')->PC 15 [.str s] st K:=by
 cases e:Gq s with
 |inl q=>exact ⟨⟨Ed [],0,[],0⟩,by have:=T8 [];unfold mu;simp only [List.length_nil] at *;omega,λh=>s7 e h⟩
 |inr x=>
  have U:=(mn e).1
  have h2:=T8 x.AR
  exact ⟨⟨Ed x.AR,0,[],0⟩,by unfold mu;simp only [List.length_nil];omega,λh=>Xc e (mq H1 e) H1 h⟩
theorem aR (h:∀st',R (.ret (.bool true)) st'):PC 6 [Am s,.int .i64 deep] st R:=by
 refine pB Tryz.func6 ?_
 by_cases hs:s.AR.length<=1000/\s.Cf.length<=1000
 .obtain ⟨q,hq⟩:∃q,ES s deep (DC (Tf (B0 deep)) s)=q:=⟨_,rfl⟩
  repeat' ((conv=>whnf);first|exact B1|(refine Bc ?_;intros)|(refine B2 ?_ ?_ ?_;rotate_left)|refine OD (fv hs) ?_|refine J9 (λst1 U=>?_)|refine tC (yJ hs) hq ?_|refine xc (yJ hs) hq (λst1 U=>?_)|refine Xl ?_|refine Ad 11 [0,7,8] [] ?_|fail)
  all_goals exact fin (h _) rfl
 .skip
  repeat' ((conv=>whnf);first|exact B1|(refine Bc ?_;intros)|(refine B2 ?_ ?_ ?_;rotate_left)|refine OD (fu hs) ?_|refine J9 (λst1 U=>?_)|fail)
  all_goals exact fin (h _) rfl
theorem Vc (h:∀st',R (.ret (.bool true)) st'):PC 3 [Am s,.int .i64 deep] st R:=by
 refine pB Tryz.func3 ?_
 by_cases hs:s.AR.length<=1000/\s.Cf.length<=1000
 .obtain ⟨q,hq⟩:∃q,ES s deep (DC (DT (B0 deep)) s)=q:=⟨_,rfl⟩
  repeat' ((conv=>whnf);first|exact B1|(refine Bc ?_;intros)|(refine B2 ?_ ?_ ?_;rotate_left)|refine OD (fv hs) ?_|refine J9 (λst1 U=>?_)|refine US (yJ hs) hq ?_|refine aa (yJ hs) hq (λst1 U=>?_)|refine Xl ?_|refine Ad 11 [0,7,8] [] ?_|fail)
  all_goals exact fin (h _) rfl
 .skip
  repeat' ((conv=>whnf);first|exact B1|(refine Bc ?_;intros)|(refine B2 ?_ ?_ ?_;rotate_left)|refine OD (fu hs) ?_|refine J9 (λst1 U=>?_)|fail)
  all_goals exact fin (h _) rfl
theorem XJ {s:List UInt8} (h:∀st',R (.ret (.bool true)) st'):PC 4 [.str s,.int .i64 deep] st R:=by
 refine pB Tryz.func4 ?_
 by_cases hs:(s.length:Int)>2000
 .skip
  repeat' ((conv=>whnf);first|exact B1|(refine Bc ?_;intros)|(refine B2 ?_ ?_ ?_;rotate_left)|refine WJ (λ_=>?_)|refine J9 (λst1 U=>?_)|fail)
  all_goals exact fin (h _) rfl
 .obtain ⟨s0,hm,hread⟩:=s8 (s:=s) H1
  obtain ⟨q,hq⟩:∃q,ES s0 deep (DC (DT (B0 deep)) s0)=q:=⟨_,rfl⟩
  repeat' ((conv=>whnf);first|exact B1|(refine Bc ?_;intros)|(refine B2 ?_ ?_ ?_;rotate_left)|refine WJ (λ_=>?_)|refine hread (λst1 U=>?_)|refine J9 (λst1 U=>?_)|refine US hm hq ?_|refine aa hm hq (λst1 U=>?_)|refine Xl ?_|refine Ad 11 [0,7,8] [] ?_|fail)
  all_goals exact fin (h _) rfl
end
section
variable {H:Type}
theorem aM:Tryz.prog.cellsOf 3=1:=M2
theorem gv {n:Nat} {d:DataW H} {vs:List V} (h:dec Tryz.prog n 23 d=some vs):∃l:List Int,vs=[.slice 1 (ints l) .any]:=by
 obtain ⟨m,es,ds,rfl,rfl,U,hb⟩:=TX Tryz.underlying23 h
 obtain ⟨l,rfl,hs⟩:=RE (f:=λn=>[V.int .i64 n]) (w:=λ_=>0) (λd vs h=>by
  obtain ⟨k,rfl⟩:=HJ Tryz.underlying3 h
  exact ⟨k,rfl,Nat.zero_le _⟩) U
 exact ⟨l,by rw [aM];rfl⟩
theorem TY {n:Nat} {d:DataW H} {vs:List V} (h:dec Tryz.prog n 25 d=some vs):∃s:Af,vs=s.cells:=by
 obtain ⟨m,ds,us,rfl,hl,hm,rfl,hb⟩:=RF Tryz.underlying25 h
 match ds,hl with
 |[d0,d1,d2,d3],_=>
  simp only [List.zip_cons_cons,List.zip_nil_right] at hm
  obtain ⟨u0,r0,h0,U,rfl⟩:=CE hm
  obtain ⟨u1,r1,h1,hm1,rfl⟩:=CE U
  obtain ⟨u2,r2,h2,hm2,rfl⟩:=CE hm1
  obtain ⟨u3,r3,h3,hm3,rfl⟩:=CE hm2
  cases hm3
  obtain ⟨ts,rfl,_⟩:=gw h0
  obtain ⟨p,rfl⟩:=HJ Tryz.underlying3 h1
  obtain ⟨os,rfl⟩:=gv h2
  obtain ⟨w,rfl⟩:=HJ Tryz.underlying3 h3
  exact ⟨⟨ts,p,os,w⟩,rfl⟩
end
end Go.Proofs.Z
